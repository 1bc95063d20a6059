/- Part of an abstract executor of the model's machine, and of its law (S24). -/
import Derived.Test.YtlfocffihiephaaGreatDoorXS23
import Derived.Test.YtlfocffihiephaaGreatDoorXWB
import Derived.Calls
namespace Go.Ax
open Go.RowKit (Below)
variable {P : Program} {D : Nat → Nat} {base : Nat} {w0 : World} {E : En} {h : H} {nx : Nat} {w : World}
variable {K : AV → H → Nat → O} {r : St} {mask : Nat} {ns : List Tmp} {tm : Tm} {e : List AV} {o : Oper}

/-- the temporaries of a region: those in hand and those in their slots; some are not yet made -/
def TR (E : En) (mask : Nat) (ns : List Tmp) (tm : Tm) (e : List AV) (tmps : Array Value) (pend : Tmp → Prop) : Prop :=
  ∀ t, okd mask ns (.tmp t) = true → ¬ pend t → VR E ((opd mask ns (.tmp t)).g tm e) (tmps.getD t Go.undef)

theorem TR.mono {nx : Nat} {E E' : En} (hl : En.le nx E E') {tmps : Array Value} {pend : Tmp → Prop} (T : TR E mask ns tm e tmps pend) : TR E' mask ns tm e tmps pend :=
  fun t h1 h2 => (T t h1 h2).mono hl

theorem opd_sound {fr : Frame} {pend : Tmp → Prop} (T : TR E mask ns tm e fr.tmps pend) (x : Operand) (hx : okd mask ns x = true) (hp : ∀ t, x = .tmp t → ¬ pend t) :
    VR E ((opd mask ns x).g tm e) (fr.eval x) := by
  cases x with
  | tmp t => exact T t hx (hp t rfl)
  | const v => exact ofV_sound E hx
  | global g => cases hx
  | func f => exact VR.fn (A := []) (C := []) (.func f) .nil .nil

theorem ops_sound {fr : Frame} {pend : Tmp → Prop} (T : TR E mask ns tm e fr.tmps pend) (ho : o.op.operands.toList.all (okd mask ns) = true) (hp : ∀ t, Operand.tmp t ∈ o.op.operands.toList → ¬ pend t) :
    Ops E mask ns tm e fr.eval o :=
  fun x hx => opd_sound T x (List.all_eq_true.1 ho x hx) fun t ht => hp t (ht ▸ hx)

/-- is the operation run? -/
theorem cwant_sound {fr : Frame} {pend : Tmp → Prop} (T : TR E mask ns tm e fr.tmps pend) {ops : Array Oper} {b : Bool} (hw : (cwant mask ns ops o).f tm e = some b)
    (hp : ∀ j want t, o.guard = some (j, want) → (ops[j]?).bind (·.dst) = some t → ¬ pend t) : Region.wanted o (yielded ops fr.tmps) = b := by
  unfold cwant at hw
  unfold Region.wanted
  cases hg : o.guard with
  | none => rw [hg] at hw; cases hw; rfl
  | some jw =>
    obtain ⟨j, want⟩ := jw
    rw [hg] at hw
    simp only at hw
    cases hd : (ops[j]?).bind (·.dst) with
    | none =>
      rw [hd] at hw
      cases hw
      simp [yielded, hd]
    | some t =>
      rw [hd] at hw
      simp only at hw
      cases hk : okd mask ns (.tmp t) with
      | false => rw [hk] at hw; cases hw
      | true =>
        rw [hk] at hw
        have hT := T t hk (hp j want t hg hd)
        have hw' : (fun v => onBool v (onTup v none fun _ => some false) fun b => some (beqB b want)) ((opd mask ns (.tmp t)).g tm e) = some b := hw
        generalize (opd mask ns (.tmp t)).g tm e = v at hT hw'
        simp only at hw'
        have hget : fr.tmps.getD t Go.undef = (fr.tmps[t]?).getD Go.undef := by simp [Array.getD_eq_getD_getElem?]
        rw [hget] at hT
        show (yielded ops fr.tmps j == some want) = b
        unfold yielded
        rw [hd]
        simp only [Option.bind_some]
        generalize fr.tmps[t]? = q at hT
        cases v with
        | bool c =>
          have hw' : some (beqB c want) = some b := hw'
          cases hw'
          cases q with
          | none => cases hT
          | some V =>
            have hT : VR E (.bool c) V := hT
            cases hT
            rw [beqB_eq]
            cases c <;> cases want <;> rfl
        | tup l =>
          have hw' : some false = some b := hw'
          cases hw'
          cases q with
          | none => rfl
          | some V =>
            have hT : VR E (.tup l) V := hT
            cases hT
            rfl
        | _ => cases hw'

theorem elookC_cons (u t : Tmp) (ns : List Tmp) : elookC u (t :: ns) = if t = u then some ⟨fun e => onList e undef fun x _ => x⟩ else (elookC u ns).map fun c => ⟨fun e => onList e undef fun _ r => c.g r⟩ := by
  show bc (Nat.beq t u) _ _ = _
  by_cases hu : t = u
  · subst hu; rw [Nat.beq_refl, if_pos rfl]; rfl
  · have : Nat.beq t u = false := by
      cases hb : Nat.beq t u with
      | false => rfl
      | true => exact absurd (beq_eq hb) hu
    rw [this, if_neg hu]
    show (match elookC u ns with | some c => some (⟨fun e => onList e undef fun _ r => c.g r⟩ : Egt) | none => none) = _
    cases elookC u ns <;> rfl

/-- a value is put where the operation says -/
structure PutOk (mask n : Nat) (d : Option Tmp) (v : AV) (ns : List Tmp) (tm : Tm) (e : List AV) (tm' : Tm) (e' : List AV) : Prop where
  here : ∀ t, d = some t → okd mask (names' mask d ns) (.tmp t) = true ∧ (opd mask (names' mask d ns) (.tmp t)).g tm' e' = v ∧ (t < n ∨ Nat.testBit mask t = true)
  other : ∀ u, d ≠ some u → okd mask (names' mask d ns) (.tmp u) = okd mask ns (.tmp u) ∧ (okd mask ns (.tmp u) = true → (opd mask (names' mask d ns) (.tmp u)).g tm' e' = (opd mask ns (.tmp u)).g tm e)

theorem cput_some {d : Option Tmp} {k : Rop} {v : AV} {fs : FS} {df : List ADf} {cs : List Fr} {td : List AI} {j : J} (hr : (cput mask d k).p v (.mk ⟨fs, df, cs⟩ td j) tm e h nx = some r) :
    ∃ tm' e', k.r (.mk ⟨fs, df, cs⟩ td j) tm' e' h nx = some r ∧ PutOk mask fs.n d v ns tm e tm' e' := by
  cases d with
  | none =>
    exact ⟨tm, e, hr, ⟨fun t ht => (nomatch ht), fun u _ => ⟨rfl, fun _ => rfl⟩⟩⟩
  | some t =>
    cases hm : Nat.testBit mask t with
    | true =>
      have hr' : k.r (.mk ⟨fs, df, cs⟩ td j) tm (v :: e) h nx = some r := by
        simp only [cput, hm, bc_true] at hr; exact hr
      have hns : names' mask (some t) ns = t :: ns := by simp [names', hm]
      refine ⟨tm, v :: e, hr', ⟨?_, ?_⟩⟩
      · intro u hu
        cases hu
        rw [hns]
        refine ⟨?_, ?_, .inr hm⟩
        · simp [okd, hm, elookC_cons]
        · simp only [opd, hm, bc_true, elookC_cons, if_true]
          rfl
      · intro u hu
        have hne : ¬ t = u := fun hh => hu (by rw [hh])
        rw [hns]
        constructor
        · cases hmu : Nat.testBit mask u with
          | false => simp [okd, hmu]
          | true =>
            simp only [okd, hmu, bc_true, elookC_cons, if_neg hne]
            cases elookC u ns <;> rfl
        · intro _
          cases hmu : Nat.testBit mask u with
          | false => simp [opd, hmu]
          | true =>
            simp only [opd, hmu, bc_true, elookC_cons, if_neg hne]
            cases elookC u ns <;> rfl
    | false =>
      have hns : names' mask (some t) ns = ns := by simp [names', hm]
      simp only [cput, hm, bc_false] at hr
      cases hb : Nat.blt t 512 with
      | false => rw [hb] at hr; cases hr
      | true =>
        rw [hb] at hr
        have hr : bc (Nat.blt t fs.n) (k.r (.mk ⟨fs, df, cs⟩ td j) (gset (slot t) v tm) e h nx) none = some r := by cases fs; exact hr
        replace hr := bc_some hr
        obtain ⟨hlt, hr⟩ := hr
        have hlt := blt_lt hlt
        have hb' := blt_lt hb
        refine ⟨_, e, hr, ⟨?_, ?_⟩⟩
        · intro u hu
          cases hu
          rw [hns]
          refine ⟨by simp only [okd, hm, bc_false]; exact hb, ?_, .inl hlt⟩
          simp only [opd, hm, bc_false]
          rw [slot_set _ _ hb' hb', if_pos rfl]
        · intro u hu
          have hne : ¬ u = t := fun hh => hu (by rw [hh])
          rw [hns]
          refine ⟨rfl, fun hk => ?_⟩
          cases hmu : Nat.testBit mask u with
          | true => simp [opd, hmu]; cases elookC u ns <;> rfl
          | false =>
            simp only [okd, hmu, bc_false] at hk
            simp only [opd, hmu, bc_false]
            rw [slot_set _ _ (blt_lt hk) hb', if_neg hne]

/-- what the frame's temporaries are behind an operation -/
def putT (tmps : Array Value) (d : Option Tmp) (V : Value) : Array Value := match d with | some t => tmps.setIfInBounds t V | none => tmps
@[simp] theorem putT_size (tmps : Array Value) (d : Option Tmp) (V : Value) : (putT tmps d V).size = tmps.size := by cases d <;> simp [putT]

theorem TR.put {n : Nat} {d : Option Tmp} {v : AV} {V : Value} {tm' : Tm} {e' : List AV} {tmps : Array Value} {pend pend' : Tmp → Prop} (T : TR E mask ns tm e tmps pend) (hp : PutOk mask n d v ns tm e tm' e')
    (hn : tmps.size = n) (hb : mask < 2 ^ n) (hv : VR E v V) (hpp : ∀ u, ¬ pend' u → d = some u ∨ ¬ pend u) : TR E mask (names' mask d ns) tm' e' (putT tmps d V) pend' := by
  intro u hk hu
  by_cases hd : d = some u
  · subst hd
    obtain ⟨_, h2, h3⟩ := hp.here u rfl
    rw [h2]
    have hlt : u < tmps.size := by
      rcases h3 with h3 | h3
      · rw [hn]; exact h3
      · rw [hn]
        rcases Nat.lt_or_ge u n with h4 | h4
        · exact h4
        · have : mask < 2 ^ u := Nat.lt_of_lt_of_le hb (Nat.pow_le_pow_right (by omega) h4)
          rw [Nat.testBit_lt_two_pow this] at h3; cases h3
    have : (putT tmps (some u) V).getD u Go.undef = V := by simp [putT, Array.getD_eq_getD_getElem?, hlt]
    rw [this]; exact hv
  · obtain ⟨h1, h2⟩ := hp.other u hd
    rw [h1] at hk
    rw [h2 hk]
    have : (putT tmps d V).getD u Go.undef = tmps.getD u Go.undef := by
      cases d with
      | none => rfl
      | some t =>
        have hne : t ≠ u := fun hh => hd (by rw [hh])
        simp [putT, Array.getD_eq_getD_getElem?, Array.getElem?_setIfInBounds_ne hne]
    rw [this]
    exact T u hk ((hpp u hu).resolve_left hd)

theorem TR.start {tmps : Array Value} (T : TmR E mask tm tmps) (pend : Tmp → Prop) : TR E mask [] tm [] tmps pend := by
  intro t hk _
  cases hm : Nat.testBit mask t with
  | true => simp [okd, hm, elookC] at hk
  | false =>
    simp only [okd, hm, bc_false] at hk
    simp only [opd, hm, bc_false]
    exact T t (blt_lt hk) hm
theorem TR.slots {tmps : Array Value} {pend : Tmp → Prop} (T : TR E mask ns tm e tmps pend) (hp : ∀ t, ¬ pend t) : TmR E mask tm tmps := by
  intro t ht hm
  have := T t (by simp only [okd, hm, bc_false]; simpa using ht) (hp t)
  simpa only [opd, hm, bc_false] using this

/-- the arguments of a call -/
theorem args_sound {fr : Frame} {pend : Tmp → Prop} (T : TR E mask ns tm e fr.tmps pend) (l : List Operand) (ho : ∀ x ∈ l, okd mask ns x = true) (hp : ∀ t, Operand.tmp t ∈ l → ¬ pend t) :
    VRL E ((opds mask ns l).g tm e) (l.map fr.eval) :=
  opds_sound l fun x hx => opd_sound T x (ho x hx) fun t ht => hp t (ht ▸ hx)
end Go.Ax
