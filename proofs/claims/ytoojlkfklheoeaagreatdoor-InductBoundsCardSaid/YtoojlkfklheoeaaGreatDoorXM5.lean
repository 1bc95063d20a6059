/- Part of an abstract executor of the model's machine, and of its law (S24, S25, S26, S27, S28, S29, S30). -/
import Derived.Test.YtoojlkfklheoeaaGreatDoorXM4
import Derived.Test.YtoojlkfklheoeaaGreatDoorXM2
import Derived.Calls
namespace Go.Ax
open Go.RowKit (Below)
variable {P : Program} {D : Nat → Nat} {base : Bas} {w0 : World} {E : En} {h : H} {nx : Nat} {w : World}
variable {K : AV → H → Nat → O} {r : St} {mask : Nat} {ns : List Tmp} {tm : Tm} {e : List AV} {o : Oper}

/-- the temporaries of a region: those in hand and those in their slots; some are not yet made -/
def TR (E : En) (mask : Nat) (ns : List Tmp) (tm : Tm) (e : List AV) (tmps : Array Value) (pend : Tmp → Prop) : Prop :=
  ∀ t, okd mask ns (.tmp t) = true → ¬ pend t → VR E ((opd mask ns (.tmp t)).g tm e) (tmps.getD t Go.undef)

theorem TR.mono {nx : Nat} {E E' : En} (hl : En.le nx E E') {tmps : Array Value} {pend : Tmp → Prop} (T : TR E mask ns tm e tmps pend) : TR E' mask ns tm e tmps pend :=
  fun t h1 h2 => (T t h1 h2).mono hl

theorem opd_sound {fr : Frame} {pend : Tmp → Prop} (T : TR E mask ns tm e fr.tmps pend) (x : Operand) (hx : okd mask ns x = true) (hp : ∀ t, x = .tmp t → ¬ pend t) :
    VR E ((opd mask ns x).g tm e) (fr.eval x) := by
  cases x with
  | tmp t => exact T t hx (hp t rfl)
  | const v => exact ofV_sound E hx
  | global g => cases hx
  | func f => exact VR.fn (A := []) (C := []) (.func f) .nil .nil

theorem ops_sound {fr : Frame} {pend : Tmp → Prop} (T : TR E mask ns tm e fr.tmps pend) (ho : o.op.operands.toList.all (okd mask ns) = true) (hp : ∀ t, Operand.tmp t ∈ o.op.operands.toList → ¬ pend t) :
    Ops E mask ns tm e fr.eval o :=
  fun x hx => opd_sound T x (List.all_eq_true.1 ho x hx) fun t ht => hp t (ht ▸ hx)

/-- is the operation run? -/
theorem cwant_sound {fr : Frame} {pend : Tmp → Prop} (T : TR E mask ns tm e fr.tmps pend) {ops : Array Oper} {b : Bool} (hw : (cwant mask ns ops o).f tm e = some b)
    (hp : ∀ j want t, o.guard = some (j, want) → (ops[j]?).bind (·.dst) = some t → ¬ pend t) : Region.wanted o (yielded ops fr.tmps) = b := by
  unfold cwant at hw
  unfold Region.wanted
  cases hg : o.guard with
  | none => rw [hg] at hw; cases hw; rfl
  | some jw =>
    obtain ⟨j, want⟩ := jw
    rw [hg] at hw
    simp only at hw
    cases hd : (ops[j]?).bind (·.dst) with
    | none =>
      rw [hd] at hw
      cases hw
      simp [yielded, hd]
    | some t =>
      rw [hd] at hw
      simp only at hw
      cases hk : okd mask ns (.tmp t) with
      | false => rw [hk] at hw; cases hw
      | true =>
        rw [hk] at hw
        have hT := T t hk (hp j want t hg hd)
        have hw' : (fun v => onBool v (onTup v none fun _ => some false) fun b => some (beqB b want)) ((opd mask ns (.tmp t)).g tm e) = some b := hw
        generalize (opd mask ns (.tmp t)).g tm e = v at hT hw'
        simp only at hw'
        have hget : fr.tmps.getD t Go.undef = (fr.tmps[t]?).getD Go.undef := by simp [Array.getD_eq_getD_getElem?]
        rw [hget] at hT
        show (yielded ops fr.tmps j == some want) = b
        unfold yielded
        rw [hd]
        simp only [Option.bind_some]
        generalize fr.tmps[t]? = q at hT
        cases v with
        | bool c =>
          have hw' : some (beqB c want) = some b := hw'
          cases hw'
          cases q with
          | none => cases hT
          | some V =>
            have hT : VR E (.bool c) V := hT
            cases hT
            rw [beqB_eq]
            cases c <;> cases want <;> rfl
        | tup l =>
          have hw' : some false = some b := hw'
          cases hw'
          cases q with
          | none => rfl
          | some V =>
            have hT : VR E (.tup l) V := hT
            cases hT
            rfl
        | _ => cases hw'

theorem elookC_cons (u t : Tmp) (ns : List Tmp) : elookC u (t :: ns) = if t = u then some ⟨fun e => onList e undef fun x _ => x⟩ else (elookC u ns).map fun c => ⟨fun e => onList e undef fun _ r => c.g r⟩ := by
  show bc (Nat.beq t u) _ _ = _
  by_cases hu : t = u
  · subst hu; rw [Nat.beq_refl, if_pos rfl]; rfl
  · have : Nat.beq t u = false := by
      cases hb : Nat.beq t u with
      | false => rfl
      | true => exact absurd (beq_eq hb) hu
    rw [this, if_neg hu]
    show (match elookC u ns with | some c => some (⟨fun e => onList e undef fun _ r => c.g r⟩ : Egt) | none => none) = _
    cases elookC u ns <;> rfl

/-- a value is put where the operation says -/
structure PutOk (mask n : Nat) (d : Option Tmp) (v : AV) (ns : List Tmp) (tm : Tm) (e : List AV) (tm' : Tm) (e' : List AV) : Prop where
  here : ∀ t, d = some t → okd mask (names' mask d ns) (.tmp t) = true ∧ (opd mask (names' mask d ns) (.tmp t)).g tm' e' = v ∧ (t < n ∨ Nat.testBit mask t = true)
  other : ∀ u, d ≠ some u → okd mask (names' mask d ns) (.tmp u) = okd mask ns (.tmp u) ∧ (okd mask ns (.tmp u) = true → (opd mask (names' mask d ns) (.tmp u)).g tm' e' = (opd mask ns (.tmp u)).g tm e)

theorem cput_some {d : Option Tmp} {k : Rop} {v : AV} {fs : FS} {df : List ADf} {cs : List Fr} {td : List AI} {j : J} (hr : (cput mask d k).p v (.mk ⟨fs, df, cs⟩ td j) tm e h nx = some r) :
    ∃ tm' e', k.r (.mk ⟨fs, df, cs⟩ td j) tm' e' h nx = some r ∧ PutOk mask fs.n d v ns tm e tm' e' := by
  cases d with
  | none =>
    exact ⟨tm, e, hr, ⟨fun t ht => (nomatch ht), fun u _ => ⟨rfl, fun _ => rfl⟩⟩⟩
  | some t =>
    cases hm : Nat.testBit mask t with
    | true =>
      have hr' : k.r (.mk ⟨fs, df, cs⟩ td j) tm (v :: e) h nx = some r := by
        simp only [cput, hm, bc_true] at hr; exact hr
      have hns : names' mask (some t) ns = t :: ns := by simp [names', hm]
      refine ⟨tm, v :: e, hr', ⟨?_, ?_⟩⟩
      · intro u hu
        cases hu
        rw [hns]
        refine ⟨?_, ?_, .inr hm⟩
        · simp [okd, hm, elookC_cons]
        · simp only [opd, hm, bc_true, elookC_cons, if_true]
          rfl
      · intro u hu
        have hne : ¬ t = u := fun hh => hu (by rw [hh])
        rw [hns]
        constructor
        · cases hmu : Nat.testBit mask u with
          | false => simp [okd, hmu]
          | true =>
            simp only [okd, hmu, bc_true, elookC_cons, if_neg hne]
            cases elookC u ns <;> rfl
        · intro _
          cases hmu : Nat.testBit mask u with
          | false => simp [opd, hmu]
          | true =>
            simp only [opd, hmu, bc_true, elookC_cons, if_neg hne]
            cases elookC u ns <;> rfl
    | false =>
      have hns : names' mask (some t) ns = ns := by simp [names', hm]
      simp only [cput, hm, bc_false] at hr
      cases hb : Nat.blt t 512 with
      | false => rw [hb] at hr; cases hr
      | true =>
        rw [hb] at hr
        have hr : bc (Nat.blt t fs.n) (k.r (.mk ⟨fs, df, cs⟩ td j) (gset (slot t) v tm) e h nx) none = some r := by cases fs; exact hr
        replace hr := bc_some hr
        obtain ⟨hlt, hr⟩ := hr
        have hlt := blt_lt hlt
        have hb' := blt_lt hb
        refine ⟨_, e, hr, ⟨?_, ?_⟩⟩
        · intro u hu
          cases hu
          rw [hns]
          refine ⟨by simp only [okd, hm, bc_false]; exact hb, ?_, .inl hlt⟩
          simp only [opd, hm, bc_false]
          rw [slot_set _ _ hb' hb', if_pos rfl]
        · intro u hu
          have hne : ¬ u = t := fun hh => hu (by rw [hh])
          rw [hns]
          refine ⟨rfl, fun hk => ?_⟩
          cases hmu : Nat.testBit mask u with
          | true => simp [opd, hmu]; cases elookC u ns <;> rfl
          | false =>
            simp only [okd, hmu, bc_false] at hk
            simp only [opd, hmu, bc_false]
            rw [slot_set _ _ (blt_lt hk) hb', if_neg hne]

/-- what the frame's temporaries are behind an operation -/
def putT (tmps : Array Value) (d : Option Tmp) (V : Value) : Array Value := match d with | some t => tmps.setIfInBounds t V | none => tmps
@[simp] theorem putT_size (tmps : Array Value) (d : Option Tmp) (V : Value) : (putT tmps d V).size = tmps.size := by cases d <;> simp [putT]

theorem TR.put {n : Nat} {d : Option Tmp} {v : AV} {V : Value} {tm' : Tm} {e' : List AV} {tmps : Array Value} {pend pend' : Tmp → Prop} (T : TR E mask ns tm e tmps pend) (hp : PutOk mask n d v ns tm e tm' e')
    (hn : tmps.size = n) (hb : mask < 2 ^ n) (hv : VR E v V) (hpp : ∀ u, ¬ pend' u → d = some u ∨ ¬ pend u) : TR E mask (names' mask d ns) tm' e' (putT tmps d V) pend' := by
  intro u hk hu
  by_cases hd : d = some u
  · subst hd
    obtain ⟨_, h2, h3⟩ := hp.here u rfl
    rw [h2]
    have hlt : u < tmps.size := by
      rcases h3 with h3 | h3
      · rw [hn]; exact h3
      · rw [hn]
        rcases Nat.lt_or_ge u n with h4 | h4
        · exact h4
        · have : mask < 2 ^ u := Nat.lt_of_lt_of_le hb (Nat.pow_le_pow_right (by omega) h4)
          rw [Nat.testBit_lt_two_pow this] at h3; cases h3
    have : (putT tmps (some u) V).getD u Go.undef = V := by simp [putT, Array.getD_eq_getD_getElem?, hlt]
    rw [this]; exact hv
  · obtain ⟨h1, h2⟩ := hp.other u hd
    rw [h1] at hk
    rw [h2 hk]
    have : (putT tmps d V).getD u Go.undef = tmps.getD u Go.undef := by
      cases d with
      | none => rfl
      | some t =>
        have hne : t ≠ u := fun hh => hd (by rw [hh])
        simp [putT, Array.getD_eq_getD_getElem?, Array.getElem?_setIfInBounds_ne hne]
    rw [this]
    exact T u hk ((hpp u hu).resolve_left hd)

theorem TR.start {tmps : Array Value} (T : TmR E mask tm tmps) (pend : Tmp → Prop) : TR E mask [] tm [] tmps pend := by
  intro t hk _
  cases hm : Nat.testBit mask t with
  | true => simp [okd, hm, elookC] at hk
  | false =>
    simp only [okd, hm, bc_false] at hk
    simp only [opd, hm, bc_false]
    exact T t (blt_lt hk) hm
theorem TR.slots {tmps : Array Value} {pend : Tmp → Prop} (T : TR E mask ns tm e tmps pend) (hp : ∀ t, ¬ pend t) : TmR E mask tm tmps := by
  intro t ht hm
  have := T t (by simp only [okd, hm, bc_false]; simpa using ht) (hp t)
  simpa only [opd, hm, bc_false] using this

/-- the arguments of a call -/
theorem args_sound {fr : Frame} {pend : Tmp → Prop} (T : TR E mask ns tm e fr.tmps pend) (l : List Operand) (ho : ∀ x ∈ l, okd mask ns x = true) (hp : ∀ t, Operand.tmp t ∈ l → ¬ pend t) :
    VRL E ((opds mask ns l).g tm e) (l.map fr.eval) :=
  opds_sound l fun x hx => opd_sound T x (ho x hx) fun t ht => hp t (ht ▸ hx)
end Go.Ax
namespace Go.Ax
variable {P : Program} {mask : Nat} {ns : List Tmp} {tm : Tm} {e : List AV} {o : Oper}

/-- F is one of the forms G, or nothing -/
def Fac {X Y : Type} (G : X → Y → O) (F : Y → O) : Prop := (∀ y, F y = none) ∨ ∃ x, ∀ y, F y = G x y

section
variable {X Y : Type} {G : X → Y → O}
theorem Fac.no : Fac G (fun _ => none) := .inl fun _ => rfl
theorem Fac.is (x : X) : Fac G (G x) := .inr ⟨x, fun _ => rfl⟩
theorem Fac.bc {c : Bool} {F1 F2 : Y → O} (h1 : Fac G F1) (h2 : Fac G F2) : Fac G (fun y => Ax.bc c (F1 y) (F2 y)) := by
  cases c
  · exact h2
  · exact h1
theorem Fac.ob {α : Type} {x : Option α} {F : α → Y → O} (h : ∀ a, Fac G (F a)) : Fac G (fun y => Ax.ob x fun a => F a y) := by
  cases x
  · exact .no
  · exact h _
theorem Fac.onInt {v : AV} {F : Nat → Int → Y → O} (h : ∀ a b, Fac G (F a b)) : Fac G (fun y => Ax.onInt v none fun a b => F a b y) := by
  cases v <;> first | exact h _ _ | exact .no
theorem Fac.onNat {v : AV} {F : Nat → Y → O} (h : ∀ a, Fac G (F a)) : Fac G (fun y => Ax.onNat v none fun a => F a y) := by
  cases v <;> first | exact .no | skip
  rename_i k n
  cases n
  · exact h _
  · exact .no
theorem Fac.onBool {v : AV} {F : Bool → Y → O} (h : ∀ a, Fac G (F a)) : Fac G (fun y => Ax.onBool v none fun a => F a y) := by
  cases v <;> first | exact h _ | exact .no
theorem Fac.onPtr {v : AV} {F : Nat → Nat → Y → O} (h : ∀ a b, Fac G (F a b)) : Fac G (fun y => Ax.onPtr v none fun a b => F a b y) := by
  cases v <;> first | exact h _ _ | exact .no
theorem Fac.onStr {v : AV} {F : Nat → Nat → Y → O} (h : ∀ a b, Fac G (F a b)) : Fac G (fun y => Ax.onStr v none fun a b => F a b y) := by
  cases v <;> first | exact h _ _ | exact .no
theorem Fac.onAgg {v : AV} {F : List AV → Y → O} (h : ∀ a, Fac G (F a)) : Fac G (fun y => Ax.onAgg v none fun a => F a y) := by
  cases v <;> first | exact h _ | exact .no
theorem Fac.onTup {v : AV} {F : List AV → Y → O} (h : ∀ a, Fac G (F a)) : Fac G (fun y => Ax.onTup v none fun a => F a y) := by
  cases v <;> first | exact h _ | exact .no
theorem Fac.onIface {v : AV} {F : TypeId → AV → Y → O} (h : ∀ a b, Fac G (F a b)) : Fac G (fun y => Ax.onIface v none fun a b => F a b y) := by
  cases v <;> first | exact h _ _ | exact .no
theorem Fac.onSl {v : AV} {F1 F2 : Nat → Nat → Nat → Nat → Y → O} {F3 : AM → Y → O} (h1 : ∀ a b c d, Fac G (F1 a b c d)) (h2 : ∀ a b c d, Fac G (F2 a b c d)) (h3 : ∀ a, Fac G (F3 a)) :
    Fac G (fun y => Ax.onSl v none (fun a b c d => F1 a b c d y) (fun a b c d => F2 a b c d y) (fun a => F3 a y)) := by
  cases v <;> first | exact h1 _ _ _ _ | exact h2 _ _ _ _ | exact h3 _ | exact .no
theorem Fac.onMap {v : AV} {F1 : Y → O} {F2 : Nat → Y → O} (h1 : Fac G F1) (h2 : ∀ a, Fac G (F2 a)) : Fac G (fun y => Ax.onMap v none (F1 y) fun a => F2 a y) := by
  cases v <;> first | exact .no | skip
  rename_i x
  cases x <;> first | exact h1 | exact h2 _ | exact .no
theorem Fac.onMapB {b : Option AB} {F : List (AV × AV × Nat) → Nat → Y → O} (h : ∀ a b, Fac G (F a b)) : Fac G (fun y => Ax.onMapB b none fun a b => F a b y) := by
  cases b with
  | none => exact .no
  | some b => cases b <;> first | exact h _ _ | exact .no
theorem Fac.nilChk {v : AV} {F : Y → O} (h : Fac G F) : Fac G (fun y => Ax.nilChk v (F y) none) := by
  cases v <;> first | exact h | exact .no | skip
  · rename_i f a c
    cases f <;> first | exact h | exact .no
  · rename_i x
    cases x <;> first | exact h | exact .no
end

structure Arg where
  h : H
  nx : Nat
  K : AV → H → Nat → O
def GP (v : AV) (y : Arg) : O := y.K v y.h y.nx
def GR (h : H) (v : AV) (y : Nat × (AV → H → Nat → O)) : O := y.2 v h y.1
noncomputable def GM (x : AB × (Nat → AV)) (y : Arg) : O := newB x.1 y.h y.nx (fun b h' nx' => y.K (x.2 b) h' nx')

theorem Fac.vresP {x : Option AV} : Fac GP (fun y => vres x y.h y.nx y.K) := by
  cases x
  · exact .no
  · exact .inr ⟨_, fun _ => rfl⟩
theorem Fac.vresR {h : H} {x : Option AV} : Fac (GR h) (fun y => vres x h y.1 y.2) := by
  cases x
  · exact .no
  · exact .inr ⟨_, fun _ => rfl⟩

theorem cfill_fac {place : Nat → Option (Nat × Nat)} {n : Nat} : ∀ (ps : List (Nat × Operand)) (cells : List AV),
    (∀ Kf, (cfill mask ns place n ps).f tm e cells Kf = none) ∨ ∃ l, ∀ Kf, (cfill mask ns place n ps).f tm e cells Kf = Kf l
  | [], cells => .inr ⟨cells, fun _ => rfl⟩
  | (i, x) :: ps, cells => by
    simp only [cfill]
    cases hp : place i with
    | none => exact .inl fun _ => rfl
    | some q =>
      obtain ⟨po, sz⟩ := q
      simp only
      cases Nat.ble (Nat.add po sz) n with
      | false => exact .inl fun _ => rfl
      | true =>
        cases Nat.beq sz 1 with
        | true =>
          simp only [bc_true]
          generalize (opd mask ns x).g tm e = v
          have one : ∀ w, (∀ Kf, (cfill mask ns place n ps).f tm e (lput po w cells) Kf = none) ∨ ∃ l, ∀ Kf, (cfill mask ns place n ps).f tm e (lput po w cells) Kf = Kf l := fun w => cfill_fac ps _
          cases v with
          | agg l =>
            show (∀ Kf, bc (Nat.beq (llen l) 1) _ none = none) ∨ ∃ l', ∀ Kf, bc (Nat.beq (llen l) 1) ((cfill mask ns place n ps).f tm e (lput po l cells) Kf) none = Kf l'
            cases Nat.beq (llen l) 1
            · exact .inl fun _ => rfl
            · exact one l
          | _ => exact one _
        | false =>
          simp only [bc_true, bc_false]
          generalize acells ((opd mask ns x).g tm e) = l
          cases Nat.beq (llen l) sz
          · exact .inl fun _ => rfl
          · exact cfill_fac ps _

theorem Fac.cfill {X Y : Type} {G : X → Y → O} {place : Nat → Option (Nat × Nat)} {n : Nat} {ps : List (Nat × Operand)} {cells : List AV} {F : List AV → Y → O} (h : ∀ l, Fac G (F l)) :
    Fac G (fun y => (Ax.cfill mask ns place n ps).f tm e cells fun l => F l y) := by
  rcases cfill_fac (mask := mask) (ns := ns) (tm := tm) (e := e) (place := place) (n := n) ps cells with h1 | ⟨l, h1⟩
  · exact .inl fun y => h1 _
  · have : (fun y => (Ax.cfill mask ns place n ps).f tm e cells fun l => F l y) = F l := funext fun y => h1 _
    rw [this]; exact h l

def PF (tm : Tm) (e : List AV) (f : Fop) : Prop := Fac GP (fun y => f.f tm e y.h y.nx y.K)
def RF (tm : Tm) (e : List AV) (h : H) (f : Fop) : Prop := Fac (GR h) (fun y => f.f tm e h y.1 y.2)
def MF (tm : Tm) (e : List AV) (f : Fop) : Prop := Fac GM (fun y => f.f tm e y.h y.nx y.K)
theorem PF.no : PF tm e failF := .inl fun _ => rfl
theorem RF.no {h : H} : RF tm e h failF := .inl fun _ => rfl
theorem MF.no : MF tm e failF := .inl fun _ => rfl
theorem PF.bc {c : Bool} {f g : Fop} (h1 : PF tm e f) (h2 : PF tm e g) : PF tm e (Ax.bc c f g) := by cases c <;> assumption
theorem RF.bc {h : H} {c : Bool} {f g : Fop} (h1 : RF tm e h f) (h2 : RF tm e h g) : RF tm e h (Ax.bc c f g) := by cases c <;> assumption
theorem MF.bc {c : Bool} {f g : Fop} (h1 : MF tm e f) (h2 : MF tm e g) : MF tm e (Ax.bc c f g) := by cases c <;> assumption

/-- operations that only reckon -/
theorem cop_pure (hk : okind o = .pure) : PF tm e (cop P mask ns o) := by
  cases hop : o.op with
  | move x => simp only [cop, hop]; exact .inr ⟨_, fun _ => rfl⟩
  | pick c a b =>
    simp only [cop, hop]
    exact Fac.onBool fun t => .inr ⟨_, fun _ => rfl⟩
  | build t ps =>
    simp only [cop, hop]
    repeat' split
    all_goals first
      | exact PF.no
      | (refine PF.bc ?_ .no; exact Fac.cfill fun l => .inr ⟨_, fun _ => rfl⟩)
      | exact Fac.cfill fun l => .inr ⟨_, fun _ => rfl⟩
  | nilCheck x =>
    simp only [cop, hop]
    exact Fac.nilChk (.inr ⟨_, fun _ => rfl⟩)
  | unOp op t x =>
    simp only [cop, hop]
    cases op <;> first
      | exact PF.no
      | exact Fac.onBool fun t => .inr ⟨_, fun _ => rfl⟩
      | exact Fac.onInt fun a b => .inr ⟨_, fun _ => rfl⟩
  | convert s d x =>
    simp only [cop, hop]
    split
    · exact Fac.onInt fun a b => .inr ⟨_, fun _ => rfl⟩
    · exact PF.no
  | makeInterface t x =>
    simp only [cop, hop]
    exact PF.bc .no (.inr ⟨_, fun _ => rfl⟩)
  | makeFunc fn a c =>
    simp only [cop, hop]
    cases fn <;> first | exact PF.no | exact .inr ⟨_, fun _ => rfl⟩
  | fieldAddr t x f =>
    simp only [cop, hop]
    repeat' split
    all_goals first
      | exact PF.no
      | (refine PF.bc .no ?_; exact Fac.onPtr fun a b => .inr ⟨_, fun _ => rfl⟩)
  | field t x f =>
    simp only [cop, hop]
    repeat' split
    all_goals first
      | exact PF.no
      | exact Fac.onAgg fun a => Fac.vresP
  | indexAddr t x i =>
    simp only [cop, hop]
    repeat' split
    all_goals first
      | exact PF.no
      | exact Fac.onPtr fun a b => Fac.onNat fun c => .bc (.inr ⟨_, fun _ => rfl⟩) .no
      | exact Fac.onNat fun k => Fac.onSl (fun a b c d => .bc (.inr ⟨_, fun _ => rfl⟩) .no) (fun a b c d => .bc (.inr ⟨_, fun _ => rfl⟩) .no) (fun a => .no)
  | index t x i =>
    simp only [cop, hop]
    repeat' split
    all_goals first
      | exact PF.no
      | exact PF.bc (Fac.onAgg fun a => Fac.onNat fun k => .bc (.ob fun x => .inr ⟨_, fun _ => rfl⟩) .no) (Fac.onAgg fun a => Fac.onNat fun k => .bc .vresP .no)
      | exact Fac.onStr fun a b => Fac.onNat fun k => .bc (.inr ⟨_, fun _ => rfl⟩) .no
  | typeAssert x t a ok =>
    simp only [cop, hop]
    repeat' split
    all_goals first
      | exact PF.no
      | exact Fac.bc (.bc (.inr ⟨_, fun _ => rfl⟩) .no) (Fac.onIface fun a b => .bc .no (.bc (.inr ⟨_, fun _ => rfl⟩) (.bc (.inr ⟨_, fun _ => rfl⟩) .no)))
  | extract x i =>
    simp only [cop, hop]
    exact Fac.onTup fun a => .vresP
  | call c =>
    cases hc : c.callee with
    | builtin b =>
      cases b with
      | min => simp only [cop, hop, hc]; exact Fac.vresP
      | max => simp only [cop, hop, hc]; exact Fac.vresP
      | _ => simp [okind, hop, hc] at hk
    | _ => simp [okind, hop, hc] at hk
  | _ => simp [okind, hop] at hk

/-- operations that only read -/
theorem cop_reads {h : H} (hk : okind o = .reads) : RF tm e h (cop P mask ns o) := by
  cases hop : o.op with
  | slice t x lo hi mx => simp only [cop, hop]; exact Fac.vresR
  | load t a =>
    simp only [cop, hop]
    split
    · exact RF.bc (Fac.onPtr fun a b => .ob fun l => .inr ⟨_, fun _ => rfl⟩) (Fac.onPtr fun a b => .ob fun l => .inr ⟨_, fun _ => rfl⟩)
    · exact RF.no
  | binOp op t x y q => simp only [cop, hop]; exact Fac.vresR
  | lookup t x i ok =>
    simp only [cop, hop]
    repeat' split
    all_goals first
      | exact RF.no
      | exact Fac.bc (Fac.onMap (.inr ⟨_, fun _ => rfl⟩) fun b => Fac.onMapB fun es cl => .ob fun q => .inr ⟨_, fun _ => rfl⟩) .no
  | call c =>
    cases hc : c.callee with
    | builtin b =>
      cases b with
      | len =>
        simp only [cop, hop, hc]
        split
        · exact Fac.ob fun n => .inr ⟨_, fun _ => rfl⟩
        · exact RF.no
      | _ => simp [okind, hop, hc] at hk
    | _ => simp [okind, hop, hc] at hk
  | _ => simp [okind, hop] at hk

/-- operations that make a block -/
theorem cop_makes (hk : okind o = .makes) : MF tm e (cop P mask ns o) := by
  cases hop : o.op with
  | alloc t =>
    simp only [cop, hop]
    repeat' split
    all_goals first
      | exact MF.no
      | exact .inr ⟨(_, fun b => .ptr b 0), fun _ => rfl⟩
  | box t x =>
    simp only [cop, hop]
    exact .inr ⟨(_, fun b => .ptr b 0), fun _ => rfl⟩
  | buildSlice t n ps =>
    simp only [cop, hop]
    repeat' split
    all_goals first
      | exact MF.no
      | exact MF.bc (Fac.cfill fun l => .inr ⟨(_, fun b => .sl b 0 n n), fun _ => rfl⟩) .no
  | makeMap t m =>
    simp only [cop, hop]
    repeat' split
    all_goals first
      | exact MF.no
      | exact .inr ⟨(_, fun b => .m (.map b)), fun _ => rfl⟩
      | exact Fac.onInt fun _ _ => .inr ⟨(_, fun b => .m (.map b)), fun _ => rfl⟩
  | makeSlice t l c =>
    simp only [cop, hop]
    repeat' split
    all_goals first
      | exact MF.no
      | exact MF.bc (Fac.onNat fun l => Fac.onNat fun c => .bc (.bc (.inr ⟨(_, fun b => .sl b 0 l c), fun _ => rfl⟩) .no) .no) .no
  | call c =>
    cases hc : c.callee with
    | builtin b => cases b <;> simp [okind, hop, hc] at hk
    | _ => simp [okind, hop, hc] at hk
  | _ => simp [okind, hop] at hk

end Go.Ax
namespace Go.Ax
open Go.RowKit (Below)

/-! the frames -/
inductive ItR (E : En) : AI → Item → Prop
  | code (c : Code) : ItR E (.code c) (.code c)
  | blk (id : Nat) : ItR E (.blk id) (.inBlock id)
  | loop (c : Code) : ItR E (.loop c) (.inLoop c)
  | scope (c : Code) : ItR E (.scope c) (.inScope c)
  | erf {l c q : Nat} (h : E.m l = some (c, q)) : ItR E (.erf l) (.endRangeFunc c)
  | br : ItR E .br .beginRound
inductive ItL (E : En) : List AI → List Item → Prop
  | nil : ItL E [] []
  | cons {a : AI} {i : Item} {l : List AI} {L : List Item} (h : ItR E a i) (t : ItL E l L) : ItL E (a :: l) (i :: L)
theorem ItR.mono {nx : Nat} {E E' : En} (hl : En.le nx E E') {a : AI} {i : Item} (h : ItR E a i) : ItR E' a i := by
  cases h with
  | code => exact .code _
  | blk => exact .blk _
  | loop => exact .loop _
  | scope => exact .scope _
  | erf h => exact .erf (hl.up _ _ h)
  | br => exact .br
theorem ItL.mono {nx : Nat} {E E' : En} (hl : En.le nx E E') : ∀ {l : List AI} {L : List Item}, ItL E l L → ItL E' l L
  | _, _, .nil => .nil
  | _, _, .cons h t => .cons (h.mono hl) (t.mono hl)

inductive RdR (E : En) : Option Nat → Option Nat → Prop
  | none : RdR E none none
  | some {b c q : Nat} (h : E.m b = some (c, q)) : RdR E (some b) (some c)
theorem RdR.mono {nx : Nat} {E E' : En} (hl : En.le nx E E') {a b : Option Nat} (h : RdR E a b) : RdR E' a b := by
  cases h with
  | none => exact .none
  | some h => exact .some (hl.up _ _ h)

structure FrB (D : Nat → Nat) (E : En) (fs : FS) (df : List ADf) (fr : Frame) : Prop where
  fn : fr.fn = fs.fn
  size : fr.tmps.size = fs.n
  bound : D fs.fn < 2 ^ fs.n
  df : DRL E df fr.defers
  kind : fr.kind = if fs.dk then .deferred else .normal
  rd : RdR E fs.rd fr.roundOf
theorem FrB.mono {nx : Nat} {E E' : En} (hl : En.le nx E E') {D : Nat → Nat} {fs : FS} {df : List ADf} {fr : Frame} (h : FrB D E fs df fr) : FrB D E' fs df fr :=
  { h with df := h.df.mono hl, rd := h.rd.mono hl }

/-- the operations that the machine has before it, as the abstract list -/
inductive Idx (ops : Array Oper) : List Nat → List Oper → Prop
  | nil : Idx ops [] []
  | cons {i : Nat} {o : Oper} {l : List Nat} {os : List Oper} (h : ops[i]? = some o) (t : Idx ops l os) : Idx ops (i :: l) (o :: os)

/-! orders -/
def Pred (m : Region.Mode) (ops : Array Oper) (p j : Nat) : Prop := ∃ o, ops[j]? = some o ∧ ∃ e ∈ o.after.toList, Region.binds m e = true ∧ e.on = p
structure Lin (m : Region.Mode) (ops : Array Oper) (L : List Nat) : Prop where
  nodup : L.Nodup
  all : ∀ i, i ∈ L ↔ i < ops.size
  ord : ∀ l1 j l2, L = l1 ++ j :: l2 → ∀ p, Pred m ops p j → p ∈ l1

/-- h0 knows nothing that h does not -/
def Sub (h0 h : H) : Prop := ∀ b ab, bget b h0 = some ab → bget b h = some ab

def SameT (mask : Nat) (ns : List Tmp) (tm : Tm) (e : List AV) (ns0 : List Tmp) (tm0 : Tm) (e0 : List AV) (t : Tmp) : Prop :=
  okd mask ns (.tmp t) = true ∧ (opd mask ns (.tmp t)).g tm e = (opd mask ns0 (.tmp t)).g tm0 e0

/-- a floating operation that the machine has not yet run; s: an effect lies between (what it reads is looked at anew) -/
inductive Kind (P : Program) (s : Bool) (E : En) (h : H) (fl nx : Nat) (mask : Nat) (ns0 : List Tmp) (tm0 : Tm) (e0 : List AV) (b : Nat) (o : Oper) (v : AV) : Prop
  | pure (hk : okind o = .pure) (hf : ∀ h nx K, (cop P mask ns0 o).f tm0 e0 h nx K = K v h nx) : Kind P s E h fl nx mask ns0 tm0 e0 b o v
  | reads (hk : okind o = .reads) (hf : s = true ∨ ∃ h0, Sub h0 h ∧ ∀ nx K, (cop P mask ns0 o).f tm0 e0 h0 nx K = K v h0 nx) : Kind P s E h fl nx mask ns0 tm0 e0 b o v
  | makes (hk : okind o = .makes) (hb : E.m b = none) (h1 : fl ≤ b) (h2 : b < nx) (h3 : b < 262143) (ab : AB) (kv : Nat → AV) (hg : bget b h = some ab) (hv : v = kv b)
      (hf : ∀ h nx K, (cop P mask ns0 o).f tm0 e0 h nx K = newB ab h nx (fun b h' nx' => K (kv b) h' nx')) : Kind P s E h fl nx mask ns0 tm0 e0 b o v

structure Pnd (P : Program) (s : Bool) (E : En) (h : H) (fl nx : Nat) (mask : Nat) (ops : Array Oper) (ns : List Tmp) (tm : Tm) (e : List AV) (b : Nat) (o : Oper)
    (ns0 : List Tmp) (tm0 : Tm) (e0 : List AV) (v : AV) (wb : Bool) : Prop where
  same : ∀ t, readsT ops o t = true → okd mask ns0 (.tmp t) = true → SameT mask ns tm e ns0 tm0 e0 t
  want : (cwant mask ns0 ops o).f tm0 e0 = some wb
  dst : ∀ t, o.dst = some t → okd mask ns (.tmp t) = true ∧ (opd mask ns (.tmp t)).g tm e = v
  off : wb = false → v = undef
  on : wb = true → o.op.operands.toList.all (okd mask ns0) = true ∧ Kind P s E h fl nx mask ns0 tm0 e0 b o v
def PndE (P : Program) (s : Bool) (E : En) (h : H) (fl nx : Nat) (mask : Nat) (ops : Array Oper) (ns : List Tmp) (tm : Tm) (e : List AV) (b : Nat) (o : Oper) : Prop :=
  ∃ ns0 tm0 e0 v wb, Pnd P s E h fl nx mask ops ns tm e b o ns0 tm0 e0 v wb

/-- in the middle of a region that draws its order: x: what the plan is through with; done: the floating operations among them; rest: what the machine has before it -/
structure DInv (P : Program) (s : Bool) (E : En) (h : H) (fl nx : Nat) (mask : Nat) (ops : Array Oper) (x : Nat) (done : List (Nat × Oper)) (pre rest : List Nat) (ns : List Tmp) (tm : Tm) (e : List AV)
    (tmps : Array Value) (B : Nat → Nat) : Prop where
  lin : Lin .any ops (pre ++ rest)
  h1 : ∀ j ∈ pre, Nat.testBit x j = true
  h2 : ∀ j ∈ rest, Nat.testBit x j = true → ∃ o, (j, o) ∈ done
  h3 : ∀ a ∈ done, ops[a.1]? = some a.2 ∧ Nat.testBit x a.1 = true ∧ okind a.2 ≠ .eff
  st : ∀ a ∈ done, ∀ b ∈ done, ∀ t, a.2.dst = some t → readsT ops b.2 t = true → Nat.testBit ((Region.before ops).getD b.1 0) a.1 = true
  un : ∀ a ∈ done, ∀ b ∈ done, ∀ t, a.2.dst = some t → b.2.dst = some t → a.1 = b.1
  tr : TR E mask ns tm e tmps (fun t => ∃ a ∈ done, a.1 ∈ rest ∧ a.2.dst = some t)
  pf : ∀ a ∈ done, a.1 ∈ rest → PndE P s E h fl nx mask ops ns tm e (B a.1) a.2
  inj : ∀ a ∈ done, ∀ b ∈ done, a.1 ∈ rest → b.1 ∈ rest → B a.1 = B b.1 → a.1 = b.1
  bk : ∀ a ∈ done, a.1 ∈ rest → B a.1 = 262144 + a.1 ∨ B a.1 < nx
  dl : ∀ a ∈ done, ∀ t, a.2.dst = some t → t < tmps.size

inductive PlanOk (ops : Array Oper) (bef : Array Nat) : Nat → List (Nat × Oper) → List PS → Prop
  | nil {x : Nat} {done : List (Nat × Oper)} (h : (List.range ops.size).all (Nat.testBit x) = true) : PlanOk ops bef x done []
  | fl {x i : Nat} {o : Oper} {done : List (Nat × Oper)} {ps : List PS} (ho : ops[i]? = some o) (hx : Nat.testBit x i = false) (hd : direct .any x o = true) (hk : okind o ≠ .eff)
      (hf : fits ops (bef.getD i 0) o false done = true) (hw : ownT ops o = true) (t : PlanOk ops bef (Nat.lor x (Nat.shiftLeft 1 i)) ((i, o) :: done) ps) : PlanOk ops bef x done (.fl i o :: ps)
  | ef {x i : Nat} {o : Oper} {done : List (Nat × Oper)} {ps : List PS} (ho : ops[i]? = some o) (hx : Nat.testBit x i = false) (hd : direct .any x o = true)
      (only : ∀ j o', ops[j]? = some o' → Nat.testBit x j = false → direct .any x o' = true → j = i)
      (hf : fits ops (bef.getD i 0) o true done = true) (t : PlanOk ops bef (Nat.lor x (Nat.shiftLeft 1 i)) done ps) : PlanOk ops bef x done (.ef i o (readersR (bef.getD i 0) done) :: ps)

/-- a frame that waits for a call -/
inductive SusR (P : Program) (D : Nat → Nat) (E : En) (h : H) (fl nx : Nat) : Bool → Fr → Frame → Prop
  | ret {fs : FS} {tm : Tm} {td : List AI} {df : List ADf} {fr : Frame} (hb : FrB D E fs df fr) (hm : fr.mode = .returning) (ht : TmR E (D fs.fn) tm fr.tmps) : SusR P D E h fl nx true ⟨fs, tm, td, df, true⟩ fr
  | reg {fs : FS} {tm : Tm} {ops : Array Oper} {ns : List Tmp} {o : Oper} {os : List Oper} {e : List AV} {td : List AI} {df : List ADf} {fr : Frame} {i : Nat} {rest : List Nat} {k : List Item}
      (hb : FrB D E fs df fr) (hm : fr.mode = .run) (hi : fr.todo = .inRegion ops (i :: rest) :: k) (hx : Idx ops (i :: rest) (o :: os)) (ht : TR E (D fs.fn) ns tm e fr.tmps fun _ => False) (hk : ItL E td k) :
      SusR P D E h fl nx false ⟨fs, tm, .reg ⟨ops, ns, o :: os⟩ e :: td, df, false⟩ fr
  | dreg {fs : FS} {tm : Tm} {ops : Array Oper} {ns : List Tmp} {o : Oper} {rc : List Oper} {ps : List PS} {e : List AV} {td : List AI} {df : List ADf} {fr : Frame} {i x : Nat} {pre rest : List Nat} {k : List Item}
      {done : List (Nat × Oper)} {B : Nat → Nat}
      (hb : FrB D E fs df fr) (hm : fr.mode = .run) (hi : fr.todo = .inRegion ops (i :: rest) :: k) (hp : PlanOk ops (Region.before ops) x done (.ef i o rc :: ps))
      (hd : DInv P true E h fl nx (D fs.fn) ops x done pre (i :: rest) ns tm e fr.tmps B) (hk : ItL E td k) :
      SusR P D E h fl nx false ⟨fs, tm, .dreg ⟨ops, ns, .ef i o rc :: ps⟩ e :: td, df, false⟩ fr
  | rf {fs : FS} {tm : Tm} {l c q : Nat} {td : List AI} {df : List ADf} {fr : Frame} {k : List Item}
      (hb : FrB D E fs df fr) (hm : fr.mode = .run) (hi : fr.todo = .inRangeFunc c :: k) (hl : E.m l = some (c, q)) (ht : TmR E (D fs.fn) tm fr.tmps) (hk : ItL E td k) :
      SusR P D E h fl nx false ⟨fs, tm, .rf l :: td, df, false⟩ fr

inductive CsR (P : Program) (D : Nat → Nat) (f0 : Nat) (cs0 : List Frame) (E : En) (h : H) : Nat → Nat → Bool → List Fr → List Frame → Prop
  | nil {fl : Nat} : CsR P D f0 cs0 E h fl f0 false [] cs0
  | cons {fl fl' fn : Nat} {dk : Bool} {c : Fr} {cs : List Fr} {fr : Frame} {fcs : List Frame} (hle : fl ≤ fl') (s : SusR P D E h fl fl' dk c fr) (t : CsR P D f0 cs0 E h fl c.fs.fn c.fs.dk cs fcs) :
      CsR P D f0 cs0 E h fl' fn dk (c :: cs) (fr :: fcs)

/-- what a step of memory keeps, below a floor -/
structure Keep (fl : Nat) (E : En) (h : H) (E' : En) (h' : H) : Prop where
  le : En.le fl E E'
  mem : ∀ b, b < fl → E.m b = none → bget b h' = bget b h
theorem Keep.refl (fl : Nat) (E : En) (h : H) : Keep fl E h E h := ⟨.refl _ _, fun _ _ _ => rfl⟩
theorem En.le.low {a b : Nat} {E E' : En} (h : En.le b E E') (hab : a ≤ b) : En.le a E E' := ⟨h.up, fun k hk => h.old k (by omega)⟩
theorem Keep.low {a b : Nat} {E E' : En} {h h' : H} (k : Keep b E h E' h') (hab : a ≤ b) : Keep a E h E' h' := ⟨k.le.low hab, fun c hc => k.mem c (by omega)⟩
theorem Keep.trans {a b : Nat} {E E' E'' : En} {h h' h'' : H} (k : Keep a E h E' h') (k' : Keep b E' h' E'' h'') (hab : a ≤ b) : Keep a E h E'' h'' :=
  ⟨k.le.trans k'.le hab, fun c hc hn => by rw [k'.mem c (by omega) (k.le.old c hc hn), k.mem c hc hn]⟩

theorem Kind.keep {P : Program} {E E' : En} {h h' : H} {fl nx mask : Nat} {ns0 : List Tmp} {tm0 : Tm} {e0 : List AV} {b : Nat} {o : Oper} {v : AV} (k : Keep nx E h E' h')
    (q : Kind P true E h fl nx mask ns0 tm0 e0 b o v) : Kind P true E' h' fl nx mask ns0 tm0 e0 b o v := by
  cases q with
  | pure hk hf => exact .pure hk hf
  | reads hk hf => exact .reads hk (.inl rfl)
  | makes hk hb h1 h2 h3 ab kv hg hv hf => exact .makes hk (k.le.old b h2 hb) h1 h2 h3 ab kv (by rw [k.mem b h2 hb]; exact hg) hv hf
theorem PndE.keep {P : Program} {E E' : En} {h h' : H} {fl nx mask : Nat} {ops : Array Oper} {ns : List Tmp} {tm : Tm} {e : List AV} {b : Nat} {o : Oper} (k : Keep nx E h E' h')
    (q : PndE P true E h fl nx mask ops ns tm e b o) : PndE P true E' h' fl nx mask ops ns tm e b o := by
  obtain ⟨ns0, tm0, e0, v, wb, q⟩ := q
  exact ⟨ns0, tm0, e0, v, wb, q.same, q.want, q.dst, q.off, fun hw => ⟨(q.on hw).1, (q.on hw).2.keep k⟩⟩
theorem DInv.keep {P : Program} {E E' : En} {h h' : H} {fl nx mask x : Nat} {ops : Array Oper} {done : List (Nat × Oper)} {pre rest : List Nat} {ns : List Tmp} {tm : Tm} {e : List AV} {tmps : Array Value} {B : Nat → Nat}
    (k : Keep nx E h E' h') (q : DInv P true E h fl nx mask ops x done pre rest ns tm e tmps B) : DInv P true E' h' fl nx mask ops x done pre rest ns tm e tmps B :=
  { q with tr := q.tr.mono k.le, pf := fun a ha hr => (q.pf a ha hr).keep k }

theorem SusR.keep {P : Program} {D : Nat → Nat} {E E' : En} {h h' : H} {fl nx : Nat} {dk : Bool} {c : Fr} {fr : Frame} (k : Keep nx E h E' h') (s : SusR P D E h fl nx dk c fr) : SusR P D E' h' fl nx dk c fr := by
  cases s with
  | ret hb hm ht => exact .ret (hb.mono k.le) hm (ht.mono k.le)
  | reg hb hm hi hx ht hk => exact .reg (hb.mono k.le) hm hi hx (ht.mono k.le) (hk.mono k.le)
  | dreg hb hm hi hp hd hk => exact .dreg (hb.mono k.le) hm hi hp (hd.keep k) (hk.mono k.le)
  | rf hb hm hi hl ht hk => exact .rf (hb.mono k.le) hm hi (k.le.up _ _ hl) (ht.mono k.le) (hk.mono k.le)
theorem CsR.keep {P : Program} {D : Nat → Nat} {f0 : Nat} {cs0 : List Frame} {E E' : En} {h h' : H} : ∀ {fl fn : Nat} {dk : Bool} {cs : List Fr} {fcs : List Frame}, Keep fl E h E' h' →
    CsR P D f0 cs0 E h fl fn dk cs fcs → CsR P D f0 cs0 E' h' fl fn dk cs fcs
  | _, _, _, _, _, _, .nil => .nil
  | _, _, _, _, _, k, .cons hle s t => .cons hle (s.keep k) (t.keep (k.low hle))

/-- the machine and the abstract state -/
structure SR (P : Program) (D : Nat → Nat) (base : Bas) (w0 : World) (f0 : Nat) (cs0 : List Frame) (E : En) (fl : Nat) (sk : SK) (tm : Tm) (h : H) (nx : Nat) (todo : List AI) (ret : Bool)
    (fr : Frame) (fcs : List Frame) (w : World) : Prop where
  fb : FrB D E sk.fs sk.df fr
  mode : fr.mode = if ret then .returning else .run
  items : ret = false → ItL E todo fr.todo
  tm : TmR E (D sk.fs.fn) tm fr.tmps
  cs : CsR P D f0 cs0 E h fl sk.fs.fn sk.fs.dk sk.cs fcs
  fl : fl ≤ nx
  hr : HR D base w0 E h nx w

def Ends (P : Program) (D : Nat → Nat) (base : Bas) (w0 : World) (f0 : Nat) (cs0 : List Frame) (m : Machine) (r : St) : Prop :=
  ∃ v h nx E V w' fr, r = .fin v h nx ∧ Steps P m (lone fr cs0 w') ∧ fr.fn = f0 ∧ fr.leaving P w' (.returned V) ∧ VR E v V ∧ HR D base w0 E h nx w'
def Goes (P : Program) (D : Nat → Nat) (base : Bas) (w0 : World) (f0 : Nat) (cs0 : List Frame) (m : Machine) (j : J) (r : St) : Prop :=
  (∃ E fl sk tm h nx todo ret fr fcs w, j sk tm h nx todo ret = some r ∧ Steps P m (lone fr fcs w) ∧ SR P D base w0 f0 cs0 E fl sk tm h nx todo ret fr fcs w) ∨ Ends P D base w0 f0 cs0 m r
theorem Goes.of_steps {P : Program} {D : Nat → Nat} {base : Bas} {w0 : World} {f0 : Nat} {cs0 : List Frame} {m m' : Machine} {j : J} {r : St} (s : Steps P m m') (g : Goes P D base w0 f0 cs0 m' j r) : Goes P D base w0 f0 cs0 m j r := by
  rcases g with ⟨E, fl, sk, tm, h, nx, todo, ret, fr, fcs, w, h1, h2, h3⟩ | ⟨v, h, nx, E, V, w', fr, h1, h2, h3⟩
  · exact .inl ⟨E, fl, sk, tm, h, nx, todo, ret, fr, fcs, w, h1, s.trans h2, h3⟩
  · exact .inr ⟨v, h, nx, E, V, w', fr, h1, s.trans h2, h3⟩

/-! steps of the machine -/
section
variable {P : Program} {fr : Frame} {cs : List Frame} {w w' : World} {ops : Array Oper} {i : Nat} {rest : List Nat} {k : List Item} {o : Oper}

theorem stepG_oper (hm : fr.mode = .run) (ht : fr.todo = .inRegion ops (i :: rest) :: k) (ho : ops[i]? = some o) (hw : Region.wanted o (yielded ops fr.tmps) = true) (hd : fr.roundOf = none ∨ ∀ c, o.op ≠ .defer c) :
    stepG P true { frame := fr, callers := cs, status := .running, dying := none } w = stepG.apply P true fr cs none (execOp fr.eval o) w := by
  have hop : fr.oper? = some o := by simp [Frame.oper?, ht, ho]
  simp only [stepG, hm, stepG.exec, ht, ho, Option.map_some, Option.getD_some, hw, if_true, stepG.oper, hop]
  rcases hd with hd | hd
  · rw [hd]
  · cases hr : fr.roundOf with
    | none => rfl
    | some l => cases hq : o.op <;> first | rfl | exact absurd hq (hd _)

theorem step_value {V : Value} (hm : fr.mode = .run) (ht : fr.todo = .inRegion ops (i :: rest) :: k) (ho : ops[i]? = some o) (hw : Region.wanted o (yielded ops fr.tmps) = true) (hd : fr.roundOf = none ∨ ∀ c, o.op ≠ .defer c)
    (hr : (execOp fr.eval o).run P w = .ok (.value V) w' ∨ ((execOp fr.eval o).run P w = .ok .skip w' ∧ V = Go.undef)) :
    step P (lone fr cs w) = .next (lone (fr.finish V) cs w') := by
  refine step_lone_go ?_
  rw [stepG_oper hm ht ho hw hd]
  rcases hr with hr | ⟨hr, rfl⟩
  · simp [stepG.apply, hr]
  · simp [stepG.apply, hr]

theorem step_unwanted (hm : fr.mode = .run) (ht : fr.todo = .inRegion ops (i :: rest) :: k) (ho : ops[i]? = some o) (hw : Region.wanted o (yielded ops fr.tmps) = false) :
    step P (lone fr cs w) = .next (lone (fr.finish Go.undef) cs w) := by
  refine step_lone_go ?_
  simp [stepG, hm, stepG.exec, ht, ho, hw]

theorem step_enter {f : FuncId} {args : Array Value} (hm : fr.mode = .run) (ht : fr.todo = .inRegion ops (i :: rest) :: k) (ho : ops[i]? = some o) (hw : Region.wanted o (yielded ops fr.tmps) = true) (hd : fr.roundOf = none ∨ ∀ c, o.op ≠ .defer c)
    (hr : (execOp fr.eval o).run P w = .ok (.enter f args) w') :
    step P (lone fr cs w) = .next (lone (Frame.enter P f args .normal) (fr :: cs) w') := by
  refine step_lone_go ?_
  rw [stepG_oper hm ht ho hw hd]
  simp [stepG.apply, hr, ht]

theorem step_round {l : Nat} {f : FuncId} {tmps : Array Value} {a b : Code} (hm : fr.mode = .run) (ht : fr.todo = .inRegion ops (i :: rest) :: k) (ho : ops[i]? = some o) (hw : Region.wanted o (yielded ops fr.tmps) = true) (hd : fr.roundOf = none ∨ ∀ c, o.op ≠ .defer c)
    (hr : (execOp fr.eval o).run P w = .ok (.round l f tmps a b) w') :
    step P (lone fr cs w) = .next (lone (Frame.round l f tmps a b .normal) (fr :: cs) w') := by
  refine step_lone_go ?_
  rw [stepG_oper hm ht ho hw hd]
  simp [stepG.apply, hr]

theorem step_deferred {d : Deferred} (hm : fr.mode = .run) (ht : fr.todo = .inRegion ops (i :: rest) :: k) (ho : ops[i]? = some o) (hw : Region.wanted o (yielded ops fr.tmps) = true) (hd : fr.roundOf = none)
    (hr : (execOp fr.eval o).run P w = .ok (.defer d) w') :
    step P (lone fr cs w) = .next (lone ({ fr with defers := d :: fr.defers }.finish Go.undef) cs w') := by
  refine step_lone_go ?_
  rw [stepG_oper hm ht ho hw (.inl hd)]
  simp only [stepG.apply, Sem.runT_eq, hr, GStep.bare_after]
  rfl

theorem step_recover (hm : fr.mode = .run) (ht : fr.todo = .inRegion ops (i :: rest) :: k) (ho : ops[i]? = some o) (hw : Region.wanted o (yielded ops fr.tmps) = true) (hd : fr.roundOf = none)
    (hn : tryRecover fr cs = none) (hr : (execOp fr.eval o).run P w = .ok .recover w') :
    step P (lone fr cs w) = .next (lone (fr.finish .nilIface) cs w') := by
  refine step_lone_go ?_
  rw [stepG_oper hm ht ho hw (.inl hd)]
  simp [stepG.apply, hr, hd, hn]

theorem step_regionEnd (hm : fr.mode = .run) (ht : fr.todo = .inRegion ops [] :: k) : step P (lone fr cs w) = .next (lone { fr with todo := k } cs w) := by
  refine step_lone_go ?_
  simp [stepG, hm, stepG.exec, ht]

theorem finish_reg (ht : fr.todo = .inRegion ops (i :: rest) :: k) (ho : ops[i]? = some o) (V : Value) : fr.finish V = { fr with tmps := putT fr.tmps o.dst V, todo := .inRegion ops rest :: k } := by
  simp only [Frame.finish, ht, ho, Option.bind_some]
  cases hd : o.dst <;> simp [putT]
end
end Go.Ax
namespace Go.Ax
open Go.RowKit (Below)
variable {P : Program} {D : Nat → Nat} {base : Bas} {w0 : World} {f0 : Nat} {cs0 : List Frame} {E : En} {h : H} {nx : Nat} {w : World} {r : St} {j : J}

/-! entering a function -/
theorem setArgs_get : ∀ (args : List AV) (i : Nat) (tm : Tm) (t : Nat), t < 512 → i + args.length ≤ 512 →
    gget (slot t) (setArgs args i tm) = if i ≤ t ∧ t < i + args.length then args.getD (t - i) undef else gget (slot t) tm
  | [], i, tm, t, _, _ => by rw [if_neg (by simp)]; rfl
  | v :: args, i, tm, t, ht, hl => by
    have hl : i + (args.length + 1) ≤ 512 := hl
    have h0 : setArgs (v :: args) i tm = setArgs args (i + 1) (gset (slot i) v tm) := by
      show dig i (fun i => setArgs args (Nat.succ i) (gset (slot i) v tm)) = _
      rw [dig_eq]
    rw [h0, setArgs_get args (i + 1) _ t ht (by omega), slot_set t i ht (by omega)]
    simp only [List.length_cons]
    by_cases h1 : t = i
    · subst h1
      rw [if_neg (by omega), if_pos rfl, if_pos (by omega)]; simp
    · by_cases h2 : i + 1 ≤ t ∧ t < i + 1 + args.length
      · rw [if_pos h2, if_pos (by omega)]
        obtain ⟨d, hd⟩ : ∃ d, t - i = d + 1 := ⟨t - i - 1, by omega⟩
        rw [hd, show t - (i + 1) = d by omega]
        simp
      · rw [if_neg h2, if_neg h1, if_neg (by omega)]

theorem center_some {f : Nat} {args : List AV} {dk : Bool} {K : FS → Tm → List AI → O} (hr : (center P D f).e args dk K = some r) :
    ∃ fn c, P.funcs[f]? = some fn ∧ fn.body = some c ∧ fn.ntmps ≤ 512 ∧ D f < 2 ^ fn.ntmps ∧ args.length ≤ fn.ntmps ∧ K ⟨f, fn.ntmps, dk, none⟩ (setArgs args 0 tnil) [.code c] = some r := by
  unfold center at hr
  cases hf : P.funcs[f]? with
  | none => rw [hf] at hr; cases hr
  | some fn =>
    rw [hf] at hr
    simp only at hr
    cases hb : fn.body with
    | none => rw [hb] at hr; cases hr
    | some c =>
      rw [hb] at hr
      simp only at hr
      cases hc : (Nat.ble fn.ntmps 512 && Nat.blt (D f) (Nat.pow 2 fn.ntmps)) with
      | false => rw [hc] at hr; cases hr
      | true =>
        rw [hc] at hr
        rw [Bool.and_eq_true] at hc
        have hr' : bc (Nat.ble (llen args) fn.ntmps) (bc (paramsOk (D f) (llen args)) (K ⟨f, fn.ntmps, dk, none⟩ (setArgs args 0 tnil) [.code c]) none) none = some r := hr
        obtain ⟨h1, hr1⟩ := bc_some hr'
        obtain ⟨_, hr2⟩ := bc_some hr1
        have h1 := ble_le h1
        rw [llen_eq] at h1
        exact ⟨fn, c, rfl, hb, ble_le hc.1, blt_lt hc.2, h1, hr2⟩

theorem enter_frame {f : Nat} {fn : Func} {c : Code} {args : List AV} {ARGS : Array Value} {dk : Bool}
    (hf : P.funcs[f]? = some fn) (hb : fn.body = some c) (h512 : fn.ntmps ≤ 512) (hD : D f < 2 ^ fn.ntmps) (hlen : args.length ≤ fn.ntmps) (ha : VRL E args ARGS.toList) :
    FrB D E ⟨f, fn.ntmps, dk, none⟩ [] (Frame.enter P f ARGS (if dk then .deferred else .normal)) ∧ ItL E [.code c] (Frame.enter P f ARGS (if dk then .deferred else .normal)).todo ∧
      TmR E (D f) (setArgs args 0 tnil) (Frame.enter P f ARGS (if dk then .deferred else .normal)).tmps := by
  have hal := ha.len
  have hal : ARGS.size = args.length := by simpa using hal
  refine ⟨⟨rfl, ?_, hD, .nil, rfl, .none⟩, ?_, ?_⟩
  · simp [Frame.enter, hf]; omega
  · simp only [Frame.enter, hf, hb, Option.bind_some, Option.getD_some]
    exact .cons (.code c) .nil
  · intro t ht hm
    have h0 := setArgs_get args 0 tnil t ht (by omega)
    rw [h0]
    simp only [Frame.enter, hf, Option.map_some, Option.getD_some, Array.getD_eq_getD_getElem?]
    by_cases h1 : t < args.length
    · rw [if_pos (by omega), Array.getElem?_append_left (by omega)]
      obtain ⟨V, hV, hv⟩ := ha.get t (args.getD t undef) (by simp [List.getD, List.getElem?_eq_getElem h1])
      have hV : ARGS[t]? = some V := by simpa using hV
      rw [hV]; simpa using hv
    · rw [if_neg (by omega), slot_nil t ht]
      by_cases h2 : t < fn.ntmps
      · have : (ARGS ++ Array.replicate (fn.ntmps - ARGS.size) Go.undef)[t]? = some Go.undef := by
          rw [Array.getElem?_append_right (by omega), Array.getElem?_replicate, if_pos (by omega)]
        rw [this]; exact undef_sound E
      · have : (ARGS ++ Array.replicate (fn.ntmps - ARGS.size) Go.undef)[t]? = none := by
          apply Array.getElem?_eq_none; simp; omega
        rw [this]; exact undef_sound E

theorem SR.enter (R : HR D base w0 E h nx w) {fl : Nat} (hfl : fl ≤ nx) {f : Nat} {fn : Func} {c : Code} {args : List AV} {ARGS : Array Value} {dk : Bool} {cf : Fr} {cs : List Fr} {fr : Frame} {fcs : List Frame}
    (hf : P.funcs[f]? = some fn) (hb : fn.body = some c) (h512 : fn.ntmps ≤ 512) (hD : D f < 2 ^ fn.ntmps) (hlen : args.length ≤ fn.ntmps) (ha : VRL E args ARGS.toList)
    (hs : SusR P D E h fl nx dk cf fr) (C : CsR P D f0 cs0 E h fl cf.fs.fn cf.fs.dk cs fcs) :
    SR P D base w0 f0 cs0 E nx ⟨⟨f, fn.ntmps, dk, none⟩, [], cf :: cs⟩ (setArgs args 0 tnil) h nx [.code c] false (Frame.enter P f ARGS (if dk then .deferred else .normal)) (fr :: fcs) w := by
  obtain ⟨h1, h2, h3⟩ := enter_frame (dk := dk) hf hb h512 hD hlen ha
  exact ⟨h1, rfl, fun _ => h2, h3, .cons hfl hs C, Nat.le_refl _, R⟩

theorem run_callFunc {f : Nat} (hf : isFn P f = true) (args : Array Value) (w : World) : (callFunc f args).run P w = .ok (.enter f args) w := by
  unfold isFn at hf
  cases hg : P.funcs[f]? with
  | none => rw [hg] at hf; cases hf
  | some fn =>
    rw [hg] at hf
    simp only [Bool.and_eq_true, Bool.not_eq_true'] at hf
    obtain ⟨h1, h2⟩ := hf
    have hb : fn.body.isNone = false := by cases hq : fn.body <;> simp [hq] at h2 ⊢
    have h1' : ¬ fn.name = "runtime.NumGoroutine" := by simpa using h1
    have hb' : ¬ fn.body = none := fun hh => by rw [hh] at hb; cases hb
    simp [callFunc, hg, h1', hb']

/-- a call out of a region: the frame is laid by -/
theorem goCall_goes (R : HR D base w0 E h nx w) {fl : Nat} (hfl : fl ≤ nx) {f : Nat} {args : List AV} {ARGS : Array Value} {it : AI} {fs : FS} {df : List ADf} {cs : List Fr} {td : List AI} {tm : Tm} {fr : Frame} {fcs : List Frame}
    (hr : goCall P D f args it (.mk ⟨fs, df, cs⟩ td j) tm h nx = some r) (ha : VRL E args ARGS.toList)
    (hs : SusR P D E h fl nx false ⟨fs, tm, it :: td, df, false⟩ fr) (C : CsR P D f0 cs0 E h fl fs.fn fs.dk cs fcs)
    (hst : step P (lone fr fcs w) = .next (lone (Frame.enter P f ARGS .normal) (fr :: fcs) w)) : Goes P D base w0 f0 cs0 (lone fr fcs w) j r := by
  obtain ⟨_, hr⟩ := bc_some hr
  obtain ⟨fn, c, hf, hb, h512, hD, hlen, hk⟩ := center_some hr
  exact .inl ⟨_, _, _, _, _, _, _, _, _, _, _, hk, .one hst, SR.enter R hfl hf hb h512 hD hlen ha hs C⟩

theorem goCall_isFn {f : Nat} {args : List AV} {it : AI} {cx : Cx} {tm : Tm} (hr : goCall P D f args it cx tm h nx = some r) : isFn P f = true := (bc_some hr).1

/-! a round of a range over a function -/
theorem onLoop_some {γ : Type} {x : γ} {b : Option AB} {k : ALoop → Option γ} (hr : onLoop b none k = some x) : ∃ L, b = some (.loop L) ∧ k L = some x := by
  cases b with
  | none => cases hr
  | some b => cases b <;> first | exact ⟨_, rfl, hr⟩ | cases hr

theorem HR.loop (R : HR D base w0 E h nx w) {b c q : Nat} (e : E.m b = some (c, q)) {L : ALoop} (hb : bget b h = some (.loop L)) : ∃ L', LoopR D E L L' ∧ w.heap[c]? = some (.loop L') := by
  obtain ⟨_, ob, ho, br⟩ := R.get e hb
  cases br with
  | loop hl => exact ⟨_, hl, ho⟩

theorem run_getLoop {c : Nat} {L : Loop} (hg : w.heap[c]? = some (.loop L)) : (Instr.getLoop c).run P w = .ok L w := by
  simp [Instr.getLoop, getObj, Sem.run, hg]

theorem allP_all {p : Tmp → Bool} : ∀ {l : List Tmp}, allP p l = true → ∀ t ∈ l, p t = true
  | [], _, t, ht => by cases ht
  | x :: l, ha, t, ht => by
    have ha : bc (p x) (allP p l) false = true := ha
    rw [bc_ite] at ha
    split at ha
    · cases ht with
      | head => assumption
      | tail _ hm => exact allP_all ha t hm
    · cases ha

theorem setParams_sound {mask : Nat} : ∀ (ts : List Tmp) (vs : List AV) (VS : List Value) (tm tm' : Tm) (tmps : Array Value), setParams ts vs tm = some tm' → VRL E vs VS → TmR E mask tm tmps →
    (∀ t ∈ ts, t < tmps.size ∧ Nat.testBit mask t = false) → vs.length = ts.length → TmR E mask tm' ((ts.zip VS).foldl (fun tmps (t, a) => tmps.setIfInBounds t a) tmps)
  | [], vs, VS, tm, tm', tmps, hs, hv, ht, _, _ => by cases hs; exact ht
  | t :: ts, vs, VS, tm, tm', tmps, hs, hv, ht, hp, hl => by
    obtain ⟨v, r, rfl, hs⟩ := onList_some hs
    obtain ⟨hlt, hs⟩ := bc_some hs
    have hlt := blt_lt hlt
    cases hv with
    | cons hv1 hvt =>
      rename_i V L
      simp only [List.zip_cons_cons, List.foldl_cons]
      obtain ⟨hts, htm⟩ := hp t (by simp)
      refine setParams_sound ts r _ _ _ _ hs hvt ?_ (fun u hu => by rw [Array.size_setIfInBounds]; exact hp u (by simp [hu])) (by simpa using hl)
      intro u hu hmu
      rw [slot_set u t hu hlt]
      by_cases hut : u = t
      · subst hut
        rw [if_pos rfl]
        simpa [Array.getD_eq_getD_getElem?, hts] using hv1
      · rw [if_neg hut]
        have : (tmps.setIfInBounds t V).getD u Go.undef = tmps.getD u Go.undef := by
          simp only [Array.getD_eq_getD_getElem?]
          rw [Array.getElem?_setIfInBounds_ne (fun hh => hut hh.symm)]
        rw [this]
        exact ht u hu hmu

theorem goRound_some {l : Nat} {args : List AV} {it : AI} {fs : FS} {df : List ADf} {cs : List Fr} {td : List AI} {tm : Tm} (hr : goRound D l args it (.mk ⟨fs, df, cs⟩ td j) tm h nx = some r) :
    ∃ L tm', bget l h = some (.loop L) ∧ (∀ t ∈ L.params.toList, t < L.n ∧ Nat.testBit (D L.fn) t = false) ∧ args.length = L.params.size ∧ setParams L.params.toList args L.tm = some tm' ∧
      j ⟨⟨L.fn, L.n, false, some l⟩, [], ⟨fs, tm, it :: td, df, false⟩ :: cs⟩ tm' h nx [.code L.assign, .br, .code L.body] false = some r := by
  obtain ⟨L, hL, hr⟩ := onLoop_some hr
  obtain ⟨hp, hr⟩ := bc_some hr
  obtain ⟨hn, hr⟩ := bc_some hr
  obtain ⟨tm', htm, hr⟩ := ob_some' hr
  refine ⟨L, tm', hL, ?_, ?_, htm, hr⟩
  · intro t ht
    have := allP_all hp t ht
    rw [bc_ite] at this
    split at this
    · rename_i h1
      refine ⟨blt_lt h1, ?_⟩
      cases hb : Nat.testBit (D L.fn) t with
      | false => rfl
      | true => rw [hb] at this; cases this
    · cases this
  · have := beq_eq hn
    rwa [llen_eq] at this

theorem goRound_goes (R : HR D base w0 E h nx w) {fl : Nat} (hfl : fl ≤ nx) {l c q : Nat} {args : List AV} {ARGS : Array Value} {it : AI} {fs : FS} {df : List ADf} {cs : List Fr} {td : List AI} {tm : Tm} {fr : Frame} {fcs : List Frame}
    (hr : goRound D l args it (.mk ⟨fs, df, cs⟩ td j) tm h nx = some r) (he : E.m l = some (c, q)) (ha : VRL E args ARGS.toList)
    (hs : SusR P D E h fl nx false ⟨fs, tm, it :: td, df, false⟩ fr) (C : CsR P D f0 cs0 E h fl fs.fn fs.dk cs fcs)
    (hst : ∀ f tmps a b, (Instr.yield c ARGS).run P w = .ok (.round c f tmps a b) w → step P (lone fr fcs w) = .next (lone (Frame.round c f tmps a b .normal) (fr :: fcs) w)) : Goes P D base w0 f0 cs0 (lone fr fcs w) j r := by
  obtain ⟨L, tm', hL, hp, hn, htm, hk⟩ := goRound_some hr
  obtain ⟨L', hLR, hobj⟩ := R.loop he hL
  have hsz : ARGS.size = L'.params.size := by
    have := ha.len
    rw [hLR.params]; simp at this; omega
  have hy : (Instr.yield c ARGS).run P w = .ok (.round c L'.fn ((L'.params.zip ARGS).foldl (fun tmps (t, a) => tmps.setIfInBounds t a) L'.tmps) L'.assign L'.body) w := by
    simp [Instr.yield, run_getLoop hobj, hsz]
  refine .inl ⟨E, nx, _, _, _, _, _, _, Frame.round c L'.fn ((L'.params.zip ARGS).foldl (fun tmps (t, a) => tmps.setIfInBounds t a) L'.tmps) L'.assign L'.body .normal, fr :: fcs, w, hk, .one (hst _ _ _ _ hy), ?_⟩
  have hzip : (L'.params.zip ARGS).foldl (fun tmps (t, a) => tmps.setIfInBounds t a) L'.tmps = (L.params.toList.zip ARGS.toList).foldl (fun tmps (t, a) => tmps.setIfInBounds t a) L'.tmps := by
    rw [hLR.params, ← Array.foldl_toList, Array.toList_zip]
  have hT := setParams_sound (E := E) (mask := D L.fn) L.params.toList args ARGS.toList L.tm tm' L'.tmps htm ha hLR.tm (fun t ht => by rw [hLR.size]; exact hp t ht) (by rw [hn]; simp)
  have hsize : ∀ (l : List (Tmp × Value)) (a : Array Value), (l.foldl (fun tmps (t, a) => tmps.setIfInBounds t a) a).size = a.size := by
    intro l
    induction l with
    | nil => intro a; rfl
    | cons x l ih => intro a; simp only [List.foldl_cons]; rw [ih]; simp
  refine ⟨⟨hLR.fn, ?_, hLR.bound, .nil, rfl, .some he⟩, rfl, fun _ => ?_, ?_, .cons hfl hs C, Nat.le_refl _, R⟩
  · show ((L'.params.zip ARGS).foldl _ L'.tmps).size = L.n
    rw [hzip, hsize]; exact hLR.size
  · show ItL E _ [.code L'.assign, .beginRound, .code L'.body]
    rw [hLR.assign, hLR.body]
    exact .cons (.code _) (.cons .br (.cons (.code _) .nil))
  · show TmR E (D L.fn) tm' ((L'.params.zip ARGS).foldl _ L'.tmps)
    rw [hzip]; exact hT

/-! methods through an interface -/
theorem run_nilWrap (t : TypeId) (a : Addr) (s : String) (w : World) : (Builtin.ssaWrapNilChk_ #[t] t #[.pointer (some a), strVal "", strVal s]).run P w = .ok (.pointer (some a)) w := rfl

theorem cmethod_sound (R : HR D base w0 E h nx w) {t : TypeId} {name : String} {v rv : AV} {V : Value} {f : Nat} (hm : (cmethod P t name).f h v = some (f, rv)) (hv : VR E v V) (n : Nat) :
    ∃ RV, VR E rv RV ∧ (method (n + 1) t V name).run P w = .ok (f, RV) w := by
  unfold cmethod at hm
  split at hm
  · rename_i i d hi hd
    split at hm
    · rename_i m hfind
      have hrun : ∀ {g : FuncId} {ptr : Bool} {RV : Value}, m.path.toList = [] → m.func = some (g, ptr) →
          (receiverAt t (.val V) ptr (some ((name.splitOn ".").getLastD name))).run P w = .ok RV w → (method (n + 1) t V name).run P w = .ok (g, RV) w := by
        intro g ptr RV hp hf hrc
        have hpe : m.path = #[] := by apply Array.ext'; simpa using hp
        simp only [method, Sem.run_bind, run_info hi, Result.andThen_ok, hfind, hpe, follow, Sem.run_pure, hf, Array.isEmpty_empty, if_true, hrc]
      split at hm
      · rename_i g hp hf
        cases hm
        exact ⟨V, hv, hrun hp hf (by simp [receiverAt, run_under hd, Place.get])⟩
      · rename_i g el hp hf
        split at hm
        · rename_i ti hti
          obtain ⟨I, hI, hU, hsz, _, hag, _⟩ := tinfo_some hti
          cases ha : ti.agg with
          | true =>
            rw [ha] at hm
            obtain ⟨b, off, rfl, hm⟩ := onPtr_some hm
            obtain ⟨l, hl, hm⟩ := ob_some' hm
            cases hm
            cases hv with
            | ptr _ he =>
              obtain ⟨L, hL, hlen, hlies⟩ := loadB_sound R he hl
              have hrl := run_loadCells_list (P := P) w ⟨_, off, none⟩ L hlies
              rw [hlen, hsz] at hrl
              exact ⟨_, .agg hL, hrun hp hf (by simp [receiverAt, run_under hd, Place.get, run_nilWrap, asAddr, loadVar, run_agg hU, ← hag, ha, run_size hI, hrl])⟩
          | false =>
            rw [ha] at hm
            obtain ⟨b, off, rfl, hm⟩ := onPtr_some hm
            obtain ⟨x, hl, hm⟩ := ob_some' hm
            cases hm
            cases hv with
            | ptr _ he =>
              obtain ⟨X, hc, hX⟩ := load1_sound R he hl
              exact ⟨_, hX, hrun hp hf (by simp [receiverAt, run_under hd, Place.get, run_nilWrap, asAddr, loadVar, run_agg hU, ← hag, ha, hc])⟩
        · cases hm
      · cases hm
      · rename_i g hp hf hnp
        cases hm
        refine ⟨V, hv, hrun hp hf ?_⟩
        rename_i d
        revert hd hnp
        generalize hq : d = d'
        intro hnp hd
        cases d' <;> first | exact absurd rfl (hnp _) | simp [receiverAt, run_under hd, Place.get]
      · cases hm
    · cases hm
  · cases hm
end Go.Ax
namespace Go.Ax
open Go.RowKit (Below)
variable {P : Program} {D : Nat → Nat} {base : Bas} {w0 : World} {f0 : Nat} {cs0 : List Frame} {E : En} {h : H} {nx : Nat} {w : World} {r : St} {j : J}

/-- what comes behind a value -/
def After (P : Program) (D : Nat → Nat) (base : Bas) (w0 : World) (f0 : Nat) (cs0 : List Frame) (E : En) (h : H) (nx : Nat) (fs : FS) (cs : List Fr) (td : List AI) (j : J) (tm : Tm) (e : List AV) (fr : Frame) (fcs : List Frame) (kk : Put) (r : St) : Prop :=
  ∀ v V h' nx' E' w' df' ds', VR E' v V → Keep nx E h E' h' → nx ≤ nx' → HR D base w0 E' h' nx' w' → DRL E' df' ds' → kk.p v (.mk ⟨fs, df', cs⟩ td j) tm e h' nx' = some r →
    Goes P D base w0 f0 cs0 (lone ({ fr with defers := ds' }.finish V) fcs w') j r

theorem finish_defers (fr : Frame) : ({ fr with defers := fr.defers } : Frame) = fr := rfl

section
variable {mask : Nat} {ns : List Tmp} {tm : Tm} {e : List AV} {o : Oper} {it : List AV → AI} {kk : Put} {fs : FS} {df : List ADf} {cs : List Fr} {td : List AI} {fr : Frame} {fcs : List Frame} {ops : Array Oper}
  {i : Nat} {rest : List Nat} {k : List Item} {pend : Tmp → Prop} {fl : Nat}

theorem cval_goes (R : HR D base w0 E h nx w) (hb : FrB D E fs df fr) (hm : fr.mode = .run) (hi : fr.todo = .inRegion ops (i :: rest) :: k) (ho : ops[i]? = some o)
    (hw : Region.wanted o (yielded ops fr.tmps) = true) (hop : Ops E mask ns tm e fr.eval o) (hnd : ∀ c, o.op ≠ .defer c)
    (hr : (cval P mask ns o kk).r (.mk ⟨fs, df, cs⟩ td j) tm e h nx = some r) (hput : After P D base w0 f0 cs0 E h nx fs cs td j tm e fr fcs kk r) :
    Goes P D base w0 f0 cs0 (lone fr fcs w) j r := by
  have hr' : (cop P mask ns o).f tm e h nx (fun v h nx => kk.p v (.mk ⟨fs, df, cs⟩ td j) tm e h nx) = some r := hr
  obtain ⟨v, V, h', nx', E', w', h1, h2, h3, h4, h5, h6, h7⟩ := cop_sound R hop hr'
  refine .of_steps (.one (step_value hm hi ho hw (.inr hnd) h7)) ?_
  have := hput v V h' nx' E' w' df fr.defers h4 ⟨h2, h6⟩ h3 h5 (hb.df.mono h2) h1
  exact this

theorem noRecover (hb : FrB D E fs df fr) (C : CsR P D f0 cs0 E h fl fs.fn fs.dk cs fcs) : tryRecover fr fcs = none := by
  have hk := hb.kind
  cases hdk : fs.dk with
  | false => rw [hdk] at hk; simp [tryRecover, hk]
  | true =>
    rw [hdk] at hk C
    cases C with
    | cons hle s t =>
      cases s with
      | ret hb' hm ht => simp [tryRecover, hk, hm]

theorem cone_goes (R : HR D base w0 E h nx w) (hfl : fl ≤ nx) (hb : FrB D E fs df fr) (hm : fr.mode = .run) (hi : fr.todo = .inRegion ops (i :: rest) :: k) (ho : ops[i]? = some o)
    (hw : Region.wanted o (yielded ops fr.tmps) = true) (T : TR E mask ns tm e fr.tmps pend) (hp : ∀ t, Operand.tmp t ∈ o.op.operands.toList → ¬ pend t)
    (C : CsR P D f0 cs0 E h fl fs.fn fs.dk cs fcs) (hs : SusR P D E h fl nx false ⟨fs, tm, it e :: td, df, false⟩ fr)
    (hr : (cone P D mask ns o it kk).r (.mk ⟨fs, df, cs⟩ td j) tm e h nx = some r) (hput : After P D base w0 f0 cs0 E h nx fs cs td j tm e fr fcs kk r) :
    Goes P D base w0 f0 cs0 (lone fr fcs w) j r := by
  unfold cone at hr
  cases hok : o.op.operands.toList.all (okd mask ns) with
  | false => rw [hok] at hr; cases hr
  | true =>
    rw [hok] at hr
    have hop := ops_sound T hok hp
    have hok' := List.all_eq_true.1 hok
    simp only [bc_true] at hr
    cases hc : o.op with
    | call c =>
      rw [hc] at hr
      simp only at hr
      have hnd : ∀ c', o.op ≠ .defer c' := fun c' hh => by rw [hc] at hh; cases hh
      have hargs : VRL E ((opds mask ns c.args.toList).g tm e) (c.args.map fr.eval).toList := by
        have := args_sound T c.args.toList (fun x hx => hok' x (mem_args hc hx)) (fun t ht => hp t (mem_args hc ht))
        simpa using this
      cases hcal : c.callee with
      | value f =>
        rw [hcal] at hr
        simp only at hr
        have hfm : f ∈ o.op.operands.toList := by rw [hc]; simp [Op.operands, Call.operands, hcal]
        have hfv := hop f hfm
        have hex : execOp fr.eval o = (do let d ← Deferred.ofValue (fr.eval f) (c.args.map fr.eval); invoke d.target d.args) := by
          simp [execOp, hc, resolve, hcal]
        -- a function value
        have gen : ∀ {g : Fn} {first cap : List AV} {G : Fn} {A Cp : List Value}, fr.eval f = .func G A.toArray Cp.toArray → FnR E g G → VRL E first A → VRL E cap Cp →
            (Fn.rec (fun f => goCall P D f (app first (app ((opds mask ns c.args.toList).g tm e) cap)) (it e) (.mk ⟨fs, df, cs⟩ td j) tm h nx) (fun _ => none) (fun _ _ => none) (fun _ _ _ _ => none)
              (fun l => goRound D l (app first ((opds mask ns c.args.toList).g tm e)) (it e) (.mk ⟨fs, df, cs⟩ td j) tm h nx) g : Option St) = some r → Goes P D base w0 f0 cs0 (lone fr fcs w) j r := by
          intro g first cap G A Cp hF hg hA hC hr
          cases hg with
          | func f' =>
            have hr : goCall P D f' (app first (app ((opds mask ns c.args.toList).g tm e) cap)) (it e) (.mk ⟨fs, df, cs⟩ td j) tm h nx = some r := hr
            have hall : VRL E (app first (app ((opds mask ns c.args.toList).g tm e) cap)) ((A.toArray ++ c.args.map fr.eval) ++ Cp.toArray).toList := by
              rw [app_eq, app_eq]
              simp only [Array.toList_append, List.append_assoc]
              simpa using hA.append (hargs.append hC)
            refine goCall_goes R hfl hr hall hs C (step_enter hm hi ho hw (.inr hnd) ?_)
            rw [hex, hF]
            simp only [Deferred.ofValue, Sem.run_bind, Sem.run_pure, Result.andThen_ok, invoke]
            exact run_callFunc (goCall_isFn hr) _ _
          | @yield b cc q he =>
            have hr : goRound D b (app first ((opds mask ns c.args.toList).g tm e)) (it e) (.mk ⟨fs, df, cs⟩ td j) tm h nx = some r := hr
            have hall : VRL E (app first ((opds mask ns c.args.toList).g tm e)) (A.toArray ++ c.args.map fr.eval).toList := by
              rw [app_eq]
              simp only [Array.toList_append]
              simpa using hA.append hargs
            refine goRound_goes R hfl hr he hall hs C fun f' tmps a b hy => step_round hm hi ho hw (.inr hnd) ?_
            rw [hex, hF]
            simp only [Deferred.ofValue, Sem.run_bind, Sem.run_pure, Result.andThen_ok, invoke]
            exact hy
          | _ => cases hr
        cases f with
        | func f' =>
          exact gen (g := .func f') (first := []) (cap := []) (G := .func f') (A := []) (Cp := []) rfl (.func f') .nil .nil (by
            show goCall P D f' (app [] (app ((opds mask ns c.args.toList).g tm e) [])) (it e) (.mk ⟨fs, df, cs⟩ td j) tm h nx = some r
            have : app ([] : List AV) (app ((opds mask ns c.args.toList).g tm e) []) = (opds mask ns c.args.toList).g tm e := by rw [app_eq, app_eq]; simp
            rw [this]; exact hr)
        | _ =>
          simp only at hr
          replace hr := onFn_some hr
          obtain ⟨g, first, cap, hfv', hr⟩ := hr
          rw [hfv'] at hfv
          generalize hF : fr.eval _ = F at hfv gen
          cases hfv with
          | fn hg hA hC => exact gen rfl hg hA hC hr
      | invoke rc name =>
        rw [hcal] at hr
        simp only at hr
        have hrm : rc ∈ o.op.operands.toList := by rw [hc]; simp [Op.operands, Call.operands, hcal]
        have hrv := hop rc hrm
        replace hr := onIface_some hr
        obtain ⟨t, v, hv, hr⟩ := hr
        obtain ⟨p, hp1, hr⟩ := ob_some' hr
        rw [hv] at hrv
        generalize hF : fr.eval rc = F at hrv
        cases hrv with
        | @iface _ _ V hV =>
          obtain ⟨g, rv⟩ := p
          obtain ⟨RV, hRV, hrun⟩ := cmethod_sound (P := P) R hp1 hV (P.types.size + 99)
          have hall : VRL E (rv :: (opds mask ns c.args.toList).g tm e) (#[RV] ++ c.args.map fr.eval).toList := by
            simp only [Array.toList_append]
            exact .cons hRV (by simpa using hargs)
          refine goCall_goes R hfl hr hall hs C (step_enter hm hi ho hw (.inr hnd) ?_)
          have hdep : P.types.size + Made.depth = P.types.size + 99 + 1 := by simp [Made.depth]
          have hex : (execOp fr.eval o).run P w = (callMethod (.iface t V) name (c.args.map fr.eval)).run P w := by
            simp only [execOp, hc, resolve, hcal, hF, Sem.run_bind, Sem.run_pure, Result.andThen_ok, invoke]
            have h1 : (#[Value.iface t V] ++ c.args.map fr.eval)[0]? = some (.iface t V) := by rw [Array.getElem?_append_left (by simp)]; rfl
            simp only [h1]
            congr 2
            apply Array.ext'
            simp
            exact List.take_of_length_le (by simp)
          rw [hex]
          simp only [callMethod, Sem.run_bind, run_program, Result.andThen_ok, hdep, hrun]
          exact run_callFunc (goCall_isFn hr) _ _
      | builtin b =>
        rw [hcal] at hr
        simp only at hr
        by_cases hrec : b = .recover
        · subst hrec
          simp only at hr
          have hr : bc (isSome' fs.rd) none (kk.p (.m .nili) (.mk ⟨fs, df, cs⟩ td j) tm e h nx) = some r := hr
          replace hr := bc_some' hr
          obtain ⟨hrd, hr⟩ := hr
          have hround : fr.roundOf = none := by
            have := hb.rd
            cases hq : fs.rd with
            | none => rw [hq] at this; generalize hz : fr.roundOf = z at this; cases this; rfl
            | some b => rw [hq] at hrd; cases hrd
          obtain ⟨consts, hex⟩ := exec_builtin (ρ := fr.eval) hc hcal
          refine .of_steps (.one (step_recover hm hi ho hw hround (noRecover hb C) (w' := w) ?_)) ?_
          · rw [hex]; simp [builtin]
          · exact hput (.m .nili) .nilIface h nx E w df fr.defers .nili (.refl _ _ _) (Nat.le_refl _) R hb.df hr
        · have hr : (cval P mask ns o kk).r (.mk ⟨fs, df, cs⟩ td j) tm e h nx = some r := by
            cases b <;> first | exact absurd rfl hrec | exact hr
          exact cval_goes R hb hm hi ho hw hop hnd hr hput
    | defer c =>
      rw [hc] at hr
      simp only at hr
      have hargs : VRL E ((opds mask ns c.args.toList).g tm e) (c.args.map fr.eval).toList := by
        have hmem : ∀ x ∈ c.args.toList, x ∈ o.op.operands.toList := fun x hx => by
          rw [hc]
          simp only [Op.operands, Call.operands, Array.toList_append, List.mem_append]
          exact .inr hx
        have := args_sound T c.args.toList (fun x hx => hok' x (hmem x hx)) (fun t ht => hp t (hmem _ ht))
        simpa using this
      cases hcal : c.callee with
      | value f =>
        rw [hcal] at hr
        simp only at hr
        have hfm : f ∈ o.op.operands.toList := by rw [hc]; simp [Op.operands, Call.operands, hcal]
        have hfv := hop f hfm
        replace hr := onFn_some hr
        obtain ⟨g, first, cap, hfv', hr⟩ := hr
        rw [hfv'] at hfv
        generalize hF : fr.eval f = F at hfv
        cases hfv with
        | @fn _ G _ _ A Cp hg hA hC =>
          cases hg with
          | func f' =>
            have hr : bc (isSome' fs.rd) none (kk.p undef (.mk ⟨fs, .call ⟨.func f', cap, app first ((opds mask ns c.args.toList).g tm e)⟩ :: df, cs⟩ td j) tm e h nx) = some r := hr
            replace hr := bc_some' hr
            obtain ⟨hrd, hr⟩ := hr
            have hround : fr.roundOf = none := by
              have := hb.rd
              cases hq : fs.rd with
              | none => rw [hq] at this; generalize hz : fr.roundOf = z at this; cases this; rfl
              | some b => rw [hq] at hrd; cases hrd
            have hall : VRL E (app first ((opds mask ns c.args.toList).g tm e)) (A ++ (c.args.map fr.eval).toList) := by
              rw [app_eq]; exact hA.append hargs
            have hd : DR E (.call ⟨.func f', cap, app first ((opds mask ns c.args.toList).g tm e)⟩) { target := .fn (.func f') Cp.toArray, args := (A ++ (c.args.map fr.eval).toList).toArray } :=
              .call (.func f') hC hall
            have hda : (A ++ (c.args.map fr.eval).toList).toArray = A.toArray ++ c.args.map fr.eval := by apply Array.ext'; simp
            rw [hda] at hd
            refine .of_steps (.one (step_deferred hm hi ho hw hround (d := { target := .fn (.func f') Cp.toArray, args := A.toArray ++ c.args.map fr.eval }) (w' := w) ?_)) ?_
            · simp [execOp, hc, resolve, hcal, hF, Deferred.ofValue]
            · exact hput undef Go.undef h nx E w _ _ (undef_sound E) (.refl _ _ _) (Nat.le_refl _) R (.cons hd hb.df) hr
          | _ => cases hr
      | _ => rw [hcal] at hr; cases hr
    | _ =>
      rw [hc] at hr
      exact cval_goes R hb hm hi ho hw hop (fun c hh => by rw [hc] at hh; cases hh) hr hput
end
end Go.Ax
namespace Go.Ax
open Go.RowKit (Below)
variable {P : Program} {D : Nat → Nat} {base : Bas} {w0 : World} {f0 : Nat} {cs0 : List Frame}

theorem guardR_some {g : Wan} {a : Rop} {b : Put} {cx : Cx} {tm : Tm} {e : List AV} {h : H} {nx : Nat} {r : St} (hr : (guardR g a b).r cx tm e h nx = some r) :
    (g.f tm e = some true ∧ a.r cx tm e h nx = some r) ∨ (g.f tm e = some false ∧ b.p undef cx tm e h nx = some r) := by
  have hr : (Option.rec none (fun t => bc t (a.r cx tm e h nx) (b.p undef cx tm e h nx)) (g.f tm e) : Option St) = some r := hr
  cases hg : g.f tm e with
  | none => rw [hg] at hr; cases hr
  | some t =>
    rw [hg] at hr
    cases t with
    | true => exact .inl ⟨rfl, hr⟩
    | false => exact .inr ⟨rfl, hr⟩

/-- behind a value, in a region: the rest goes on from the frame in which the value is put -/
theorem after_put {E : En} {h : H} {nx : Nat} {r : St} {j : J} {mask : Nat} {ns : List Tmp} {tm : Tm} {e : List AV} {o : Oper} {fs : FS} {df : List ADf} {cs : List Fr} {td : List AI} {fr : Frame} {fcs : List Frame}
    {ops : Array Oper} {i : Nat} {rest : List Nat} {k : List Item} {fl : Nat} {kr : Rop} (hfl : fl ≤ nx) (hb : FrB D E fs df fr) (hm : fr.mode = .run) (hi : fr.todo = .inRegion ops (i :: rest) :: k) (ho : ops[i]? = some o)
    (C : CsR P D f0 cs0 E h fl fs.fn fs.dk cs fcs) (hk : ItL E td k)
    (go : ∀ (v : AV) (V : Value) (E' : En) (h' : H) (nx' : Nat) (w' : World) (df' : List ADf) (fr' : Frame) (tm' : Tm) (e' : List AV), VR E' v V → Keep nx E h E' h' → nx ≤ nx' → HR D base w0 E' h' nx' w' → FrB D E' fs df' fr' → fr'.mode = .run → fr'.todo = .inRegion ops rest :: k →
      fr'.tmps = putT fr.tmps o.dst V → PutOk mask fs.n o.dst v ns tm e tm' e' → CsR P D f0 cs0 E' h' fl fs.fn fs.dk cs fcs → ItL E' td k → fl ≤ nx' →
      kr.r (.mk ⟨fs, df', cs⟩ td j) tm' e' h' nx' = some r → Goes P D base w0 f0 cs0 (lone fr' fcs w') j r) :
    After P D base w0 f0 cs0 E h nx fs cs td j tm e fr fcs (cput mask o.dst kr) r := by
  intro v V h' nx' E' w' df' ds' hv hkeep hnx R hdf hr
  obtain ⟨tm', e', hr', hput⟩ := cput_some (ns := ns) hr
  have hfin := finish_reg (fr := { fr with defers := ds' }) hi ho V
  rw [hfin]
  have hb' := hb.mono hkeep.le
  refine go v V E' h' nx' w' df' _ tm' e' hv hkeep hnx R ⟨hb'.fn, ?_, hb'.bound, hdf, hb'.kind, hb'.rd⟩ hm rfl rfl hput (C.keep (hkeep.low hfl)) (hk.mono hkeep.le) (by omega) hr'
  show (putT fr.tmps o.dst V).size = fs.n
  rw [putT_size]; exact hb.size

theorem regionEnd_goes {E : En} {h : H} {nx : Nat} {r : St} {j : J} {_mask : Nat} {_ns : List Tmp} {tm : Tm} {e : List AV} {fs : FS} {df : List ADf} {cs : List Fr} {td : List AI} {fr : Frame} {fcs : List Frame}
    {ops : Array Oper} {k : List Item} {fl : Nat} {w : World} (R : HR D base w0 E h nx w) (hfl : fl ≤ nx) (hb : FrB D E fs df fr) (hm : fr.mode = .run) (hi : fr.todo = .inRegion ops [] :: k)
    (T : TmR E (D fs.fn) tm fr.tmps) (C : CsR P D f0 cs0 E h fl fs.fn fs.dk cs fcs) (hk : ItL E td k)
    (hr : doneR.r (.mk ⟨fs, df, cs⟩ td j) tm e h nx = some r) : Goes P D base w0 f0 cs0 (lone fr fcs w) j r :=
  .inl ⟨E, fl, ⟨fs, df, cs⟩, tm, h, nx, td, false, { fr with todo := k }, fcs, w, hr, .one (step_regionEnd hm hi), ⟨⟨hb.fn, hb.size, hb.bound, hb.df, hb.kind, hb.rd⟩, hm, fun _ => hk, T, C, hfl, R⟩⟩

/-- a region whose order is fixed -/
theorem crun_goes {ops : Array Oper} {fcs : List Frame} {cs : List Fr} {td : List AI} {j : J} {r : St} {fs : FS} {fl : Nat} {k : List Item} : ∀ (os : List Oper) (ns : List Tmp) (rest : List Nat) (E : En) (h : H) (nx : Nat) (w : World) (df : List ADf) (tm : Tm) (e : List AV) (fr : Frame),
    HR D base w0 E h nx w → fl ≤ nx → FrB D E fs df fr → fr.mode = .run → fr.todo = .inRegion ops rest :: k → Idx ops rest os → TR E (D fs.fn) ns tm e fr.tmps (fun _ => False) →
    CsR P D f0 cs0 E h fl fs.fn fs.dk cs fcs → ItL E td k → (crun P D (D fs.fn) ops ns os).r (.mk ⟨fs, df, cs⟩ td j) tm e h nx = some r → Goes P D base w0 f0 cs0 (lone fr fcs w) j r := by
  intro os
  induction os with
  | nil =>
    intro ns rest E h nx w df tm e fr R hfl hb hm hi hx T C hk hr
    cases hx
    exact regionEnd_goes (_mask := D fs.fn) (_ns := ns) R hfl hb hm hi (T.slots fun t ht => ht) C hk hr
  | cons o os ih =>
    intro ns rest E h nx w df tm e fr R hfl hb hm hi hx T C hk hr
    cases hx with
    | @cons i _ rest _ ho hx =>
      have after : After P D base w0 f0 cs0 E h nx fs cs td j tm e fr fcs (cput (D fs.fn) o.dst (crun P D (D fs.fn) ops (names' (D fs.fn) o.dst ns) os)) r := by
        refine after_put (mask := D fs.fn) (ns := ns) hfl hb hm hi ho C hk ?_
        intro v V E' h' nx' w' df' fr' tm' e' hv hkeep hnx R' hb' hm' hi' ht hput C' hk' hfl' hr'
        refine ih _ rest E' h' nx' w' df' tm' e' fr' R' hfl' hb' hm' hi' hx ?_ C' hk' hr'
        rw [ht]
        exact (T.mono hkeep.le).put hput hb.size hb.bound hv (fun u _ => .inr fun hh => hh)
      have hs : SusR P D E h fl nx false ⟨fs, tm, .reg ⟨ops, ns, o :: os⟩ e :: td, df, false⟩ fr := .reg hb hm hi (.cons ho hx) T hk
      have one : Region.wanted o (yielded ops fr.tmps) = true → (cone P D (D fs.fn) ns o (.reg ⟨ops, ns, o :: os⟩) (cput (D fs.fn) o.dst (crun P D (D fs.fn) ops (names' (D fs.fn) o.dst ns) os))).r (.mk ⟨fs, df, cs⟩ td j) tm e h nx = some r →
          Goes P D base w0 f0 cs0 (lone fr fcs w) j r := fun hw hr => cone_goes (it := .reg ⟨ops, ns, o :: os⟩) R hfl hb hm hi ho hw T (fun _ _ hh => hh) C hs hr after
      simp only [crun] at hr
      cases hg : o.guard with
      | none =>
        rw [hg] at hr
        refine one ?_ hr
        simp [Region.wanted, hg]
      | some jw =>
        rw [hg] at hr
        rcases guardR_some hr with ⟨hw, hr⟩ | ⟨hw, hr⟩
        · exact one (cwant_sound T hw fun _ _ _ _ _ hh => hh) hr
        · refine .of_steps (.one (step_unwanted hm hi ho (cwant_sound T hw fun _ _ _ _ _ hh => hh))) ?_
          exact after undef Go.undef h nx E w df fr.defers (undef_sound E) (.refl _ _ _) (Nat.le_refl _) R hb.df hr

/-- a call comes back into a region whose order is fixed -/
theorem creg_after {E : En} {h : H} {nx : Nat} {r : St} {j : J} {ns : List Tmp} {tm : Tm} {e : List AV} {o : Oper} {os : List Oper} {fs : FS} {df : List ADf} {cs : List Fr} {td : List AI} {fr : Frame} {fcs : List Frame}
    {ops : Array Oper} {i : Nat} {rest : List Nat} {k : List Item} {fl : Nat} (hfl : fl ≤ nx) (hb : FrB D E fs df fr) (hm : fr.mode = .run) (hi : fr.todo = .inRegion ops (i :: rest) :: k) (hx : Idx ops (i :: rest) (o :: os))
    (T : TR E (D fs.fn) ns tm e fr.tmps fun _ => False) (C : CsR P D f0 cs0 E h fl fs.fn fs.dk cs fcs) (hk : ItL E td k) :
    After P D base w0 f0 cs0 E h nx fs cs td j tm e fr fcs (cregF P D fs.fn ⟨ops, ns, o :: os⟩) r := by
  cases hx with
  | cons ho hx =>
    refine after_put (mask := D fs.fn) (ns := ns) hfl hb hm hi ho C hk ?_
    intro v V E' h' nx' w' df' fr' tm' e' hv hkeep hnx R' hb' hm' hi' ht hput C' hk' hfl' hr'
    refine crun_goes os _ rest E' h' nx' w' df' tm' e' fr' R' hfl' hb' hm' hi' hx ?_ C' hk' hr'
    rw [ht]
    exact (T.mono hkeep.le).put hput hb.size hb.bound hv (fun u _ => .inr fun hh => hh)
end Go.Ax
namespace Go.Ax

/-! bits -/
theorem bit_add (x i j : Nat) : Nat.testBit (Nat.lor x (Nat.shiftLeft 1 i)) j = (Nat.testBit x j || decide (i = j)) := by
  show (x ||| (1 <<< i)).testBit j = _
  rw [Nat.testBit_or, Nat.one_shiftLeft, Nat.testBit_two_pow]

/-! the plan -/
theorem firstR_some {m : Region.Mode} {p : Oper → Bool} {x : Nat} : ∀ {os : List Oper} {k i : Nat} {o : Oper}, firstR m p x os k = some (i, o) →
    ∃ d, i = k + d ∧ os[d]? = some o ∧ Nat.testBit x i = false ∧ direct m x o = true ∧ p o = true
  | [], _, _, _, h => by cases h
  | o' :: os, k, i, o, h => by
    have h : bc (!Nat.testBit x k && direct m x o' && p o') (some (k, o')) (firstR m p x os (k + 1)) = some (i, o) := h
    rw [bc_ite] at h
    split at h
    · rename_i hc
      simp only [Bool.and_eq_true, Bool.not_eq_true'] at hc
      cases h
      exact ⟨0, rfl, rfl, hc.1.1, hc.1.2, hc.2⟩
    · obtain ⟨d, h1, h2, h3⟩ := firstR_some h
      exact ⟨d + 1, by omega, by simpa using h2, h3⟩

theorem countR_pos {x : Nat} : ∀ {os : List Oper} {k d : Nat} {o : Oper}, os[d]? = some o → Nat.testBit x (k + d) = false → direct .any x o = true → 1 ≤ countR x os k
  | [], _, _, _, h, _, _ => by simp at h
  | o' :: os, k, 0, o, h, h1, h2 => by
    simp at h; subst h
    have h1 : Nat.testBit x k = false := h1
    show 1 ≤ (bc (!Nat.testBit x k && direct .any x o') 1 0 : Nat) + countR x os (k + 1)
    rw [h1, h2]
    show 1 ≤ 1 + _
    omega
  | o' :: os, k, d + 1, o, h, h1, h2 => by
    have := countR_pos (os := os) (k := k + 1) (d := d) (by simpa using h) (by rw [show k + 1 + d = k + (d + 1) by omega]; exact h1) h2
    show 1 ≤ (bc (!Nat.testBit x k && direct .any x o') 1 0 : Nat) + countR x os (k + 1)
    omega
theorem countR_one {x : Nat} : ∀ {os : List Oper} {k : Nat}, countR x os k = 1 → ∀ {d d' : Nat} {o o' : Oper}, os[d]? = some o → Nat.testBit x (k + d) = false → direct .any x o = true →
    os[d']? = some o' → Nat.testBit x (k + d') = false → direct .any x o' = true → d = d'
  | [], _, _, _, _, _, _, h, _, _, _, _, _ => by simp at h
  | q :: os, k, hc, d, d', o, o', h, h1, h2, h', h1', h2' => by
    have hc : (bc (!Nat.testBit x k && direct .any x q) 1 0 : Nat) + countR x os (k + 1) = 1 := hc
    have tail : ∀ {d : Nat} {o : Oper}, (q :: os)[d + 1]? = some o → Nat.testBit x (k + (d + 1)) = false → direct .any x o = true → 1 ≤ countR x os (k + 1) := fun {d o} h h1 h2 =>
      countR_pos (os := os) (k := k + 1) (d := d) (by simpa using h) (by rw [show k + 1 + d = k + (d + 1) by omega]; exact h1) h2
    have head : ∀ {o : Oper}, (q :: os)[0]? = some o → Nat.testBit x (k + 0) = false → direct .any x o = true → countR x os (k + 1) = 0 := by
      intro o h h1 h2
      simp at h; subst h
      have h1 : Nat.testBit x k = false := h1
      rw [h1, h2] at hc
      have hc : 1 + countR x os (k + 1) = 1 := hc
      omega
    cases d with
    | zero =>
      cases d' with
      | zero => rfl
      | succ d' =>
        have a := head h h1 h2
        have b := tail h' h1' h2'
        omega
    | succ d =>
      cases d' with
      | zero =>
        have a := head h' h1' h2'
        have b := tail h h1 h2
        omega
      | succ d' =>
        have b := tail h h1 h2
        have hz : countR x os (k + 1) = 1 := by
          rcases Nat.lt_or_ge (countR x os (k + 1)) 2 with h3 | h3
          · omega
          · omega
        have := countR_one hz (d := d) (d' := d') (by simpa using h) (by rw [show k + 1 + d = k + (d + 1) by omega]; exact h1) h2 (by simpa using h') (by rw [show k + 1 + d' = k + (d' + 1) by omega]; exact h1') h2'
        omega

theorem planF_ok {ops : Array Oper} {bef : Array Nat} : ∀ {f x : Nat} {done : List (Nat × Oper)} {ps : List PS}, planF ops bef f x done = some ps → PlanOk ops bef x done ps
  | 0, x, done, ps, h => by
    obtain ⟨h1, h⟩ := bc_some h
    cases h
    exact .nil h1
  | f + 1, x, done, ps, h => by
    simp only [planF] at h
    split at h
    · rename_i i o hf
      obtain ⟨d, hd, h1, h2, h3, h4⟩ := firstR_some hf
      obtain ⟨hc, h⟩ := bc_some h
      rw [Bool.and_eq_true] at hc
      obtain ⟨r, hr, h⟩ := ob_some' h
      cases h
      have hi : i = d := by omega
      subst hi
      exact .fl (by simpa using h1) h2 h3 (by simpa using h4) hc.1 hc.2 (planF_ok hr)
    · split at h
      · rename_i i o hf
        obtain ⟨d, hd, h1, h2, h3, h4⟩ := firstR_some hf
        obtain ⟨hc, h⟩ := bc_some h
        rw [Bool.and_eq_true] at hc
        obtain ⟨r, hr, h⟩ := ob_some' h
        cases h
        have hi : i = d := by omega
        subst hi
        refine .ef (by simpa using h1) h2 h3 ?_ hc.2 (planF_ok hr)
        intro j o' hj hx hdir
        exact countR_one (beq_eq hc.1) (d := j) (d' := i) (by simpa using hj) (by simpa using hx) hdir h1 (by simpa using h2) h3
      · obtain ⟨h1, h⟩ := bc_some h
        cases h
        exact .nil h1

/-! orders -/
/-- a list in which everything stands behind what it waits for -/
structure Ord (m : Region.Mode) (ops : Array Oper) (C : List Nat) : Prop where
  ord : ∀ l1 j l2, C = l1 ++ j :: l2 → ∀ p, Pred m ops p j → p ∈ l1
  lt : ∀ i ∈ C, i < ops.size

theorem Ord.snoc {m : Region.Mode} {ops : Array Oper} {C : List Nat} {i : Nat} (h : Ord m ops C) (hi : i < ops.size) (hp : ∀ p, Pred m ops p i → p ∈ C) : Ord m ops (C ++ [i]) := by
  refine ⟨?_, ?_⟩
  · intro l1 j l2 he p hpred
    rcases List.append_eq_append_iff.1 he with ⟨a, ha1, ha2⟩ | ⟨a, ha1, ha2⟩
    · cases a with
      | nil =>
        simp at ha1 ha2
        obtain ⟨rfl, rfl⟩ := ha2
        rw [ha1]; exact hp p hpred
      | cons z a =>
        simp at ha2
    · cases a with
      | nil =>
        simp at ha1 ha2
        obtain ⟨rfl, rfl⟩ := ha2
        rw [← ha1]; exact hp p hpred
      | cons z a =>
        simp only [List.cons_append, List.cons.injEq] at ha2
        obtain ⟨rfl, ha2⟩ := ha2
        exact h.ord l1 j a ha1 p hpred
  · intro k hk
    simp only [List.mem_append, List.mem_singleton] at hk
    rcases hk with hk | rfl
    · exact h.lt k hk
    · exact hi

theorem direct_pred {m : Region.Mode} {ops : Array Oper} {x i : Nat} {o : Oper} (ho : ops[i]? = some o) (hd : direct m x o = true) {p : Nat} (hp : Pred m ops p i) : Nat.testBit x p = true := by
  obtain ⟨o', ho', e, he, hb, rfl⟩ := hp
  rw [ho] at ho'
  cases ho'
  have := List.all_eq_true.1 hd e he
  rw [hb] at this
  simpa using this

theorem lt_of_get {ops : Array Oper} {i : Nat} {o : Oper} (h : ops[i]? = some o) : i < ops.size := by
  rcases Nat.lt_or_ge i ops.size with h1 | h1
  · exact h1
  · rw [Array.getElem?_eq_none h1] at h; cases h

theorem all_bits {n x : Nat} (h : (List.range n).all (Nat.testBit x) = true) : ∀ i, i < n → Nat.testBit x i = true :=
  fun i hi => List.all_eq_true.1 h i (by simpa using hi)

theorem lcF_ord {m : Region.Mode} {ops : Array Oper} : ∀ {f x : Nat} {C : List Nat}, lcF m ops f x = true → Ord m ops C → (∀ i, Nat.testBit x i = true ↔ i ∈ C) →
    ∃ C', Ord m ops C' ∧ ∀ i, i < ops.size → i ∈ C'
  | 0, x, C, h, hC, hx => ⟨C, hC, fun i hi => (hx i).1 (all_bits h i hi)⟩
  | f + 1, x, C, h, hC, hx => by
    simp only [lcF] at h
    split at h
    · rename_i i o hf
      obtain ⟨d, hd, h1, h2, h3, _⟩ := firstR_some hf
      have hi : i = d := by omega
      subst hi
      have ho : ops[i]? = some o := by simpa using h1
      refine lcF_ord h (hC.snoc (lt_of_get ho) fun p hp => (hx p).1 (direct_pred ho h3 hp)) ?_
      intro j
      rw [bit_add]
      simp only [Bool.or_eq_true, decide_eq_true_eq, List.mem_append, List.mem_singleton]
      rw [hx j]
      constructor <;> (rintro (h | h); exact .inl h; exact .inr h.symm)
    · exact ⟨C, hC, fun i hi => (hx i).1 (all_bits h i hi)⟩

theorem PlanOk.ord {ops : Array Oper} {bef : Array Nat} {x : Nat} {done : List (Nat × Oper)} {ps : List PS} (h : PlanOk ops bef x done ps) : ∀ {C : List Nat}, Ord .any ops C → (∀ i, Nat.testBit x i = true ↔ i ∈ C) →
    ∃ C', Ord .any ops C' ∧ ∀ i, i < ops.size → i ∈ C' := by
  have step : ∀ {x i : Nat} {C : List Nat}, (∀ i, Nat.testBit x i = true ↔ i ∈ C) → ∀ j, Nat.testBit (Nat.lor x (Nat.shiftLeft 1 i)) j = true ↔ j ∈ C ++ [i] := by
    intro x i C hx j
    rw [bit_add]
    simp only [Bool.or_eq_true, decide_eq_true_eq, List.mem_append, List.mem_singleton]
    rw [hx j]
    constructor <;> (rintro (h | h); exact .inl h; exact .inr h.symm)
  induction h with
  | nil h => exact fun {C} hC hx => ⟨C, hC, fun i hi => (hx i).1 (all_bits h i hi)⟩
  | fl ho hx hd hk hf hw t ih => exact fun {C} hC hxC => ih (hC.snoc (lt_of_get ho) fun p hp => (hxC p).1 (direct_pred ho hd hp)) (step hxC)
  | ef ho hx hd only hf t ih => exact fun {C} hC hxC => ih (hC.snoc (lt_of_get ho) fun p hp => (hxC p).1 (direct_pred ho hd hp)) (step hxC)

theorem filter_less {α : Type} {p q : α → Bool} : ∀ {l : List α}, (∀ a, q a = true → p a = true) → (∃ a ∈ l, p a = true ∧ q a = false) → (l.filter q).length < (l.filter p).length
  | [], _, h => by obtain ⟨a, ha, _⟩ := h; cases ha
  | x :: l, hqp, h => by
    have le : ∀ l : List α, (l.filter q).length ≤ (l.filter p).length := by
      intro l
      induction l with
      | nil => simp
      | cons x l ih =>
        cases hq : q x with
        | true => simp [hq, hqp x hq, ih]
        | false =>
          cases hp : p x with
          | true => simp only [List.filter_cons, hq, hp, if_true, Bool.false_eq_true, if_false, List.length_cons]; omega
          | false => simpa [List.filter_cons, hq, hp] using ih
    obtain ⟨a, ha, hpa, hqa⟩ := h
    cases ha with
    | head =>
      simp only [List.filter_cons, hpa, hqa, if_true, Bool.false_eq_true, if_false, List.length_cons]
      have := le l
      omega
    | tail _ ha =>
      have ih := filter_less hqp ⟨a, ha, hpa, hqa⟩
      cases hq : q x with
      | true => simpa [List.filter_cons, hq, hqp x hq] using ih
      | false =>
        cases hp : p x with
        | true => simp only [List.filter_cons, hq, hp, if_true, Bool.false_eq_true, if_false, List.length_cons]; omega
        | false => simpa [List.filter_cons, hq, hp] using ih

/-- the first of a list that is not in another -/
theorem first_not {acc : List Nat} : ∀ {C : List Nat}, (∃ i ∈ C, i ∉ acc) → ∃ l1 j l2, C = l1 ++ j :: l2 ∧ j ∉ acc ∧ ∀ p ∈ l1, p ∈ acc
  | [], h => by obtain ⟨i, hi, _⟩ := h; cases hi
  | c :: C, h => by
    by_cases hc : c ∈ acc
    · obtain ⟨i, hi, hn⟩ := h
      have : i ∈ C := by
        cases hi with
        | head => exact absurd hc hn
        | tail _ hi => exact hi
      obtain ⟨l1, j, l2, h1, h2, h3⟩ := first_not ⟨i, this, hn⟩
      refine ⟨c :: l1, j, l2, by rw [h1]; rfl, h2, ?_⟩
      intro p hp
      cases hp with
      | head => exact hc
      | tail _ hp => exact h3 p hp
    · exact ⟨[], c, C, rfl, hc, fun p hp => by cases hp⟩

theorem lin_go {m : Region.Mode} {ops : Array Oper} {C : List Nat} (hC : Ord m ops C) (hall : ∀ i, i < ops.size → i ∈ C) : ∀ (fuel t : Nat) (listed : Array Bool) (acc : List Nat),
    listed.size = ops.size → (∀ i, i < ops.size → (listed[i]? = some true ↔ i ∈ acc)) → (∀ i, listed[i]? = some true → i < ops.size) → acc.Nodup → Ord m ops acc.reverse →
    ((List.range ops.size).filter fun i => !decide (i ∈ acc)).length ≤ fuel → Lin m ops (Region.linearise.go m ops fuel t listed acc)
  | fuel, t, listed, acc, hsz, hl, hlt, hnd, hord, hfuel => by
    have mem : ∀ i, listed.getD i false = true ↔ i ∈ acc := by
      intro i
      rw [Array.getD_eq_getD_getElem?]
      by_cases hi : i < ops.size
      · rw [← hl i hi]
        have : i < listed.size := by omega
        rw [Array.getElem?_eq_getElem this]
        simp
      · rw [Array.getElem?_eq_none (by omega)]
        constructor
        · intro h; cases h
        · intro h; have := hord.lt i (by simpa using h); omega
    have fin : (∀ i, i < ops.size → i ∈ acc) → Lin m ops acc.reverse := fun h => ⟨(List.reverse_perm acc).nodup_iff.2 hnd, fun i => ⟨fun hi => hord.lt i hi, fun hi => by simpa using h i hi⟩, hord.ord⟩
    cases fuel with
    | zero =>
      refine fin fun i hi => ?_
      by_cases hm : i ∈ acc
      · exact hm
      · have : i ∈ (List.range ops.size).filter fun i => !decide (i ∈ acc) := by simp [hi, hm]
        have h0 : (List.range ops.size).filter (fun i => !decide (i ∈ acc)) = [] := List.length_eq_zero_iff.1 (by omega)
        rw [h0] at this; cases this
    | succ fuel =>
      simp only [Region.linearise.go]
      generalize hrs : (List.range ops.size).filter _ = rs
      have hrdy : ∀ i, i ∈ rs ↔ i < ops.size ∧ i ∉ acc ∧ ∀ p, Pred m ops p i → p ∈ acc := by
        intro i
        rw [← hrs, List.mem_filter, List.mem_range]
        constructor
        · rintro ⟨h1, h2⟩
          rw [Bool.and_eq_true] at h2
          obtain ⟨h2, h3⟩ := h2
          have hsome : listed[i]? = some listed[i] := Array.getElem?_eq_getElem (by omega)
          refine ⟨h1, ?_, ?_⟩
          · intro hi
            have hg := (hl i h1).2 hi
            rw [Array.getD_eq_getD_getElem?, hg] at h2
            cases h2
          · rintro p ⟨o, ho, e, he, hb, rfl⟩
            rw [ho] at h3
            simp only [Option.map_some, Option.getD_some] at h3
            have h4 := Array.all_eq_true'.1 h3 e (by simpa using he)
            rw [hb] at h4
            exact (mem _).1 (by simpa using h4)
        · rintro ⟨h1, h2, h3⟩
          refine ⟨h1, ?_⟩
          rw [Bool.and_eq_true]
          constructor
          · have hsome : listed[i]? = some listed[i] := Array.getElem?_eq_getElem (by omega)
            cases hv : listed[i] with
            | true => rw [hv] at hsome; exact absurd ((hl i h1).1 hsome) h2
            | false => rw [Array.getD_eq_getD_getElem?, hsome, hv]; rfl
          · rw [Array.getElem?_eq_getElem h1]
            simp only [Option.map_some, Option.getD_some]
            rw [Array.all_eq_true']
            intro e he
            cases hb : Region.binds m e with
            | false => rfl
            | true =>
              have := h3 e.on ⟨_, Array.getElem?_eq_getElem h1, e, by simpa using he, hb, rfl⟩
              simpa using (mem _).2 this
      split
      · rename_i i hi
        have hir : i ∈ rs := List.mem_of_getElem? hi
        obtain ⟨h1, h2, h3⟩ := (hrdy i).1 hir
        refine lin_go hC hall fuel _ _ (i :: acc) (by simp [hsz]) ?_ ?_ (List.nodup_cons.2 ⟨h2, hnd⟩) ?_ ?_
        · intro j hj
          rw [Array.getElem?_setIfInBounds]
          by_cases hij : i = j
          · subst hij
            simp [hsz, h1]
          · rw [if_neg hij, hl j hj]
            simp only [List.mem_cons]
            constructor
            · exact .inr
            · rintro (h | h)
              · exact absurd h.symm hij
              · exact h
        · intro j hj
          rw [Array.getElem?_setIfInBounds] at hj
          by_cases hij : i = j
          · subst hij; exact h1
          · rw [if_neg hij] at hj; exact hlt j hj
        · rw [List.reverse_cons]
          exact hord.snoc h1 fun p hp => by simpa using h3 p hp
        · have := filter_less (l := List.range ops.size) (p := fun j => !decide (j ∈ acc)) (q := fun j => !decide (j ∈ i :: acc)) (fun a ha => by
            simp only [Bool.not_eq_true', decide_eq_false_iff_not, List.mem_cons, not_or] at ha ⊢
            exact ha.2) ⟨i, by simpa using h1, by simpa using h2, by simp⟩
          omega
      · rename_i hn
        refine fin fun i hi => ?_
        by_cases hm : i ∈ acc
        · exact hm
        · exfalso
          obtain ⟨l1, j, l2, hc1, hc2, hc3⟩ := first_not ⟨i, hall i hi, hm⟩
          have hj : j ∈ rs := (hrdy j).2 ⟨hC.lt j (by rw [hc1]; simp), hc2, fun p hp => hc3 p (hC.ord l1 j l2 hc1 p hp)⟩
          have hlen : 0 < rs.length := List.length_pos_of_mem hj
          rw [List.getElem?_eq_getElem (Nat.mod_lt t hlen)] at hn
          cases hn

theorem linearise_lin {m : Region.Mode} {ops : Array Oper} {C : List Nat} (hC : Ord m ops C) (hall : ∀ i, i < ops.size → i ∈ C) (t : Nat) : Lin m ops (Region.linearise m ops t) := by
  refine lin_go hC hall _ _ _ [] (by simp) ?_ ?_ List.nodup_nil ⟨fun l1 j l2 h => by simp at h, fun i h => by simp at h⟩ ?_
  · intro i hi
    simp [Array.getElem?_replicate]
  · intro i hi
    simp [Array.getElem?_replicate] at hi
  · have := List.length_filter_le (fun i => !decide (i ∈ ([] : List Nat))) (List.range ops.size)
    simpa using this

theorem Lin.any {m : Region.Mode} {ops : Array Oper} {L : List Nat} (h : Lin m ops L) : Lin .any ops L := by
  refine ⟨h.nodup, h.all, fun l1 j l2 he p hp => h.ord l1 j l2 he p ?_⟩
  obtain ⟨o, ho, e, hm, hb, rfl⟩ := hp
  refine ⟨o, ho, e, hm, ?_, rfl⟩
  unfold Region.binds at hb ⊢
  split at hb <;> first | (cases hb; done) | rfl | simp_all

theorem plan_lin {ops : Array Oper} {ps : List PS} (h : plan ops = some ps) (mixed : Bool) (t : Nat) : PlanOk ops (Region.before ops) 0 [] ps ∧ Lin .any ops (Region.schedule mixed ops t) := by
  obtain ⟨hd, h⟩ := bc_some h
  have hp := planF_ok h
  have h0 : ∀ m, Ord m ops [] := fun m => ⟨fun l1 j l2 h => by simp at h, fun i h => by cases h⟩
  have hb : ∀ i, Nat.testBit 0 i = true ↔ i ∈ ([] : List Nat) := fun i => by simp
  refine ⟨hp, ?_⟩
  unfold Region.schedule
  split
  · obtain ⟨C, h1, h2⟩ := hp.ord (h0 _) hb
    exact linearise_lin h1 h2 t
  · rename_i hc
    have hdep : Region.departs ops = true := by
      cases hq : Region.departs ops with
      | true => rfl
      | false => rw [hq] at hc; simp at hc
    rw [hdep] at hd
    have hd : (lcF .text ops ops.size 0 && lcF .gc ops ops.size 0) = true := hd
    rw [Bool.and_eq_true] at hd
    split
    · obtain ⟨C, h1, h2⟩ := lcF_ord hd.1 (h0 _) hb
      exact (linearise_lin h1 h2 _).any
    · obtain ⟨C, h1, h2⟩ := lcF_ord hd.2 (h0 _) hb
      exact (linearise_lin h1 h2 _).any

/-! what surely comes before -/
theorem before_lin {ops : Array Oper} {L : List Nat} (hL : Lin .any ops L) {i p : Nat} (hb : Nat.testBit ((Region.before ops).getD i 0) p = true) : ∀ l1 l2, L = l1 ++ i :: l2 → p ∈ l1 := by
  -- each bit is a predecessor in every such list
  have key : ∀ (done : List Oper) (acc : Array Nat), (∀ k, (hk : k < acc.size) → k < ops.size) → acc.size + done.length = ops.size → (∀ d o, done[d]? = some o → ops[acc.size + d]? = some o) →
      (∀ i p, Nat.testBit (acc.getD i 0) p = true → ∀ l1 l2, L = l1 ++ i :: l2 → p ∈ l1) →
      ∀ i p, Nat.testBit ((done.foldl (fun acc o => acc.push (o.after.foldl (fun s e => if Region.binds .any e then s ||| 2 ^ e.on ||| acc.getD e.on 0 else s) 0)) acc).getD i 0) p = true → ∀ l1 l2, L = l1 ++ i :: l2 → p ∈ l1 := by
    intro done
    induction done with
    | nil => intro acc _ _ _ h; exact h
    | cons o done ih =>
      intro acc hacc hsize hops h
      simp only [List.foldl_cons]
      refine ih _ (fun k hk => ?_) ?_ ?_ ?_
      · simp only [Array.size_push] at hk; simp only [List.length_cons] at hsize; omega
      · simp only [Array.size_push]; simp only [List.length_cons] at hsize; omega
      · intro d o' hd
        have := hops (d + 1) o' (by simpa using hd)
        simp only [Array.size_push]
        rwa [show acc.size + 1 + d = acc.size + (d + 1) by omega]
      · intro i p hbit l1 l2 he
        rw [Array.getD_eq_getD_getElem?, Array.getElem?_push] at hbit
        split at hbit
        · rename_i hi
          have ho : ops[acc.size]? = some o := by simpa using hops 0 o (by simp)
          subst hi
          simp only [Option.getD_some] at hbit
          rw [← Array.foldl_toList] at hbit
          -- one edge after the other
          have inner : ∀ (es : List Edge) (s : Nat), (∀ e ∈ es, e ∈ o.after.toList) → (∀ p, Nat.testBit s p = true → p ∈ l1) →
              Nat.testBit (es.foldl (fun s e => if Region.binds .any e then s ||| 2 ^ e.on ||| acc.getD e.on 0 else s) s) p = true → p ∈ l1 := by
            intro es
            induction es with
            | nil => intro s _ hs hp; exact hs p hp
            | cons e es ih2 =>
              intro s hes hs hp
              simp only [List.foldl_cons] at hp
              refine ih2 _ (fun e' he' => hes e' (by simp [he'])) ?_ hp
              intro p' hp'
              split at hp'
              · rename_i hbe
                rw [Nat.testBit_or, Nat.testBit_or, Nat.testBit_two_pow] at hp'
                simp only [Bool.or_eq_true, decide_eq_true_eq] at hp'
                have hon : e.on ∈ l1 := hL.ord l1 _ l2 he e.on ⟨o, ho, e, hes e (by simp), hbe, rfl⟩
                rcases hp' with (hp' | hp') | hp'
                · exact hs p' hp'
                · subst hp'; exact hon
                · obtain ⟨a, b, hab⟩ := List.append_of_mem hon
                  have := h e.on p' hp' a (b ++ acc.size :: l2) (by rw [he, hab]; simp)
                  rw [hab]; simp [this]
              · exact hs p' hp'
          exact inner o.after.toList 0 (fun e he => he) (fun p hp => by simp at hp) hbit
        · exact h i p (by rw [Array.getD_eq_getD_getElem?]; exact hbit) l1 l2 he
  unfold Region.before at hb
  rw [← Array.foldl_toList] at hb
  exact key ops.toList #[] (fun k hk => by simp at hk) (by simp) (fun d o hd => by simpa using hd) (fun i p hp => by simp at hp) i p hb

theorem fits_sound {ops : Array Oper} {m : Nat} {o : Oper} {eff : Bool} : ∀ {done : List (Nat × Oper)}, fits ops m o eff done = true → ∀ a ∈ done,
    (∀ t, a.2.dst = some t → readsT ops o t = true → Nat.testBit m a.1 = true) ∧ (∀ t, o.dst = some t → (readsT ops a.2 t = true ∨ a.2.dst = some t) → eff = true ∧ Nat.testBit m a.1 = true)
  | [], _, a, ha => by cases ha
  | (i, o') :: r, h, a, ha => by
    simp only [fits, Bool.and_eq_true] at h
    obtain ⟨⟨h1, h2⟩, h3⟩ := h
    cases ha with
    | head =>
      constructor
      · intro t ht hr
        simp only at ht
        rw [ht] at h1
        simp only [hr, Bool.not_true, Bool.false_or] at h1
        exact h1
      · intro t ht hr
        rw [ht] at h2
        simp only [Bool.or_eq_true, Bool.not_eq_true', Bool.and_eq_true] at h2
        rcases h2 with h2 | h2
        · rw [Bool.or_eq_false_iff] at h2
          rcases hr with hr | hr
          · rw [h2.1] at hr; cases hr
          · have hr : o'.dst = some t := hr
            rw [hr] at h2
            simp [isD] at h2
        · exact h2
    | tail _ ha => exact fits_sound h3 a ha
end Go.Ax
