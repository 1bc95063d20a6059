/- Part of an abstract executor of the model's machine, and of its law (S33). -/
import Derived.Test.YtlfocffihiephaaGreatDoorXS32
namespace Go.Ax
open Go.RowKit (Below)
variable {P : Program} {D : Nat → Nat} {base : Nat} {w0 : World} {f0 : Nat} {cs0 : List Frame}

section
variable {E : En} {h : H} {fl nx : Nat} {mask x : Nat} {ops : Array Oper} {done : List (Nat × Oper)} {pre rest : List Nat} {ns : List Tmp} {tm : Tm} {e : List AV} {tmps : Array Value} {B : Nat → Nat}
  {i b : Nat} {o : Oper} {v : AV} {V : Value}

/-- what is pending is not read by what stands at the head -/
theorem head_reads (d : DInv P true E h fl nx mask ops x done pre (i :: rest) ns tm e tmps B) (hb : ∀ a ∈ done, ∀ t, a.2.dst = some t → readsT ops o t = true → Nat.testBit ((Region.before ops).getD i 0) a.1 = true) :
    ∀ t, readsT ops o t = true → ¬ ∃ a ∈ done, a.1 ∈ i :: rest ∧ a.2.dst = some t := by
  rintro t ht ⟨a, ha, har, hat⟩
  have := before_lin d.lin (hb a ha t hat ht) pre rest rfl
  exact Lin.apart d.lin this har

theorem Kind.weak {s : Bool} {ns0 : List Tmp} {tm0 : Tm} {e0 : List AV} (q : Kind P s E h fl nx mask ns0 tm0 e0 b o v) : Kind P true E h fl nx mask ns0 tm0 e0 b o v := by
  cases q with
  | pure hk hf => exact .pure hk hf
  | reads hk hf => exact .reads hk (.inl rfl)
  | makes hk hb h1 h2 h3 ab kv hg hv hf => exact .makes hk hb h1 h2 h3 ab kv hg hv hf
theorem DInv.weak {s : Bool} (d : DInv P s E h fl nx mask ops x done pre rest ns tm e tmps B) : DInv P true E h fl nx mask ops x done pre rest ns tm e tmps B := by
  refine { d with pf := ?_ }
  intro a ha har
  obtain ⟨ns0, tm0, e0, v0, wb0, q⟩ := d.pf a ha har
  exact ⟨ns0, tm0, e0, v0, wb0, q.same, q.want, q.dst, q.off, fun hh => ⟨(q.on hh).1, (q.on hh).2.weak⟩⟩

/-- a pending operation has been run -/
theorem DInv.ran {E' : En} (d : DInv P false E h fl nx mask ops x done pre (i :: rest) ns tm e tmps B) (hx : Nat.testBit x i = true) (hio : (i, o) ∈ done)
    (hv : ∀ t, o.dst = some t → VR E' ((opd mask ns (.tmp t)).g tm e) V) (hle : ∃ k, En.le k E E') (hE : ∀ a ∈ done, a.1 ∈ rest → E.m (B a.1) = none → E'.m (B a.1) = none) :
    DInv P false E' h fl nx mask ops x done (pre ++ [i]) rest ns tm e (putT tmps o.dst V) B := by
  obtain ⟨k, hle⟩ := hle
  have hlin : pre ++ [i] ++ rest = pre ++ i :: rest := by simp
  have uniq : ∀ a ∈ done, a.1 = i → a.2 = o := by
    intro a ha hai
    have h1 := (d.h3 a ha).1
    have h2 := (d.h3 (i, o) hio).1
    rw [hai] at h1
    simp only at h2
    rw [h1] at h2
    exact Option.some.inj h2
  refine ⟨by rw [hlin]; exact d.lin, ?_, fun j hj => d.h2 j (.tail _ hj), d.h3, d.st, d.un, ?_, ?_, fun a ha c hc har hcr => d.inj a ha c hc (.tail _ har) (.tail _ hcr), fun a ha har => d.bk a ha (.tail _ har), fun a ha t ht => by rw [putT_size]; exact d.dl a ha t ht⟩
  · intro j hj
    simp only [List.mem_append, List.mem_singleton] at hj
    rcases hj with hj | rfl
    · exact d.h1 j hj
    · exact hx
  · intro u hu hp
    by_cases hd : o.dst = some u
    · have hlt := d.dl (i, o) hio u hd
      have : (putT tmps o.dst V).getD u Go.undef = V := by rw [hd]; simp [putT, Array.getD_eq_getD_getElem?, hlt]
      rw [this]
      exact hv u hd
    · have : (putT tmps o.dst V).getD u Go.undef = tmps.getD u Go.undef := by
        cases hdd : o.dst with
        | none => rfl
        | some t =>
          have hne : t ≠ u := fun hh => hd (by rw [hdd, hh])
          simp [putT, Array.getD_eq_getD_getElem?, Array.getElem?_setIfInBounds_ne hne]
      rw [this]
      refine (d.tr u hu ?_).mono hle
      rintro ⟨a, ha, har, hat⟩
      cases har with
      | head => rw [uniq a ha rfl] at hat; exact hd hat
      | tail _ har => exact hp ⟨a, ha, har, hat⟩
  · intro a ha har
    obtain ⟨ns0, tm0, e0, v0, wb0, q⟩ := d.pf a ha (.tail _ har)
    refine ⟨ns0, tm0, e0, v0, wb0, q.same, q.want, q.dst, q.off, fun hh => ⟨(q.on hh).1, ?_⟩⟩
    cases (q.on hh).2 with
    | pure hk hf => exact .pure hk hf
    | reads hk hf => exact .reads hk hf
    | makes hk hb h1 h2 h3 ab kv hg hv hf => exact .makes hk (hE a ha har hb) h1 h2 h3 ab kv hg hv hf

/-- an effect's value is put -/
theorem DInv.eff {s : Bool} {E' : En} {h' : H} {nx' n : Nat} {tm' : Tm} {e' : List AV} (d : DInv P s E h fl nx mask ops x done pre (i :: rest) ns tm e tmps B) (hx : Nat.testBit x i = false)
    (hf : fits ops ((Region.before ops).getD i 0) o true done = true) (hsz : tmps.size = n) (hbd : mask < 2 ^ n) (hput : PutOk mask n o.dst v ns tm e tm' e') (hv : VR E' v V) (hle : ∃ k, En.le k E E') (hn : nx ≤ nx')
    (hkind : ∀ a ∈ done, a.1 ∈ rest → ∀ ns0 tm0 e0 v0, Kind P s E h fl nx mask ns0 tm0 e0 (B a.1) a.2 v0 → Kind P s E' h' fl nx' mask ns0 tm0 e0 (B a.1) a.2 v0) :
    DInv P s E' h' fl nx' mask ops (Nat.lor x (Nat.shiftLeft 1 i)) done (pre ++ [i]) rest (names' mask o.dst ns) tm' e' (putT tmps o.dst V) B := by
  obtain ⟨k, hle⟩ := hle
  have hfit := fits_sound hf
  have hlin : pre ++ [i] ++ rest = pre ++ i :: rest := by simp
  have hbit : ∀ j, Nat.testBit (Nat.lor x (Nat.shiftLeft 1 i)) j = true ↔ Nat.testBit x j = true ∨ i = j := fun j => by rw [bit_add]; simp
  have hni := d.lin.notin
  have hnd : ∀ a ∈ done, a.1 ≠ i := fun a ha hh => by have := (d.h3 a ha).2.1; rw [hh, hx] at this; cases this
  have free : ∀ a ∈ done, a.1 ∈ rest → ∀ t, o.dst = some t → readsT ops a.2 t = false ∧ a.2.dst ≠ some t := by
    intro a ha har t ht
    have no : ¬ (readsT ops a.2 t = true ∨ a.2.dst = some t) := by
      intro hq
      have := ((hfit a ha).2 t ht hq).2
      have := before_lin d.lin this pre rest rfl
      exact Lin.apart d.lin this (.tail _ har)
    constructor
    · cases hq : readsT ops a.2 t with
      | false => rfl
      | true => exact absurd (.inl hq) no
    · exact fun hq => no (.inr hq)
  refine ⟨by rw [hlin]; exact d.lin, ?_, ?_, ?_, d.st, d.un, ?_, ?_, fun a ha c hc har hcr => d.inj a ha c hc (.tail _ har) (.tail _ hcr), ?_, fun a ha t ht => by rw [putT_size]; exact d.dl a ha t ht⟩
  · intro j hj
    simp only [List.mem_append, List.mem_singleton] at hj
    rcases hj with hj | rfl
    · exact (hbit j).2 (.inl (d.h1 j hj))
    · exact (hbit j).2 (.inr rfl)
  · intro j hj hb
    rcases (hbit j).1 hb with hb | rfl
    · exact d.h2 j (.tail _ hj) hb
    · exact absurd hj hni.2
  · intro a ha
    obtain ⟨h1, h2, h3⟩ := d.h3 a ha
    exact ⟨h1, (hbit _).2 (.inl h2), h3⟩
  · refine TR.put (T := TR.mono hle d.tr) hput hsz hbd hv ?_
    intro u hu
    refine .inr fun ⟨a, ha, har, hat⟩ => hu ⟨a, ha, ?_, hat⟩
    cases har with
    | head => exact absurd rfl (hnd a ha)
    | tail _ har => exact har
  · intro a ha har
    obtain ⟨ns0, tm0, e0, v0, wb0, q⟩ := d.pf a ha (.tail _ har)
    refine ⟨ns0, tm0, e0, v0, wb0, ?_, q.want, ?_, q.off, fun hh => ⟨(q.on hh).1, hkind a ha har _ _ _ _ (q.on hh).2⟩⟩
    · intro t ht hk0
      have hd : o.dst ≠ some t := fun hh => by rw [(free a ha har t hh).1] at ht; cases ht
      obtain ⟨h1, h2⟩ := hput.other t hd
      obtain ⟨s1, s2⟩ := q.same t ht hk0
      exact ⟨by rw [h1]; exact s1, by rw [h2 s1]; exact s2⟩
    · intro t ht
      have hd : o.dst ≠ some t := fun hh => (free a ha har t hh).2 ht
      obtain ⟨h1, h2⟩ := hput.other t hd
      obtain ⟨s1, s2⟩ := q.dst t ht
      exact ⟨by rw [h1]; exact s1, by rw [h2 s1]; exact s2⟩
  · intro a ha har
    rcases d.bk a ha (.tail _ har) with h1 | h1
    · exact .inl h1
    · exact .inr (by omega)

/-- the floating reads have been looked at anew -/
theorem DInv.checked {r : St} {K : O} (d : DInv P true E h fl nx mask ops x done (pre ++ [i]) rest ns tm e tmps B)
    (hr : (crecheck P mask ops ns (readersR ((Region.before ops).getD i 0) done)).c tm e h nx K = some r) : K = some r ∧ DInv P false E h fl nx mask ops x done (pre ++ [i]) rest ns tm e tmps B := by
  obtain ⟨hK, hrc⟩ := crecheck_sound readersR_all hr
  refine ⟨hK, { d with pf := ?_ }⟩
  intro a ha har
  obtain ⟨ns0, tm0, e0, v0, wb0, q⟩ := d.pf a ha har
  have hnb : Nat.testBit ((Region.before ops).getD i 0) a.1 = false := by
    cases hb : Nat.testBit ((Region.before ops).getD i 0) a.1 with
    | false => rfl
    | true =>
      have := before_lin d.lin hb pre rest (by simp)
      exact (Lin.apart d.lin (List.mem_append.2 (.inl this)) har).elim
  by_cases hk : okind a.2 = .reads
  · obtain ⟨t, wb, h1, h2, h3, h4, h5⟩ := hrc a.2 (readersR_mem a ha hnb hk) 
    have hwant := cwant_same q.same q.want
    rw [hwant] at h4
    have hwb : wb0 = wb := Option.some.inj h4
    subst hwb
    have hv0 := (q.dst t h1).2
    refine ⟨ns, tm, e, v0, wb0, fun u hu hk0 => ⟨hk0, rfl⟩, hwant, q.dst, q.off, fun hh => ⟨h2, .reads hk (.inr ⟨h, fun _ _ hh => hh, fun nx K => ?_⟩)⟩⟩
    rw [← hv0]
    exact h5 hh nx K
  · refine ⟨ns0, tm0, e0, v0, wb0, q.same, q.want, q.dst, q.off, fun hh => ⟨(q.on hh).1, ?_⟩⟩
    cases (q.on hh).2 with
    | pure hk hf => exact .pure hk hf
    | reads hk' hf => exact absurd hk' hk
    | makes hk hb h1 h2 h3 ab kv hg hv hf => exact .makes hk hb h1 h2 h3 ab kv hg hv hf
end

/-! the machine runs what is pending -/
section
variable {h : H} {fl nx : Nat} {x : Nat} {ops : Array Oper} {done : List (Nat × Oper)} {ns : List Tmp} {tm : Tm} {e : List AV} {B : Nat → Nat} {fs : FS} {df : List ADf} {cs : List Fr} {td : List AI} {fcs : List Frame} {k : List Item}
  {j : J} {r : St}

theorem flush_one {E : En} {i : Nat} {pre rest : List Nat} {fr : Frame} {w : World} (R : HR D base w0 E h nx w) (hfl : fl ≤ nx) (hb : FrB D E fs df fr) (hm : fr.mode = .run) (hi : fr.todo = .inRegion ops (i :: rest) :: k)
    (C : CsR P D f0 cs0 E h fl fs.fn fs.dk cs fcs) (hk : ItL E td k) (hx : Nat.testBit x i = true) (d : DInv P false E h fl nx (D fs.fn) ops x done pre (i :: rest) ns tm e fr.tmps B) :
    ∃ E' fr' w', step P (lone fr fcs w) = .next (lone fr' fcs w') ∧ HR D base w0 E' h nx w' ∧ FrB D E' fs df fr' ∧ fr'.mode = .run ∧ fr'.todo = .inRegion ops rest :: k ∧ CsR P D f0 cs0 E' h fl fs.fn fs.dk cs fcs ∧ ItL E' td k ∧
      DInv P false E' h fl nx (D fs.fn) ops x done (pre ++ [i]) rest ns tm e fr'.tmps B := by
  obtain ⟨o, hio⟩ := d.h2 i (.head _) hx
  obtain ⟨ho, _, hne⟩ := d.h3 (i, o) hio
  simp only at ho hne
  obtain ⟨ns0, tm0, e0, v, wb, q⟩ := d.pf (i, o) hio (.head _)
  have hread := head_reads (o := o) d.weak fun a ha t hat ht => d.st a ha (i, o) hio t hat ht
  -- the temporaries that the operation reads
  have T0 : TR E (D fs.fn) ns0 tm0 e0 fr.tmps (fun t => readsT ops o t = false) := by
    intro t hk0 hn
    have ht : readsT ops o t = true := by cases hq : readsT ops o t with | true => rfl | false => exact absurd hq hn
    obtain ⟨s1, s2⟩ := q.same t ht hk0
    rw [← s2]
    exact d.tr t s1 (hread t ht)
  have hwant : Region.wanted o (yielded ops fr.tmps) = wb := cwant_sound T0 q.want fun jj want t hg hd hh => by
    have : readsT ops o t = true := by simp [readsT, hg, hd, isD]
    rw [this] at hh; cases hh
  have hfin : ∀ V, fr.finish V = { fr with tmps := putT fr.tmps o.dst V, todo := .inRegion ops rest :: k } := finish_reg hi ho
  -- what follows from a value
  have fin : ∀ (V : Value) (E' : En) (w' : World), step P (lone fr fcs w) = .next (lone (fr.finish V) fcs w') → HR D base w0 E' h nx w' → En.le fl E E' → VR E' v V → (∀ a ∈ done, a.1 ∈ rest → E.m (B a.1) = none → E'.m (B a.1) = none) →
      ∃ E' fr' w', step P (lone fr fcs w) = .next (lone fr' fcs w') ∧ HR D base w0 E' h nx w' ∧ FrB D E' fs df fr' ∧ fr'.mode = .run ∧ fr'.todo = .inRegion ops rest :: k ∧ CsR P D f0 cs0 E' h fl fs.fn fs.dk cs fcs ∧ ItL E' td k ∧
      DInv P false E' h fl nx (D fs.fn) ops x done (pre ++ [i]) rest ns tm e fr'.tmps B := by
    intro V E' w' hst R' hle hv hE
    have hb' := hb.mono hle
    refine ⟨E', _, w', hst, R', ?_, ?_, ?_, C.keep ⟨hle, fun _ _ _ => rfl⟩, hk.mono hle, ?_⟩
    · rw [hfin]
      exact ⟨hb'.fn, by show (putT fr.tmps o.dst V).size = fs.n; rw [putT_size]; exact hb.size, hb'.bound, hb'.df, hb'.kind, hb'.rd⟩
    · rw [hfin]; exact hm
    · rw [hfin]
    · rw [hfin]
      exact d.ran hx hio (fun t ht => by rw [(q.dst t ht).2]; exact hv) ⟨fl, hle⟩ hE
  cases wb with
  | false =>
    have hv := q.off rfl
    subst hv
    exact fin Go.undef E w (step_unwanted hm hi ho hwant) R (.refl _ _) (undef_sound E) fun _ _ _ hh => hh
  | true =>
    obtain ⟨hok, hkind⟩ := q.on rfl
    have hop : Ops E (D fs.fn) ns0 tm0 e0 fr.eval o := ops_sound T0 hok fun t ht hh => by
      have : readsT ops o t = true := by
        simp only [readsT, Bool.or_eq_true, List.any_eq_true]
        exact .inl ⟨_, ht, by simp [isT]⟩
      rw [this] at hh; cases hh
    have hnd := okind_nodefer hne
    have pu : ∀ h0, Sub h0 h → (cop P (D fs.fn) ns0 o).f tm0 e0 h0 nx (fun v h nx => some (.fin v h nx)) = some (.fin v h0 nx) → (okind o = .pure ∨ okind o = .reads) → ∃ E' fr' w', step P (lone fr fcs w) = .next (lone fr' fcs w') ∧ HR D base w0 E' h nx w' ∧ FrB D E' fs df fr' ∧ fr'.mode = .run ∧ fr'.todo = .inRegion ops rest :: k ∧ CsR P D f0 cs0 E' h fl fs.fn fs.dk cs fcs ∧ ItL E' td k ∧
      DInv P false E' h fl nx (D fs.fn) ops x done (pre ++ [i]) rest ns tm e fr'.tmps B := by
      intro h0 hs hc hkk
      obtain ⟨v', V, h1, h2, h3⟩ := pu_sound (R.sub hs) hkk hop hc
      cases h1
      exact fin V E w (step_value hm hi ho hwant (.inr hnd) (.inl h3)) R (.refl _ _) h2 fun _ _ _ hh => hh
    cases hkind with
    | pure hkk hf => exact pu h (fun _ _ hh => hh) (hf h nx _) (.inl hkk)
    | reads hkk hf =>
      rcases hf with hf | ⟨h0, hs, hf⟩
      · cases hf
      · exact pu h0 hs (hf nx _) (.inr hkk)
    | makes hkk hEb h1 h2 h3 ab kv hg hv hf =>
      have hc := hf bnil (B i) (fun v h nx => some (.fin v h nx))
      have hnew : newB ab bnil (B i) (fun b h' nx' => (some (.fin (kv b) h' nx') : O)) = some (.fin (kv (B i)) (bput (B i) (some ab) bnil) (B i + 1)) := by
        show bc (Nat.blt (B i) 262143) _ none = _
        have : Nat.blt (B i) 262143 = true := by simpa using h3
        rw [this, bc_true, dig_eq]
      rw [hnew] at hc
      obtain ⟨ab', kv', qq, ob, V, hn, br, hV, hrun⟩ := mk_sound (P := P) (D := D) (w := w) hkk hop hc
      obtain ⟨_, hn⟩ := newB_some hn
      simp only [Option.some.injEq, St.fin.injEq] at hn
      obtain ⟨hn1, hn2, _⟩ := hn
      have hab : ab' = ab := by
        have h4 : bget (B i) (bput (B i) (some ab') bnil) = some ab' := by rw [bget_put, if_pos ⟨rfl, by omega⟩]
        have h5 : bget (B i) (bput (B i) (some ab) bnil) = some ab := by rw [bget_put, if_pos ⟨rfl, by omega⟩]
        rw [hn2, h5] at h4
        exact (Option.some.inj h4).symm
      subst hab
      have hle := E.put_low (w.heap.size, qq) hEb h1
      refine fin V (E.put (B i) (w.heap.size, qq)) (w.alloc ob) (step_value hm hi ho hwant (.inr hnd) (.inl hrun)) (R.place hEb h2 hg br) hle ?_ ?_
      · rw [hv, ← hn1]; exact hV _ _ (En.put_at _ _ _)
      · intro a ha har hn
        have hne' : B a.1 ≠ B i := fun hh => by
          have := d.inj a ha (i, o) hio (.tail _ har) (.head _) hh
          simp only at this
          exact d.lin.notin.2 (this ▸ har)
        show (if B a.1 = B i then _ else E.m (B a.1)) = none
        rw [if_neg hne']; exact hn

theorem flush_goes : ∀ (l1 : List Nat) {rest2 pre : List Nat} {E : En} {fr : Frame} {w : World}, HR D base w0 E h nx w → fl ≤ nx → FrB D E fs df fr → fr.mode = .run → fr.todo = .inRegion ops (l1 ++ rest2) :: k →
    CsR P D f0 cs0 E h fl fs.fn fs.dk cs fcs → ItL E td k → (∀ i ∈ l1, Nat.testBit x i = true) → DInv P false E h fl nx (D fs.fn) ops x done pre (l1 ++ rest2) ns tm e fr.tmps B →
    (∀ (E' : En) (fr' : Frame) (w' : World), HR D base w0 E' h nx w' → FrB D E' fs df fr' → fr'.mode = .run → fr'.todo = .inRegion ops rest2 :: k → CsR P D f0 cs0 E' h fl fs.fn fs.dk cs fcs → ItL E' td k →
      DInv P false E' h fl nx (D fs.fn) ops x done (pre ++ l1) rest2 ns tm e fr'.tmps B → Goes P D base w0 f0 cs0 (lone fr' fcs w') j r) →
    Goes P D base w0 f0 cs0 (lone fr fcs w) j r
  | [], rest2, pre, E, fr, w, R, hfl, hb, hm, hi, C, hk, hx, d, go => go E fr w R hb hm hi C hk (by simpa using d)
  | i :: l1, rest2, pre, E, fr, w, R, hfl, hb, hm, hi, C, hk, hx, d, go => by
    obtain ⟨E', fr', w', hst, R', hb', hm', hi', C', hk', d'⟩ := flush_one (rest := l1 ++ rest2) R hfl hb hm hi C hk (hx i (.head _)) d
    refine .of_steps (.one hst) (flush_goes l1 R' hfl hb' hm' hi' C' hk' (fun q hq => hx q (.tail _ hq)) d' ?_)
    intro E'' fr'' w'' R'' hb'' hm'' hi'' C'' hk'' d''
    exact go E'' fr'' w'' R'' hb'' hm'' hi'' C'' hk'' (by simpa using d'')
end

/-- before an effect the machine runs nothing but what the plan is through with -/
theorem before_eff {ops : Array Oper} {x i : Nat} {pre l1 l2 : List Nat} (hl : Lin .any ops (pre ++ (l1 ++ i :: l2))) (h1 : ∀ q ∈ pre, Nat.testBit x q = true)
    (only : ∀ q o', ops[q]? = some o' → Nat.testBit x q = false → direct .any x o' = true → q = i) : ∀ q ∈ l1, Nat.testBit x q = true := by
  -- the first that is not
  have key : ∀ (a b : List Nat), l1 = a ++ b → (∀ q ∈ a, Nat.testBit x q = true) → ∀ q ∈ b, Nat.testBit x q = true := by
    intro a b
    induction b generalizing a with
    | nil => intro _ _ q hq; cases hq
    | cons c b ih =>
      intro hab ha
      have hc : Nat.testBit x c = true := by
        cases hq : Nat.testBit x c with
        | true => rfl
        | false =>
          exfalso
          have hlt : c < ops.size := (hl.all c).1 (by rw [hab]; simp)
          have heq : pre ++ (l1 ++ i :: l2) = (pre ++ a) ++ c :: (b ++ i :: l2) := by rw [hab]; simp
          have hdir : direct .any x ops[c] = true := by
            simp only [direct, List.all_eq_true]
            intro e he
            cases hbd : Region.binds .any e with
            | false => rfl
            | true =>
              have := hl.ord _ c _ heq e.on ⟨ops[c], Array.getElem?_eq_getElem hlt, e, he, hbd, rfl⟩
              simp only [Bool.not_true, Bool.false_or]
              rcases List.mem_append.1 this with h | h
              · exact h1 _ h
              · exact ha _ h
          have := only c _ (Array.getElem?_eq_getElem hlt) hq hdir
          subst this
          have := hl.nodup
          rw [heq, List.nodup_append] at this
          have h3 := this.2.1
          rw [List.nodup_cons] at h3
          exact h3.1 (by simp)
      intro q hq
      cases hq with
      | head => exact hc
      | tail _ hq => exact ih (a ++ [c]) (by rw [hab]; simp) (fun q hq => by
          rcases List.mem_append.1 hq with h | h
          · exact ha q h
          · simp only [List.mem_singleton] at h; subst h; exact hc) q hq
  exact key [] l1 rfl fun q hq => by cases hq

section
variable {fl x : Nat} {ops : Array Oper} {done : List (Nat × Oper)} {fs : FS} {cs : List Fr} {td : List AI} {fcs : List Frame} {k : List Item} {j : J} {r : St}

/-- a region that draws its order, from a place of the plan on -/
def PlanGoes (P : Program) (D : Nat → Nat) (base : Nat) (w0 : World) (f0 : Nat) (cs0 : List Frame) (ops : Array Oper) (fs : FS) (cs : List Fr) (td : List AI) (fcs : List Frame) (k : List Item) (j : J) (r : St) (fl x : Nat) (done : List (Nat × Oper)) (ps : List PS) : Prop :=
  ∀ (pre rest : List Nat) (ns : List Tmp) (E : En) (h : H) (nx : Nat) (w : World) (df : List ADf) (tm : Tm) (e : List AV) (fr : Frame) (B : Nat → Nat), HR D base w0 E h nx w → fl ≤ nx → FrB D E fs df fr → fr.mode = .run →
    fr.todo = .inRegion ops rest :: k → CsR P D f0 cs0 E h fl fs.fn fs.dk cs fcs → ItL E td k → DInv P false E h fl nx (D fs.fn) ops x done pre rest ns tm e fr.tmps B →
    (cplan P D (D fs.fn) ops ns ps).r (.mk ⟨fs, df, cs⟩ td j) tm e h nx = some r → Goes P D base w0 f0 cs0 (lone fr fcs w) j r

/-- behind an effect's value -/
theorem eff_after {i : Nat} {o : Oper} {ps : List PS} {E : En} {h : H} {nx : Nat} {pre rest : List Nat} {ns : List Tmp} {df : List ADf} {tm : Tm} {e : List AV} {fr : Frame} {B : Nat → Nat}
    (ih : PlanGoes P D base w0 f0 cs0 ops fs cs td fcs k j r fl (Nat.lor x (Nat.shiftLeft 1 i)) done ps)
    (ho : ops[i]? = some o) (hx : Nat.testBit x i = false) (hf : fits ops ((Region.before ops).getD i 0) o true done = true)
    (hfl : fl ≤ nx) (hb : FrB D E fs df fr) (hm : fr.mode = .run) (hi : fr.todo = .inRegion ops (i :: rest) :: k) (C : CsR P D f0 cs0 E h fl fs.fn fs.dk cs fcs) (hk : ItL E td k)
    (d : DInv P true E h fl nx (D fs.fn) ops x done pre (i :: rest) ns tm e fr.tmps B) :
    After P D base w0 f0 cs0 E h nx fs cs td j tm e fr fcs (cput (D fs.fn) o.dst (checkR P (D fs.fn) ops (names' (D fs.fn) o.dst ns) (readersR ((Region.before ops).getD i 0) done) (cplan P D (D fs.fn) ops (names' (D fs.fn) o.dst ns) ps))) r := by
  refine after_put (mask := D fs.fn) (ns := ns) hfl hb hm hi ho C hk ?_
  intro v V E' h' nx' w' df' fr' tm' e' hv hkeep hnx R' hb' hm' hi' ht hput C' hk' hfl' hr'
  have d1 := DInv.eff (h' := h') d hx hf hb.size hb.bound hput hv ⟨nx, hkeep.le⟩ hnx fun a ha har ns0 tm0 e0 v0 q => (q.keep hkeep).grow (fun _ _ hh => hh) hnx
  rw [← ht] at d1
  have hr'' : (crecheck P (D fs.fn) ops (names' (D fs.fn) o.dst ns) (readersR ((Region.before ops).getD i 0) done)).c tm' e' h' nx' ((cplan P D (D fs.fn) ops (names' (D fs.fn) o.dst ns) ps).r (.mk ⟨fs, df', cs⟩ td j) tm' e' h' nx') = some r := by
    unfold checkR at hr'
    split at hr'
    · rename_i hrc; rw [hrc]; exact hr'
    · exact hr'
  obtain ⟨hr3, d2⟩ := d1.checked hr''
  exact ih _ _ _ E' h' nx' w' df' tm' e' fr' B R' hfl' hb' hm' hi' C' hk' d2 hr3

theorem cplan_goes {ps : List PS} (hp : PlanOk ops (Region.before ops) x done ps) : PlanGoes P D base w0 f0 cs0 ops fs cs td fcs k j r fl x done ps := by
  induction hp with
  | nil hall =>
    intro pre rest ns E h nx w df tm e fr B R hfl hb hm hi C hk d hr
    refine flush_goes rest (rest2 := []) R hfl hb hm (by simpa using hi) C hk ?_ (by simpa using d) ?_
    · intro i hi'
      exact all_bits hall i ((d.lin.all i).1 (by simp [hi']))
    · intro E' fr' w' R' hb' hm' hi' C' hk' d'
      refine regionEnd_goes (mask := D fs.fn) (ns := ns) R' hfl hb' hm' hi' (d'.tr.slots ?_) C' hk' hr
      rintro t ⟨a, ha, har, _⟩
      cases har
  | @fl x i o done ps ho hx hd hkk hf hw t ih =>
    intro pre rest ns E h nx w df tm e fr B R hfl hb hm hi C hk d hr
    simp only [cplan] at hr
    obtain ⟨tm', e', h', nx', B', hr', d', R', hnx, hkeep⟩ := float_step R hfl hb.size hb.bound d ho hx hkk hf hw hr
    exact ih pre rest _ E h' nx' w df tm' e' fr B' R' (by omega) hb hm hi (C.keep hkeep) hk d' hr'
  | @ef x i o done ps ho hx hd only hf t ih =>
    intro pre rest ns E h nx w df tm e fr B R hfl hb hm hi C hk d hr
    have hir : i ∈ rest := by
      have h1 : i ∈ pre ++ rest := (d.lin.all i).2 (lt_of_get ho)
      rcases List.mem_append.1 h1 with h1 | h1
      · have := d.h1 i h1; rw [hx] at this; cases this
      · exact h1
    obtain ⟨l1, l2, hl⟩ := List.append_of_mem hir
    subst hl
    refine flush_goes l1 R hfl hb hm hi C hk (before_eff d.lin d.h1 only) d ?_
    intro E' fr' w' R' hb' hm' hi' C' hk' d'
    have hfit := fits_sound hf
    have hread := head_reads (o := o) d'.weak fun a ha t hat ht => (hfit a ha).1 t hat ht
    have T := d'.tr
    have hgd : ∀ jj want t, o.guard = some (jj, want) → (ops[jj]?).bind (·.dst) = some t → ¬ ∃ a ∈ done, a.1 ∈ i :: l2 ∧ a.2.dst = some t := fun jj want t hg hdd => hread t (by simp [readsT, hg, hdd, isD])
    simp only [cplan] at hr
    rcases guardR_some hr with ⟨hwant, hr⟩ | ⟨hwant, hr⟩
    · refine cone_goes (it := .dreg ⟨ops, ns, .ef i o (readersR ((Region.before ops).getD i 0) done) :: ps⟩) R' hfl hb' hm' hi' ho (cwant_sound T hwant hgd) T ?_ C' ?_ hr ?_
      · intro t ht
        exact hread t (by
          simp only [readsT, Bool.or_eq_true, List.any_eq_true]
          exact .inl ⟨_, ht, by simp [isT]⟩)
      · exact .dreg hb' hm' hi' (.ef ho hx hd only hf t) d'.weak hk'
      · exact eff_after ih ho hx hf hfl hb' hm' hi' C' hk' d'.weak
    · refine .of_steps (.one (step_unwanted hm' hi' ho (cwant_sound T hwant hgd))) ?_
      have hr : (cput (D fs.fn) o.dst (cplan P D (D fs.fn) ops (names' (D fs.fn) o.dst ns) ps)).p undef (.mk ⟨fs, df, cs⟩ td j) tm e h nx = some r := hr
      have after : After P D base w0 f0 cs0 E' h nx fs cs td j tm e fr' fcs (cput (D fs.fn) o.dst (cplan P D (D fs.fn) ops (names' (D fs.fn) o.dst ns) ps)) r → Goes P D base w0 f0 cs0 (lone (fr'.finish Go.undef) fcs w') j r :=
        fun af => af undef Go.undef h nx E' w' df fr'.defers (undef_sound E') (.refl _ _ _) (Nat.le_refl _) R' hb'.df hr
      obtain ⟨tm', e', hr', hput⟩ := cput_some (ns := ns) hr
      have hfin := finish_reg hi' ho Go.undef
      have d1 := DInv.eff (h' := h) (nx' := nx) d' hx hf hb'.size hb'.bound hput (undef_sound E') ⟨0, .refl _ _⟩ (Nat.le_refl _) fun a ha har ns0 tm0 e0 v0 q => q
      rw [hfin]
      exact ih _ _ _ E' h nx w' df tm' e' _ B R' hfl ⟨hb'.fn, by show (putT fr'.tmps o.dst Go.undef).size = fs.n; rw [putT_size]; exact hb'.size, hb'.bound, hb'.df, hb'.kind, hb'.rd⟩ hm' rfl C' hk' d1 hr'

/-- a call comes back into a region that draws its order -/
theorem cdreg_after {i : Nat} {o : Oper} {rc : List Oper} {ps : List PS} {E : En} {h : H} {nx : Nat} {pre rest : List Nat} {ns : List Tmp} {df : List ADf} {tm : Tm} {e : List AV} {fr : Frame} {B : Nat → Nat}
    (hp : PlanOk ops (Region.before ops) x done (.ef i o rc :: ps)) (hfl : fl ≤ nx) (hb : FrB D E fs df fr) (hm : fr.mode = .run) (hi : fr.todo = .inRegion ops (i :: rest) :: k) (C : CsR P D f0 cs0 E h fl fs.fn fs.dk cs fcs) (hk : ItL E td k)
    (d : DInv P true E h fl nx (D fs.fn) ops x done pre (i :: rest) ns tm e fr.tmps B) :
    After P D base w0 f0 cs0 E h nx fs cs td j tm e fr fcs (cdregF P D fs.fn ⟨ops, ns, .ef i o rc :: ps⟩) r := by
  cases hp with
  | ef ho hx hd only hf t => exact eff_after (cplan_goes t) ho hx hf hfl hb hm hi C hk d
end
end Go.Ax
