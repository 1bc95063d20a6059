/- Part of an abstract executor of the model's machine, and of its law (S31). -/
import Derived.Test.YtlfocffihiephaaGreatDoorXS30
namespace Go.Ax
open Go.RowKit (Below)
variable {P : Program} {D : Nat → Nat} {base : Nat} {w0 : World} {E : En} {h : H} {nx : Nat} {w : World} {mask : Nat} {ns : List Tmp} {tm : Tm} {e : List AV} {o : Oper}

/-! the same abstract value -/
theorem leqL_eq {f : AV → AV → Bool} (hf : ∀ x y, f x y = true → x = y) : ∀ l l' : List AV, leqL f l l' = true → l = l'
  | [], [], _ => rfl
  | [], _ :: _, h => by cases h
  | _ :: _, [], h => by cases h
  | x :: l, y :: l', h => by
    simp only [leqL, Bool.and_eq_true] at h
    rw [hf x y h.1, leqL_eq hf l l' h.2]
theorem amEq_eq (x y : AM) (h : amEq x y = true) : x = y := by
  unfold amEq at h
  split at h <;> first | rfl | (cases h; done) | skip
  · rw [beq_eq h]
  · simp only [Bool.and_eq_true] at h
    obtain ⟨⟨⟨⟨h1, h2⟩, h3⟩, h4⟩, h5⟩ := h
    rw [beq_eq h1, beq_eq h2, beq_eq h3, beq_eq h4, beq_eq h5]
  · rw [beq_eq h]
theorem avEqF_eq : ∀ (d : Nat) (x y : AV), avEqF d x y = true → x = y
  | 0, _, _, h => by cases h
  | d + 1, x, y, h => by
    unfold avEqF at h
    split at h <;> first | (cases h; done) | skip
    · rw [beqB_eq] at h; rw [eq_of_beq h]
    · simp only [Bool.and_eq_true] at h
      rw [beq_eq h.1]
      have := h.2
      rw [intEq_eq] at this
      rw [eq_of_beq this]
    · simp only [Bool.and_eq_true] at h; rw [beq_eq h.1, beq_eq h.2]
    · simp only [Bool.and_eq_true] at h; rw [beq_eq h.1, beq_eq h.2]
    · simp only [Bool.and_eq_true] at h; rw [beq_eq h.1.1.1, beq_eq h.1.1.2, beq_eq h.1.2, beq_eq h.2]
    · simp only [Bool.and_eq_true] at h; rw [beq_eq h.1.1.1, beq_eq h.1.1.2, beq_eq h.1.2, beq_eq h.2]
    · simp only [Bool.and_eq_true, decide_eq_true_eq] at h
      rw [h.1.1, leqL_eq (avEqF_eq d) _ _ h.1.2, leqL_eq (avEqF_eq d) _ _ h.2]
    · simp only [Bool.and_eq_true] at h; rw [beq_eq h.1, avEqF_eq d _ _ h.2]
    · rw [leqL_eq (avEqF_eq d) _ _ h]
    · rw [leqL_eq (avEqF_eq d) _ _ h]
    · rw [amEq_eq _ _ h]

/-! the heap, beside what floats -/
theorem HR.unplaced (R : HR D base w0 E h nx w) (hn : nx < 262143) (ab : AB) : HR D base w0 E (bput nx (some ab) h) (nx + 1) w := by
  have hf := R.fresh nx (Nat.le_refl _)
  have hget : ∀ k, bget k (bput nx (some ab) h) = if k = nx then some ab else bget k h := fun k => by
    rw [bget_put]
    by_cases hk : k = nx
    · subst hk; rw [if_pos ⟨rfl, by omega⟩, if_pos rfl]
    · rw [if_neg (fun (x : k = nx ∧ k < 262144) => hk x.1), if_neg hk]
  have ne : ∀ {b c q}, E.m b = some (c, q) → b ≠ nx := fun {b c q} he hb => by subst hb; rw [hf] at he; cases he
  refine ⟨by omega, fun b hb => R.fresh b (by omega), R.size, ?_, ?_, R.below, R.bsz, fun b hb => by rw [hget, if_neg (by omega)]; exact R.top b (by omega)⟩
  · intro b xb c q hb hx hE
    rw [hget, if_neg (ne hE)] at hx
    exact R.live b xb c q (R.lt hE) hx hE
  · intro b b' c q q' hb hb' h1 h2 e1 e2
    rw [hget, if_neg (ne e1)] at h1
    rw [hget, if_neg (ne e2)] at h2
    exact R.inj b b' c q q' (R.lt e1) (R.lt e2) h1 h2 e1 e2

theorem En.put_low {fl b : Nat} (E : En) (p : Nat × Nat) (hf : E.m b = none) (hb : fl ≤ b) : En.le fl E (E.put b p) :=
  ⟨fun k q hk => by
    show (if k = b then some p else E.m k) = some q
    split
    · rename_i e; subst e; rw [hf] at hk; cases hk
    · exact hk,
   fun k hk e => by show (if k = b then some p else E.m k) = none; rw [if_neg (by omega)]; exact e, rfl⟩

theorem HR.place (R : HR D base w0 E h nx w) {b q : Nat} {ab : AB} {O : Obj} (hf : E.m b = none) (hb : b < nx) (hg : bget b h = some ab) (br : BR D E q ab O) :
    HR D base w0 (E.put b (w.heap.size, q)) h nx (w.alloc O) := by
  have hle := E.put_low (fl := 0) (w.heap.size, q) hf (Nat.zero_le _)
  have hold : ∀ k, k ≠ b → (E.put b (w.heap.size, q)).m k = E.m k := fun k hk => by show (if k = b then _ else E.m k) = _; rw [if_neg hk]
  refine ⟨R.lim, ?_, ?_, ?_, ?_, R.below.alloc R.bsz O, by simp only [World.size_alloc]; have := R.bsz; omega, R.top⟩
  · intro k hk; rw [hold k (by omega)]; exact R.fresh k hk
  · intro k c q' hk
    rw [World.size_alloc]
    by_cases hkb : k = b
    · subst hkb; rw [En.put_at] at hk; cases hk; omega
    · rw [hold k hkb] at hk; have := R.size k c q' hk; omega
  · intro k xb c q' hk hx hE
    by_cases hkb : k = b
    · subst hkb
      rw [En.put_at] at hE
      cases hE
      rw [hg] at hx
      cases hx
      exact ⟨R.bsz, O, by show (w.heap.push O)[w.heap.size]? = some O; simp, br.mono hle⟩
    · rw [hold k hkb] at hE
      obtain ⟨h1, o, ho, hbr⟩ := R.live k xb c q' hk hx hE
      exact ⟨h1, o, by rw [Below.heap_alloc w O c (R.size k c q' hE)]; exact ho, hbr.mono hle⟩
  · intro k k' c q1 q2 hk hk' h1 h2 e1 e2
    by_cases hkb : k = b
    · by_cases hkb' : k' = b
      · omega
      · subst hkb
        rw [En.put_at] at e1; cases e1
        rw [hold k' hkb'] at e2
        have := R.size k' _ _ e2; omega
    · by_cases hkb' : k' = b
      · subst hkb'
        rw [En.put_at] at e2; cases e2
        rw [hold k hkb] at e1
        have := R.size k _ _ e1; omega
      · rw [hold k hkb] at e1; rw [hold k' hkb'] at e2
        exact R.inj k k' c q1 q2 hk hk' h1 h2 e1 e2

theorem HR.sub {h0 : H} (R : HR D base w0 E h nx w) (hs : Sub h0 h) : HR D base w0 E h0 nx w := by
  have hsome : ∀ {b}, (bget b h0).isSome → (bget b h).isSome := fun {b} hb => by
    obtain ⟨x, hx⟩ := Option.isSome_iff_exists.1 hb
    rw [hs b x hx]; rfl
  refine ⟨R.lim, R.fresh, R.size, fun b xb c q hb hx hE => R.live b xb c q hb (hs b xb hx) hE, fun b b' c q q' hb hb' h1 h2 => R.inj b b' c q q' hb hb' (hsome h1) (hsome h2), R.below, R.bsz, ?_⟩
  intro b hb
  cases hq : bget b h0 with
  | none => rfl
  | some x => have := hs b x hq; rw [R.top b hb] at this; cases this

/-! operations that read or reckon; operations that make -/
variable {K : AV → H → Nat → O} {r : St} {ρ : Operand → Value}
theorem pu_sound (R : HR D base w0 E h nx w) (hk : okind o = .pure ∨ okind o = .reads) (ho : Ops E mask ns tm e ρ o) (hr : (cop P mask ns o).f tm e h nx K = some r) : PuOk P E h nx w (execOp ρ o) K r := by
  cases hop : o.op with
  | move x => exact cop_move R ho hr hop
  | pick c a b => exact cop_pick R ho hr hop
  | build t ps => exact cop_build R ho hr hop
  | load t x => exact cop_load R ho hr hop
  | nilCheck x => exact cop_nilCheck R ho hr hop
  | binOp op t x y q => exact cop_binOp R ho hr hop
  | unOp op t x => exact cop_unOp R ho hr hop
  | convert s d x => exact cop_convert R ho hr hop
  | makeInterface t x => exact cop_makeInterface R ho hr hop
  | makeFunc f a c => exact cop_makeFunc R ho hr hop
  | slice t x l hh m => exact cop_slice R ho hr hop
  | fieldAddr t x f => exact cop_fieldAddr R ho hr hop
  | field t x f => exact cop_field R ho hr hop
  | indexAddr t x i => exact cop_indexAddr R ho hr hop
  | index t x i => exact cop_index R ho hr hop
  | lookup t x i ok => exact cop_lookup R ho hr hop
  | typeAssert x t a ok => exact cop_typeAssert R ho hr hop
  | extract x i => exact cop_extract R ho hr hop
  | call c =>
    cases hc : c.callee with
    | builtin b =>
      cases b with
      | len => exact cop_len R ho hr hop hc
      | min => exact cop_minmax R ho hr false hop hc
      | max => exact cop_minmax R ho hr true hop hc
      | _ => simp [okind, hop, hc] at hk
    | _ => simp [okind, hop, hc] at hk
  | _ => simp [okind, hop] at hk

theorem mk_sound (hk : okind o = .makes) (ho : Ops E mask ns tm e ρ o) (hr : (cop P mask ns o).f tm e h nx K = some r) : MkOk P D E h nx w (execOp ρ o) K r := by
  cases hop : o.op with
  | alloc t => exact cop_alloc hr hop
  | box t x => exact cop_box ho hr hop
  | buildSlice t n ps => exact cop_buildSlice ho hr hop
  | makeMap t m => exact cop_makeMap hr hop ho
  | makeSlice t l c => exact cop_makeSlice ho hr hop
  | call c =>
    cases hc : c.callee with
    | builtin b => cases b <;> simp [okind, hop, hc] at hk
    | _ => simp [okind, hop, hc] at hk
  | _ => simp [okind, hop] at hk

theorem okind_nodefer (hk : okind o ≠ .eff) : ∀ c, o.op ≠ .defer c := fun c hc => hk (by simp [okind, hc])

/-- the want of an operation stands on its guard's temporary alone -/
theorem cwant_same {ops : Array Oper} {ns0 : List Tmp} {tm0 : Tm} {e0 : List AV} {wb : Bool} (hs : ∀ t, readsT ops o t = true → okd mask ns0 (.tmp t) = true → SameT mask ns tm e ns0 tm0 e0 t)
    (hw : (cwant mask ns0 ops o).f tm0 e0 = some wb) : (cwant mask ns ops o).f tm e = some wb := by
  unfold cwant at hw ⊢
  cases hg : o.guard with
  | none => rw [hg] at hw; exact hw
  | some jw =>
    obtain ⟨j, want⟩ := jw
    rw [hg] at hw
    simp only at hw ⊢
    cases hd : (ops[j]?).bind (·.dst) with
    | none => rw [hd] at hw; exact hw
    | some t =>
      rw [hd] at hw
      simp only at hw ⊢
      cases hk : okd mask ns0 (.tmp t) with
      | false => rw [hk] at hw; cases hw
      | true =>
        rw [hk] at hw
        obtain ⟨h1, h2⟩ := hs t (by simp [readsT, hg, hd, isD]) hk
        rw [h1]
        simp only [bc_true] at hw ⊢
        rw [h2]; exact hw

theorem readersR_all {m : Nat} : ∀ {done : List (Nat × Oper)}, ∀ o ∈ readersR m done, okind o = .reads
  | [], o, ho => by cases ho
  | (i, o') :: r, o, ho => by
    have ho : o ∈ (bc (!Nat.testBit m i && decide (okind o' = .reads)) (o' :: readersR m r) (readersR m r) : List Oper) := ho
    rw [bc_ite] at ho
    split at ho
    · rename_i hc
      simp only [Bool.and_eq_true, decide_eq_true_eq] at hc
      cases ho with
      | head => exact hc.2
      | tail _ ho => exact readersR_all o ho
    · exact readersR_all o ho
theorem readersR_mem {m : Nat} : ∀ {done : List (Nat × Oper)}, ∀ a ∈ done, Nat.testBit m a.1 = false → okind a.2 = .reads → a.2 ∈ readersR m done
  | [], a, ha, _, _ => by cases ha
  | (i, o') :: r, a, ha, hb, hk => by
    show a.2 ∈ (bc (!Nat.testBit m i && decide (okind o' = .reads)) (o' :: readersR m r) (readersR m r) : List Oper)
    rw [bc_ite]
    cases ha with
    | head =>
      rw [if_pos (by simp only [Bool.and_eq_true, Bool.not_eq_true', decide_eq_true_eq]; exact ⟨hb, hk⟩)]
      exact .head _
    | tail _ ha =>
      have := readersR_mem a ha hb hk
      split
      · exact .tail _ this
      · exact this

/-- the floating reads, looked at once more -/
theorem crecheck_sound {ops : Array Oper} : ∀ {rc : List Oper} {K : O}, (∀ o ∈ rc, okind o = .reads) → (crecheck P mask ops ns rc).c tm e h nx K = some r → K = some r ∧ ∀ o ∈ rc,
    ∃ t wb, o.dst = some t ∧ o.op.operands.toList.all (okd mask ns) = true ∧ okd mask ns (.tmp t) = true ∧ (cwant mask ns ops o).f tm e = some wb ∧
      (wb = true → ∀ nx K, (cop P mask ns o).f tm e h nx K = K ((opd mask ns (.tmp t)).g tm e) h nx)
  | [], K, _, hr => ⟨hr, fun o ho => by cases ho⟩
  | o :: rc, K, hall, hr => by
    simp only [crecheck] at hr
    cases hd : o.dst with
    | none => rw [hd] at hr; cases hr
    | some t =>
      rw [hd] at hr
      simp only at hr
      cases hc : (o.op.operands.toList.all (okd mask ns) && okd mask ns (.tmp t)) with
      | false => rw [hc] at hr; cases hr
      | true =>
        rw [hc] at hr
        rw [Bool.and_eq_true] at hc
        cases hw : (cwant mask ns ops o).f tm e with
        | none => simp only [bc_true, hw] at hr; cases hr
        | some wb =>
          simp only [bc_true, hw] at hr
          cases wb with
          | false =>
            obtain ⟨h1, h2⟩ := crecheck_sound (rc := rc) (K := K) (fun o' ho' => hall o' (.tail _ ho')) hr
            refine ⟨h1, fun o' ho' => ?_⟩
            cases ho' with
            | head => exact ⟨t, false, hd, hc.1, hc.2, hw, fun hh => by cases hh⟩
            | tail _ ho' => exact h2 o' ho'
          | true =>
            have hr : (cop P mask ns o).f tm e h nx (fun v _ _ => bc (avEq v ((opd mask ns (.tmp t)).g tm e)) ((crecheck P mask ops ns rc).c tm e h nx K) none) = some r := hr
            have hk : okind o = .reads := hall o (.head _)
            rcases cop_reads (P := P) (mask := mask) (ns := ns) (tm := tm) (e := e) (h := h) hk with hf | ⟨v, hf⟩
            · have := hf (nx, fun v _ _ => bc (avEq v ((opd mask ns (.tmp t)).g tm e)) ((crecheck P mask ops ns rc).c tm e h nx K) none)
              simp only at this
              rw [this] at hr; cases hr
            · have := hf (nx, fun v _ _ => bc (avEq v ((opd mask ns (.tmp t)).g tm e)) ((crecheck P mask ops ns rc).c tm e h nx K) none)
              simp only [GR] at this
              rw [this] at hr
              obtain ⟨heq, hr⟩ := bc_some hr
              have heq := avEqF_eq 20 _ _ heq
              obtain ⟨h1, h2⟩ := crecheck_sound (rc := rc) (K := K) (fun o' ho' => hall o' (.tail _ ho')) hr
              refine ⟨h1, fun o' ho' => ?_⟩
              cases ho' with
              | head =>
                refine ⟨t, true, hd, hc.1, hc.2, hw, fun _ nx K => ?_⟩
                rw [← heq]
                exact hf (nx, K)
              | tail _ ho' => exact h2 o' ho'
end Go.Ax
