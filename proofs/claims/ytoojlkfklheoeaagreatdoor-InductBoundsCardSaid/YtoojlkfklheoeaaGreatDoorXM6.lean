/- Part of an abstract executor of the model's machine, and of its law (S31, S32, S33, S34, S35, S36, S37, S38, S39). -/
import Derived.Test.YtoojlkfklheoeaaGreatDoorXM5
import Derived.Laws.Sem
import Derived.Defers
namespace Go.Ax
open Go.RowKit (Below)
variable {P : Program} {D : Nat → Nat} {base : Bas} {w0 : World} {E : En} {h : H} {nx : Nat} {w : World} {mask : Nat} {ns : List Tmp} {tm : Tm} {e : List AV} {o : Oper}

/-! the same abstract value -/
theorem leqL_eq {f : AV → AV → Bool} (hf : ∀ x y, f x y = true → x = y) : ∀ l l' : List AV, leqL f l l' = true → l = l'
  | [], [], _ => rfl
  | [], _ :: _, h => by cases h
  | _ :: _, [], h => by cases h
  | x :: l, y :: l', h => by
    simp only [leqL, Bool.and_eq_true] at h
    rw [hf x y h.1, leqL_eq hf l l' h.2]
theorem amEq_eq (x y : AM) (h : amEq x y = true) : x = y := by
  unfold amEq at h
  split at h <;> first | rfl | (cases h; done) | skip
  · rw [beq_eq h]
  · simp only [Bool.and_eq_true] at h
    obtain ⟨⟨⟨⟨h1, h2⟩, h3⟩, h4⟩, h5⟩ := h
    rw [beq_eq h1, beq_eq h2, beq_eq h3, beq_eq h4, beq_eq h5]
  · rw [beq_eq h]
theorem avEqF_eq : ∀ (d : Nat) (x y : AV), avEqF d x y = true → x = y
  | 0, _, _, h => by cases h
  | d + 1, x, y, h => by
    unfold avEqF at h
    split at h <;> first | (cases h; done) | skip
    · rw [beqB_eq] at h; rw [eq_of_beq h]
    · simp only [Bool.and_eq_true] at h
      rw [beq_eq h.1]
      have := h.2
      rw [intEq_eq] at this
      rw [eq_of_beq this]
    · simp only [Bool.and_eq_true] at h; rw [beq_eq h.1, beq_eq h.2]
    · simp only [Bool.and_eq_true] at h; rw [beq_eq h.1, beq_eq h.2]
    · simp only [Bool.and_eq_true] at h; rw [beq_eq h.1.1.1, beq_eq h.1.1.2, beq_eq h.1.2, beq_eq h.2]
    · simp only [Bool.and_eq_true] at h; rw [beq_eq h.1.1.1, beq_eq h.1.1.2, beq_eq h.1.2, beq_eq h.2]
    · simp only [Bool.and_eq_true, decide_eq_true_eq] at h
      rw [h.1.1, leqL_eq (avEqF_eq d) _ _ h.1.2, leqL_eq (avEqF_eq d) _ _ h.2]
    · simp only [Bool.and_eq_true] at h; rw [beq_eq h.1, avEqF_eq d _ _ h.2]
    · rw [leqL_eq (avEqF_eq d) _ _ h]
    · rw [leqL_eq (avEqF_eq d) _ _ h]
    · rw [amEq_eq _ _ h]

/-! the heap, beside what floats -/
theorem HR.unplaced (R : HR D base w0 E h nx w) (hn : nx < 262143) (ab : AB) : HR D base w0 E (bput nx (some ab) h) (nx + 1) w := by
  have hf := R.fresh nx (Nat.le_refl _)
  have hget : ∀ k, bget k (bput nx (some ab) h) = if k = nx then some ab else bget k h := fun k => by
    rw [bget_put]
    by_cases hk : k = nx
    · subst hk; rw [if_pos ⟨rfl, by omega⟩, if_pos rfl]
    · rw [if_neg (fun (x : k = nx ∧ k < 262144) => hk x.1), if_neg hk]
  have ne : ∀ {b c q}, E.m b = some (c, q) → b ≠ nx := fun {b c q} he hb => by subst hb; rw [hf] at he; cases he
  refine ⟨by omega, fun b hb => R.fresh b (by omega), R.size, ?_, ?_, R.below, R.bsz, fun b hb => by rw [hget, if_neg (by omega)]; exact R.top b (by omega), R.ext, by have := R.n0le; omega, fun k hk hE hK => by
    have hq := R.old k hk hE hK
    have := R.n0le
    exact ⟨by rw [hget, if_neg (by omega)]; exact hq.1, hq.2⟩⟩
  · intro b xb c q hb hx hE
    rw [hget, if_neg (ne hE)] at hx
    exact R.live b xb c q (R.lt hE) hx hE
  · intro b b' c q q' hb hb' h1 h2 e1 e2
    rw [hget, if_neg (ne e1)] at h1
    rw [hget, if_neg (ne e2)] at h2
    exact R.inj b b' c q q' (R.lt e1) (R.lt e2) h1 h2 e1 e2

theorem En.put_low {fl b : Nat} (E : En) (p : Nat × Nat) (hf : E.m b = none) (hb : fl ≤ b) : En.le fl E (E.put b p) :=
  ⟨fun k q hk => by
    show (if k = b then some p else E.m k) = some q
    split
    · rename_i e; subst e; rw [hf] at hk; cases hk
    · exact hk,
   fun k hk e => by show (if k = b then some p else E.m k) = none; rw [if_neg (by omega)]; exact e⟩

theorem HR.place (R : HR D base w0 E h nx w) {b q : Nat} {ab : AB} {O : Obj} (hf : E.m b = none) (hb : b < nx) (hg : bget b h = some ab) (br : BR D E q ab O) :
    HR D base w0 (E.put b (w.heap.size, q)) h nx (w.alloc O) := by
  have hle := E.put_low (fl := 0) (w.heap.size, q) hf (Nat.zero_le _)
  have hold : ∀ k, k ≠ b → (E.put b (w.heap.size, q)).m k = E.m k := fun k hk => by show (if k = b then _ else E.m k) = _; rw [if_neg hk]
  refine ⟨R.lim, ?_, ?_, ?_, ?_, R.below.alloc R.bsz O, fun k hk => by (simp only [World.size_alloc]; have := R.bsz k hk; omega), R.top, fun b p hb => hle.up b p (R.ext b p hb), R.n0le, fun k hk hE hK => by
    have hq := R.old k hk hE hK
    exact ⟨hq.1, by rw [hold k (fun hh => by rw [hh, hg] at hq; cases hq.1)]; exact hq.2⟩⟩
  · intro k hk; rw [hold k (by omega)]; exact R.fresh k hk
  · intro k c q' hk
    rw [World.size_alloc]
    by_cases hkb : k = b
    · subst hkb; rw [En.put_at] at hk; cases hk; omega
    · rw [hold k hkb] at hk; have := R.size k c q' hk; omega
  · intro k xb c q' hk hx hE
    by_cases hkb : k = b
    · subst hkb
      rw [En.put_at] at hE
      cases hE
      rw [hg] at hx
      cases hx
      exact ⟨fun hh => Nat.lt_irrefl _ (R.bsz _ hh), O, by show (w.heap.push O)[w.heap.size]? = some O; simp, br.mono hle⟩
    · rw [hold k hkb] at hE
      obtain ⟨h1, o, ho, hbr⟩ := R.live k xb c q' hk hx hE
      exact ⟨h1, o, by rw [Below.heap_alloc w O c (R.size k c q' hE)]; exact ho, hbr.mono hle⟩
  · intro k k' c q1 q2 hk hk' h1 h2 e1 e2
    by_cases hkb : k = b
    · by_cases hkb' : k' = b
      · omega
      · subst hkb
        rw [En.put_at] at e1; cases e1
        rw [hold k' hkb'] at e2
        have := R.size k' _ _ e2; omega
    · by_cases hkb' : k' = b
      · subst hkb'
        rw [En.put_at] at e2; cases e2
        rw [hold k hkb] at e1
        have := R.size k _ _ e1; omega
      · rw [hold k hkb] at e1; rw [hold k' hkb'] at e2
        exact R.inj k k' c q1 q2 hk hk' h1 h2 e1 e2

theorem HR.sub {h0 : H} (R : HR D base w0 E h nx w) (hs : Sub h0 h) : HR D base w0 E h0 nx w := by
  have hsome : ∀ {b}, (bget b h0).isSome → (bget b h).isSome := fun {b} hb => by
    obtain ⟨x, hx⟩ := Option.isSome_iff_exists.1 hb
    rw [hs b x hx]; rfl
  refine ⟨R.lim, R.fresh, R.size, fun b xb c q hb hx hE => R.live b xb c q hb (hs b xb hx) hE, fun b b' c q q' hb hb' h1 h2 => R.inj b b' c q q' hb hb' (hsome h1) (hsome h2), R.below, R.bsz, ?_, R.ext, R.n0le, fun k hk hE hK => by
    have hq := R.old k hk hE hK
    refine ⟨?_, hq.2⟩
    cases hx : bget k h0 with
    | none => rfl
    | some x => rw [hs k x hx] at hq; cases hq.1⟩
  intro b hb
  cases hq : bget b h0 with
  | none => rfl
  | some x => have := hs b x hq; rw [R.top b hb] at this; cases this

/-! operations that read or reckon; operations that make -/
variable {K : AV → H → Nat → O} {r : St} {ρ : Operand → Value}
theorem pu_sound (R : HR D base w0 E h nx w) (hk : okind o = .pure ∨ okind o = .reads) (ho : Ops E mask ns tm e ρ o) (hr : (cop P mask ns o).f tm e h nx K = some r) : PuOk P E h nx w (execOp ρ o) K r := by
  cases hop : o.op with
  | move x => exact cop_move R ho hr hop
  | pick c a b => exact cop_pick R ho hr hop
  | build t ps => exact cop_build R ho hr hop
  | load t x => exact cop_load R ho hr hop
  | nilCheck x => exact cop_nilCheck R ho hr hop
  | binOp op t x y q => exact cop_binOp R ho hr hop
  | unOp op t x => exact cop_unOp R ho hr hop
  | convert s d x => exact cop_convert R ho hr hop
  | makeInterface t x => exact cop_makeInterface R ho hr hop
  | makeFunc f a c => exact cop_makeFunc R ho hr hop
  | slice t x l hh m => exact cop_slice R ho hr hop
  | fieldAddr t x f => exact cop_fieldAddr R ho hr hop
  | field t x f => exact cop_field R ho hr hop
  | indexAddr t x i => exact cop_indexAddr R ho hr hop
  | index t x i => exact cop_index R ho hr hop
  | lookup t x i ok => exact cop_lookup R ho hr hop
  | typeAssert x t a ok => exact cop_typeAssert R ho hr hop
  | extract x i => exact cop_extract R ho hr hop
  | call c =>
    cases hc : c.callee with
    | builtin b =>
      cases b with
      | len => exact cop_len R ho hr hop hc
      | min => exact cop_minmax R ho hr false hop hc
      | max => exact cop_minmax R ho hr true hop hc
      | _ => simp [okind, hop, hc] at hk
    | _ => simp [okind, hop, hc] at hk
  | _ => simp [okind, hop] at hk

theorem mk_sound (hk : okind o = .makes) (ho : Ops E mask ns tm e ρ o) (hr : (cop P mask ns o).f tm e h nx K = some r) : MkOk P D E h nx w (execOp ρ o) K r := by
  cases hop : o.op with
  | alloc t => exact cop_alloc hr hop
  | box t x => exact cop_box ho hr hop
  | buildSlice t n ps => exact cop_buildSlice ho hr hop
  | makeMap t m => exact cop_makeMap hr hop ho
  | makeSlice t l c => exact cop_makeSlice ho hr hop
  | call c =>
    cases hc : c.callee with
    | builtin b => cases b <;> simp [okind, hop, hc] at hk
    | _ => simp [okind, hop, hc] at hk
  | _ => simp [okind, hop] at hk

theorem okind_nodefer (hk : okind o ≠ .eff) : ∀ c, o.op ≠ .defer c := fun c hc => hk (by simp [okind, hc])

/-- the want of an operation stands on its guard's temporary alone -/
theorem cwant_same {ops : Array Oper} {ns0 : List Tmp} {tm0 : Tm} {e0 : List AV} {wb : Bool} (hs : ∀ t, readsT ops o t = true → okd mask ns0 (.tmp t) = true → SameT mask ns tm e ns0 tm0 e0 t)
    (hw : (cwant mask ns0 ops o).f tm0 e0 = some wb) : (cwant mask ns ops o).f tm e = some wb := by
  unfold cwant at hw ⊢
  cases hg : o.guard with
  | none => rw [hg] at hw; exact hw
  | some jw =>
    obtain ⟨j, want⟩ := jw
    rw [hg] at hw
    simp only at hw ⊢
    cases hd : (ops[j]?).bind (·.dst) with
    | none => rw [hd] at hw; exact hw
    | some t =>
      rw [hd] at hw
      simp only at hw ⊢
      cases hk : okd mask ns0 (.tmp t) with
      | false => rw [hk] at hw; cases hw
      | true =>
        rw [hk] at hw
        obtain ⟨h1, h2⟩ := hs t (by simp [readsT, hg, hd, isD]) hk
        rw [h1]
        simp only [bc_true] at hw ⊢
        rw [h2]; exact hw

theorem readersR_all {m : Nat} : ∀ {done : List (Nat × Oper)}, ∀ o ∈ readersR m done, okind o = .reads
  | [], o, ho => by cases ho
  | (i, o') :: r, o, ho => by
    have ho : o ∈ (bc (!Nat.testBit m i && decide (okind o' = .reads)) (o' :: readersR m r) (readersR m r) : List Oper) := ho
    rw [bc_ite] at ho
    split at ho
    · rename_i hc
      simp only [Bool.and_eq_true, decide_eq_true_eq] at hc
      cases ho with
      | head => exact hc.2
      | tail _ ho => exact readersR_all o ho
    · exact readersR_all o ho
theorem readersR_mem {m : Nat} : ∀ {done : List (Nat × Oper)}, ∀ a ∈ done, Nat.testBit m a.1 = false → okind a.2 = .reads → a.2 ∈ readersR m done
  | [], a, ha, _, _ => by cases ha
  | (i, o') :: r, a, ha, hb, hk => by
    show a.2 ∈ (bc (!Nat.testBit m i && decide (okind o' = .reads)) (o' :: readersR m r) (readersR m r) : List Oper)
    rw [bc_ite]
    cases ha with
    | head =>
      rw [if_pos (by simp only [Bool.and_eq_true, Bool.not_eq_true', decide_eq_true_eq]; exact ⟨hb, hk⟩)]
      exact .head _
    | tail _ ha =>
      have := readersR_mem a ha hb hk
      split
      · exact .tail _ this
      · exact this

/-- the floating reads, looked at once more -/
theorem crecheck_sound {ops : Array Oper} : ∀ {rc : List Oper} {K : O}, (∀ o ∈ rc, okind o = .reads) → (crecheck P mask ops ns rc).c tm e h nx K = some r → K = some r ∧ ∀ o ∈ rc,
    ∃ t wb, o.dst = some t ∧ o.op.operands.toList.all (okd mask ns) = true ∧ okd mask ns (.tmp t) = true ∧ (cwant mask ns ops o).f tm e = some wb ∧
      (wb = true → ∀ nx K, (cop P mask ns o).f tm e h nx K = K ((opd mask ns (.tmp t)).g tm e) h nx)
  | [], K, _, hr => ⟨hr, fun o ho => by cases ho⟩
  | o :: rc, K, hall, hr => by
    simp only [crecheck] at hr
    cases hd : o.dst with
    | none => rw [hd] at hr; cases hr
    | some t =>
      rw [hd] at hr
      simp only at hr
      cases hc : (o.op.operands.toList.all (okd mask ns) && okd mask ns (.tmp t)) with
      | false => rw [hc] at hr; cases hr
      | true =>
        rw [hc] at hr
        rw [Bool.and_eq_true] at hc
        cases hw : (cwant mask ns ops o).f tm e with
        | none => simp only [bc_true, hw] at hr; cases hr
        | some wb =>
          simp only [bc_true, hw] at hr
          cases wb with
          | false =>
            obtain ⟨h1, h2⟩ := crecheck_sound (rc := rc) (K := K) (fun o' ho' => hall o' (.tail _ ho')) hr
            refine ⟨h1, fun o' ho' => ?_⟩
            cases ho' with
            | head => exact ⟨t, false, hd, hc.1, hc.2, hw, fun hh => by cases hh⟩
            | tail _ ho' => exact h2 o' ho'
          | true =>
            have hr : (cop P mask ns o).f tm e h nx (fun v _ _ => bc (avEq v ((opd mask ns (.tmp t)).g tm e)) ((crecheck P mask ops ns rc).c tm e h nx K) none) = some r := hr
            have hk : okind o = .reads := hall o (.head _)
            rcases cop_reads (P := P) (mask := mask) (ns := ns) (tm := tm) (e := e) (h := h) hk with hf | ⟨v, hf⟩
            · have := hf (nx, fun v _ _ => bc (avEq v ((opd mask ns (.tmp t)).g tm e)) ((crecheck P mask ops ns rc).c tm e h nx K) none)
              simp only at this
              rw [this] at hr; cases hr
            · have := hf (nx, fun v _ _ => bc (avEq v ((opd mask ns (.tmp t)).g tm e)) ((crecheck P mask ops ns rc).c tm e h nx K) none)
              simp only [GR] at this
              rw [this] at hr
              obtain ⟨heq, hr⟩ := bc_some hr
              have heq := avEqF_eq 20 _ _ heq
              obtain ⟨h1, h2⟩ := crecheck_sound (rc := rc) (K := K) (fun o' ho' => hall o' (.tail _ ho')) hr
              refine ⟨h1, fun o' ho' => ?_⟩
              cases ho' with
              | head =>
                refine ⟨t, true, hd, hc.1, hc.2, hw, fun _ nx K => ?_⟩
                rw [← heq]
                exact hf (nx, K)
              | tail _ ho' => exact h2 o' ho'
end Go.Ax
namespace Go.Ax
open Go.RowKit (Below)
variable {P : Program} {D : Nat → Nat} {base : Bas} {w0 : World} {f0 : Nat} {cs0 : List Frame}

theorem Lin.notin {m : Region.Mode} {ops : Array Oper} {pre rest : List Nat} {j : Nat} (h : Lin m ops (pre ++ j :: rest)) : j ∉ pre ∧ j ∉ rest := by
  have := h.nodup
  rw [List.nodup_append] at this
  obtain ⟨_, h2, h3⟩ := this
  rw [List.nodup_cons] at h2
  exact ⟨fun hj => h3 j hj j (by simp) rfl, h2.1⟩
theorem Lin.apart {m : Region.Mode} {ops : Array Oper} {pre rest : List Nat} (h : Lin m ops (pre ++ rest)) {j : Nat} (h1 : j ∈ pre) (h2 : j ∈ rest) : False := by
  have := h.nodup
  rw [List.nodup_append] at this
  exact this.2.2 j h1 j h2 rfl

theorem ownT_sound {ops : Array Oper} {o : Oper} (h : ownT ops o = true) : ∀ t, o.dst = some t → readsT ops o t = false := by
  intro t ht
  simp only [ownT, ht, Bool.not_eq_true'] at h
  exact h

section
variable {E : En} {h h' : H} {fl nx nx' n : Nat} {mask x : Nat} {ops : Array Oper} {done : List (Nat × Oper)} {pre rest : List Nat} {ns : List Tmp} {tm tm' : Tm} {e e' : List AV} {tmps : Array Value} {B : Nat → Nat}
  {i b : Nat} {o : Oper} {v : AV} {wb : Bool}

theorem Sub.trans {a b c : H} (h1 : Sub a b) (h2 : Sub b c) : Sub a c := fun k ab hk => h2 k ab (h1 k ab hk)
theorem Kind.grow {s : Bool} {ns0 : List Tmp} {tm0 : Tm} {e0 : List AV} (hs : Sub h h') (hn : nx ≤ nx') (q : Kind P s E h fl nx mask ns0 tm0 e0 b o v) : Kind P s E h' fl nx' mask ns0 tm0 e0 b o v := by
  cases q with
  | pure hk hf => exact .pure hk hf
  | reads hk hf =>
    refine .reads hk (hf.imp id ?_)
    rintro ⟨h0, hs0, hf⟩
    exact ⟨h0, hs0.trans hs, hf⟩
  | makes hk hb h1 h2 h3 ab kv hg hv hf => exact .makes hk hb h1 (by omega) h3 ab kv (hs _ _ hg) hv hf

/-- the plan takes a floating operation -/
theorem DInv.float (d : DInv P false E h fl nx mask ops x done pre rest ns tm e tmps B) (hlim : nx ≤ 262143) (hsz : tmps.size = n) (hbd : mask < 2 ^ n) (ho : ops[i]? = some o) (hx : Nat.testBit x i = false) (hk : okind o ≠ .eff)
    (hf : fits ops ((Region.before ops).getD i 0) o false done = true) (hw : ownT ops o = true) (hs : Sub h h') (hn : nx ≤ nx') (hput : PutOk mask n o.dst v ns tm e tm' e')
    (hwant : (cwant mask ns ops o).f tm e = some wb) (hoff : wb = false → v = undef) (hon : wb = true → o.op.operands.toList.all (okd mask ns) = true ∧ Kind P false E h' fl nx' mask ns tm e b o v)
    (hb : b = 262144 + i ∨ (b = nx ∧ nx < nx' ∧ nx < 262143)) :
    DInv P false E h' fl nx' mask ops (Nat.lor x (Nat.shiftLeft 1 i)) ((i, o) :: done) pre rest (names' mask o.dst ns) tm' e' tmps (fun k => if k = i then b else B k) := by
  have hfit := fits_sound hf
  have hown := ownT_sound hw
  have hne : ∀ a ∈ done, a.1 ≠ i := fun a ha hh => by have := (d.h3 a ha).2.1; rw [hh, hx] at this; cases this
  have hbit : ∀ j, Nat.testBit (Nat.lor x (Nat.shiftLeft 1 i)) j = true ↔ Nat.testBit x j = true ∨ i = j := fun j => by rw [bit_add]; simp
  have hir : i ∈ rest := by
    have h1 : i ∈ pre ++ rest := (d.lin.all i).2 (lt_of_get ho)
    rcases List.mem_append.1 h1 with h1 | h1
    · have := d.h1 i h1; rw [hx] at this; cases this
    · exact h1
  -- the new destination is nobody else's
  have hnew : ∀ a ∈ done, ∀ t, o.dst = some t → readsT ops a.2 t = false ∧ a.2.dst ≠ some t := by
    intro a ha t ht
    constructor
    · cases hq : readsT ops a.2 t with
      | false => rfl
      | true => have := ((hfit a ha).2 t ht (.inl hq)).1; cases this
    · intro hq; have := ((hfit a ha).2 t ht (.inr hq)).1; cases this
  refine ⟨d.lin, fun j hj => (hbit j).2 (.inl (d.h1 j hj)), ?_, ?_, ?_, ?_, ?_, ?_, ?_, ?_, ?_⟩
  · intro j hj hb'
    rcases (hbit j).1 hb' with h1 | rfl
    · obtain ⟨o', h2⟩ := d.h2 j hj h1
      exact ⟨o', .tail _ h2⟩
    · exact ⟨o, .head _⟩
  · intro a ha
    cases ha with
    | head => exact ⟨ho, (hbit i).2 (.inr rfl), hk⟩
    | tail _ ha => obtain ⟨h1, h2, h3⟩ := d.h3 a ha; exact ⟨h1, (hbit _).2 (.inl h2), h3⟩
  · intro a ha c hc t ht hr
    cases ha with
    | head =>
      cases hc with
      | head => have := hown t ht; rw [this] at hr; cases hr
      | tail _ hc => have := (hnew c hc t ht).1; rw [this] at hr; cases hr
    | tail _ ha =>
      cases hc with
      | head => exact (hfit a ha).1 t ht hr
      | tail _ hc => exact d.st a ha c hc t ht hr
  · intro a ha c hc t ht ht'
    cases ha with
    | head =>
      cases hc with
      | head => rfl
      | tail _ hc => exact absurd ht' (hnew c hc t ht).2
    | tail _ ha =>
      cases hc with
      | head => exact absurd ht (hnew a ha t ht').2
      | tail _ hc => exact d.un a ha c hc t ht ht'
  · intro u hu hp
    by_cases hd : o.dst = some u
    · exact absurd ⟨(i, o), .head _, hir, hd⟩ hp
    · obtain ⟨h1, h2⟩ := hput.other u hd
      rw [h1] at hu
      rw [h2 hu]
      exact d.tr u hu fun ⟨a, ha, har, hat⟩ => hp ⟨a, .tail _ ha, har, hat⟩
  · intro a ha har
    cases ha with
    | head =>
      simp only [if_true]
      refine ⟨ns, tm, e, v, wb, ⟨?_, hwant, fun t ht => ⟨(hput.here t ht).1, (hput.here t ht).2.1⟩, hoff, hon⟩⟩
      intro t ht hk0
      have hd : o.dst ≠ some t := fun hh => by rw [hown t hh] at ht; cases ht
      obtain ⟨h1, h2⟩ := hput.other t hd
      exact ⟨by rw [h1]; exact hk0, h2 hk0⟩
    | tail _ ha =>
      rw [if_neg (hne a ha)]
      obtain ⟨ns0, tm0, e0, v0, wb0, q⟩ := d.pf a ha har
      refine ⟨ns0, tm0, e0, v0, wb0, ⟨?_, q.want, ?_, q.off, fun hh => ⟨(q.on hh).1, (q.on hh).2.grow hs hn⟩⟩⟩
      · intro t ht hk0
        have hd : o.dst ≠ some t := fun hh => by rw [(hnew a ha t hh).1] at ht; cases ht
        obtain ⟨h1, h2⟩ := hput.other t hd
        obtain ⟨s1, s2⟩ := q.same t ht hk0
        exact ⟨by rw [h1]; exact s1, by rw [h2 s1]; exact s2⟩
      · intro t ht
        have hd : o.dst ≠ some t := fun hh => (hnew a ha t hh).2 ht
        obtain ⟨h1, h2⟩ := hput.other t hd
        obtain ⟨s1, s2⟩ := q.dst t ht
        exact ⟨by rw [h1]; exact s1, by rw [h2 s1]; exact s2⟩
  · intro a ha c hc har hcr hB
    have new : ∀ a ∈ done, a.1 ∈ rest → B a.1 = b → a.1 = i := by
      intro a ha har hB
      rcases d.bk a ha har with h1 | h1 <;> rcases hb with h2 | h2 <;> omega
    cases ha with
    | head =>
      cases hc with
      | head => rfl
      | tail _ hc =>
        simp only [if_true, if_neg (hne c hc)] at hB
        exact (new c hc hcr hB.symm).symm
    | tail _ ha =>
      cases hc with
      | head =>
        simp only [if_true, if_neg (hne a ha)] at hB
        exact new a ha har hB
      | tail _ hc =>
        simp only [if_neg (hne a ha), if_neg (hne c hc)] at hB
        exact d.inj a ha c hc har hcr hB
  · intro a ha har
    cases ha with
    | head =>
      simp only [if_true]
      rcases hb with hb | hb
      · exact .inl hb
      · exact .inr (by omega)
    | tail _ ha =>
      rw [if_neg (hne a ha)]
      rcases d.bk a ha har with h1 | h1
      · exact .inl h1
      · exact .inr (by omega)
  · intro a ha t ht
    cases ha with
    | head =>
      rw [hsz]
      rcases (hput.here t ht).2.2 with h1 | h1
      · exact h1
      · rcases Nat.lt_or_ge t n with h2 | h2
        · exact h2
        · have : mask < 2 ^ t := Nat.lt_of_lt_of_le hbd (Nat.pow_le_pow_right (by omega) h2)
          rw [Nat.testBit_lt_two_pow this] at h1; cases h1
    | tail _ ha => exact d.dl a ha t ht
end

section
variable {E : En} {h : H} {fl nx : Nat} {mask x : Nat} {ops : Array Oper} {done : List (Nat × Oper)} {pre rest : List Nat} {ns : List Tmp} {tm : Tm} {e : List AV} {tmps : Array Value} {B : Nat → Nat}
  {i : Nat} {o : Oper} {w : World} {r : St} {fs : FS} {df : List ADf} {cs : List Fr} {td : List AI} {j : J} {kr : Rop}

theorem float_step (R : HR D base w0 E h nx w) (hfl : fl ≤ nx) (hsz : tmps.size = fs.n) (hbd : mask < 2 ^ fs.n) (d : DInv P false E h fl nx mask ops x done pre rest ns tm e tmps B)
    (ho : ops[i]? = some o) (hx : Nat.testBit x i = false) (hk : okind o ≠ .eff) (hf : fits ops ((Region.before ops).getD i 0) o false done = true) (hw : ownT ops o = true)
    (hr : (guardR (cwant mask ns ops o) (bc (o.op.operands.toList.all (okd mask ns)) (cval P mask ns o (cput mask o.dst kr)) failR) (cput mask o.dst kr)).r (.mk ⟨fs, df, cs⟩ td j) tm e h nx = some r) :
    ∃ tm' e' h' nx' B', kr.r (.mk ⟨fs, df, cs⟩ td j) tm' e' h' nx' = some r ∧
      DInv P false E h' fl nx' mask ops (Nat.lor x (Nat.shiftLeft 1 i)) ((i, o) :: done) pre rest (names' mask o.dst ns) tm' e' tmps B' ∧ HR D base w0 E h' nx' w ∧ nx ≤ nx' ∧ Keep fl E h E h' := by
  have hsub : Sub h h := fun _ _ hh => hh
  rcases guardR_some hr with ⟨hwant, hr⟩ | ⟨hwant, hr⟩
  · cases hok : o.op.operands.toList.all (okd mask ns) with
    | false => rw [hok] at hr; cases hr
    | true =>
      rw [hok] at hr
      have hr : (cop P mask ns o).f tm e h nx (fun v h nx => (cput mask o.dst kr).p v (.mk ⟨fs, df, cs⟩ td j) tm e h nx) = some r := hr
      cases hkk : okind o with
      | eff => exact absurd hkk hk
      | pure =>
        rcases cop_pure (P := P) (mask := mask) (ns := ns) (tm := tm) (e := e) hkk with hF | ⟨v, hF⟩
        · have := hF ⟨h, nx, fun v h nx => (cput mask o.dst kr).p v (.mk ⟨fs, df, cs⟩ td j) tm e h nx⟩
          simp only at this
          rw [this] at hr; cases hr
        · have h1 := hF ⟨h, nx, fun v h nx => (cput mask o.dst kr).p v (.mk ⟨fs, df, cs⟩ td j) tm e h nx⟩
          simp only [GP] at h1
          rw [h1] at hr
          obtain ⟨tm', e', hr', hput⟩ := cput_some (ns := ns) hr
          exact ⟨tm', e', h, nx, _, hr', d.float (b := 262144 + i) (wb := true) R.lim hsz hbd ho hx hk hf hw hsub (Nat.le_refl _) hput hwant (fun hh => by cases hh) (fun _ => ⟨hok, .pure hkk fun h nx K => hF ⟨h, nx, K⟩⟩) (.inl rfl), R, Nat.le_refl _, .refl _ _ _⟩
      | reads =>
        rcases cop_reads (P := P) (mask := mask) (ns := ns) (tm := tm) (e := e) (h := h) hkk with hF | ⟨v, hF⟩
        · have := hF (nx, fun v h nx => (cput mask o.dst kr).p v (.mk ⟨fs, df, cs⟩ td j) tm e h nx)
          simp only at this
          rw [this] at hr; cases hr
        · have h1 := hF (nx, fun v h nx => (cput mask o.dst kr).p v (.mk ⟨fs, df, cs⟩ td j) tm e h nx)
          simp only [GR] at h1
          rw [h1] at hr
          obtain ⟨tm', e', hr', hput⟩ := cput_some (ns := ns) hr
          exact ⟨tm', e', h, nx, _, hr', d.float (b := 262144 + i) (wb := true) R.lim hsz hbd ho hx hk hf hw hsub (Nat.le_refl _) hput hwant (fun hh => by cases hh) (fun _ => ⟨hok, .reads hkk (.inr ⟨h, hsub, fun nx K => hF (nx, K)⟩)⟩) (.inl rfl), R, Nat.le_refl _, .refl _ _ _⟩
      | makes =>
        rcases cop_makes (P := P) (mask := mask) (ns := ns) (tm := tm) (e := e) hkk with hF | ⟨⟨ab, kv⟩, hF⟩
        · have := hF ⟨h, nx, fun v h nx => (cput mask o.dst kr).p v (.mk ⟨fs, df, cs⟩ td j) tm e h nx⟩
          simp only at this
          rw [this] at hr; cases hr
        · have h1 := hF ⟨h, nx, fun v h nx => (cput mask o.dst kr).p v (.mk ⟨fs, df, cs⟩ td j) tm e h nx⟩
          simp only [GM] at h1
          rw [h1] at hr
          obtain ⟨hlt, hr⟩ := newB_some hr
          obtain ⟨tm', e', hr', hput⟩ := cput_some (ns := ns) hr
          have hg : ∀ k, bget k (bput nx (some ab) h) = if k = nx then some ab else bget k h := fun k => by
            rw [bget_put]
            by_cases hk : k = nx
            · subst hk; rw [if_pos ⟨rfl, by omega⟩, if_pos rfl]
            · rw [if_neg (fun (x : k = nx ∧ k < 262144) => hk x.1), if_neg hk]
          have hs : Sub h (bput nx (some ab) h) := fun k ab' hk' => by
            have : k ≠ nx := fun hh => by subst hh; rw [R.top k (Nat.le_refl _)] at hk'; cases hk'
            rw [hg, if_neg this]; exact hk'
          exact ⟨tm', e', _, nx + 1, _, hr', d.float (b := nx) (wb := true) R.lim hsz hbd ho hx hk hf hw hs (by omega) hput hwant (fun hh => by cases hh)
            (fun _ => ⟨hok, .makes hkk (R.fresh nx (Nat.le_refl _)) hfl (by omega) hlt ab kv (by rw [hg, if_pos rfl]) rfl fun h nx K => hF ⟨h, nx, K⟩⟩) (.inr ⟨rfl, by omega, hlt⟩),
            R.unplaced hlt ab, by omega, ⟨.refl _ _, fun k hk _ => by rw [hg, if_neg (by omega)]⟩⟩
  · obtain ⟨tm', e', hr', hput⟩ := cput_some (ns := ns) hr
    exact ⟨tm', e', h, nx, _, hr', d.float (b := 262144 + i) (wb := false) R.lim hsz hbd ho hx hk hf hw hsub (Nat.le_refl _) hput hwant (fun _ => rfl) (fun hh => by cases hh) (.inl rfl), R, Nat.le_refl _, .refl _ _ _⟩
end
end Go.Ax
namespace Go.Ax
open Go.RowKit (Below)
variable {P : Program} {D : Nat → Nat} {base : Bas} {w0 : World} {f0 : Nat} {cs0 : List Frame}

section
variable {E : En} {h : H} {fl nx : Nat} {mask x : Nat} {ops : Array Oper} {done : List (Nat × Oper)} {pre rest : List Nat} {ns : List Tmp} {tm : Tm} {e : List AV} {tmps : Array Value} {B : Nat → Nat}
  {i b : Nat} {o : Oper} {v : AV} {V : Value}

/-- what is pending is not read by what stands at the head -/
theorem head_reads (d : DInv P true E h fl nx mask ops x done pre (i :: rest) ns tm e tmps B) (hb : ∀ a ∈ done, ∀ t, a.2.dst = some t → readsT ops o t = true → Nat.testBit ((Region.before ops).getD i 0) a.1 = true) :
    ∀ t, readsT ops o t = true → ¬ ∃ a ∈ done, a.1 ∈ i :: rest ∧ a.2.dst = some t := by
  rintro t ht ⟨a, ha, har, hat⟩
  have := before_lin d.lin (hb a ha t hat ht) pre rest rfl
  exact Lin.apart d.lin this har

theorem Kind.weak {s : Bool} {ns0 : List Tmp} {tm0 : Tm} {e0 : List AV} (q : Kind P s E h fl nx mask ns0 tm0 e0 b o v) : Kind P true E h fl nx mask ns0 tm0 e0 b o v := by
  cases q with
  | pure hk hf => exact .pure hk hf
  | reads hk hf => exact .reads hk (.inl rfl)
  | makes hk hb h1 h2 h3 ab kv hg hv hf => exact .makes hk hb h1 h2 h3 ab kv hg hv hf
theorem DInv.weak {s : Bool} (d : DInv P s E h fl nx mask ops x done pre rest ns tm e tmps B) : DInv P true E h fl nx mask ops x done pre rest ns tm e tmps B := by
  refine { d with pf := ?_ }
  intro a ha har
  obtain ⟨ns0, tm0, e0, v0, wb0, q⟩ := d.pf a ha har
  exact ⟨ns0, tm0, e0, v0, wb0, q.same, q.want, q.dst, q.off, fun hh => ⟨(q.on hh).1, (q.on hh).2.weak⟩⟩

/-- a pending operation has been run -/
theorem DInv.ran {E' : En} (d : DInv P false E h fl nx mask ops x done pre (i :: rest) ns tm e tmps B) (hx : Nat.testBit x i = true) (hio : (i, o) ∈ done)
    (hv : ∀ t, o.dst = some t → VR E' ((opd mask ns (.tmp t)).g tm e) V) (hle : ∃ k, En.le k E E') (hE : ∀ a ∈ done, a.1 ∈ rest → E.m (B a.1) = none → E'.m (B a.1) = none) :
    DInv P false E' h fl nx mask ops x done (pre ++ [i]) rest ns tm e (putT tmps o.dst V) B := by
  obtain ⟨k, hle⟩ := hle
  have hlin : pre ++ [i] ++ rest = pre ++ i :: rest := by simp
  have uniq : ∀ a ∈ done, a.1 = i → a.2 = o := by
    intro a ha hai
    have h1 := (d.h3 a ha).1
    have h2 := (d.h3 (i, o) hio).1
    rw [hai] at h1
    simp only at h2
    rw [h1] at h2
    exact Option.some.inj h2
  refine ⟨by rw [hlin]; exact d.lin, ?_, fun j hj => d.h2 j (.tail _ hj), d.h3, d.st, d.un, ?_, ?_, fun a ha c hc har hcr => d.inj a ha c hc (.tail _ har) (.tail _ hcr), fun a ha har => d.bk a ha (.tail _ har), fun a ha t ht => by rw [putT_size]; exact d.dl a ha t ht⟩
  · intro j hj
    simp only [List.mem_append, List.mem_singleton] at hj
    rcases hj with hj | rfl
    · exact d.h1 j hj
    · exact hx
  · intro u hu hp
    by_cases hd : o.dst = some u
    · have hlt := d.dl (i, o) hio u hd
      have : (putT tmps o.dst V).getD u Go.undef = V := by rw [hd]; simp [putT, Array.getD_eq_getD_getElem?, hlt]
      rw [this]
      exact hv u hd
    · have : (putT tmps o.dst V).getD u Go.undef = tmps.getD u Go.undef := by
        cases hdd : o.dst with
        | none => rfl
        | some t =>
          have hne : t ≠ u := fun hh => hd (by rw [hdd, hh])
          simp [putT, Array.getD_eq_getD_getElem?, Array.getElem?_setIfInBounds_ne hne]
      rw [this]
      refine (d.tr u hu ?_).mono hle
      rintro ⟨a, ha, har, hat⟩
      cases har with
      | head => rw [uniq a ha rfl] at hat; exact hd hat
      | tail _ har => exact hp ⟨a, ha, har, hat⟩
  · intro a ha har
    obtain ⟨ns0, tm0, e0, v0, wb0, q⟩ := d.pf a ha (.tail _ har)
    refine ⟨ns0, tm0, e0, v0, wb0, q.same, q.want, q.dst, q.off, fun hh => ⟨(q.on hh).1, ?_⟩⟩
    cases (q.on hh).2 with
    | pure hk hf => exact .pure hk hf
    | reads hk hf => exact .reads hk hf
    | makes hk hb h1 h2 h3 ab kv hg hv hf => exact .makes hk (hE a ha har hb) h1 h2 h3 ab kv hg hv hf

/-- an effect's value is put -/
theorem DInv.eff {s : Bool} {E' : En} {h' : H} {nx' n : Nat} {tm' : Tm} {e' : List AV} (d : DInv P s E h fl nx mask ops x done pre (i :: rest) ns tm e tmps B) (hx : Nat.testBit x i = false)
    (hf : fits ops ((Region.before ops).getD i 0) o true done = true) (hsz : tmps.size = n) (hbd : mask < 2 ^ n) (hput : PutOk mask n o.dst v ns tm e tm' e') (hv : VR E' v V) (hle : ∃ k, En.le k E E') (hn : nx ≤ nx')
    (hkind : ∀ a ∈ done, a.1 ∈ rest → ∀ ns0 tm0 e0 v0, Kind P s E h fl nx mask ns0 tm0 e0 (B a.1) a.2 v0 → Kind P s E' h' fl nx' mask ns0 tm0 e0 (B a.1) a.2 v0) :
    DInv P s E' h' fl nx' mask ops (Nat.lor x (Nat.shiftLeft 1 i)) done (pre ++ [i]) rest (names' mask o.dst ns) tm' e' (putT tmps o.dst V) B := by
  obtain ⟨k, hle⟩ := hle
  have hfit := fits_sound hf
  have hlin : pre ++ [i] ++ rest = pre ++ i :: rest := by simp
  have hbit : ∀ j, Nat.testBit (Nat.lor x (Nat.shiftLeft 1 i)) j = true ↔ Nat.testBit x j = true ∨ i = j := fun j => by rw [bit_add]; simp
  have hni := d.lin.notin
  have hnd : ∀ a ∈ done, a.1 ≠ i := fun a ha hh => by have := (d.h3 a ha).2.1; rw [hh, hx] at this; cases this
  have free : ∀ a ∈ done, a.1 ∈ rest → ∀ t, o.dst = some t → readsT ops a.2 t = false ∧ a.2.dst ≠ some t := by
    intro a ha har t ht
    have no : ¬ (readsT ops a.2 t = true ∨ a.2.dst = some t) := by
      intro hq
      have := ((hfit a ha).2 t ht hq).2
      have := before_lin d.lin this pre rest rfl
      exact Lin.apart d.lin this (.tail _ har)
    constructor
    · cases hq : readsT ops a.2 t with
      | false => rfl
      | true => exact absurd (.inl hq) no
    · exact fun hq => no (.inr hq)
  refine ⟨by rw [hlin]; exact d.lin, ?_, ?_, ?_, d.st, d.un, ?_, ?_, fun a ha c hc har hcr => d.inj a ha c hc (.tail _ har) (.tail _ hcr), ?_, fun a ha t ht => by rw [putT_size]; exact d.dl a ha t ht⟩
  · intro j hj
    simp only [List.mem_append, List.mem_singleton] at hj
    rcases hj with hj | rfl
    · exact (hbit j).2 (.inl (d.h1 j hj))
    · exact (hbit j).2 (.inr rfl)
  · intro j hj hb
    rcases (hbit j).1 hb with hb | rfl
    · exact d.h2 j (.tail _ hj) hb
    · exact absurd hj hni.2
  · intro a ha
    obtain ⟨h1, h2, h3⟩ := d.h3 a ha
    exact ⟨h1, (hbit _).2 (.inl h2), h3⟩
  · refine TR.put (T := TR.mono hle d.tr) hput hsz hbd hv ?_
    intro u hu
    refine .inr fun ⟨a, ha, har, hat⟩ => hu ⟨a, ha, ?_, hat⟩
    cases har with
    | head => exact absurd rfl (hnd a ha)
    | tail _ har => exact har
  · intro a ha har
    obtain ⟨ns0, tm0, e0, v0, wb0, q⟩ := d.pf a ha (.tail _ har)
    refine ⟨ns0, tm0, e0, v0, wb0, ?_, q.want, ?_, q.off, fun hh => ⟨(q.on hh).1, hkind a ha har _ _ _ _ (q.on hh).2⟩⟩
    · intro t ht hk0
      have hd : o.dst ≠ some t := fun hh => by rw [(free a ha har t hh).1] at ht; cases ht
      obtain ⟨h1, h2⟩ := hput.other t hd
      obtain ⟨s1, s2⟩ := q.same t ht hk0
      exact ⟨by rw [h1]; exact s1, by rw [h2 s1]; exact s2⟩
    · intro t ht
      have hd : o.dst ≠ some t := fun hh => (free a ha har t hh).2 ht
      obtain ⟨h1, h2⟩ := hput.other t hd
      obtain ⟨s1, s2⟩ := q.dst t ht
      exact ⟨by rw [h1]; exact s1, by rw [h2 s1]; exact s2⟩
  · intro a ha har
    rcases d.bk a ha (.tail _ har) with h1 | h1
    · exact .inl h1
    · exact .inr (by omega)

/-- the floating reads have been looked at anew -/
theorem DInv.checked {r : St} {K : O} (d : DInv P true E h fl nx mask ops x done (pre ++ [i]) rest ns tm e tmps B)
    (hr : (crecheck P mask ops ns (readersR ((Region.before ops).getD i 0) done)).c tm e h nx K = some r) : K = some r ∧ DInv P false E h fl nx mask ops x done (pre ++ [i]) rest ns tm e tmps B := by
  obtain ⟨hK, hrc⟩ := crecheck_sound readersR_all hr
  refine ⟨hK, { d with pf := ?_ }⟩
  intro a ha har
  obtain ⟨ns0, tm0, e0, v0, wb0, q⟩ := d.pf a ha har
  have hnb : Nat.testBit ((Region.before ops).getD i 0) a.1 = false := by
    cases hb : Nat.testBit ((Region.before ops).getD i 0) a.1 with
    | false => rfl
    | true =>
      have := before_lin d.lin hb pre rest (by simp)
      exact (Lin.apart d.lin (List.mem_append.2 (.inl this)) har).elim
  by_cases hk : okind a.2 = .reads
  · obtain ⟨t, wb, h1, h2, h3, h4, h5⟩ := hrc a.2 (readersR_mem a ha hnb hk) 
    have hwant := cwant_same q.same q.want
    rw [hwant] at h4
    have hwb : wb0 = wb := Option.some.inj h4
    subst hwb
    have hv0 := (q.dst t h1).2
    refine ⟨ns, tm, e, v0, wb0, fun u hu hk0 => ⟨hk0, rfl⟩, hwant, q.dst, q.off, fun hh => ⟨h2, .reads hk (.inr ⟨h, fun _ _ hh => hh, fun nx K => ?_⟩)⟩⟩
    rw [← hv0]
    exact h5 hh nx K
  · refine ⟨ns0, tm0, e0, v0, wb0, q.same, q.want, q.dst, q.off, fun hh => ⟨(q.on hh).1, ?_⟩⟩
    cases (q.on hh).2 with
    | pure hk hf => exact .pure hk hf
    | reads hk' hf => exact absurd hk' hk
    | makes hk hb h1 h2 h3 ab kv hg hv hf => exact .makes hk hb h1 h2 h3 ab kv hg hv hf
end

/-! the machine runs what is pending -/
section
variable {h : H} {fl nx : Nat} {x : Nat} {ops : Array Oper} {done : List (Nat × Oper)} {ns : List Tmp} {tm : Tm} {e : List AV} {B : Nat → Nat} {fs : FS} {df : List ADf} {cs : List Fr} {td : List AI} {fcs : List Frame} {k : List Item}
  {j : J} {r : St}

theorem flush_one {E : En} {i : Nat} {pre rest : List Nat} {fr : Frame} {w : World} (R : HR D base w0 E h nx w) (_hfl : fl ≤ nx) (hb : FrB D E fs df fr) (hm : fr.mode = .run) (hi : fr.todo = .inRegion ops (i :: rest) :: k)
    (C : CsR P D f0 cs0 E h fl fs.fn fs.dk cs fcs) (hk : ItL E td k) (hx : Nat.testBit x i = true) (d : DInv P false E h fl nx (D fs.fn) ops x done pre (i :: rest) ns tm e fr.tmps B) :
    ∃ E' fr' w', step P (lone fr fcs w) = .next (lone fr' fcs w') ∧ HR D base w0 E' h nx w' ∧ FrB D E' fs df fr' ∧ fr'.mode = .run ∧ fr'.todo = .inRegion ops rest :: k ∧ CsR P D f0 cs0 E' h fl fs.fn fs.dk cs fcs ∧ ItL E' td k ∧
      DInv P false E' h fl nx (D fs.fn) ops x done (pre ++ [i]) rest ns tm e fr'.tmps B := by
  obtain ⟨o, hio⟩ := d.h2 i (.head _) hx
  obtain ⟨ho, _, hne⟩ := d.h3 (i, o) hio
  simp only at ho hne
  obtain ⟨ns0, tm0, e0, v, wb, q⟩ := d.pf (i, o) hio (.head _)
  have hread := head_reads (o := o) d.weak fun a ha t hat ht => d.st a ha (i, o) hio t hat ht
  -- the temporaries that the operation reads
  have T0 : TR E (D fs.fn) ns0 tm0 e0 fr.tmps (fun t => readsT ops o t = false) := by
    intro t hk0 hn
    have ht : readsT ops o t = true := by cases hq : readsT ops o t with | true => rfl | false => exact absurd hq hn
    obtain ⟨s1, s2⟩ := q.same t ht hk0
    rw [← s2]
    exact d.tr t s1 (hread t ht)
  have hwant : Region.wanted o (yielded ops fr.tmps) = wb := cwant_sound T0 q.want fun jj want t hg hd hh => by
    have : readsT ops o t = true := by simp [readsT, hg, hd, isD]
    rw [this] at hh; cases hh
  have hfin : ∀ V, fr.finish V = { fr with tmps := putT fr.tmps o.dst V, todo := .inRegion ops rest :: k } := finish_reg hi ho
  -- what follows from a value
  have fin : ∀ (V : Value) (E' : En) (w' : World), step P (lone fr fcs w) = .next (lone (fr.finish V) fcs w') → HR D base w0 E' h nx w' → En.le fl E E' → VR E' v V → (∀ a ∈ done, a.1 ∈ rest → E.m (B a.1) = none → E'.m (B a.1) = none) →
      ∃ E' fr' w', step P (lone fr fcs w) = .next (lone fr' fcs w') ∧ HR D base w0 E' h nx w' ∧ FrB D E' fs df fr' ∧ fr'.mode = .run ∧ fr'.todo = .inRegion ops rest :: k ∧ CsR P D f0 cs0 E' h fl fs.fn fs.dk cs fcs ∧ ItL E' td k ∧
      DInv P false E' h fl nx (D fs.fn) ops x done (pre ++ [i]) rest ns tm e fr'.tmps B := by
    intro V E' w' hst R' hle hv hE
    have hb' := hb.mono hle
    refine ⟨E', _, w', hst, R', ?_, ?_, ?_, C.keep ⟨hle, fun _ _ _ => rfl⟩, hk.mono hle, ?_⟩
    · rw [hfin]
      exact ⟨hb'.fn, by show (putT fr.tmps o.dst V).size = fs.n; rw [putT_size]; exact hb.size, hb'.bound, hb'.df, hb'.kind, hb'.rd⟩
    · rw [hfin]; exact hm
    · rw [hfin]
    · rw [hfin]
      exact d.ran hx hio (fun t ht => by rw [(q.dst t ht).2]; exact hv) ⟨fl, hle⟩ hE
  cases wb with
  | false =>
    have hv := q.off rfl
    subst hv
    exact fin Go.undef E w (step_unwanted hm hi ho hwant) R (.refl _ _) (undef_sound E) fun _ _ _ hh => hh
  | true =>
    obtain ⟨hok, hkind⟩ := q.on rfl
    have hop : Ops E (D fs.fn) ns0 tm0 e0 fr.eval o := ops_sound T0 hok fun t ht hh => by
      have : readsT ops o t = true := by
        simp only [readsT, Bool.or_eq_true, List.any_eq_true]
        exact .inl ⟨_, ht, by simp [isT]⟩
      rw [this] at hh; cases hh
    have hnd := okind_nodefer hne
    have pu : ∀ h0, Sub h0 h → (cop P (D fs.fn) ns0 o).f tm0 e0 h0 nx (fun v h nx => some (.fin v h nx)) = some (.fin v h0 nx) → (okind o = .pure ∨ okind o = .reads) → ∃ E' fr' w', step P (lone fr fcs w) = .next (lone fr' fcs w') ∧ HR D base w0 E' h nx w' ∧ FrB D E' fs df fr' ∧ fr'.mode = .run ∧ fr'.todo = .inRegion ops rest :: k ∧ CsR P D f0 cs0 E' h fl fs.fn fs.dk cs fcs ∧ ItL E' td k ∧
      DInv P false E' h fl nx (D fs.fn) ops x done (pre ++ [i]) rest ns tm e fr'.tmps B := by
      intro h0 hs hc hkk
      obtain ⟨v', V, h1, h2, h3⟩ := pu_sound (R.sub hs) hkk hop hc
      cases h1
      exact fin V E w (step_value hm hi ho hwant (.inr hnd) (.inl h3)) R (.refl _ _) h2 fun _ _ _ hh => hh
    cases hkind with
    | pure hkk hf => exact pu h (fun _ _ hh => hh) (hf h nx _) (.inl hkk)
    | reads hkk hf =>
      rcases hf with hf | ⟨h0, hs, hf⟩
      · cases hf
      · exact pu h0 hs (hf nx _) (.inr hkk)
    | makes hkk hEb h1 h2 h3 ab kv hg hv hf =>
      have hc := hf bnil (B i) (fun v h nx => some (.fin v h nx))
      have hnew : newB ab bnil (B i) (fun b h' nx' => (some (.fin (kv b) h' nx') : O)) = some (.fin (kv (B i)) (bput (B i) (some ab) bnil) (B i + 1)) := by
        show bc (Nat.blt (B i) 262143) _ none = _
        have : Nat.blt (B i) 262143 = true := by simpa using h3
        rw [this, bc_true, dig_eq]
      rw [hnew] at hc
      obtain ⟨ab', kv', qq, ob, V, hn, br, hV, hrun⟩ := mk_sound (P := P) (D := D) (w := w) hkk hop hc
      obtain ⟨_, hn⟩ := newB_some hn
      simp only [Option.some.injEq, St.fin.injEq] at hn
      obtain ⟨hn1, hn2, _⟩ := hn
      have hab : ab' = ab := by
        have h4 : bget (B i) (bput (B i) (some ab') bnil) = some ab' := by rw [bget_put, if_pos ⟨rfl, by omega⟩]
        have h5 : bget (B i) (bput (B i) (some ab) bnil) = some ab := by rw [bget_put, if_pos ⟨rfl, by omega⟩]
        rw [hn2, h5] at h4
        exact (Option.some.inj h4).symm
      subst hab
      have hle := E.put_low (w.heap.size, qq) hEb h1
      refine fin V (E.put (B i) (w.heap.size, qq)) (w.alloc ob) (step_value hm hi ho hwant (.inr hnd) (.inl hrun)) (R.place hEb h2 hg br) hle ?_ ?_
      · rw [hv, ← hn1]; exact hV _ _ (En.put_at _ _ _)
      · intro a ha har hn
        have hne' : B a.1 ≠ B i := fun hh => by
          have := d.inj a ha (i, o) hio (.tail _ har) (.head _) hh
          simp only at this
          exact d.lin.notin.2 (this ▸ har)
        show (if B a.1 = B i then _ else E.m (B a.1)) = none
        rw [if_neg hne']; exact hn

theorem flush_goes : ∀ (l1 : List Nat) {rest2 pre : List Nat} {E : En} {fr : Frame} {w : World}, HR D base w0 E h nx w → fl ≤ nx → FrB D E fs df fr → fr.mode = .run → fr.todo = .inRegion ops (l1 ++ rest2) :: k →
    CsR P D f0 cs0 E h fl fs.fn fs.dk cs fcs → ItL E td k → (∀ i ∈ l1, Nat.testBit x i = true) → DInv P false E h fl nx (D fs.fn) ops x done pre (l1 ++ rest2) ns tm e fr.tmps B →
    (∀ (E' : En) (fr' : Frame) (w' : World), HR D base w0 E' h nx w' → FrB D E' fs df fr' → fr'.mode = .run → fr'.todo = .inRegion ops rest2 :: k → CsR P D f0 cs0 E' h fl fs.fn fs.dk cs fcs → ItL E' td k →
      DInv P false E' h fl nx (D fs.fn) ops x done (pre ++ l1) rest2 ns tm e fr'.tmps B → Goes P D base w0 f0 cs0 (lone fr' fcs w') j r) →
    Goes P D base w0 f0 cs0 (lone fr fcs w) j r
  | [], rest2, pre, E, fr, w, R, hfl, hb, hm, hi, C, hk, hx, d, go => go E fr w R hb hm hi C hk (by simpa using d)
  | i :: l1, rest2, pre, E, fr, w, R, hfl, hb, hm, hi, C, hk, hx, d, go => by
    obtain ⟨E', fr', w', hst, R', hb', hm', hi', C', hk', d'⟩ := flush_one (rest := l1 ++ rest2) R hfl hb hm hi C hk (hx i (.head _)) d
    refine .of_steps (.one hst) (flush_goes l1 R' hfl hb' hm' hi' C' hk' (fun q hq => hx q (.tail _ hq)) d' ?_)
    intro E'' fr'' w'' R'' hb'' hm'' hi'' C'' hk'' d''
    exact go E'' fr'' w'' R'' hb'' hm'' hi'' C'' hk'' (by simpa using d'')
end

/-- before an effect the machine runs nothing but what the plan is through with -/
theorem before_eff {ops : Array Oper} {x i : Nat} {pre l1 l2 : List Nat} (hl : Lin .any ops (pre ++ (l1 ++ i :: l2))) (h1 : ∀ q ∈ pre, Nat.testBit x q = true)
    (only : ∀ q o', ops[q]? = some o' → Nat.testBit x q = false → direct .any x o' = true → q = i) : ∀ q ∈ l1, Nat.testBit x q = true := by
  -- the first that is not
  have key : ∀ (a b : List Nat), l1 = a ++ b → (∀ q ∈ a, Nat.testBit x q = true) → ∀ q ∈ b, Nat.testBit x q = true := by
    intro a b
    induction b generalizing a with
    | nil => intro _ _ q hq; cases hq
    | cons c b ih =>
      intro hab ha
      have hc : Nat.testBit x c = true := by
        cases hq : Nat.testBit x c with
        | true => rfl
        | false =>
          exfalso
          have hlt : c < ops.size := (hl.all c).1 (by rw [hab]; simp)
          have heq : pre ++ (l1 ++ i :: l2) = (pre ++ a) ++ c :: (b ++ i :: l2) := by rw [hab]; simp
          have hdir : direct .any x ops[c] = true := by
            simp only [direct, List.all_eq_true]
            intro e he
            cases hbd : Region.binds .any e with
            | false => rfl
            | true =>
              have := hl.ord _ c _ heq e.on ⟨ops[c], Array.getElem?_eq_getElem hlt, e, he, hbd, rfl⟩
              simp only [Bool.not_true, Bool.false_or]
              rcases List.mem_append.1 this with h | h
              · exact h1 _ h
              · exact ha _ h
          have := only c _ (Array.getElem?_eq_getElem hlt) hq hdir
          subst this
          have := hl.nodup
          rw [heq, List.nodup_append] at this
          have h3 := this.2.1
          rw [List.nodup_cons] at h3
          exact h3.1 (by simp)
      intro q hq
      cases hq with
      | head => exact hc
      | tail _ hq => exact ih (a ++ [c]) (by rw [hab]; simp) (fun q hq => by
          rcases List.mem_append.1 hq with h | h
          · exact ha q h
          · simp only [List.mem_singleton] at h; subst h; exact hc) q hq
  exact key [] l1 rfl fun q hq => by cases hq

section
variable {fl x : Nat} {ops : Array Oper} {done : List (Nat × Oper)} {fs : FS} {cs : List Fr} {td : List AI} {fcs : List Frame} {k : List Item} {j : J} {r : St}

/-- a region that draws its order, from a place of the plan on -/
def PlanGoes (P : Program) (D : Nat → Nat) (base : Bas) (w0 : World) (f0 : Nat) (cs0 : List Frame) (ops : Array Oper) (fs : FS) (cs : List Fr) (td : List AI) (fcs : List Frame) (k : List Item) (j : J) (r : St) (fl x : Nat) (done : List (Nat × Oper)) (ps : List PS) : Prop :=
  ∀ (pre rest : List Nat) (ns : List Tmp) (E : En) (h : H) (nx : Nat) (w : World) (df : List ADf) (tm : Tm) (e : List AV) (fr : Frame) (B : Nat → Nat), HR D base w0 E h nx w → fl ≤ nx → FrB D E fs df fr → fr.mode = .run →
    fr.todo = .inRegion ops rest :: k → CsR P D f0 cs0 E h fl fs.fn fs.dk cs fcs → ItL E td k → DInv P false E h fl nx (D fs.fn) ops x done pre rest ns tm e fr.tmps B →
    (cplan P D (D fs.fn) ops ns ps).r (.mk ⟨fs, df, cs⟩ td j) tm e h nx = some r → Goes P D base w0 f0 cs0 (lone fr fcs w) j r

/-- behind an effect's value -/
theorem eff_after {i : Nat} {o : Oper} {ps : List PS} {E : En} {h : H} {nx : Nat} {pre rest : List Nat} {ns : List Tmp} {df : List ADf} {tm : Tm} {e : List AV} {fr : Frame} {B : Nat → Nat}
    (ih : PlanGoes P D base w0 f0 cs0 ops fs cs td fcs k j r fl (Nat.lor x (Nat.shiftLeft 1 i)) done ps)
    (ho : ops[i]? = some o) (hx : Nat.testBit x i = false) (hf : fits ops ((Region.before ops).getD i 0) o true done = true)
    (hfl : fl ≤ nx) (hb : FrB D E fs df fr) (hm : fr.mode = .run) (hi : fr.todo = .inRegion ops (i :: rest) :: k) (C : CsR P D f0 cs0 E h fl fs.fn fs.dk cs fcs) (hk : ItL E td k)
    (d : DInv P true E h fl nx (D fs.fn) ops x done pre (i :: rest) ns tm e fr.tmps B) :
    After P D base w0 f0 cs0 E h nx fs cs td j tm e fr fcs (cput (D fs.fn) o.dst (checkR P (D fs.fn) ops (names' (D fs.fn) o.dst ns) (readersR ((Region.before ops).getD i 0) done) (cplan P D (D fs.fn) ops (names' (D fs.fn) o.dst ns) ps))) r := by
  refine after_put (mask := D fs.fn) (ns := ns) hfl hb hm hi ho C hk ?_
  intro v V E' h' nx' w' df' fr' tm' e' hv hkeep hnx R' hb' hm' hi' ht hput C' hk' hfl' hr'
  have d1 := DInv.eff (h' := h') d hx hf hb.size hb.bound hput hv ⟨nx, hkeep.le⟩ hnx fun a ha har ns0 tm0 e0 v0 q => (q.keep hkeep).grow (fun _ _ hh => hh) hnx
  rw [← ht] at d1
  have hr'' : (crecheck P (D fs.fn) ops (names' (D fs.fn) o.dst ns) (readersR ((Region.before ops).getD i 0) done)).c tm' e' h' nx' ((cplan P D (D fs.fn) ops (names' (D fs.fn) o.dst ns) ps).r (.mk ⟨fs, df', cs⟩ td j) tm' e' h' nx') = some r := by
    unfold checkR at hr'
    split at hr'
    · rename_i hrc; rw [hrc]; exact hr'
    · exact hr'
  obtain ⟨hr3, d2⟩ := d1.checked hr''
  exact ih _ _ _ E' h' nx' w' df' tm' e' fr' B R' hfl' hb' hm' hi' C' hk' d2 hr3

theorem cplan_goes {ps : List PS} (hp : PlanOk ops (Region.before ops) x done ps) : PlanGoes P D base w0 f0 cs0 ops fs cs td fcs k j r fl x done ps := by
  induction hp with
  | nil hall =>
    intro pre rest ns E h nx w df tm e fr B R hfl hb hm hi C hk d hr
    refine flush_goes rest (rest2 := []) R hfl hb hm (by simpa using hi) C hk ?_ (by simpa using d) ?_
    · intro i hi'
      exact all_bits hall i ((d.lin.all i).1 (by simp [hi']))
    · intro E' fr' w' R' hb' hm' hi' C' hk' d'
      refine regionEnd_goes (_mask := D fs.fn) (_ns := ns) R' hfl hb' hm' hi' (d'.tr.slots ?_) C' hk' hr
      rintro t ⟨a, ha, har, _⟩
      cases har
  | @fl x i o done ps ho hx hd hkk hf hw t ih =>
    intro pre rest ns E h nx w df tm e fr B R hfl hb hm hi C hk d hr
    simp only [cplan] at hr
    obtain ⟨tm', e', h', nx', B', hr', d', R', hnx, hkeep⟩ := float_step R hfl hb.size hb.bound d ho hx hkk hf hw hr
    exact ih pre rest _ E h' nx' w df tm' e' fr B' R' (by omega) hb hm hi (C.keep hkeep) hk d' hr'
  | @ef x i o done ps ho hx hd only hf t ih =>
    intro pre rest ns E h nx w df tm e fr B R hfl hb hm hi C hk d hr
    have hir : i ∈ rest := by
      have h1 : i ∈ pre ++ rest := (d.lin.all i).2 (lt_of_get ho)
      rcases List.mem_append.1 h1 with h1 | h1
      · have := d.h1 i h1; rw [hx] at this; cases this
      · exact h1
    obtain ⟨l1, l2, hl⟩ := List.append_of_mem hir
    subst hl
    refine flush_goes l1 R hfl hb hm hi C hk (before_eff d.lin d.h1 only) d ?_
    intro E' fr' w' R' hb' hm' hi' C' hk' d'
    have hfit := fits_sound hf
    have hread := head_reads (o := o) d'.weak fun a ha t hat ht => (hfit a ha).1 t hat ht
    have T := d'.tr
    have hgd : ∀ jj want t, o.guard = some (jj, want) → (ops[jj]?).bind (·.dst) = some t → ¬ ∃ a ∈ done, a.1 ∈ i :: l2 ∧ a.2.dst = some t := fun jj want t hg hdd => hread t (by simp [readsT, hg, hdd, isD])
    simp only [cplan] at hr
    rcases guardR_some hr with ⟨hwant, hr⟩ | ⟨hwant, hr⟩
    · refine cone_goes (it := .dreg ⟨ops, ns, .ef i o (readersR ((Region.before ops).getD i 0) done) :: ps⟩) R' hfl hb' hm' hi' ho (cwant_sound T hwant hgd) T ?_ C' ?_ hr ?_
      · intro t ht
        exact hread t (by
          simp only [readsT, Bool.or_eq_true, List.any_eq_true]
          exact .inl ⟨_, ht, by simp [isT]⟩)
      · exact .dreg hb' hm' hi' (.ef ho hx hd only hf t) d'.weak hk'
      · exact eff_after ih ho hx hf hfl hb' hm' hi' C' hk' d'.weak
    · refine .of_steps (.one (step_unwanted hm' hi' ho (cwant_sound T hwant hgd))) ?_
      have hr : (cput (D fs.fn) o.dst (cplan P D (D fs.fn) ops (names' (D fs.fn) o.dst ns) ps)).p undef (.mk ⟨fs, df, cs⟩ td j) tm e h nx = some r := hr
      have after : After P D base w0 f0 cs0 E' h nx fs cs td j tm e fr' fcs (cput (D fs.fn) o.dst (cplan P D (D fs.fn) ops (names' (D fs.fn) o.dst ns) ps)) r → Goes P D base w0 f0 cs0 (lone (fr'.finish Go.undef) fcs w') j r :=
        fun af => af undef Go.undef h nx E' w' df fr'.defers (undef_sound E') (.refl _ _ _) (Nat.le_refl _) R' hb'.df hr
      obtain ⟨tm', e', hr', hput⟩ := cput_some (ns := ns) hr
      have hfin := finish_reg hi' ho Go.undef
      have d1 := DInv.eff (h' := h) (nx' := nx) d' hx hf hb'.size hb'.bound hput (undef_sound E') ⟨0, .refl _ _⟩ (Nat.le_refl _) fun a ha har ns0 tm0 e0 v0 q => q
      rw [hfin]
      exact ih _ _ _ E' h nx w' df tm' e' _ B R' hfl ⟨hb'.fn, by show (putT fr'.tmps o.dst Go.undef).size = fs.n; rw [putT_size]; exact hb'.size, hb'.bound, hb'.df, hb'.kind, hb'.rd⟩ hm' rfl C' hk' d1 hr'

/-- a call comes back into a region that draws its order -/
theorem cdreg_after {i : Nat} {o : Oper} {rc : List Oper} {ps : List PS} {E : En} {h : H} {nx : Nat} {pre rest : List Nat} {ns : List Tmp} {df : List ADf} {tm : Tm} {e : List AV} {fr : Frame} {B : Nat → Nat}
    (hp : PlanOk ops (Region.before ops) x done (.ef i o rc :: ps)) (hfl : fl ≤ nx) (hb : FrB D E fs df fr) (hm : fr.mode = .run) (hi : fr.todo = .inRegion ops (i :: rest) :: k) (C : CsR P D f0 cs0 E h fl fs.fn fs.dk cs fcs) (hk : ItL E td k)
    (d : DInv P true E h fl nx (D fs.fn) ops x done pre (i :: rest) ns tm e fr.tmps B) :
    After P D base w0 f0 cs0 E h nx fs cs td j tm e fr fcs (cdregF P D fs.fn ⟨ops, ns, .ef i o rc :: ps⟩) r := by
  cases hp with
  | ef ho hx hd only hf t => exact eff_after (cplan_goes t) ho hx hf hfl hb hm hi C hk d
end
end Go.Ax
namespace Go.Ax
open Go.RowKit (Below)
variable {P : Program} {D : Nat → Nat} {base : Bas} {w0 : World} {f0 : Nat} {cs0 : List Frame}

/-! the results of a function -/
section
variable {E : En} {h : H} {nx : Nat} {w : World} {mask : Nat} {tm : Tm} {tmps : Array Value}

/-- a result variable, read -/
def rv1 (tmps : Array Value) : ResultVar → Sem Value
  | .tmp t => pure (tmps.getD t Go.undef)
  | .cell a t => do loadVar t (← asAddr (tmps.getD a Go.undef))

theorem cres1_sound (R : HR D base w0 E h nx w) (T : TmR E mask tm tmps) {x : ResultVar} {v : AV} (hr : (cres1 P mask x).g tm h = some v) : ∃ V, VR E v V ∧ (rv1 tmps x).run P w = .ok V w := by
  cases x with
  | tmp t =>
    simp only [cres1] at hr
    cases hk : okd mask [] (.tmp t) with
    | false => rw [hk] at hr; cases hr
    | true =>
      rw [hk] at hr
      cases hr
      have := TR.start T (fun _ => False) t hk (fun hh => hh)
      cases hm : Nat.testBit mask t with
      | true => simp [okd, hm, elookC] at hk
      | false =>
        simp only [opd, hm, bc_false] at this
        exact ⟨_, this, Sem.run_pure _ _ _⟩
  | cell a t =>
    simp only [cres1] at hr
    cases hi : tinfo P t with
    | none => rw [hi] at hr; cases hr
    | some i =>
      rw [hi] at hr
      obtain ⟨I, hI, hU, hsz, _, hag, _⟩ := tinfo_some hi
      simp only at hr
      cases hk : okd mask [] (.tmp a) with
      | false => rw [hk] at hr; cases hr
      | true =>
        rw [hk] at hr
        simp only [bc_true] at hr
        have hT := TR.start T (fun _ => False) a hk (fun hh => hh)
        cases hm : Nat.testBit mask a with
        | true => simp [okd, hm, elookC] at hk
        | false =>
          simp only [opd, hm, bc_false] at hT
          have hrun : ∀ {A : Addr} {V : Value}, tmps.getD a Go.undef = .pointer (some A) → (loadVar t A).run P w = .ok V w → (rv1 tmps (.cell a t)).run P w = .ok V w := by
            intro A V h1 h2
            simp only [rv1, Sem.run_bind, h1, asAddr, Sem.run_pure, Result.andThen_ok, h2]
          cases ha : i.agg with
          | true =>
            rw [ha] at hr
            obtain ⟨b, o, hp, hr⟩ := onPtr_some hr
            obtain ⟨l, hl, hr⟩ := ob_some' hr
            cases hr
            rw [hp] at hT
            generalize hC : tmps.getD a Go.undef = C at hT
            cases hT with
            | ptr _ he =>
              obtain ⟨L, hL, hlen, hlies⟩ := loadB_sound R he hl
              have hrl := run_loadCells_list (P := P) w ⟨_, o, none⟩ L hlies
              rw [hlen, hsz] at hrl
              exact ⟨_, .agg hL, hrun hC (by simp [loadVar, run_agg hU, ← hag, ha, run_size hI, hrl])⟩
          | false =>
            rw [ha] at hr
            obtain ⟨b, o, hp, hr⟩ := onPtr_some hr
            rw [hp] at hT
            generalize hC : tmps.getD a Go.undef = C at hT
            cases hT with
            | ptr _ he =>
              obtain ⟨V, hc, hV⟩ := load1_sound R he hr
              exact ⟨V, hV, hrun hC (by simp [loadVar, run_agg hU, ← hag, ha, hc])⟩

theorem cresL_sound (R : HR D base w0 E h nx w) (T : TmR E mask tm tmps) : ∀ {l : List ResultVar} {vs : List AV}, (cresL P mask l).g tm h = some vs →
    ∃ VS, VRL E vs VS ∧ (l.mapM (rv1 tmps)).run P w = .ok VS w
  | [], vs, hr => by cases hr; exact ⟨[], .nil, by simp⟩
  | x :: l, vs, hr => by
    obtain ⟨v, hv, hr⟩ := ob_some' (x := (cres1 P mask x).g tm h) hr
    obtain ⟨vs', hvs, hr⟩ := ob_some' (x := (cresL P mask l).g tm h) hr
    cases hr
    obtain ⟨V, hV, h1⟩ := cres1_sound (P := P) R T hv
    obtain ⟨VS, hVS, h2⟩ := cresL_sound R T hvs
    refine ⟨V :: VS, .cons hV hVS, ?_⟩
    rw [List.mapM_cons]
    simp only [Sem.run_bind, h1, Result.andThen_ok, h2, Sem.run_pure]

theorem cres_sound (R : HR D base w0 E h nx w) {f : Nat} (T : TmR E (D f) tm tmps) {v : AV} (hr : (cres P D f).g tm h = some v) :
    ∃ fn V, P.funcs[f]? = some fn ∧ VR E v V ∧ (results fn tmps).run P w = .ok V w := by
  unfold cres at hr
  cases hf : P.funcs[f]? with
  | none => rw [hf] at hr; cases hr
  | some fn =>
    rw [hf] at hr
    simp only at hr
    have hrun : ∀ VS : List Value, (fn.results.toList.mapM (rv1 tmps)).run P w = .ok VS w → (results fn tmps).run P w = .ok (match VS with | [V] => V | l => .tuple l.toArray) w := by
      intro VS hVS
      have h1 : results fn tmps = (do let vs ← fn.results.mapM (rv1 tmps); pure (if h : vs.size = 1 then vs[0] else .tuple vs)) := by
        unfold results
        congr 1
      rw [h1, Array.mapM_eq_mapM_toList]
      simp only [Sem.run_bind, Sem.run_map, hVS, Result.andThen_ok, Sem.run_pure]
      rcases VS with _ | ⟨V, _ | ⟨V', l⟩⟩
      · rfl
      · rfl
      · simp
    split at hr
    · rename_i x hx
      obtain ⟨V, hV, h1⟩ := cres1_sound (P := P) R T hr
      refine ⟨fn, V, rfl, hV, hrun [V] ?_⟩
      rw [hx]
      rw [List.mapM_cons]
      simp only [Sem.run_bind, h1, Result.andThen_ok, List.mapM_nil, Sem.run_pure]
    · rename_i l hl
      obtain ⟨vs, hvs, hr⟩ := ob_some' hr
      cases hr
      obtain ⟨VS, hVS, h2⟩ := cresL_sound (P := P) R T hvs
      refine ⟨fn, .tuple VS.toArray, rfl, .tup hVS, ?_⟩
      rw [hrun VS h2]
      have hlen : VS.length = fn.results.toList.length := by
        have h3 := hVS.len
        have h4 : ∀ {l : List ResultVar} {vs : List AV}, (cresL P (D f) l).g tm h = some vs → vs.length = l.length := by
          intro l
          induction l with
          | nil => intro vs hh; cases hh; rfl
          | cons x l ih =>
            intro vs hh
            obtain ⟨v, _, hh⟩ := ob_some' (x := (cres1 P (D f) x).g tm h) hh
            obtain ⟨vs', hv', hh⟩ := ob_some' (x := (cresL P (D f) l).g tm h) hh
            cases hh
            simp [ih hv']
        rw [h3, h4 hvs]
      rcases VS with _ | ⟨V, _ | ⟨V', VS⟩⟩
      · rfl
      · exfalso
        rcases hq : fn.results.toList with _ | ⟨a, _ | ⟨b, l'⟩⟩
        · rw [hq] at hlen; simp at hlen
        · exact hl a hq
        · rw [hq] at hlen; simp at hlen
      · rfl
end

/-! back to the caller -/
theorem DInv.lift {s : Bool} {E : En} {h : H} {fl nx nx' mask x : Nat} {ops : Array Oper} {done : List (Nat × Oper)} {pre rest : List Nat} {ns : List Tmp} {tm : Tm} {e : List AV} {tmps : Array Value} {B : Nat → Nat}
    (d : DInv P s E h fl nx mask ops x done pre rest ns tm e tmps B) (hn : nx ≤ nx') : DInv P s E h fl nx' mask ops x done pre rest ns tm e tmps B := by
  refine { d with pf := ?_, bk := ?_ }
  · intro a ha har
    obtain ⟨ns0, tm0, e0, v0, wb0, q⟩ := d.pf a ha har
    exact ⟨ns0, tm0, e0, v0, wb0, q.same, q.want, q.dst, q.off, fun hh => ⟨(q.on hh).1, (q.on hh).2.grow (fun _ _ hh => hh) hn⟩⟩
  · intro a ha har
    rcases d.bk a ha har with h1 | h1
    · exact .inl h1
    · exact .inr (by omega)

section
variable {E : En} {h : H} {fl nx : Nat} {w : World} {cs : List Fr} {fcs : List Frame} {fn : Nat} {dk : Bool} {v : AV} {V : Value} {j : J} {r : St} {m : Machine}

theorem pop_goes (R : HR D base w0 E h nx w) (hfl : fl ≤ nx) (C : CsR P D f0 cs0 E h fl fn dk cs fcs) (hv : VR E v V) (hr : popA P D dk cs v h nx j = some r)
    (hst : ∀ frc frest, fcs = frc :: frest → cs ≠ [] → step P m = .next (lone (if dk then frc else frc.finish V) frest w) ∨ (dk = true ∧ frc.mode ≠ .returning))
    (hend : cs = [] → fcs = cs0 → fn = f0 → dk = false → Ends P D base w0 f0 cs0 m (.fin v h nx)) : Goes P D base w0 f0 cs0 m j r := by
  cases C with
  | nil =>
    have hr : (some (St.fin v h nx) : O) = some r := hr
    cases hr
    exact .inr (hend rfl rfl rfl rfl)
  | @cons fl0 _ _ _ c cs frc fcs hle s t =>
    have hs := hst frc fcs rfl (fun hh => by cases hh)
    cases s with
    | @ret fs tm td df _ hb hm ht =>
      rcases hs with hs | ⟨_, hs⟩
      · have hr : j ⟨fs, df, cs⟩ tm h nx td true = some r := hr
        exact .inl ⟨E, fl0, ⟨fs, df, cs⟩, tm, h, nx, td, true, frc, fcs, w, hr, .one hs, ⟨hb, hm, (fun hh => by cases hh), ht, t, by omega, R⟩⟩
      · exact absurd hm hs
    | @reg fs tm ops ns o os e td df _ i rest k hb hm hi hx ht hk =>
      rcases hs with hs | ⟨hs, _⟩
      · have hr : (cregF P D fs.fn ⟨ops, ns, o :: os⟩).p v (.mk ⟨fs, df, cs⟩ td j) tm e h nx = some r := by cases fs; exact hr
        refine .of_steps (.one hs) ?_
        exact creg_after (P := P) (by omega) hb hm hi hx ht t hk v V h nx E w df frc.defers hv (.refl _ _ _) (Nat.le_refl _) R hb.df hr
      · cases hs
    | @dreg fs tm ops ns o rc ps e td df _ i x pre rest k done B hb hm hi hp hd hk =>
      rcases hs with hs | ⟨hs, _⟩
      · have hr : (cdregF P D fs.fn ⟨ops, ns, .ef i o rc :: ps⟩).p v (.mk ⟨fs, df, cs⟩ td j) tm e h nx = some r := by cases fs; exact hr
        refine .of_steps (.one hs) ?_
        exact cdreg_after (P := P) hp (by omega) hb hm hi t hk (hd.lift hfl) v V h nx E w df frc.defers hv (.refl _ _ _) (Nat.le_refl _) R hb.df hr
      · cases hs
    | @rf fs tm l c q td df _ k hb hm hi hl ht hk =>
      rcases hs with hs | ⟨hs, _⟩
      · have hr : j ⟨fs, df, cs⟩ tm h nx (.erf l :: td) false = some r := by cases fs; exact hr
        have hfin : frc.finish V = { frc with todo := .endRangeFunc c :: k } := by simp [Frame.finish, hi]
        refine .inl ⟨E, fl0, ⟨fs, df, cs⟩, tm, h, nx, .erf l :: td, false, frc.finish V, fcs, w, hr, .one hs, ?_⟩
        rw [hfin]
        exact ⟨⟨hb.fn, hb.size, hb.bound, hb.df, hb.kind, hb.rd⟩, hm, fun _ => .cons (.erf hl) hk, ht, t, by omega, R⟩
      · cases hs
end
end Go.Ax
namespace Go.Ax
open Go.RowKit (Below)
variable {P : Program} {D : Nat → Nat} {base : Bas} {w0 : World} {f0 : Nat} {cs0 : List Frame}

/-! jumps -/
theorem exitA_cons (id : Nat) (i : AI) (k : List AI) : exitA id (i :: k) = match i with | .blk id' => if id' = id then some k else exitA id k | _ => exitA id k := by
  cases i <;> first | rfl | skip
  rename_i id'
  show bc (Nat.beq id' id) (some k) (exitA id k) = _
  rw [bc_ite]
  by_cases hh : id' = id
  · subst hh; rw [if_pos (Nat.beq_refl _)]; simp
  · rw [if_neg (fun hq => hh (beq_eq hq))]; simp [hh]

theorem exitA_sound {E : En} (id : Nat) : ∀ {k : List AI} {K : List Item}, ItL E k K → (∀ k', exitA id k = some k' → ∃ K', exitTo id K = some K' ∧ ItL E k' K') ∧ (exitA id k = none → exitTo id K = none)
  | _, _, .nil => ⟨fun k' hk => (nomatch hk), fun _ => rfl⟩
  | _, _, .cons h t => by
    have ih := exitA_sound id t
    rw [exitA_cons]
    cases h with
    | blk id' =>
      simp only
      by_cases hh : id' = id
      · subst hh
        simp only [if_true, exitTo, beq_self_eq_true]
        exact ⟨fun k' hk => (by cases hk; exact ⟨_, rfl, t⟩), fun hk => (nomatch hk)⟩
      · have : (id' == id) = false := by simpa using hh
        simp only [if_neg hh, exitTo, this, Bool.false_eq_true, if_false]
        exact ih
    | _ => exact ih

theorem gotoA_sound {E : En} (l : Nat) : ∀ {k : List AI} {K : List Item}, ItL E k K → (∀ k', gotoA l k = some k' → ∃ K', gotoIn l K = some K' ∧ ItL E k' K') ∧ (gotoA l k = none → gotoIn l K = none)
  | _, _, .nil => ⟨fun k' hk => (nomatch hk), fun _ => rfl⟩
  | _, _, .cons h t => by
    have ih := gotoA_sound l t
    cases h with
    | scope body =>
      simp only [gotoA, gotoIn]
      cases hf : findLabel body l with
      | none => exact ih
      | some rest => exact ⟨fun k' hk => (by cases hk; exact ⟨_, rfl, .cons (.code _) (.cons (.scope _) t)⟩), fun hk => (nomatch hk)⟩
    | _ => exact ih

/-! a frame is left -/
theorem run_setLoop {w : World} {c : Nat} {L : Loop} {ob : Obj} (hg : w.heap[c]? = some (.loop L)) : (setObj c ob).run P w = .ok () { w with heap := w.heap.setIfInBounds c ob } := by
  simp [setObj, Sem.run, hg]

theorem run_endRound {w : World} {c : Nat} {L : Loop} (hg : w.heap[c]? = some (.loop L)) (jump : Option Code) :
    (Instr.endRound c jump).run P w = .ok (.bool jump.isNone) { w with heap := w.heap.setIfInBounds c (.loop { L with state := if jump.isNone then .ready else .done, pending := jump }) } := by
  simp [Instr.endRound, run_getLoop hg, run_setLoop hg]

section
variable {fr : Frame} {fcs : List Frame} {w w' : World} {V : Value} {frc : Frame}
/-- the four places at which a frame is left -/
inductive Leaves (fr : Frame) : Option Code → Bool → Prop
  | fin (ht : fr.todo = []) : Leaves fr none true
  | ret {k : List Item} (ht : fr.todo = .code .ret :: k) : Leaves fr (some .ret) true
  | exit {id : Nat} {k : List Item} (ht : fr.todo = .code (.exit id) :: k) (he : exitTo id k = none) : Leaves fr (some (.exit id)) false
  | goto {l : Nat} {k : List Item} (ht : fr.todo = .code (.goto l) :: k) (he : gotoIn l k = none) : Leaves fr (some (.goto l)) false

theorem step_leaves {jump : Option Code} {go : Bool} (hl : Leaves fr jump go) (hm : fr.mode = .run) (hr : fr.roundOf = none) (hg : go = true) :
    step P (lone fr fcs w) = .next (lone { fr with mode := .returning } fcs w) := by
  refine step_lone_go ?_
  cases hl with
  | fin ht => simp [stepG, hm, stepG.exec, ht, hr]
  | ret ht => simp [stepG, hm, stepG.exec, ht, hr]
  | exit ht he => cases hg
  | goto ht he => cases hg

theorem step_endsRound {jump : Option Code} {go : Bool} {l : Nat} (hl : Leaves fr jump go) (hm : fr.mode = .run) (hr : fr.roundOf = some l) (hk : fr.kind = .normal) (he : (Instr.endRound l jump).run P w = .ok V w') :
    step P (lone fr (frc :: fcs) w) = .next (lone (frc.finish V) fcs w') := by
  refine step_lone_go ?_
  cases hl with
  | fin ht => simp [stepG, hm, stepG.exec, ht, hr, he, doReturn, hk]
  | ret ht => simp [stepG, hm, stepG.exec, ht, hr, he, doReturn, hk]
  | exit ht hx => simp [stepG, hm, stepG.exec, ht, hr, he, doReturn, hk, hx]
  | goto ht hx => simp [stepG, hm, stepG.exec, ht, hr, he, doReturn, hk, hx]
end

theorem keep_put {fl : Nat} {E : En} {h : H} {b c q : Nat} {x : Option AB} (he : E.m b = some (c, q)) : Keep fl E h E (bput b x h) :=
  ⟨.refl _ _, fun k _ hk => by
    rw [bget_put, if_neg]
    rintro ⟨rfl, _⟩
    rw [he] at hk; cases hk⟩

section
variable {E : En} {h : H} {fl nx : Nat} {w : World} {fs : FS} {df : List ADf} {cs : List Fr} {fcs : List Frame} {tm : Tm} {fr : Frame} {j : J} {r : St}

theorem leave_goes (R : HR D base w0 E h nx w) (hfl : fl ≤ nx) (hb : FrB D E fs df fr) (hm : fr.mode = .run) (T : TmR E (D fs.fn) tm fr.tmps) (C : CsR P D f0 cs0 E h fl fs.fn fs.dk cs fcs)
    {jump : Option Code} {go : Bool} (hl : Leaves fr jump go) (hr : leaveA P D jump go ⟨fs, df, cs⟩ tm h nx j = some r) : Goes P D base w0 f0 cs0 (lone fr fcs w) j r := by
  have hrd := hb.rd
  cases hrf : fs.rd with
  | none =>
    rw [hrf] at hrd
    have hround : fr.roundOf = none := by generalize hz : fr.roundOf = z at hrd; cases hrd; rfl
    have hr : bc go (j ⟨fs, df, cs⟩ tm h nx [] true) none = some r := by
      simp only [leaveA, hrf] at hr; exact hr
    obtain ⟨hg, hr⟩ := bc_some hr
    exact .inl ⟨E, fl, ⟨fs, df, cs⟩, tm, h, nx, [], true, { fr with mode := .returning }, fcs, w, hr, .one (step_leaves hl hm hround hg), ⟨⟨hb.fn, hb.size, hb.bound, hb.df, hb.kind, hb.rd⟩, rfl, (fun hh => by cases hh), T, C, hfl, R⟩⟩
  | some lb =>
    rw [hrf] at hrd
    obtain ⟨lc, q, hround, he⟩ : ∃ lc q, fr.roundOf = some lc ∧ E.m lb = some (lc, q) := by
      generalize hz : fr.roundOf = z at hrd
      cases hrd with
      | some h => exact ⟨_, _, rfl, h⟩
    have hr : bc fs.dk none (onList cs none fun _ _ => onLoop (bget lb h) none fun L => popA P D false cs (.bool (bnot (isSome' jump))) (bput lb (some (.loop { L with state := Option.rec .ready (fun _ => .done) jump, pending := jump })) h) nx j) = some r := by
      simp only [leaveA, hrf] at hr; exact hr
    replace hr := bc_some' hr
    obtain ⟨hdk, hr⟩ := hr
    replace hr := onList_some hr
    obtain ⟨c, crest, hcs, hr⟩ := hr
    obtain ⟨L, hL, hr⟩ := onLoop_some hr
    obtain ⟨L', hLR, hobj⟩ := R.loop he hL
    have hk : fr.kind = .normal := by have := hb.kind; rw [hdk] at this; exact this
    have hend := run_endRound (P := P) hobj jump
    have hLR' : LoopR D E { L with state := Option.rec .ready (fun _ => .done) jump, pending := jump } { L' with state := if jump.isNone then .ready else .done, pending := jump } := by
      refine { hLR with state := ?_, pending := rfl }
      cases jump <;> rfl
    have R' := R.set he hL (.loop hLR') (setMap_upd hobj)
    have hv : VR E (.bool (bnot (isSome' jump))) (.bool jump.isNone) := by cases jump <;> exact .bool _
    have C' := C.keep (keep_put (fl := fl) (h := h) (x := some (.loop { L with state := Option.rec .ready (fun _ => .done) jump, pending := jump })) he)
    rw [hdk] at C'
    refine pop_goes (P := P) R' hfl C' hv hr ?_ ?_
    · intro frc frest hf _
      subst hf
      exact .inl (step_endsRound hl hm hround hk hend)
    · intro hh; rw [hcs] at hh; cases hh
end
end Go.Ax
namespace Go.Ax
open Go.RowKit (Below)
variable {P : Program} {D : Nat → Nat} {base : Bas} {w0 : World} {f0 : Nat} {cs0 : List Frame}

theorem idx_range (ops : Array Oper) : Idx ops (List.range ops.size) ops.toList := by
  have key : ∀ (l : List Oper) (k : Nat), (∀ d o, l[d]? = some o → ops[k + d]? = some o) → Idx ops (List.range' k l.length) l := by
    intro l
    induction l with
    | nil => intro k _; exact .nil
    | cons o l ih =>
      intro k hk
      rw [List.length_cons, List.range'_succ]
      exact .cons (by simpa using hk 0 o rfl) (ih (k + 1) fun d o' hd => by rw [show k + 1 + d = k + (d + 1) by omega]; exact hk (d + 1) o' (by simpa using hd))
  have := key ops.toList 0 (fun d o hd => by simpa using hd)
  rw [List.range_eq_range']
  simpa using this

theorem DInv.start {E : En} {h : H} {fl nx mask : Nat} {ops : Array Oper} {L : List Nat} {tm : Tm} {tmps : Array Value} (hl : Lin .any ops L) (T : TmR E mask tm tmps) :
    DInv P false E h fl nx mask ops 0 [] [] L [] tm [] tmps (fun _ => 0) := by
  refine ⟨by simpa using hl, ?_, ?_, ?_, ?_, ?_, TR.start T _, ?_, ?_, ?_, ?_⟩
  · intro j hj; cases hj
  · intro j _ hb; simp at hb
  · intro a ha; cases ha
  · intro a ha; cases ha
  · intro a ha; cases ha
  · intro a ha; cases ha
  · intro a ha; cases ha
  · intro a ha; cases ha
  · intro a ha; cases ha

/-! steps of control -/
section
variable {fr : Frame} {fcs : List Frame} {w : World} {k : List Item}
theorem step_to {c : Code} {k' : List Item} (hm : fr.mode = .run) (ht : fr.todo = .code c :: k)
    (hc : (c = .skip ∧ k' = k) ∨ (∃ l, c = .label l ∧ k' = k) ∨ (∃ a b, c = .seq a b ∧ k' = .code a :: .code b :: k) ∨ (∃ id a, c = .block id a ∧ k' = .code a :: .inBlock id :: k) ∨
      (∃ a, c = .loop a ∧ k' = .code a :: .inLoop a :: k) ∨ (∃ a, c = .scope a ∧ k' = .code a :: .inScope a :: k) ∨ (∃ id, c = .exit id ∧ exitTo id k = some k') ∨ (∃ l, c = .goto l ∧ gotoIn l k = some k') ∨
      (∃ id ops, c = .region id ops false ∧ k' = .inRegion ops (List.range ops.size) :: k)) :
    step P (lone fr fcs w) = .next (lone { fr with todo := k' } fcs w) := by
  refine step_lone_go ?_
  rcases hc with ⟨rfl, rfl⟩ | ⟨l, rfl, rfl⟩ | ⟨a, b, rfl, rfl⟩ | ⟨id, a, rfl, rfl⟩ | ⟨a, rfl, rfl⟩ | ⟨a, rfl, rfl⟩ | ⟨id, rfl, he⟩ | ⟨l, rfl, he⟩ | ⟨id, ops, rfl, rfl⟩
  all_goals first
    | (simp [stepG, hm, stepG.exec, ht]; done)
    | (simp [stepG, hm, stepG.exec, ht, he]; done)

theorem step_cond' {c : Operand} {a b : Code} {t : Bool} (hm : fr.mode = .run) (ht : fr.todo = .code (.cond c a b) :: k) (hc : fr.eval c = .bool t) :
    step P (lone fr fcs w) = .next (lone { fr with todo := .code (if t then a else b) :: k } fcs w) := by
  refine step_lone_go ?_
  simp [stepG, hm, stepG.exec, ht, hc]

theorem step_draw {id : Nat} {ops : Array Oper} (hm : fr.mode = .run) (ht : fr.todo = .code (.region id ops true) :: k) :
    step P (lone fr fcs w) = .next (lone { fr with todo := .inRegion ops (Region.schedule (P.follows .mixedOrders) ops (w.tape w.drawn (.order fr.fn id))) :: k } fcs w.drew) := by
  refine step_lone_go ?_
  simp [stepG, hm, stepG.exec, ht, choose, Sem.run, Question.forced, Question.cut]

theorem step_item {i : Item} {k' : List Item} (hm : fr.mode = .run) (ht : fr.todo = i :: k) (hc : (∃ id, i = .inBlock id ∧ k' = k) ∨ (∃ c, i = .inScope c ∧ k' = k) ∨ (∃ c, i = .inLoop c ∧ k' = .code c :: .inLoop c :: k)) :
    step P (lone fr fcs w) = .next (lone { fr with todo := k' } fcs w) := by
  refine step_lone_go ?_
  rcases hc with ⟨id, rfl, rfl⟩ | ⟨c, rfl, rfl⟩ | ⟨c, rfl, rfl⟩ <;> simp [stepG, hm, stepG.exec, ht]

theorem step_range {f : Operand} {ps : Array Tmp} {a b : Code} {l : Nat} {mark : List Deferred} {w1 : World} {G : FuncId} {ARGS : Array Value} (hm : fr.mode = .run) (ht : fr.todo = .code (.rangeFunc f ps a b) :: k)
    (he : (Instr.enterLoop fr.fn fr.tmps ps a b fr.roundOf).run P w = .ok (l, mark) w1)
    (hi : (do let d ← Deferred.ofValue (fr.eval f) #[.func (.yield l) #[] #[]]; invoke d.target d.args : Sem Next).run P w1 = .ok (.enter G ARGS) w1) :
    step P (lone fr fcs w) = .next (lone (Frame.enter P G ARGS .normal) ({ fr with todo := .inRangeFunc l :: k, defers := mark ++ fr.defers } :: fcs) w1) := by
  refine step_lone_go ?_
  have hev : ∀ (fr' : Frame), fr'.tmps = fr.tmps → fr'.eval = fr.eval := by
    intro fr' hh
    funext x
    cases x <;> simp [Frame.eval, hh]
  have hev' : ∀ m, ({ fr with todo := .inRangeFunc l :: k, defers := mark ++ fr.defers, mode := m } : Frame).eval = fr.eval := fun m => hev _ rfl
  have hres : ∀ ty, (do let d ← resolve fr.eval { callee := .value f, args := #[.const (.func (.yield l) #[] #[])], argTypes := #[] } ty; invoke d.target d.args : Sem Next) = (do let d ← Deferred.ofValue (fr.eval f) #[.func (.yield l) #[] #[]]; invoke d.target d.args : Sem Next) := by
    intro ty
    simp [resolve, Frame.eval]
  simp only [stepG, hm, stepG.exec, ht, Sem.runT_eq, he, GStep.bare_after, stepG.apply, hev', hres]
  simp [hi]
end

section
variable {fl : Nat} {fs : FS} {cs : List Fr} {fcs : List Frame} {j : J} {r : St}

theorem FrB.todo {E : En} {df : List ADf} {fr : Frame} (hb : FrB D E fs df fr) (k : List Item) : FrB D E fs df { fr with todo := k } := ⟨hb.fn, hb.size, hb.bound, hb.df, hb.kind, hb.rd⟩

theorem enterRF_some {f : AV} {lb : Nat} {K : FS → Tm → List AI → O} (hr : enterRF P D f lb K = some r) : ∃ g first cap, f = .fn (.func g) first cap ∧ isFn P g = true ∧
    (center P D g).e (app first (.fn (.yield lb) [] [] :: cap)) false K = some r := by
  obtain ⟨g, first, cap, rfl, hr⟩ := onFn_some hr
  cases g with
  | func g =>
    obtain ⟨h1, h2⟩ := bc_some (c := isFn P g) hr
    exact ⟨g, first, cap, rfl, h1, h2⟩
  | _ => cases hr

theorem rangeFunc_goes {E E' : En} {h h' : H} {nx nx' : Nat} {w w1 : World} {df df' : List ADf} {tm : Tm} {fr : Frame} {k : List AI} {K : List Item} {g : Operand} {ps : Array Tmp} {a b : Code} {lb lc q : Nat} {mark : List Deferred}
    (R : HR D base w0 E' h' nx' w1) (hfl : fl ≤ nx) (hn : nx ≤ nx') (hkeep : Keep nx E h E' h') (hb : FrB D E fs df fr) (hm : fr.mode = .run) (hi : fr.todo = .code (.rangeFunc g ps a b) :: K) (hk : ItL E k K) (T : TmR E (D fs.fn) tm fr.tmps)
    (C : CsR P D f0 cs0 E h fl fs.fn fs.dk cs fcs) (hg : okd (D fs.fn) [] g = true) (hl : E'.m lb = some (lc, q)) (hdf : DRL E' df' (mark ++ fr.defers))
    (he : (Instr.enterLoop fr.fn fr.tmps ps a b fr.roundOf).run P w = .ok (lc, mark) w1)
    (hr : enterRF P D ((opd (D fs.fn) [] g).g tm []) lb (fun fs' tm' td' => j ⟨fs', [], ⟨fs, tm, .rf lb :: k, df', false⟩ :: cs⟩ tm' h' nx' td' false) = some r) : Goes P D base w0 f0 cs0 (lone fr fcs w) j r := by
  obtain ⟨gf, first, cap, hf, hfn, hr⟩ := enterRF_some hr
  obtain ⟨fn, c, hfun, hbody, h512, hD, hlen, hr⟩ := center_some hr
  have hv := opd_sound (TR.start T fun _ => False) g hg (fun _ _ hh => hh)
  rw [hf] at hv
  have hv := hv.mono hkeep.le
  generalize hF : fr.eval g = F at hv
  cases hv with
  | @fn _ G _ _ A Cp hG hA hC =>
    cases hG
    have hall : VRL E' (app first (.fn (.yield lb) [] [] :: cap)) (A.toArray ++ #[Value.func (.yield lc) #[] #[]] ++ Cp.toArray).toList := by
      rw [app_eq]
      simp only [Array.toList_append, List.append_assoc]
      exact hA.append (.cons (VR.fn (A := []) (C := []) (.yield hl) .nil .nil) hC)
    have hst := step_range (P := P) (fcs := fcs) hm hi he (G := gf) (ARGS := A.toArray ++ #[Value.func (.yield lc) #[] #[]] ++ Cp.toArray) (by
      rw [hF]
      simp only [Deferred.ofValue, Sem.run_bind, Sem.run_pure, Result.andThen_ok, invoke]
      exact run_callFunc hfn _ _)
    have hb' := hb.mono hkeep.le
    have hsus : SusR P D E' h' fl nx' false ⟨fs, tm, .rf lb :: k, df', false⟩ { fr with todo := .inRangeFunc lc :: K, defers := mark ++ fr.defers } :=
      .rf ⟨hb'.fn, hb'.size, hb'.bound, hdf, hb'.kind, hb'.rd⟩ hm rfl hl (T.mono hkeep.le) (hk.mono hkeep.le)
    exact .inl ⟨E', nx', _, _, _, _, _, _, _, _, _, hr, .one hst, SR.enter R (by omega) hfun hbody h512 hD hlen hall hsus (C.keep (hkeep.low hfl))⟩

theorem ccode_goes : ∀ (c : Code) {E : En} {h : H} {nx : Nat} {w : World} {df : List ADf} {tm : Tm} {fr : Frame} {k : List AI} {K : List Item}, HR D base w0 E h nx w → fl ≤ nx → FrB D E fs df fr → fr.mode = .run →
    fr.todo = .code c :: K → ItL E k K → TmR E (D fs.fn) tm fr.tmps → CsR P D f0 cs0 E h fl fs.fn fs.dk cs fcs →
    (ccode P D fs.fn c).s ⟨fs, df, cs⟩ tm h nx k j = some r → Goes P D base w0 f0 cs0 (lone fr fcs w) j r := by
  intro c
  induction c with
  | skip =>
    intro E h nx w df tm fr k K R hfl hb hm hi hk T C hr
    exact .inl ⟨E, fl, ⟨fs, df, cs⟩, tm, h, nx, k, false, _, fcs, w, hr, .one (step_to hm hi (.inl ⟨rfl, rfl⟩)), ⟨hb.todo _, hm, fun _ => hk, T, C, hfl, R⟩⟩
  | label l =>
    intro E h nx w df tm fr k K R hfl hb hm hi hk T C hr
    exact .inl ⟨E, fl, ⟨fs, df, cs⟩, tm, h, nx, k, false, _, fcs, w, hr, .one (step_to hm hi (.inr (.inl ⟨l, rfl, rfl⟩))), ⟨hb.todo _, hm, fun _ => hk, T, C, hfl, R⟩⟩
  | seq a b iha ihb =>
    intro E h nx w df tm fr k K R hfl hb hm hi hk T C hr
    simp only [ccode] at hr
    exact .of_steps (.one (step_to hm hi (.inr (.inr (.inl ⟨a, b, rfl, rfl⟩))))) (iha R hfl (hb.todo _) hm rfl (.cons (.code b) hk) T C hr)
  | block id a iha =>
    intro E h nx w df tm fr k K R hfl hb hm hi hk T C hr
    simp only [ccode] at hr
    exact .of_steps (.one (step_to hm hi (.inr (.inr (.inr (.inl ⟨id, a, rfl, rfl⟩)))))) (iha R hfl (hb.todo _) hm rfl (.cons (.blk id) hk) T C hr)
  | loop a iha =>
    intro E h nx w df tm fr k K R hfl hb hm hi hk T C hr
    simp only [ccode] at hr
    exact .of_steps (.one (step_to hm hi (.inr (.inr (.inr (.inr (.inl ⟨a, rfl, rfl⟩))))))) (iha R hfl (hb.todo _) hm rfl (.cons (.loop a) hk) T C hr)
  | scope a iha =>
    intro E h nx w df tm fr k K R hfl hb hm hi hk T C hr
    simp only [ccode] at hr
    exact .of_steps (.one (step_to hm hi (.inr (.inr (.inr (.inr (.inr (.inl ⟨a, rfl, rfl⟩)))))))) (iha R hfl (hb.todo _) hm rfl (.cons (.scope a) hk) T C hr)
  | cond x a b iha ihb =>
    intro E h nx w df tm fr k K R hfl hb hm hi hk T C hr
    simp only [ccode] at hr
    cases hok : okd (D fs.fn) [] x with
    | false => rw [hok] at hr; cases hr
    | true =>
      rw [hok] at hr
      simp only [bc_true] at hr
      obtain ⟨t, ht, hr⟩ := onBool_some hr
      have hv := opd_sound (TR.start T fun _ => False) x hok (fun _ _ hh => hh)
      rw [ht] at hv
      generalize hF : fr.eval x = F at hv
      cases hv
      have hst := step_cond' (P := P) (fcs := fcs) (w := w) hm hi hF
      cases t with
      | true => exact .of_steps (.one hst) (iha R hfl (hb.todo _) hm rfl hk T C hr)
      | false => exact .of_steps (.one hst) (ihb R hfl (hb.todo _) hm rfl hk T C hr)
  | exit id =>
    intro E h nx w df tm fr k K R hfl hb hm hi hk T C hr
    simp only [ccode] at hr
    obtain ⟨s1, s2⟩ := exitA_sound id hk
    cases hx : exitA id k with
    | some k' =>
      rw [hx] at hr
      obtain ⟨K', hK, hk'⟩ := s1 k' hx
      exact .inl ⟨E, fl, ⟨fs, df, cs⟩, tm, h, nx, k', false, _, fcs, w, hr, .one (step_to hm hi (.inr (.inr (.inr (.inr (.inr (.inr (.inl ⟨id, rfl, hK⟩)))))))), ⟨hb.todo _, hm, fun _ => hk', T, C, hfl, R⟩⟩
    | none =>
      rw [hx] at hr
      exact leave_goes R hfl hb hm T C (.exit hi (s2 hx)) hr
  | goto l =>
    intro E h nx w df tm fr k K R hfl hb hm hi hk T C hr
    simp only [ccode] at hr
    obtain ⟨s1, s2⟩ := gotoA_sound l hk
    cases hx : gotoA l k with
    | some k' =>
      rw [hx] at hr
      obtain ⟨K', hK, hk'⟩ := s1 k' hx
      exact .inl ⟨E, fl, ⟨fs, df, cs⟩, tm, h, nx, k', false, _, fcs, w, hr, .one (step_to hm hi (.inr (.inr (.inr (.inr (.inr (.inr (.inr (.inl ⟨l, rfl, hK⟩))))))))), ⟨hb.todo _, hm, fun _ => hk', T, C, hfl, R⟩⟩
    | none =>
      rw [hx] at hr
      exact leave_goes R hfl hb hm T C (.goto hi (s2 hx)) hr
  | ret =>
    intro E h nx w df tm fr k K R hfl hb hm hi hk T C hr
    exact leave_goes R hfl hb hm T C (.ret hi) hr
  | region id ops draw =>
    intro E h nx w df tm fr k K R hfl hb hm hi hk T C hr
    cases draw with
    | false =>
      simp only [ccode] at hr
      refine .of_steps (.one (step_to hm hi (.inr (.inr (.inr (.inr (.inr (.inr (.inr (.inr ⟨id, ops, rfl, rfl⟩)))))))))) ?_
      exact crun_goes (k := K) ops.toList [] (List.range ops.size) E h nx w df tm [] _ R hfl (hb.todo _) hm rfl (idx_range ops) (TR.start T _) C hk hr
    | true =>
      simp only [ccode] at hr
      cases hp : plan ops with
      | none => rw [hp] at hr; cases hr
      | some ps =>
        rw [hp] at hr
        obtain ⟨hpo, hlin⟩ := plan_lin hp (P.follows .mixedOrders) (w.tape w.drawn (.order fr.fn id))
        refine .of_steps (.one (step_draw hm hi)) ?_
        exact cplan_goes hpo [] _ [] E h nx w.drew df tm [] _ _ R.drew hfl (hb.todo _) hm rfl C hk (DInv.start hlin T) hr
  | rangeFunc g ps a b iha ihb =>
    intro E h nx w df tm fr k K R hfl hb hm hi hk T C hr
    simp only [ccode] at hr
    cases hok : okd (D fs.fn) [] g with
    | false => rw [hok] at hr; cases hr
    | true =>
      rw [hok] at hr
      simp only [bc_true] at hr
      have hrd := hb.rd
      cases hrf : fs.rd with
      | none =>
        rw [hrf] at hrd hr
        have hround : fr.roundOf = none := by generalize hz : fr.roundOf = z at hrd; cases hrd; rfl
        obtain ⟨hlt, hr⟩ := bc_some hr
        have hlt : nx + 1 < 262142 := blt_lt hlt
        rw [dig_eq, dig_eq] at hr
        have R1 := R.alloc (ab := .dfr (some [])) (O := .deferred (some [])) (q := 0) (by omega) (.dfr .nil)
        have hE1 := E.put_le (w.heap.size, 0) (R.fresh nx (Nat.le_refl _))
        have hat1 : (E.put nx (w.heap.size, 0)).m nx = some (w.heap.size, 0) := En.put_at _ _ _
        have hLR : LoopR D (E.put nx (w.heap.size, 0)) { state := .ready, pending := none, fn := fs.fn, tm := tm, n := fs.n, params := ps, assign := a, body := b, defers := nx }
            { state := .ready, pending := none, fn := fr.fn, tmps := fr.tmps, params := ps, assign := a, body := b, defers := w.heap.size } :=
          ⟨rfl, rfl, hb.fn, hb.size, hb.bound, T.mono hE1, rfl, rfl, rfl, ⟨0, hat1⟩⟩
        have R2 := R1.alloc (ab := mkLoop fs tm ps a b nx) (q := 0) (by omega) (.loop hLR)
        have hE2 := (E.put nx (w.heap.size, 0)).put_le (nx := nx + 1) ((w.alloc (.deferred (some []))).heap.size, 0) (R1.fresh (nx + 1) (Nat.le_refl _))
        have hkeep : Keep nx E h ((E.put nx (w.heap.size, 0)).put (nx + 1) ((w.alloc (.deferred (some []))).heap.size, 0)) (bput (nx + 1) (some (mkLoop fs tm ps a b nx)) (bput nx (some (.dfr (some []))) h)) :=
          ⟨hE1.trans hE2 (by omega), fun c hc _ => by rw [bget_put, if_neg (fun (z : c = nx + 1 ∧ c < 262144) => by omega), bget_put, if_neg (fun (z : c = nx ∧ c < 262144) => by omega)]⟩
        refine rangeFunc_goes (h' := bput (nx + 1) (some (mkLoop fs tm ps a b nx)) (bput nx (some (.dfr (some []))) h)) (lb := nx + 1) (mark := [{ target := .collected w.heap.size, args := #[] }]) R2 hfl (by omega) hkeep hb hm hi hk T C hok (En.put_at _ _ _) ?_ ?_ hr
        · exact .cons (.coll (hE2.up _ _ hat1)) (hb.df.mono hkeep.le)
        · rw [hround]
          simp [Instr.enterLoop]
      | some lb =>
        rw [hrf] at hrd hr
        obtain ⟨lc, q, hround, he⟩ : ∃ lc q, fr.roundOf = some lc ∧ E.m lb = some (lc, q) := by
          generalize hz : fr.roundOf = z at hrd
          cases hrd with
          | some h => exact ⟨_, _, rfl, h⟩
        obtain ⟨L, hL, hr⟩ := onLoop_some hr
        obtain ⟨hlt, hr⟩ := bc_some hr
        have hlt := blt_lt hlt
        rw [dig_eq] at hr
        obtain ⟨L', hLR0, hobj⟩ := R.loop he hL
        obtain ⟨qd, hqd⟩ := hLR0.defers
        have hLR : LoopR D E { state := .ready, pending := none, fn := fs.fn, tm := tm, n := fs.n, params := ps, assign := a, body := b, defers := L.defers }
            { state := .ready, pending := none, fn := fr.fn, tmps := fr.tmps, params := ps, assign := a, body := b, defers := L'.defers } :=
          ⟨rfl, rfl, hb.fn, hb.size, hb.bound, T, rfl, rfl, rfl, ⟨qd, hqd⟩⟩
        have R2 := R.alloc (ab := mkLoop fs tm ps a b L.defers) (q := 0) hlt (.loop hLR)
        have hE2 := E.put_le (w.heap.size, 0) (R.fresh nx (Nat.le_refl _))
        have hkeep : Keep nx E h (E.put nx (w.heap.size, 0)) (bput nx (some (mkLoop fs tm ps a b L.defers)) h) :=
          ⟨hE2, fun c hc _ => by rw [bget_put, if_neg (fun (z : c = nx ∧ c < 262144) => by omega)]⟩
        refine rangeFunc_goes (h' := bput nx (some (mkLoop fs tm ps a b L.defers)) h) (lb := nx) (mark := []) R2 hfl (by omega) hkeep hb hm hi hk T C hok (En.put_at _ _ _) (hb.df.mono hkeep.le) ?_ hr
        rw [hround]
        simp [Instr.enterLoop, run_getLoop hobj]
  | refuse why =>
    intro E h nx w df tm fr k K R hfl hb hm hi hk T C hr
    cases hr
end
end Go.Ax
namespace Go.Ax
open Go.RowKit (Below)
variable {P : Program} {D : Nat → Nat} {base : Bas} {w0 : World} {f0 : Nat} {cs0 : List Frame}

section
variable {fr : Frame} {fcs : List Frame} {w w' : World} {k : List Item} {V : Value} {frc : Frame}

theorem run_beginRound {c : Nat} {L : Loop} (hg : w.heap[c]? = some (.loop L)) (hs : L.state = .ready) :
    (Instr.beginRound c).run P w = .ok () { w with heap := w.heap.setIfInBounds c (.loop { L with state := .busy }) } := by
  simp [Instr.beginRound, run_getLoop hg, run_setLoop hg, hs]
theorem run_endLoop {c : Nat} {L : Loop} (hg : w.heap[c]? = some (.loop L)) (hs : L.state ≠ .busy) :
    (Instr.endLoop c).run P w = .ok L.pending { w with heap := w.heap.setIfInBounds c (.loop { L with state := .exhausted }) } := by
  simp [Instr.endLoop, run_getLoop hg, run_setLoop hg, hs]

theorem step_begin {l : Nat} (hm : fr.mode = .run) (ht : fr.todo = .beginRound :: k) (hr : fr.roundOf = some l) (he : (Instr.beginRound l).run P w = .ok () w') :
    step P (lone fr fcs w) = .next (lone { fr with todo := k } fcs w') := by
  refine step_lone_go ?_
  simp [stepG, hm, stepG.exec, ht, hr, stepG.apply, he, Frame.finish]
theorem step_endLoop {l : Nat} {jump : Option Code} (hm : fr.mode = .run) (ht : fr.todo = .endRangeFunc l :: k) (he : (Instr.endLoop l).run P w = .ok jump w') :
    step P (lone fr fcs w) = .next (lone { fr with todo := (jump.map Item.code).toList ++ k } fcs w') := by
  refine step_lone_go ?_
  simp [stepG, hm, stepG.exec, ht, he]

theorem step_return {fn : Func} (hm : fr.mode = .returning) (hd : fr.defers = []) (hf : P.funcs[fr.fn]? = some fn) (hr : (results fn fr.tmps).run P w = .ok V w) (hk : fr.kind = .normal) :
    step P (lone fr (frc :: fcs) w) = .next (lone (frc.finish V) fcs w) := by
  refine step_lone_go ?_
  simp [stepG, hm, unwind, hd, hf, hr, doReturn, hk]
theorem step_returnD {fn : Func} (hm : fr.mode = .returning) (hd : fr.defers = []) (hf : P.funcs[fr.fn]? = some fn) (hr : (results fn fr.tmps).run P w = .ok V w) (hk : fr.kind = .deferred) (hc : frc.mode = .returning) :
    step P (lone fr (frc :: fcs) w) = .next (lone frc fcs w) := by
  refine step_lone_go ?_
  simp [stepG, hm, unwind, hd, hf, hr, doReturn, hk, hc]
theorem step_take {c : Nat} {args : Array Value} {ds calls : List Deferred} (hm : fr.mode = .returning) (hd : fr.defers = { target := .collected c, args } :: ds) (he : (Instr.takeDeferred c).run P w = .ok calls w') :
    step P (lone fr fcs w) = .next (lone { fr with defers := calls ++ ds } fcs w') := by
  refine step_lone_go ?_
  simp [stepG, hm, unwind, hd, he]
end

theorem appD_eq (l r : List ADf) : appD l r = l ++ r := by
  induction l with
  | nil => rfl
  | cons x l ih => show x :: appD l r = _; rw [ih]; rfl

section
variable {E : En} {h : H} {fl nx : Nat} {w : World} {sk : SK} {fcs : List Frame} {tm : Tm} {fr : Frame} {j : J} {r : St} {todo : List AI} {ret : Bool}

theorem unwind_goes {fs : FS} {df : List ADf} {cs : List Fr} (S : SR P D base w0 f0 cs0 E fl ⟨fs, df, cs⟩ tm h nx todo true fr fcs w) (hr : unwindA P D fs.fn fs df cs tm h nx todo j = some r) : Goes P D base w0 f0 cs0 (lone fr fcs w) j r := by
  have hb := S.fb
  have hm : fr.mode = .returning := S.mode
  have hdf := hb.df
  have hbf := hb.fn
  have hk := hb.kind
  simp only at hdf hbf hk
  generalize hds : fr.defers = ds at hdf
  cases hdf with
  | nil =>
    obtain ⟨v, hv, hr⟩ := ob_some' (x := (cres P D fs.fn).g tm h) hr
    obtain ⟨fn, V, hf, hV, hrun⟩ := cres_sound (P := P) S.hr S.tm hv
    rw [← hbf] at hf
    refine pop_goes (P := P) S.hr S.fl S.cs hV hr ?_ ?_
    · intro frc frest hfc _
      subst hfc
      cases hdk : fs.dk with
      | false =>
        rw [hdk] at hk
        exact .inl (step_return hm hds hf hrun hk)
      | true =>
        rw [hdk] at hk
        by_cases hcm : frc.mode = .returning
        · exact .inl (step_returnD hm hds hf hrun hk hcm)
        · exact .inr ⟨rfl, hcm⟩
    · intro hcs hfcs hfn hdk
      subst hfcs
      have hdk : fs.dk = false := hdk
      rw [hdk] at hk
      exact ⟨v, h, nx, E, V, w, fr, rfl, .refl _ _, by rw [hbf]; exact hfn, ⟨hm, hds, hk, fn, hf, hrun⟩, hV, S.hr⟩
  | @cons d d' ds0 ds' hd hdt =>
    cases hd with
    | @call dd g Cp A hg hC hA =>
      have hr : (Fn.rec (fun g => bc (isFn P g) ((center P D g).e (app dd.args dd.cap) true fun fs' tm' td' => j ⟨fs', [], ⟨fs, tm, todo, ds0, true⟩ :: cs⟩ tm' h nx td' false) none) (fun _ => none) (fun _ _ => none) (fun _ _ _ _ => none) (fun _ => none) dd.fn : Option St) = some r := hr
      generalize hfn : dd.fn = q at hr hg
      cases hg with
      | func gf =>
        have hr : bc (isFn P gf) ((center P D gf).e (app dd.args dd.cap) true fun fs' tm' td' => j ⟨fs', [], ⟨fs, tm, todo, ds0, true⟩ :: cs⟩ tm' h nx td' false) none = some r := hr
        obtain ⟨hisf, hr⟩ := bc_some hr
        obtain ⟨fn, c, hf, hbody, h512, hD, hlen, hr⟩ := center_some hr
        have hall : VRL E (app dd.args dd.cap) (A.toArray ++ Cp.toArray).toList := by
          rw [app_eq]; simpa using hA.append hC
        have hst := step_defer (P := P) (fr := fr) (cs := fcs) (w := w) (by rw [hm]; exact fun hh => by cases hh) hds rfl (f := gf) (args := A.toArray ++ Cp.toArray) (by
          simp only [invoke]; exact run_callFunc hisf _ _)
        have hsus : SusR P D E h fl nx true ⟨fs, tm, todo, ds0, true⟩ { fr with defers := ds' } := .ret ⟨hb.fn, hb.size, hb.bound, hdt, hb.kind, hb.rd⟩ hm S.tm
        exact .inl ⟨E, nx, _, _, _, _, _, _, _, _, _, hr, .one hst, SR.enter S.hr S.fl hf hbody h512 hD hlen hall hsus S.cs⟩
      | _ => cases hr
    | @coll b c q he =>
      have hr : (Option.rec none (fun x => AB.rec (fun _ _ _ => none) (fun _ _ _ _ => none) (fun _ _ => none) (fun _ => none)
        (fun l => ob l fun l => j ⟨fs, appD l ds0, cs⟩ tm (bput b (some (.dfr none)) h) nx todo true) (fun _ _ _ _ => none) x) (bget b h) : Option St) = some r := hr
      cases hbg : bget b h with
      | none => rw [hbg] at hr; cases hr
      | some ab =>
        rw [hbg] at hr
        cases ab with
        | dfr l =>
          obtain ⟨l, hl, hr⟩ := ob_some' (x := l) hr
          subst hl
          obtain ⟨_, ob, hob, br⟩ := S.hr.get he hbg
          cases br with
          | @dfr _ l' hll =>
            have htake : (Instr.takeDeferred c).run P w = .ok l' { w with heap := w.heap.setIfInBounds c (.deferred none) } := by
              have h1 : (getObj c).run P w = .ok (.deferred (some l')) w := by simp [getObj, Sem.run, hob]
              have h2 : (setObj c (.deferred none)).run P w = .ok () { w with heap := w.heap.setIfInBounds c (.deferred none) } := by simp [setObj, Sem.run, hob]
              simp only [Instr.takeDeferred, Sem.run_bind, h1, Result.andThen_ok, h2, Sem.run_pure]
            have R' := S.hr.set he hbg (.dfrN) (setMap_upd (ob := .deferred none) hob)
            refine .inl ⟨E, fl, _, _, _, _, _, _, _, _, _, hr, .one (step_take hm hds htake), ⟨⟨hb.fn, hb.size, hb.bound, ?_, hb.kind, hb.rd⟩, hm, (fun hh => by cases hh), S.tm, S.cs.keep (keep_put he), S.fl, R'⟩⟩
            show DRL E (appD l ds0) (l' ++ ds')
            rw [appD_eq]; exact hll.append hdt
        | _ => cases hr

theorem step_goes (S : SR P D base w0 f0 cs0 E fl sk tm h nx todo ret fr fcs w) (hr : stepA P D sk tm h nx todo ret j = some r) : Goes P D base w0 f0 cs0 (lone fr fcs w) j r := by
  obtain ⟨⟨f, n, dk, rd⟩, df, cs⟩ := sk
  have hr : bc ret (unwindA P D f ⟨f, n, dk, rd⟩ df cs tm h nx todo j)
      (onList todo (leaveA P D none true ⟨⟨f, n, dk, rd⟩, df, cs⟩ tm h nx j) fun i k => (citem P D f i).s ⟨⟨f, n, dk, rd⟩, df, cs⟩ tm h nx k j) = some r := hr
  cases ret with
  | true => exact unwind_goes S hr
  | false =>
    have hm : fr.mode = .run := S.mode
    have hit := S.items rfl
    have hb := S.fb
    simp only [bc_false] at hr
    generalize htd : fr.todo = K at hit
    cases hit with
    | nil => exact leave_goes S.hr S.fl hb hm S.tm S.cs (.fin htd) hr
    | @cons i I k K hI hK =>
      have hr : (citem P D f i).s ⟨⟨f, n, dk, rd⟩, df, cs⟩ tm h nx k j = some r := hr
      cases hI with
      | code c => exact ccode_goes (fs := ⟨f, n, dk, rd⟩) c S.hr S.fl hb hm htd hK S.tm S.cs hr
      | blk id => exact .inl ⟨E, fl, _, _, _, _, _, _, _, _, _, hr, .one (step_item hm htd (.inl ⟨id, rfl, rfl⟩)), ⟨hb.todo _, hm, fun _ => hK, S.tm, S.cs, S.fl, S.hr⟩⟩
      | scope c => exact .inl ⟨E, fl, _, _, _, _, _, _, _, _, _, hr, .one (step_item hm htd (.inr (.inl ⟨c, rfl, rfl⟩))), ⟨hb.todo _, hm, fun _ => hK, S.tm, S.cs, S.fl, S.hr⟩⟩
      | loop c =>
        refine .of_steps (.one (step_item hm htd (.inr (.inr ⟨c, rfl, rfl⟩)))) ?_
        exact ccode_goes (fs := ⟨f, n, dk, rd⟩) c S.hr S.fl (hb.todo _) hm rfl (.cons (.loop c) hK) S.tm S.cs hr
      | @erf l lc q he =>
        obtain ⟨L, hL, hr⟩ := onLoop_some hr
        obtain ⟨L', hLR, hobj⟩ := S.hr.loop he hL
        have hbusy : L.state ≠ .busy := by intro hh; rw [hh] at hr; cases hr
        have hr : j ⟨⟨f, n, dk, rd⟩, df, cs⟩ tm (bput l (some (.loop { L with state := .exhausted })) h) nx (Option.rec k (fun c => .code c :: k) L.pending) false = some r := by
          cases hs : L.state <;> rw [hs] at hr <;> first | exact absurd hs hbusy | exact hr
        have hend := run_endLoop (P := P) hobj (by rw [hLR.state]; exact hbusy)
        have R' := S.hr.set he hL (.loop (L := { L with state := .exhausted }) (L' := { L' with state := .exhausted }) { hLR with state := rfl }) (setMap_upd hobj)
        refine .inl ⟨E, fl, _, _, _, _, _, _, _, _, _, hr, .one (step_endLoop hm htd hend), ⟨hb.todo _, hm, fun _ => ?_, S.tm, S.cs.keep (keep_put he), S.fl, R'⟩⟩
        rw [hLR.pending]
        cases L.pending with
        | none => exact hK
        | some c => exact .cons (.code c) hK
      | br =>
        have hrd := hb.rd
        have hr : (Option.rec none (fun l => onLoop (bget l h) none fun L => match L.state with
            | .ready => j ⟨⟨f, n, dk, rd⟩, df, cs⟩ tm (bput l (some (.loop { L with state := .busy })) h) nx k false
            | _ => none) rd : Option St) = some r := hr
        cases rd with
        | none => cases hr
        | some lb =>
          obtain ⟨lc, q, hround, he⟩ : ∃ lc q, fr.roundOf = some lc ∧ E.m lb = some (lc, q) := by
            simp only at hrd
            generalize hz : fr.roundOf = z at hrd
            cases hrd with
            | some h => exact ⟨_, _, rfl, h⟩
          obtain ⟨L, hL, hr⟩ := onLoop_some hr
          obtain ⟨L', hLR, hobj⟩ := S.hr.loop he hL
          cases hs : L.state <;> rw [hs] at hr <;> first | (cases hr; done) | skip
          have hbeg := run_beginRound (P := P) hobj (by rw [hLR.state]; exact hs)
          have R' := S.hr.set he hL (.loop (L := { L with state := .busy }) (L' := { L' with state := .busy }) { hLR with state := rfl }) (setMap_upd hobj)
          exact .inl ⟨E, fl, _, _, _, _, _, _, _, _, _, hr, .one (step_begin hm htd hround hbeg), ⟨hb.todo _, hm, fun _ => hK, S.tm, S.cs.keep (keep_put he), S.fl, R'⟩⟩
end

/-- the machine, begun at m0, comes to what the abstract state says -/
def Reach (P : Program) (D : Nat → Nat) (base : Bas) (w0 : World) (f0 : Nat) (cs0 : List Frame) (m0 : Machine) : St → Prop
  | .go sk tm h nx todo ret => ∃ E fl fr fcs w, Steps P m0 (lone fr fcs w) ∧ SR P D base w0 f0 cs0 E fl sk tm h nx todo ret fr fcs w
  | .fin v h nx => Ends P D base w0 f0 cs0 m0 (.fin v h nx)

theorem Ends.of_steps {m m' : Machine} {r : St} (s : Steps P m m') (e : Ends P D base w0 f0 cs0 m' r) : Ends P D base w0 f0 cs0 m r := by
  obtain ⟨v, h, nx, E, V, w', fr, h1, h2, h3⟩ := e
  exact ⟨v, h, nx, E, V, w', fr, h1, s.trans h2, h3⟩

theorem run_reach {m0 : Machine} : ∀ (n : Nat) {sk : SK} {tm : Tm} {h : H} {nx : Nat} {todo : List AI} {ret : Bool} {r : St}, Reach P D base w0 f0 cs0 m0 (.go sk tm h nx todo ret) → runA P D n sk tm h nx todo ret = some r → Reach P D base w0 f0 cs0 m0 r
  | 0, sk, tm, h, nx, todo, ret, r, hr, hk => by
    have hk : (some (St.go sk tm h nx todo ret) : O) = some r := hk
    cases hk
    exact hr
  | n + 1, sk, tm, h, nx, todo, ret, r, hr, hk => by
    have hk : stepA P D sk tm h nx todo ret (runA P D n) = some r := hk
    obtain ⟨E, fl, fr, fcs, w, hs, S⟩ := hr
    rcases step_goes S hk with ⟨E', fl', sk', tm', h', nx', todo', ret', fr', fcs', w', hk', hs', S'⟩ | he
    · exact run_reach n ⟨E', fl', fr', fcs', w', hs.trans hs', S'⟩ hk'
    · have he := he.of_steps hs
      obtain ⟨v, h, nx, E, V, w', fr, rfl, hrest⟩ := he
      exact ⟨v, h, nx, E, V, w', fr, rfl, hrest⟩

theorem runS_reach {m0 : Machine} {n : Nat} {s r : St} (hs : Reach P D base w0 f0 cs0 m0 s) (hk : runS P D n s = some r) : Reach P D base w0 f0 cs0 m0 r := by
  cases s with
  | go sk tm h nx todo ret => exact run_reach n hs hk
  | fin v h nx =>
    have hk : (some (St.fin v h nx) : O) = some r := hk
    cases hk
    exact hs

/-! the beginning -/
/-- opaque arguments: none of them an aggregate -/
def extArgs : Nat → List AV
  | 0 => []
  | n + 1 => extArgs n ++ [.m (.ext n)]

theorem start_reach {w : World} {f : Nat} {ARGS : Array Value} (ho : ∀ V ∈ ARGS.toList, vone V = true) {s : St} (cs0 : List Frame)
    (hs : (center P D f).e (extArgs ARGS.size) false (fun fs tm td => some (.go ⟨fs, [], []⟩ tm bnil 0 td false)) = some s) : Reach P D (lower w.heap.size) w f cs0 (lone (Frame.enter P f ARGS .normal) cs0 w) s := by
  obtain ⟨fn, c, hf, hb, h512, hD, hlen, hk⟩ := center_some hs
  cases hk
  let E : En := ⟨fun _ => none⟩
  have R : HR D (lower w.heap.size) w E bnil 0 w := ⟨by omega, fun _ _ => rfl, (fun b c q hh => by cases hh), (fun b ab c q hb _ _ => by omega), (fun b b' c q q' hb _ _ _ _ => by omega), Bel.refl _ _, fun _ hk => hk, fun b _ => bget_nil b, (fun _ _ hb => by cases hb), Nat.zero_le _, fun b hb => absurd hb (Nat.not_lt_zero b)⟩
  have hargs : ∀ n, n ≤ ARGS.size → VRL E (extArgs n) (ARGS.toList.take n) := by
    intro n
    induction n with
    | zero => intro _; simp; exact .nil
    | succ n ih =>
      intro hn
      have hlt : n < ARGS.toList.length := by simp; omega
      have h1 : ARGS.toList.take (n + 1) = ARGS.toList.take n ++ [ARGS.toList[n]] := by
        rw [List.take_add_one, List.getElem?_eq_getElem hlt]; rfl
      rw [h1]
      exact (ih (by omega)).append (.cons (.ext n (ho _ (List.getElem_mem hlt))) .nil)
  have ha : VRL E (extArgs ARGS.size) ARGS.toList := by
    have := hargs ARGS.size (Nat.le_refl _)
    rwa [List.take_of_length_le (by simp)] at this
  refine ⟨E, 0, _, cs0, w, .refl _ _, ?_⟩
  obtain ⟨h1, h2, h3⟩ := enter_frame (P := P) (D := D) (E := E) (dk := false) hf hb h512 hD hlen ha
  exact ⟨h1, rfl, fun _ => h2, h3, .nil, Nat.le_refl _, R⟩
end Go.Ax
namespace Go.Ax
open Go.RowKit (Below)
variable {P : Program} {D : Nat → Nat} {base : Bas} {w0 : World} {f0 : Nat} {cs0 : List Frame}

/-! a state between two runs: the blocks that are named go on, the others are forgotten -/
noncomputable def mkRow : List Nat → List (Option AB) → H → H
  | b :: bs, x :: xs, h => bput b x (mkRow bs xs h)
  | _, _, h => h
noncomputable def mkH : List (List Nat) → List (List (Option AB)) → H
  | k :: ks, l :: ls => mkRow k l (mkH ks ls)
  | _, _ => bnil
noncomputable def dumpRow (h : H) : List Nat → List (Option AB)
  | [] => []
  | b :: bs => bget b h :: dumpRow h bs
noncomputable def dumpH (h : H) : List (List Nat) → List (List (Option AB))
  | [] => []
  | k :: ks => dumpRow h k :: dumpH h ks
noncomputable def quietL : List Fr → Bool
  | [] => true
  | c :: cs => (match c.todo with | .dreg _ _ :: _ => false | _ => true) && quietL cs
noncomputable def nextS (ks : List (List Nat)) (o : O) : O :=
  Option.rec none (fun s => St.rec (fun sk tm h nx todo ret => bc (quietL sk.cs) (some (.go sk tm (mkH ks (dumpH h ks)) nx todo ret)) none) (fun v h nx => some (.fin v h nx)) s) o
noncomputable def finTrue (o : O) : Bool :=
  Option.rec false (fun s => St.rec (fun _ _ _ _ _ _ => false) (fun v _ _ => onBool v false fun b => b) s) o

/-- temporaries, from a list -/
noncomputable def mkT : List (Nat × AV) → Tm
  | [] => tnil
  | p :: r => gset (slot p.1) p.2 (mkT r)

/-! places in the program -/
noncomputable def subC : List Nat → Code → Code
  | [], c => c
  | k :: p, c => match c with
    | .seq a b => bc (Nat.beq k 0) (subC p a) (subC p b)
    | .cond _ a b => bc (Nat.beq k 0) (subC p a) (subC p b)
    | .block _ a => subC p a
    | .loop a => subC p a
    | .scope a => subC p a
    | .rangeFunc _ _ a b => bc (Nat.beq k 0) (subC p a) (subC p b)
    | c => c
noncomputable def codeAt (P : Program) (f : Nat) (p : List Nat) : Code :=
  match P.funcs[f]? with
  | some fn => (match fn.body with | some c => subC p c | none => .skip)
  | none => .skip
noncomputable def opsAt (P : Program) (f : Nat) (p : List Nat) : Array Oper := match codeAt P f p with | .region _ ops _ => ops | _ => #[]
noncomputable def dropO : Nat → List Oper → List Oper
  | 0, l => l
  | n + 1, _ :: l => dropO n l
  | _ + 1, [] => []
noncomputable def regAt (P : Program) (f : Nat) (p : List Nat) (ns : List Tmp) (k : Nat) (e : List AV) : AI := .reg ⟨opsAt P f p, ns, dropO k (opsAt P f p).toList⟩ e

theorem mkRow_sub {h g : H} (hg : Sub g h) : ∀ k, Sub (mkRow k (dumpRow h k) g) h
  | [] => hg
  | b :: bs => by
    intro c ab hc
    have hc : bget c (bput b (bget b h) (mkRow bs (dumpRow h bs) g)) = some ab := hc
    rw [bget_put] at hc
    split at hc
    · rename_i hh
      rw [hh.1]; exact hc
    · exact mkRow_sub hg bs c ab hc
theorem mkH_sub {h : H} : ∀ ks, Sub (mkH ks (dumpH h ks)) h
  | [] => by intro c ab hc; have hc : bget c bnil = some ab := hc; rw [bget_nil] at hc; cases hc
  | k :: ks => mkRow_sub (mkH_sub ks) k

theorem CsR.quiet {E : En} {h h' : H} : ∀ {fl fn : Nat} {dk : Bool} {cs : List Fr} {fcs : List Frame}, quietL cs = true → CsR P D f0 cs0 E h fl fn dk cs fcs → CsR P D f0 cs0 E h' fl fn dk cs fcs
  | _, _, _, _, _, _, .nil => .nil
  | _, _, _, _, _, hq, .cons hle s t => by
    simp only [quietL, Bool.and_eq_true] at hq
    refine .cons hle ?_ (t.quiet hq.2)
    cases s with
    | ret hb hm ht => exact .ret hb hm ht
    | reg hb hm hi hx ht hk => exact .reg hb hm hi hx ht hk
    | dreg hb hm hi hp hd hk => have := hq.1; cases this
    | rf hb hm hi hl ht hk => exact .rf hb hm hi hl ht hk

theorem next_reach {m0 : Machine} {n : Nat} {s r : St} {ks : List (List Nat)} (hs : Reach P D base w0 f0 cs0 m0 s) (hk : nextS ks (runS P D n s) = some r) : Reach P D base w0 f0 cs0 m0 r := by
  cases hq : runS P D n s with
  | none => rw [hq] at hk; cases hk
  | some s' =>
    have hs' := runS_reach hs hq
    rw [hq] at hk
    cases s' with
    | fin v h nx =>
      have hk : (some (St.fin v h nx) : O) = some r := hk
      cases hk
      exact hs'
    | go sk tm h nx todo ret =>
      have hk : bc (quietL sk.cs) (some (St.go sk tm (mkH ks (dumpH h ks)) nx todo ret)) none = some r := hk
      obtain ⟨hql, hk⟩ := bc_some hk
      cases hk
      obtain ⟨E, fl, fr, fcs, w, h1, S⟩ := hs'
      exact ⟨E, fl, fr, fcs, w, h1, ⟨S.fb, S.mode, S.items, S.tm, S.cs.quiet hql, S.fl, S.hr.sub (mkH_sub ks)⟩⟩

/-- the last run: the call comes back, true -/
theorem fin_calls {w : World} {f n : Nat} {ARGS : Array Value} {s : St} (hs : ∀ cs0, Reach P D (lower w.heap.size) w f cs0 (lone (Frame.enter P f ARGS .normal) cs0 w) s) (hk : finTrue (runS P D n s) = true) :
    Calls P f ARGS w fun e W' => e = .returned (.bool true) ∧ Below w.heap.size w W' := by
  intro cs0
  cases hq : runS P D n s with
  | none => rw [hq] at hk; cases hk
  | some s' =>
    have hs' := runS_reach (hs cs0) hq
    rw [hq] at hk
    cases s' with
    | go sk tm h nx todo ret => cases hk
    | fin v h nx =>
      obtain ⟨b, rfl, rfl⟩ : ∃ b, v = .bool b ∧ b = true := by
        replace hk : onBool v false (fun b => b) = true := hk
        cases v <;> first | exact ⟨_, rfl, hk⟩ | cases hk
      obtain ⟨v, h, nx, E, V, w', fr, h1, h2, h3, h4, h5, h6⟩ := hs'
      cases h1
      cases h5
      exact ⟨.returned (.bool true), w', fr, ⟨rfl, h6.below.os, h6.below.tape, h6.below.output, h6.below.size, h6.below.block⟩, h2, h3, h4⟩
end Go.Ax
namespace Go.Ax
open Go.RowKit (Below)
variable {P : Program} {D : Nat → Nat} {base : Bas} {w0 : World} {f0 : Nat} {cs0 : List Frame}

/-! a range over a map of more than one entry: a state from which the machine may go on in more than one way -/
theorem peel_reach {m0 : Machine} {sk : SK} {tm : Tm} {h : H} {nx : Nat} {td : List AI} (hs : Reach P D base w0 f0 cs0 m0 (.go sk tm h nx td false)) : Reach P D base w0 f0 cs0 m0 (.go sk tm h nx (peel td) false) := by
  obtain ⟨E, fl, fr, fcs, w, hst, S⟩ := hs
  have hm : fr.mode = .run := S.mode
  have hit := S.items rfl
  have key : ∀ {k' : List AI} {K' : List Item}, step P (lone fr fcs w) = .next (lone { fr with todo := K' } fcs w) → ItL E k' K' → Reach P D base w0 f0 cs0 m0 (.go sk tm h nx k' false) := by
    intro k' K' h1 h2
    exact ⟨E, fl, { fr with todo := K' }, fcs, w, hst.trans (.one h1), ⟨S.fb.todo _, hm, fun _ => h2, S.tm, S.cs, S.fl, S.hr⟩⟩
  have same : Reach P D base w0 f0 cs0 m0 (.go sk tm h nx td false) := ⟨E, fl, fr, fcs, w, hst, S⟩
  generalize htd : fr.todo = K at hit
  cases hit with
  | nil => exact same
  | @cons i I k K hI hK =>
    cases hI with
    | code c =>
      cases c with
      | seq a b => exact key (step_to hm htd (.inr (.inr (.inl ⟨a, b, rfl, rfl⟩)))) (.cons (.code a) (.cons (.code b) hK))
      | block id a => exact key (step_to hm htd (.inr (.inr (.inr (.inl ⟨id, a, rfl, rfl⟩))))) (.cons (.code a) (.cons (.blk id) hK))
      | loop a => exact key (step_to hm htd (.inr (.inr (.inr (.inr (.inl ⟨a, rfl, rfl⟩)))))) (.cons (.code a) (.cons (.loop a) hK))
      | scope a => exact key (step_to hm htd (.inr (.inr (.inr (.inr (.inr (.inl ⟨a, rfl, rfl⟩))))))) (.cons (.code a) (.cons (.scope a) hK))
      | _ => exact same
    | loop a => exact key (step_item hm htd (.inr (.inr ⟨a, rfl, rfl⟩))) (.cons (.code a) (.cons (.loop a) hK))
    | _ => exact same

theorem goes_reach {m0 m : Machine} {r : St} (hs : Steps P m0 m) (g : Goes P D base w0 f0 cs0 m j0 r) : Reach P D base w0 f0 cs0 m0 r := by
  rcases g with ⟨E, fl, sk, tm, h, nx, todo, ret, fr, fcs, w, h1, h2, h3⟩ | he
  · have h1 : (some (St.go sk tm h nx todo ret) : O) = some r := h1
    cases h1
    exact ⟨E, fl, fr, fcs, w, hs.trans h2, h3⟩
  · have he := he.of_steps hs
    obtain ⟨v, h, nx, E, V, w', fr, rfl, hrest⟩ := he
    exact ⟨v, h, nx, E, V, w', fr, rfl, hrest⟩

theorem forkR_reach {m0 : Machine} {sk : SK} {tm : Tm} {h : H} {nx : Nat} {id : Nat} {ops : Array Oper} {td : List AI} {n : Nat} {g : Nat → O} (hs : Reach P D base w0 f0 cs0 m0 (.go sk tm h nx (.code (.region id ops false) :: td) false))
    (hf : forkR P D sk tm h nx ops td = some (n, g)) (hn : 0 < n) : ∃ i, i < n ∧ ∀ r, g i = some r → Reach P D base w0 f0 cs0 m0 r := by
  obtain ⟨⟨f, n', dk, rd⟩, df, cs⟩ := sk
  obtain ⟨E, fl, fr, fcs, w, hst, S⟩ := hs
  have hm : fr.mode = .run := S.mode
  have hit := S.items rfl
  have hb := S.fb
  have T := S.tm
  have C := S.cs
  have R := S.hr
  have hfl := S.fl
  generalize htd : fr.todo = K at hit
  cases hit with
  | @cons _ I k K hI hK =>
    cases hI
    have hst1 := step_to (P := P) (fcs := fcs) (w := w) hm htd (.inr (.inr (.inr (.inr (.inr (.inr (.inr (.inr ⟨id, ops, rfl, rfl⟩))))))))
    have hidx := idx_range ops
    unfold forkR at hf
    generalize hos : ops.toList = l at hf hidx
    cases l with
    | nil => cases hf
    | cons o os =>
      simp only at hf
      split at hf
      · rename_i it hop hgd
        obtain ⟨hok, hf⟩ := bc_some hf
        obtain ⟨b, m, since, seen, last, es, cl, hv, hbi, hbm, hg, hf⟩ := onNext_some hf
        cases hf
        have hv1 := opd_sound (fr := fr) (TR.start T fun _ => False) it hok (fun _ _ hh => hh)
        rw [hv] at hv1
        obtain ⟨i, hi, hall⟩ := next_any (P := P) R hop hv1 hbi hbm hg
        refine ⟨i, ?_, ?_⟩
        · rcases hi with ⟨_, rfl⟩ | h1
          · exact hn
          · exact h1
        · intro r hr
          obtain ⟨c, hc, hr⟩ := ob_some' hr
          obtain ⟨v, V, h', nx', E', w', h1, h2, h3, h4, h5, h6, h7⟩ := hall c hc _ r hr
          generalize hrg : List.range ops.size = rg at hst1 hidx
          cases hidx with
          | @cons i0 _ rest _ ho hx =>
            have hw : Region.wanted o (yielded ops fr.tmps) = true := by simp [Region.wanted, hgd]
            have after := creg_after (P := P) (base := base) (w0 := w0) (j := j0) (r := r) (fs := ⟨f, n', dk, rd⟩) (df := df) (fr := { fr with todo := .inRegion ops (i0 :: rest) :: K }) (ns := []) (e := []) hfl (hb.todo _) hm rfl (.cons ho hx) (TR.start T _) C hK
            have hval := step_value (P := P) (fr := { fr with todo := .inRegion ops (i0 :: rest) :: K }) (cs := fcs) (w := w) (w' := w') (V := V) hm rfl ho hw (.inr fun c hh => by rw [hop] at hh; cases hh) h7
            refine goes_reach ((hst.trans (.one hst1)).trans (.one hval)) ?_
            exact after v V h' nx' E' w' df fr.defers h4 ⟨h2, h6⟩ h3 h5 (hb.df.mono h2) h1
      · cases hf

theorem fork_reach {m0 : Machine} {s : St} {n : Nat} {g : Nat → O} (hs : Reach P D base w0 f0 cs0 m0 s) (hf : forkS P D s = some (n, g)) (hn : 0 < n) : ∃ i, i < n ∧ ∀ r, g i = some r → Reach P D base w0 f0 cs0 m0 r := by
  cases s with
  | fin v h nx => cases hf
  | go sk tm h nx td ret =>
    cases ret with
    | true => cases hf
    | false =>
      have hf : forkI P D sk tm h nx (peel (peel (peel (peel td)))) = some (n, g) := hf
      replace hs := peel_reach (peel_reach (peel_reach (peel_reach hs)))
      generalize peel (peel (peel (peel td))) = td' at hs hf
      unfold forkI at hf
      split at hf
      · exact forkR_reach hs hf hn
      · cases hf

/-- a state between two runs: the blocks that are named go on, the temporaries that are named do not -/
noncomputable def nextV (ks : List (List Nat)) (vs : List Nat) (o : O) : O :=
  Option.rec none (fun s => St.rec (fun sk tm h nx todo ret => bc (quietL sk.cs) (ob (forgetT tm vs) fun tm => some (.go sk tm (mkH ks (dumpH h ks)) nx todo ret)) none) (fun _ _ _ => none) s) o
/-- on from a fork of two ways, each for so many steps -/
noncomputable def joinS (P : Program) (D : Nat → Nat) (ks : List (List Nat)) (vs : List Nat) (n0 n1 : Nat) (o : O) : Option Nat × O × O :=
  Option.rec (none, none, none) (fun s => Option.rec (none, none, none) (fun p =>
    (some p.1, nextV ks vs (ob (p.2 0) fun s => runS P D n0 s), nextV ks vs (ob (p.2 1) fun s => runS P D n1 s))) (forkS P D s)) o

theorem aone_vone {E : En} {v : AV} {V : Value} (ha : aone v = true) (hv : VR E v V) : vone V = true := by
  cases hv with
  | cst _ h => exact h
  | _ => first | rfl | cases ha

theorem forgetT_sound {E : En} {mask : Nat} {tmps : Array Value} {tm : Tm} (T : TmR E mask tm tmps) : ∀ (vs : List Nat) {tm' : Tm}, forgetT tm vs = some tm' → TmR E mask tm' tmps
  | [], _, h => by cases h; exact T
  | t :: ts, tm', h => by
    obtain ⟨tm1, h1, h⟩ := ob_some' (show ob (forgetT tm ts) _ = some tm' from h)
    have T1 := forgetT_sound T ts h1
    obtain ⟨ht, h⟩ := bc_some h
    obtain ⟨ha, h⟩ := bc_some h
    cases h
    have ht : t < 512 := by simpa using ht
    intro u hu hmu
    rw [slot_set u t hu ht]
    split
    · rename_i hut
      subst hut
      exact .ext 0 (aone_vone ha (T1 u hu hmu))
    · exact T1 u hu hmu

theorem nextV_reach {m0 : Machine} {s r : St} {ks : List (List Nat)} {vs : List Nat} (hs : Reach P D base w0 f0 cs0 m0 s) (hk : nextV ks vs (some s) = some r) : Reach P D base w0 f0 cs0 m0 r := by
  cases s with
  | fin v h nx => cases hk
  | go sk tm h nx todo ret =>
    have hk : bc (quietL sk.cs) (ob (forgetT tm vs) fun tm => some (St.go sk tm (mkH ks (dumpH h ks)) nx todo ret)) none = some r := hk
    obtain ⟨hql, hk⟩ := bc_some hk
    obtain ⟨tm', ht, hk⟩ := ob_some' hk
    cases hk
    obtain ⟨E, fl, fr, fcs, w, h1, S⟩ := hs
    exact ⟨E, fl, fr, fcs, w, h1, ⟨S.fb, S.mode, S.items, forgetT_sound S.tm vs ht, S.cs.quiet hql, S.fl, S.hr.sub (mkH_sub ks)⟩⟩

theorem join_reach {m0 : Machine} {n n0 n1 : Nat} {s r : St} {ks : List (List Nat)} {vs : List Nat} (hs : Reach P D base w0 f0 cs0 m0 s) (hk : joinS P D ks vs n0 n1 (runS P D n s) = (some 2, some r, some r)) : Reach P D base w0 f0 cs0 m0 r := by
  cases hq : runS P D n s with
  | none => rw [hq] at hk; cases hk
  | some s1 =>
    have hs1 := runS_reach hs hq
    rw [hq] at hk
    have hk : (Option.rec (none, none, none) (fun p => (some p.1, nextV ks vs (ob (p.2 0) fun s => runS P D n0 s), nextV ks vs (ob (p.2 1) fun s => runS P D n1 s))) (forkS P D s1) : Option Nat × O × O) = (some 2, some r, some r) := hk
    cases hf : forkS P D s1 with
    | none => rw [hf] at hk; cases hk
    | some p =>
      rw [hf] at hk
      obtain ⟨c, g⟩ := p
      have hk : (some c, nextV ks vs (ob (g 0) fun s => runS P D n0 s), nextV ks vs (ob (g 1) fun s => runS P D n1 s)) = (some 2, some r, some r) := hk
      simp only [Prod.mk.injEq, Option.some.injEq] at hk
      obtain ⟨rfl, k0, k1⟩ := hk
      obtain ⟨i, hi, hg⟩ := fork_reach hs1 hf (by omega)
      have one : ∀ j m, g j = g i → nextV ks vs (ob (g j) fun s => runS P D m s) = some r → Reach P D base w0 f0 cs0 m0 r := by
        intro j m hj h
        rw [hj] at h
        cases hgi : g i with
        | none => rw [hgi] at h; cases h
        | some s2 =>
          rw [hgi] at h
          have h : nextV ks vs (runS P D m s2) = some r := h
          cases hr2 : runS P D m s2 with
          | none => rw [hr2] at h; cases h
          | some s3 =>
            rw [hr2] at h
            exact nextV_reach (runS_reach (hg s2 hgi) hr2) h
      rcases (show i = 0 ∨ i = 1 by omega) with rfl | rfl
      · exact one 0 n0 rfl k0
      · exact one 1 n1 rfl k1
end Go.Ax
