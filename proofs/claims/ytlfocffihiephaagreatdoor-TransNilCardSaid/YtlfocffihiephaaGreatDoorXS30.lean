/- Part of an abstract executor of the model's machine, and of its law (S30). -/
import Derived.Test.YtlfocffihiephaaGreatDoorXS29
namespace Go.Ax

/-! bits -/
theorem bit_add (x i j : Nat) : Nat.testBit (Nat.lor x (Nat.shiftLeft 1 i)) j = (Nat.testBit x j || decide (i = j)) := by
  show (x ||| (1 <<< i)).testBit j = _
  rw [Nat.testBit_or, Nat.one_shiftLeft, Nat.testBit_two_pow]

/-! the plan -/
theorem firstR_some {m : Region.Mode} {p : Oper → Bool} {x : Nat} : ∀ {os : List Oper} {k i : Nat} {o : Oper}, firstR m p x os k = some (i, o) →
    ∃ d, i = k + d ∧ os[d]? = some o ∧ Nat.testBit x i = false ∧ direct m x o = true ∧ p o = true
  | [], _, _, _, h => by cases h
  | o' :: os, k, i, o, h => by
    have h : bc (!Nat.testBit x k && direct m x o' && p o') (some (k, o')) (firstR m p x os (k + 1)) = some (i, o) := h
    rw [bc_ite] at h
    split at h
    · rename_i hc
      simp only [Bool.and_eq_true, Bool.not_eq_true'] at hc
      cases h
      exact ⟨0, rfl, rfl, hc.1.1, hc.1.2, hc.2⟩
    · obtain ⟨d, h1, h2, h3⟩ := firstR_some h
      exact ⟨d + 1, by omega, by simpa using h2, h3⟩

theorem countR_pos {x : Nat} : ∀ {os : List Oper} {k d : Nat} {o : Oper}, os[d]? = some o → Nat.testBit x (k + d) = false → direct .any x o = true → 1 ≤ countR x os k
  | [], _, _, _, h, _, _ => by simp at h
  | o' :: os, k, 0, o, h, h1, h2 => by
    simp at h; subst h
    have h1 : Nat.testBit x k = false := h1
    show 1 ≤ (bc (!Nat.testBit x k && direct .any x o') 1 0 : Nat) + countR x os (k + 1)
    rw [h1, h2]
    show 1 ≤ 1 + _
    omega
  | o' :: os, k, d + 1, o, h, h1, h2 => by
    have := countR_pos (os := os) (k := k + 1) (d := d) (by simpa using h) (by rw [show k + 1 + d = k + (d + 1) by omega]; exact h1) h2
    show 1 ≤ (bc (!Nat.testBit x k && direct .any x o') 1 0 : Nat) + countR x os (k + 1)
    omega
theorem countR_one {x : Nat} : ∀ {os : List Oper} {k : Nat}, countR x os k = 1 → ∀ {d d' : Nat} {o o' : Oper}, os[d]? = some o → Nat.testBit x (k + d) = false → direct .any x o = true →
    os[d']? = some o' → Nat.testBit x (k + d') = false → direct .any x o' = true → d = d'
  | [], _, _, _, _, _, _, h, _, _, _, _, _ => by simp at h
  | q :: os, k, hc, d, d', o, o', h, h1, h2, h', h1', h2' => by
    have hc : (bc (!Nat.testBit x k && direct .any x q) 1 0 : Nat) + countR x os (k + 1) = 1 := hc
    have tail : ∀ {d : Nat} {o : Oper}, (q :: os)[d + 1]? = some o → Nat.testBit x (k + (d + 1)) = false → direct .any x o = true → 1 ≤ countR x os (k + 1) := fun {d o} h h1 h2 =>
      countR_pos (os := os) (k := k + 1) (d := d) (by simpa using h) (by rw [show k + 1 + d = k + (d + 1) by omega]; exact h1) h2
    have head : ∀ {o : Oper}, (q :: os)[0]? = some o → Nat.testBit x (k + 0) = false → direct .any x o = true → countR x os (k + 1) = 0 := by
      intro o h h1 h2
      simp at h; subst h
      have h1 : Nat.testBit x k = false := h1
      rw [h1, h2] at hc
      have hc : 1 + countR x os (k + 1) = 1 := hc
      omega
    cases d with
    | zero =>
      cases d' with
      | zero => rfl
      | succ d' =>
        have a := head h h1 h2
        have b := tail h' h1' h2'
        omega
    | succ d =>
      cases d' with
      | zero =>
        have a := head h' h1' h2'
        have b := tail h h1 h2
        omega
      | succ d' =>
        have b := tail h h1 h2
        have hz : countR x os (k + 1) = 1 := by
          rcases Nat.lt_or_ge (countR x os (k + 1)) 2 with h3 | h3
          · omega
          · omega
        have := countR_one hz (d := d) (d' := d') (by simpa using h) (by rw [show k + 1 + d = k + (d + 1) by omega]; exact h1) h2 (by simpa using h') (by rw [show k + 1 + d' = k + (d' + 1) by omega]; exact h1') h2'
        omega

theorem planF_ok {ops : Array Oper} {bef : Array Nat} : ∀ {f x : Nat} {done : List (Nat × Oper)} {ps : List PS}, planF ops bef f x done = some ps → PlanOk ops bef x done ps
  | 0, x, done, ps, h => by
    obtain ⟨h1, h⟩ := bc_some h
    cases h
    exact .nil h1
  | f + 1, x, done, ps, h => by
    simp only [planF] at h
    split at h
    · rename_i i o hf
      obtain ⟨d, hd, h1, h2, h3, h4⟩ := firstR_some hf
      obtain ⟨hc, h⟩ := bc_some h
      rw [Bool.and_eq_true] at hc
      obtain ⟨r, hr, h⟩ := ob_some' h
      cases h
      have hi : i = d := by omega
      subst hi
      exact .fl (by simpa using h1) h2 h3 (by simpa using h4) hc.1 hc.2 (planF_ok hr)
    · split at h
      · rename_i i o hf
        obtain ⟨d, hd, h1, h2, h3, h4⟩ := firstR_some hf
        obtain ⟨hc, h⟩ := bc_some h
        rw [Bool.and_eq_true] at hc
        obtain ⟨r, hr, h⟩ := ob_some' h
        cases h
        have hi : i = d := by omega
        subst hi
        refine .ef (by simpa using h1) h2 h3 ?_ hc.2 (planF_ok hr)
        intro j o' hj hx hdir
        exact countR_one (beq_eq hc.1) (d := j) (d' := i) (by simpa using hj) (by simpa using hx) hdir h1 (by simpa using h2) h3
      · obtain ⟨h1, h⟩ := bc_some h
        cases h
        exact .nil h1

/-! orders -/
/-- a list in which everything stands behind what it waits for -/
structure Ord (m : Region.Mode) (ops : Array Oper) (C : List Nat) : Prop where
  ord : ∀ l1 j l2, C = l1 ++ j :: l2 → ∀ p, Pred m ops p j → p ∈ l1
  lt : ∀ i ∈ C, i < ops.size

theorem Ord.snoc {m : Region.Mode} {ops : Array Oper} {C : List Nat} {i : Nat} (h : Ord m ops C) (hi : i < ops.size) (hp : ∀ p, Pred m ops p i → p ∈ C) : Ord m ops (C ++ [i]) := by
  refine ⟨?_, ?_⟩
  · intro l1 j l2 he p hpred
    rcases List.append_eq_append_iff.1 he with ⟨a, ha1, ha2⟩ | ⟨a, ha1, ha2⟩
    · cases a with
      | nil =>
        simp at ha1 ha2
        obtain ⟨rfl, rfl⟩ := ha2
        rw [ha1]; exact hp p hpred
      | cons z a =>
        simp at ha2
    · cases a with
      | nil =>
        simp at ha1 ha2
        obtain ⟨rfl, rfl⟩ := ha2
        rw [← ha1]; exact hp p hpred
      | cons z a =>
        simp only [List.cons_append, List.cons.injEq] at ha2
        obtain ⟨rfl, ha2⟩ := ha2
        exact h.ord l1 j a ha1 p hpred
  · intro k hk
    simp only [List.mem_append, List.mem_singleton] at hk
    rcases hk with hk | rfl
    · exact h.lt k hk
    · exact hi

theorem direct_pred {m : Region.Mode} {ops : Array Oper} {x i : Nat} {o : Oper} (ho : ops[i]? = some o) (hd : direct m x o = true) {p : Nat} (hp : Pred m ops p i) : Nat.testBit x p = true := by
  obtain ⟨o', ho', e, he, hb, rfl⟩ := hp
  rw [ho] at ho'
  cases ho'
  have := List.all_eq_true.1 hd e he
  rw [hb] at this
  simpa using this

theorem lt_of_get {ops : Array Oper} {i : Nat} {o : Oper} (h : ops[i]? = some o) : i < ops.size := by
  rcases Nat.lt_or_ge i ops.size with h1 | h1
  · exact h1
  · rw [Array.getElem?_eq_none h1] at h; cases h

theorem all_bits {n x : Nat} (h : (List.range n).all (Nat.testBit x) = true) : ∀ i, i < n → Nat.testBit x i = true :=
  fun i hi => List.all_eq_true.1 h i (by simpa using hi)

theorem lcF_ord {m : Region.Mode} {ops : Array Oper} : ∀ {f x : Nat} {C : List Nat}, lcF m ops f x = true → Ord m ops C → (∀ i, Nat.testBit x i = true ↔ i ∈ C) →
    ∃ C', Ord m ops C' ∧ ∀ i, i < ops.size → i ∈ C'
  | 0, x, C, h, hC, hx => ⟨C, hC, fun i hi => (hx i).1 (all_bits h i hi)⟩
  | f + 1, x, C, h, hC, hx => by
    simp only [lcF] at h
    split at h
    · rename_i i o hf
      obtain ⟨d, hd, h1, h2, h3, _⟩ := firstR_some hf
      have hi : i = d := by omega
      subst hi
      have ho : ops[i]? = some o := by simpa using h1
      refine lcF_ord h (hC.snoc (lt_of_get ho) fun p hp => (hx p).1 (direct_pred ho h3 hp)) ?_
      intro j
      rw [bit_add]
      simp only [Bool.or_eq_true, decide_eq_true_eq, List.mem_append, List.mem_singleton]
      rw [hx j]
      constructor <;> (rintro (h | h); exact .inl h; exact .inr h.symm)
    · exact ⟨C, hC, fun i hi => (hx i).1 (all_bits h i hi)⟩

theorem PlanOk.ord {ops : Array Oper} {bef : Array Nat} {x : Nat} {done : List (Nat × Oper)} {ps : List PS} (h : PlanOk ops bef x done ps) : ∀ {C : List Nat}, Ord .any ops C → (∀ i, Nat.testBit x i = true ↔ i ∈ C) →
    ∃ C', Ord .any ops C' ∧ ∀ i, i < ops.size → i ∈ C' := by
  have step : ∀ {x i : Nat} {C : List Nat}, (∀ i, Nat.testBit x i = true ↔ i ∈ C) → ∀ j, Nat.testBit (Nat.lor x (Nat.shiftLeft 1 i)) j = true ↔ j ∈ C ++ [i] := by
    intro x i C hx j
    rw [bit_add]
    simp only [Bool.or_eq_true, decide_eq_true_eq, List.mem_append, List.mem_singleton]
    rw [hx j]
    constructor <;> (rintro (h | h); exact .inl h; exact .inr h.symm)
  induction h with
  | nil h => exact fun {C} hC hx => ⟨C, hC, fun i hi => (hx i).1 (all_bits h i hi)⟩
  | fl ho hx hd hk hf hw t ih => exact fun {C} hC hxC => ih (hC.snoc (lt_of_get ho) fun p hp => (hxC p).1 (direct_pred ho hd hp)) (step hxC)
  | ef ho hx hd only hf t ih => exact fun {C} hC hxC => ih (hC.snoc (lt_of_get ho) fun p hp => (hxC p).1 (direct_pred ho hd hp)) (step hxC)

theorem filter_less {α : Type} {p q : α → Bool} : ∀ {l : List α}, (∀ a, q a = true → p a = true) → (∃ a ∈ l, p a = true ∧ q a = false) → (l.filter q).length < (l.filter p).length
  | [], _, h => by obtain ⟨a, ha, _⟩ := h; cases ha
  | x :: l, hqp, h => by
    have le : ∀ l : List α, (l.filter q).length ≤ (l.filter p).length := by
      intro l
      induction l with
      | nil => simp
      | cons x l ih =>
        cases hq : q x with
        | true => simp [List.filter_cons, hq, hqp x hq, ih]
        | false =>
          cases hp : p x with
          | true => simp only [List.filter_cons, hq, hp, if_true, Bool.false_eq_true, if_false, List.length_cons]; omega
          | false => simpa [List.filter_cons, hq, hp] using ih
    obtain ⟨a, ha, hpa, hqa⟩ := h
    cases ha with
    | head =>
      simp only [List.filter_cons, hpa, hqa, if_true, Bool.false_eq_true, if_false, List.length_cons]
      have := le l
      omega
    | tail _ ha =>
      have ih := filter_less hqp ⟨a, ha, hpa, hqa⟩
      cases hq : q x with
      | true => simpa [List.filter_cons, hq, hqp x hq] using ih
      | false =>
        cases hp : p x with
        | true => simp only [List.filter_cons, hq, hp, if_true, Bool.false_eq_true, if_false, List.length_cons]; omega
        | false => simpa [List.filter_cons, hq, hp] using ih

/-- the first of a list that is not in another -/
theorem first_not {acc : List Nat} : ∀ {C : List Nat}, (∃ i ∈ C, i ∉ acc) → ∃ l1 j l2, C = l1 ++ j :: l2 ∧ j ∉ acc ∧ ∀ p ∈ l1, p ∈ acc
  | [], h => by obtain ⟨i, hi, _⟩ := h; cases hi
  | c :: C, h => by
    by_cases hc : c ∈ acc
    · obtain ⟨i, hi, hn⟩ := h
      have : i ∈ C := by
        cases hi with
        | head => exact absurd hc hn
        | tail _ hi => exact hi
      obtain ⟨l1, j, l2, h1, h2, h3⟩ := first_not ⟨i, this, hn⟩
      refine ⟨c :: l1, j, l2, by rw [h1]; rfl, h2, ?_⟩
      intro p hp
      cases hp with
      | head => exact hc
      | tail _ hp => exact h3 p hp
    · exact ⟨[], c, C, rfl, hc, fun p hp => by cases hp⟩

theorem lin_go {m : Region.Mode} {ops : Array Oper} {C : List Nat} (hC : Ord m ops C) (hall : ∀ i, i < ops.size → i ∈ C) : ∀ (fuel t : Nat) (listed : Array Bool) (acc : List Nat),
    listed.size = ops.size → (∀ i, i < ops.size → (listed[i]? = some true ↔ i ∈ acc)) → (∀ i, listed[i]? = some true → i < ops.size) → acc.Nodup → Ord m ops acc.reverse →
    ((List.range ops.size).filter fun i => !decide (i ∈ acc)).length ≤ fuel → Lin m ops (Region.linearise.go m ops fuel t listed acc)
  | fuel, t, listed, acc, hsz, hl, hlt, hnd, hord, hfuel => by
    have mem : ∀ i, listed.getD i false = true ↔ i ∈ acc := by
      intro i
      rw [Array.getD_eq_getD_getElem?]
      by_cases hi : i < ops.size
      · rw [← hl i hi]
        have : i < listed.size := by omega
        rw [Array.getElem?_eq_getElem this]
        simp
      · rw [Array.getElem?_eq_none (by omega)]
        constructor
        · intro h; cases h
        · intro h; have := hord.lt i (by simpa using h); omega
    have fin : (∀ i, i < ops.size → i ∈ acc) → Lin m ops acc.reverse := fun h => ⟨(List.reverse_perm acc).nodup_iff.2 hnd, fun i => ⟨fun hi => hord.lt i hi, fun hi => by simpa using h i hi⟩, hord.ord⟩
    cases fuel with
    | zero =>
      refine fin fun i hi => ?_
      by_cases hm : i ∈ acc
      · exact hm
      · have : i ∈ (List.range ops.size).filter fun i => !decide (i ∈ acc) := by simp [hi, hm]
        have h0 : (List.range ops.size).filter (fun i => !decide (i ∈ acc)) = [] := List.length_eq_zero_iff.1 (by omega)
        rw [h0] at this; cases this
    | succ fuel =>
      simp only [Region.linearise.go]
      generalize hrs : (List.range ops.size).filter _ = rs
      have hrdy : ∀ i, i ∈ rs ↔ i < ops.size ∧ i ∉ acc ∧ ∀ p, Pred m ops p i → p ∈ acc := by
        intro i
        rw [← hrs, List.mem_filter, List.mem_range]
        constructor
        · rintro ⟨h1, h2⟩
          rw [Bool.and_eq_true] at h2
          obtain ⟨h2, h3⟩ := h2
          have hsome : listed[i]? = some listed[i] := Array.getElem?_eq_getElem (by omega)
          refine ⟨h1, ?_, ?_⟩
          · intro hi
            have hg := (hl i h1).2 hi
            rw [Array.getD_eq_getD_getElem?, hg] at h2
            cases h2
          · rintro p ⟨o, ho, e, he, hb, rfl⟩
            rw [ho] at h3
            simp only [Option.map_some, Option.getD_some] at h3
            have h4 := Array.all_eq_true'.1 h3 e (by simpa using he)
            rw [hb] at h4
            exact (mem _).1 (by simpa using h4)
        · rintro ⟨h1, h2, h3⟩
          refine ⟨h1, ?_⟩
          rw [Bool.and_eq_true]
          constructor
          · have hsome : listed[i]? = some listed[i] := Array.getElem?_eq_getElem (by omega)
            cases hv : listed[i] with
            | true => rw [hv] at hsome; exact absurd ((hl i h1).1 hsome) h2
            | false => rw [Array.getD_eq_getD_getElem?, hsome, hv]; rfl
          · rw [Array.getElem?_eq_getElem h1]
            simp only [Option.map_some, Option.getD_some]
            rw [Array.all_eq_true']
            intro e he
            cases hb : Region.binds m e with
            | false => rfl
            | true =>
              have := h3 e.on ⟨_, Array.getElem?_eq_getElem h1, e, by simpa using he, hb, rfl⟩
              simpa using (mem _).2 this
      split
      · rename_i i hi
        have hir : i ∈ rs := List.mem_of_getElem? hi
        obtain ⟨h1, h2, h3⟩ := (hrdy i).1 hir
        refine lin_go hC hall fuel _ _ (i :: acc) (by simp [hsz]) ?_ ?_ (List.nodup_cons.2 ⟨h2, hnd⟩) ?_ ?_
        · intro j hj
          rw [Array.getElem?_setIfInBounds]
          by_cases hij : i = j
          · subst hij
            simp [hsz, h1]
          · rw [if_neg hij, hl j hj]
            simp only [List.mem_cons]
            constructor
            · exact .inr
            · rintro (h | h)
              · exact absurd h.symm hij
              · exact h
        · intro j hj
          rw [Array.getElem?_setIfInBounds] at hj
          by_cases hij : i = j
          · subst hij; exact h1
          · rw [if_neg hij] at hj; exact hlt j hj
        · rw [List.reverse_cons]
          exact hord.snoc h1 fun p hp => by simpa using h3 p hp
        · have := filter_less (l := List.range ops.size) (p := fun j => !decide (j ∈ acc)) (q := fun j => !decide (j ∈ i :: acc)) (fun a ha => by
            simp only [Bool.not_eq_true', decide_eq_false_iff_not, List.mem_cons, not_or] at ha ⊢
            exact ha.2) ⟨i, by simpa using h1, by simpa using h2, by simp⟩
          omega
      · rename_i hn
        refine fin fun i hi => ?_
        by_cases hm : i ∈ acc
        · exact hm
        · exfalso
          obtain ⟨l1, j, l2, hc1, hc2, hc3⟩ := first_not ⟨i, hall i hi, hm⟩
          have hj : j ∈ rs := (hrdy j).2 ⟨hC.lt j (by rw [hc1]; simp), hc2, fun p hp => hc3 p (hC.ord l1 j l2 hc1 p hp)⟩
          have hlen : 0 < rs.length := List.length_pos_of_mem hj
          rw [List.getElem?_eq_getElem (Nat.mod_lt t hlen)] at hn
          cases hn

theorem linearise_lin {m : Region.Mode} {ops : Array Oper} {C : List Nat} (hC : Ord m ops C) (hall : ∀ i, i < ops.size → i ∈ C) (t : Nat) : Lin m ops (Region.linearise m ops t) := by
  refine lin_go hC hall _ _ _ [] (by simp) ?_ ?_ List.nodup_nil ⟨fun l1 j l2 h => by simp at h, fun i h => by simp at h⟩ ?_
  · intro i hi
    simp [Array.getElem?_replicate]
  · intro i hi
    simp [Array.getElem?_replicate] at hi
  · have := List.length_filter_le (fun i => !decide (i ∈ ([] : List Nat))) (List.range ops.size)
    simpa using this

theorem Lin.any {m : Region.Mode} {ops : Array Oper} {L : List Nat} (h : Lin m ops L) : Lin .any ops L := by
  refine ⟨h.nodup, h.all, fun l1 j l2 he p hp => h.ord l1 j l2 he p ?_⟩
  obtain ⟨o, ho, e, hm, hb, rfl⟩ := hp
  refine ⟨o, ho, e, hm, ?_, rfl⟩
  unfold Region.binds at hb ⊢
  split at hb <;> first | (cases hb; done) | rfl | simp_all

theorem plan_lin {ops : Array Oper} {ps : List PS} (h : plan ops = some ps) (mixed : Bool) (t : Nat) : PlanOk ops (Region.before ops) 0 [] ps ∧ Lin .any ops (Region.schedule mixed ops t) := by
  obtain ⟨hd, h⟩ := bc_some h
  have hp := planF_ok h
  have h0 : ∀ m, Ord m ops [] := fun m => ⟨fun l1 j l2 h => by simp at h, fun i h => by cases h⟩
  have hb : ∀ i, Nat.testBit 0 i = true ↔ i ∈ ([] : List Nat) := fun i => by simp
  refine ⟨hp, ?_⟩
  unfold Region.schedule
  split
  · obtain ⟨C, h1, h2⟩ := hp.ord (h0 _) hb
    exact linearise_lin h1 h2 t
  · rename_i hc
    have hdep : Region.departs ops = true := by
      cases hq : Region.departs ops with
      | true => rfl
      | false => rw [hq] at hc; simp at hc
    rw [hdep] at hd
    have hd : (lcF .text ops ops.size 0 && lcF .gc ops ops.size 0) = true := hd
    rw [Bool.and_eq_true] at hd
    split
    · obtain ⟨C, h1, h2⟩ := lcF_ord hd.1 (h0 _) hb
      exact (linearise_lin h1 h2 _).any
    · obtain ⟨C, h1, h2⟩ := lcF_ord hd.2 (h0 _) hb
      exact (linearise_lin h1 h2 _).any

/-! what surely comes before -/
theorem before_lin {ops : Array Oper} {L : List Nat} (hL : Lin .any ops L) {i p : Nat} (hb : Nat.testBit ((Region.before ops).getD i 0) p = true) : ∀ l1 l2, L = l1 ++ i :: l2 → p ∈ l1 := by
  -- each bit is a predecessor in every such list
  have key : ∀ (done : List Oper) (acc : Array Nat), (∀ k, (hk : k < acc.size) → k < ops.size) → acc.size + done.length = ops.size → (∀ d o, done[d]? = some o → ops[acc.size + d]? = some o) →
      (∀ i p, Nat.testBit (acc.getD i 0) p = true → ∀ l1 l2, L = l1 ++ i :: l2 → p ∈ l1) →
      ∀ i p, Nat.testBit ((done.foldl (fun acc o => acc.push (o.after.foldl (fun s e => if Region.binds .any e then s ||| 2 ^ e.on ||| acc.getD e.on 0 else s) 0)) acc).getD i 0) p = true → ∀ l1 l2, L = l1 ++ i :: l2 → p ∈ l1 := by
    intro done
    induction done with
    | nil => intro acc _ _ _ h; exact h
    | cons o done ih =>
      intro acc hacc hsize hops h
      simp only [List.foldl_cons]
      refine ih _ (fun k hk => ?_) ?_ ?_ ?_
      · simp only [Array.size_push] at hk; simp only [List.length_cons] at hsize; omega
      · simp only [Array.size_push]; simp only [List.length_cons] at hsize; omega
      · intro d o' hd
        have := hops (d + 1) o' (by simpa using hd)
        simp only [Array.size_push]
        rwa [show acc.size + 1 + d = acc.size + (d + 1) by omega]
      · intro i p hbit l1 l2 he
        rw [Array.getD_eq_getD_getElem?, Array.getElem?_push] at hbit
        split at hbit
        · rename_i hi
          have ho : ops[acc.size]? = some o := by simpa using hops 0 o (by simp)
          subst hi
          simp only [Option.getD_some] at hbit
          rw [← Array.foldl_toList] at hbit
          -- one edge after the other
          have inner : ∀ (es : List Edge) (s : Nat), (∀ e ∈ es, e ∈ o.after.toList) → (∀ p, Nat.testBit s p = true → p ∈ l1) →
              Nat.testBit (es.foldl (fun s e => if Region.binds .any e then s ||| 2 ^ e.on ||| acc.getD e.on 0 else s) s) p = true → p ∈ l1 := by
            intro es
            induction es with
            | nil => intro s _ hs hp; exact hs p hp
            | cons e es ih2 =>
              intro s hes hs hp
              simp only [List.foldl_cons] at hp
              refine ih2 _ (fun e' he' => hes e' (by simp [he'])) ?_ hp
              intro p' hp'
              split at hp'
              · rename_i hbe
                rw [Nat.testBit_or, Nat.testBit_or, Nat.testBit_two_pow] at hp'
                simp only [Bool.or_eq_true, decide_eq_true_eq] at hp'
                have hon : e.on ∈ l1 := hL.ord l1 _ l2 he e.on ⟨o, ho, e, hes e (by simp), hbe, rfl⟩
                rcases hp' with (hp' | hp') | hp'
                · exact hs p' hp'
                · subst hp'; exact hon
                · obtain ⟨a, b, hab⟩ := List.append_of_mem hon
                  have := h e.on p' hp' a (b ++ acc.size :: l2) (by rw [he, hab]; simp)
                  rw [hab]; simp [this]
              · exact hs p' hp'
          exact inner o.after.toList 0 (fun e he => he) (fun p hp => by simp at hp) hbit
        · exact h i p (by rw [Array.getD_eq_getD_getElem?]; exact hbit) l1 l2 he
  unfold Region.before at hb
  rw [← Array.foldl_toList] at hb
  exact key ops.toList #[] (fun k hk => by simp at hk) (by simp) (fun d o hd => by simpa using hd) (fun i p hp => by simp at hp) i p hb

theorem fits_sound {ops : Array Oper} {m : Nat} {o : Oper} {eff : Bool} : ∀ {done : List (Nat × Oper)}, fits ops m o eff done = true → ∀ a ∈ done,
    (∀ t, a.2.dst = some t → readsT ops o t = true → Nat.testBit m a.1 = true) ∧ (∀ t, o.dst = some t → (readsT ops a.2 t = true ∨ a.2.dst = some t) → eff = true ∧ Nat.testBit m a.1 = true)
  | [], _, a, ha => by cases ha
  | (i, o') :: r, h, a, ha => by
    simp only [fits, Bool.and_eq_true] at h
    obtain ⟨⟨h1, h2⟩, h3⟩ := h
    cases ha with
    | head =>
      constructor
      · intro t ht hr
        simp only at ht
        rw [ht] at h1
        simp only [hr, Bool.not_true, Bool.false_or] at h1
        exact h1
      · intro t ht hr
        rw [ht] at h2
        simp only [Bool.or_eq_true, Bool.not_eq_true', Bool.and_eq_true] at h2
        rcases h2 with h2 | h2
        · rw [Bool.or_eq_false_iff] at h2
          rcases hr with hr | hr
          · rw [h2.1] at hr; cases hr
          · have hr : o'.dst = some t := hr
            rw [hr] at h2
            simp [isD] at h2
        · exact h2
    | tail _ ha => exact fits_sound h3 a ha
end Go.Ax
