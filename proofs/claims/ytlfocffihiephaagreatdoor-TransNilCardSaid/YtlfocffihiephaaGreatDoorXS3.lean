/- Part of an abstract executor of the model's machine, and of its law (S3). -/
import Derived.Test.YtlfocffihiephaaGreatDoorXS2
import Derived.Laws.Wrap64
namespace Go.Ax

@[simp] theorem bc_true {α : Sort _} (x y : α) : bc true x y = x := rfl
@[simp] theorem bc_false {α : Sort _} (x y : α) : bc false x y = y := rfl
theorem bc_ite {α : Sort _} (c : Bool) (x y : α) : bc c x y = if c then x else y := by cases c <;> rfl
@[simp] theorem ob_none {α β : Type} (f : α → Option β) : ob none f = none := rfl
@[simp] theorem ob_some {α β : Type} (a : α) (f : α → Option β) : ob (some a) f = f a := rfl
theorem ob_eq {α β : Type} (x : Option α) (f : α → Option β) : ob x f = x.bind f := by cases x <;> rfl

theorem llen_eq {α : Type} (l : List α) : llen l = l.length := by
  induction l with
  | nil => rfl
  | cons x r ih => show Nat.succ (llen r) = _; rw [ih]; rfl
theorem app_eq {α : Type} (l r : List α) : app l r = l ++ r := by
  induction l with
  | nil => rfl
  | cons x l ih => show x :: app l r = _; rw [ih]; rfl
theorem lnth_eq (n : Nat) (l : List AV) : lnth n l = l[n]? := by
  induction n generalizing l with
  | zero => cases l <;> rfl
  | succ n ih => cases l with
    | nil => rfl
    | cons x r => show lnth n r = _; rw [ih]; simp
theorem ldrop_eq (n : Nat) (l : List AV) : ldrop n l = l.drop n := by
  induction n generalizing l with
  | zero => rfl
  | succ n ih => cases l with
    | nil => rfl
    | cons x r => show ldrop n r = _; rw [ih]; simp
theorem ltake_eq (n : Nat) (l : List AV) : ltake n l = if n ≤ l.length then some (l.take n) else none := by
  induction n generalizing l with
  | zero => simp; rfl
  | succ n ih => cases l with
    | nil => rfl
    | cons x r =>
      show ob (ltake n r) (fun t => some (x :: t)) = _
      rw [ih]
      by_cases h : n ≤ r.length
      · rw [if_pos h, if_pos (by simpa using h)]; simp
      · rw [if_neg h, if_neg (by simpa using h)]; rfl
theorem ltake_some {n : Nat} {l r : List AV} (h : ltake n l = some r) : n ≤ l.length ∧ r = l.take n := by
  rw [ltake_eq] at h
  split at h
  · exact ⟨‹_›, (Option.some.inj h).symm⟩
  · cases h
theorem lput0_eq (vs xs : List AV) : lput0 vs xs = vs ++ xs.drop vs.length := by
  induction vs generalizing xs with
  | nil => simp; rfl
  | cons v vs ih =>
    show v :: lput0 vs (onList xs [] fun _ r => r) = _
    rw [ih]
    cases xs <;> simp [onList]
theorem lput_eq (o : Nat) (vs xs : List AV) (h : o ≤ xs.length) : lput o vs xs = xs.take o ++ vs ++ xs.drop (o + vs.length) := by
  induction o generalizing xs with
  | zero => show lput0 vs xs = _; rw [lput0_eq]; simp
  | succ o ih => cases xs with
    | nil => simp at h
    | cons x r =>
      show x :: lput o vs r = _
      rw [ih r (by simpa using h), show o + 1 + vs.length = (o + vs.length) + 1 by omega]
      simp
theorem lput_get (o : Nat) (vs xs : List AV) (h : o ≤ xs.length) (i : Nat) :
    (lput o vs xs)[i]? = if o ≤ i ∧ i < o + vs.length then vs[i - o]? else xs[i]? := by
  rw [lput_eq o vs xs h]
  by_cases h1 : i < o
  · rw [if_neg (by omega), List.append_assoc, List.getElem?_append_left (by simp; omega), List.getElem?_take_of_lt h1]
  · by_cases h2 : i < o + vs.length
    · rw [if_pos ⟨by omega, h2⟩, List.append_assoc, List.getElem?_append_right (by simp; omega), List.getElem?_append_left (by simp; omega)]
      simp [Nat.min_eq_left h]
    · rw [if_neg (by omega), List.getElem?_append_right (by simp; omega), List.getElem?_drop]
      congr 1
      simp; omega
theorem lput_len (o : Nat) (vs xs : List AV) (h : o ≤ xs.length) : (lput o vs xs).length = max xs.length (o + vs.length) := by
  rw [lput_eq o vs xs h]; simp; omega

/-! rows -/
theorem tput_get (vs : List AV) (o : Nat) (tr : BT AV) (i : Nat) (hi : i < 262144) :
    bget i (tput vs o tr) = if o ≤ i ∧ i < o + vs.length then vs[i - o]? else bget i tr := by
  induction vs generalizing o tr with
  | nil => show bget i tr = _; rw [if_neg (by simp)]
  | cons v vs ih =>
    show bget i (tput vs (Nat.succ o) (bput o (some v) tr)) = _
    simp only [List.length_cons]
    rw [ih (o + 1) _, bget_put]
    by_cases h1 : i = o
    · subst h1; rw [if_neg (by omega), if_pos ⟨rfl, hi⟩, if_pos (by omega)]; simp
    · by_cases h2 : o + 1 ≤ i ∧ i < o + 1 + vs.length
      · rw [if_pos h2, if_pos (by omega), show i - o = (i - (o + 1)) + 1 by omega]; simp
      · rw [if_neg h2, if_neg (fun (c : i = o ∧ i < 262144) => h1 c.1), if_neg (by omega)]
theorem tload_some {tr : BT AV} : ∀ (n o : Nat) (l : List AV), tload tr n o = some l → l.length = n ∧ ∀ i v, l[i]? = some v → bget (o + i) tr = some v := by
  intro n
  induction n with
  | zero => intro o l h; cases h; simp
  | succ n ih =>
    intro o l h
    have h' : ob (bget o tr) (fun v => ob (tload tr n (Nat.succ o)) fun t => some (v :: t)) = some l := h
    cases hb : bget o tr with
    | none => rw [hb] at h'; cases h'
    | some v =>
      rw [hb] at h'
      simp only [ob_some] at h'
      cases ht : tload tr n (Nat.succ o) with
      | none => rw [ht] at h'; cases h'
      | some t =>
        rw [ht] at h'
        cases h'
        obtain ⟨hl, hg⟩ := ih _ _ ht
        refine ⟨by simp [hl], ?_⟩
        intro i u hu
        cases i with
        | zero => simp at hu; subst hu; simpa using hb
        | succ i =>
          simp at hu
          have := hg i u hu
          rw [show o + (i + 1) = Nat.succ o + i by simp [Nat.succ_eq_add_one]; omega]
          exact this

theorem rget_l (xs : List AV) (o : Nat) : rget (.l xs) o = xs[o]? := lnth_eq o xs
theorem rget_t (tr : BT AV) (o : Nat) : rget (.t tr) o = bget o tr := rfl
theorem rload_some {r : Row} {o n : Nat} {l : List AV} (h : rload r o n = some l) : l.length = n ∧ ∀ i v, l[i]? = some v → rget r (o + i) = some v := by
  cases r with
  | l xs =>
    have h' : ltake n (ldrop o xs) = some l := h
    obtain ⟨hn, rfl⟩ := ltake_some h'
    rw [ldrop_eq] at hn ⊢
    refine ⟨by simp at hn ⊢; omega, ?_⟩
    intro i v hv
    rw [rget_l]
    rw [List.getElem?_take] at hv
    split at hv
    · rwa [List.getElem?_drop] at hv
    · cases hv
  | t tr => exact tload_some n o l h

/-- what the abstract row holds after cells are put -/
theorem rput_get {r : Row} {o : Nat} {vs : List AV} (i : Nat) (v : AV) (h : rget (rput r o vs) i = some v) :
    (o ≤ i ∧ i < o + vs.length ∧ vs[i - o]? = some v) ∨ (¬ (o ≤ i ∧ i < o + vs.length) ∧ rget r i = some v) := by
  cases r with
  | l xs =>
    have h' : rget (.l (lput o vs xs)) i = some v := h
    rw [rget_l] at h'
    by_cases ho : o ≤ xs.length
    · rw [lput_get o vs xs ho] at h'
      split at h'
      · exact .inl ⟨by omega, by omega, h'⟩
      · exact .inr ⟨‹_›, by rw [rget_l]; exact h'⟩
    · -- beyond the list: what lies there is as it was
      have hx : lput o vs xs = xs := by
        clear h h'
        induction o generalizing xs with
        | zero => simp at ho
        | succ o ih => cases xs with
          | nil => rfl
          | cons x r => show x :: lput o vs r = _; rw [ih r (by simpa using ho)]
      rw [hx] at h'
      have hlt : i < xs.length := by
        rcases Nat.lt_or_ge i xs.length with h1 | h1
        · exact h1
        · rw [List.getElem?_eq_none h1] at h'; cases h'
      exact .inr ⟨by omega, by rw [rget_l]; exact h'⟩
  | t tr =>
    have h' : bget i (tput vs o tr) = some v := h
    have hi : i < 262144 := by
      rcases Nat.lt_or_ge i 262144 with h1 | h1
      · exact h1
      · rw [bget_out i (by omega)] at h'; cases h'
    rw [tput_get vs o tr i hi] at h'
    split at h'
    · exact .inl ⟨by omega, by omega, h'⟩
    · exact .inr ⟨‹_›, h'⟩
theorem rmk_get {l : List AV} {n : Nat} (i : Nat) (v : AV) (h : rget (rmk l n) i = some v) : l[i]? = some v := by
  unfold rmk at h
  rw [bc_ite] at h
  split at h
  · rwa [rget_l] at h
  · rw [rget_t] at h
    have hi : i < 262144 := by
      rcases Nat.lt_or_ge i 262144 with h1 | h1
      · exact h1
      · rw [bget_out i (by omega)] at h; cases h
    rw [tput_get l 0 bnil i hi] at h
    split at h
    · simpa using h
    · rw [bget_nil i] at h; cases h
theorem rgrow_get {r : Row} {n : Nat} (i : Nat) (v : AV) (h : rget (rgrow r n) i = some v) : rget r i = some v := by
  cases r with
  | l xs =>
    have h' : rget (bc (Nat.ble n 32) (.l xs) (.t (tput xs 0 bnil))) i = some v := h
    rw [bc_ite] at h'
    split at h'
    · exact h'
    · rw [rget_t] at h'
      have hi : i < 262144 := by
        rcases Nat.lt_or_ge i 262144 with h1 | h1
        · exact h1
        · rw [bget_out i (by omega)] at h'; cases h'
      rw [tput_get xs 0 bnil i hi] at h'
      split at h'
      · rw [rget_l]; simpa using h'
      · rw [bget_nil i] at h'; cases h'
  | t tr => exact h

/-! numbers -/
@[simp] theorem kd_kc (k : IntKind) : kd (kc k) = k := by cases k <;> rfl
theorem intEq_eq (a b : Int) : intEq a b = (a == b) := by
  cases a <;> cases b <;> simp [intEq] <;> rw [Bool.eq_iff_iff] <;> simp <;> omega
theorem intLt_eq (a b : Int) : intLt a b = decide (a < b) := by
  rw [Bool.eq_iff_iff, decide_eq_true_iff]
  cases a <;> cases b <;> simp only [intLt, Nat.blt, Nat.ble_eq, Int.ofNat_eq_natCast, Int.negSucc_eq, reduceCtorEq, false_iff, true_iff] <;> omega
theorem intLe_eq (a b : Int) : intLe a b = decide (a ≤ b) := by
  rw [Bool.eq_iff_iff, decide_eq_true_iff]
  cases a <;> cases b <;> simp only [intLe, Nat.ble_eq, Int.ofNat_eq_natCast, Int.negSucc_eq, reduceCtorEq, false_iff, true_iff] <;> omega
theorem iadd_eq (a b : Int) : iadd a b = a + b := by cases a <;> cases b <;> simp [iadd] <;> rfl
theorem isub_eq (a b : Int) : isub a b = a - b := by
  cases a <;> cases b <;> simp only [isub] <;> try rfl
  rw [bc_ite]; split
  · rename_i m n h
    have : n ≤ m := Nat.le_of_ble_eq_true h
    show Int.ofNat (m - n) = Int.ofNat m - Int.ofNat n
    simp only [Int.ofNat_eq_natCast]; omega
  · rfl
end Go.Ax
