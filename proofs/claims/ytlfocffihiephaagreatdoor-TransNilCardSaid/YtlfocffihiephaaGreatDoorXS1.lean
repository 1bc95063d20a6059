/- Part of an abstract executor of the model's machine, and of its law (S1). -/
import Derived.Test.YtlfocffihiephaaGreatDoorXWA
namespace Go.Ax

@[simp] theorem dig_eq {β : Type} (m : Nat) (K : Nat → β) : dig m K = K m := by cases m <;> rfl

/-- what is written is read -/
def GLens {α β : Type} (a : G α β) : Prop := ∀ x t, gget a (gset a x t) = x
/-- b's writing does not touch what a reads -/
def GInd {α β γ : Type} (a : G α β) (b : G α γ) : Prop := ∀ x t, gget a (gset b x t) = gget a t

theorem gget_comp {α β γ : Type} (a : G α β) (b : G β γ) (t : α) : gget (gcomp a b) t = gget b (gget a t) := by
  cases a; cases b; rfl
theorem gset_comp {α β γ : Type} (a : G α β) (b : G β γ) (x : γ) (t : α) : gset (gcomp a b) x t = gset a (gset b x (gget a t)) t := by
  cases a; cases b; rfl
theorem GLens.comp {α β γ : Type} {a : G α β} {b : G β γ} (ha : GLens a) (hb : GLens b) : GLens (gcomp a b) := by
  intro x t; rw [gget_comp, gset_comp, ha, hb]
theorem GInd.deep {α β γ δ : Type} {a : G α β} {b : G β γ} {c : G β δ} (ha : GLens a) (h : GInd b c) : GInd (gcomp a b) (gcomp a c) := by
  intro x t; rw [gget_comp, gset_comp, ha, h, gget_comp]
theorem GInd.wide {α β γ δ ε : Type} {a : G α β} {a' : G α δ} {b : G β γ} {b' : G δ ε} (h : GInd a a') : GInd (gcomp a b) (gcomp a' b') := by
  intro x t; rw [gget_comp, gset_comp, h, gget_comp]

def N16.l {α : Type} : N16 α → List α
  | .mk a0 a1 a2 a3 a4 a5 a6 a7 a8 a9 a10 a11 a12 a13 a14 a15 => [a0, a1, a2, a3, a4, a5, a6, a7, a8, a9, a10, a11, a12, a13, a14, a15]
theorem n16_get {α : Type} (t : N16 α) : ∀ i, i < 16 → t.l[i]? = some (gget (n16 i) t) := by
  cases t
  intro i h
  match i, h with
  | 0, _ => rfl
  | 1, _ => rfl
  | 2, _ => rfl
  | 3, _ => rfl
  | 4, _ => rfl
  | 5, _ => rfl
  | 6, _ => rfl
  | 7, _ => rfl
  | 8, _ => rfl
  | 9, _ => rfl
  | 10, _ => rfl
  | 11, _ => rfl
  | 12, _ => rfl
  | 13, _ => rfl
  | 14, _ => rfl
  | 15, _ => rfl
  | k + 16, h => omega
theorem n16_set {α : Type} (x : α) (t : N16 α) : ∀ i, i < 16 → (gset (n16 i) x t).l = t.l.set i x := by
  cases t
  intro i h
  match i, h with
  | 0, _ => rfl
  | 1, _ => rfl
  | 2, _ => rfl
  | 3, _ => rfl
  | 4, _ => rfl
  | 5, _ => rfl
  | 6, _ => rfl
  | 7, _ => rfl
  | 8, _ => rfl
  | 9, _ => rfl
  | 10, _ => rfl
  | 11, _ => rfl
  | 12, _ => rfl
  | 13, _ => rfl
  | 14, _ => rfl
  | 15, _ => rfl
  | k + 16, h => omega
theorem N16.len {α : Type} (t : N16 α) : t.l.length = 16 := by cases t; rfl
theorem n16_lens {α : Type} (i : Nat) (h : i < 16) : GLens (n16 (α := α) i) := by
  intro x t
  have h1 := n16_get (gset (n16 i) x t) i h
  rw [n16_set x t i h, List.getElem?_set_self (by rw [N16.len]; exact h)] at h1
  exact (Option.some.inj h1).symm
theorem n16_ind {α : Type} (i j : Nat) (h : i < 16) (hj : j < 16) (hne : i ≠ j) : GInd (n16 (α := α) i) (n16 j) := by
  intro x t
  have h1 := n16_get (gset (n16 j) x t) i h
  rw [n16_set x t j hj, List.getElem?_set_ne (Ne.symm hne), n16_get t i h] at h1
  exact (Option.some.inj h1).symm
theorem n16_const {α : Type} (x : α) (i : Nat) (h : i < 16) : gget (n16 i) (n16c x) = x := by
  have h1 := n16_get (n16c x) i h
  have h2 : (n16c x).l = List.replicate 16 x := rfl
  rw [h2, List.getElem?_replicate, if_pos h] at h1
  exact (Option.some.inj h1).symm
def N32.l {α : Type} : N32 α → List α
  | .mk a0 a1 a2 a3 a4 a5 a6 a7 a8 a9 a10 a11 a12 a13 a14 a15 a16 a17 a18 a19 a20 a21 a22 a23 a24 a25 a26 a27 a28 a29 a30 a31 => [a0, a1, a2, a3, a4, a5, a6, a7, a8, a9, a10, a11, a12, a13, a14, a15, a16, a17, a18, a19, a20, a21, a22, a23, a24, a25, a26, a27, a28, a29, a30, a31]
theorem n32_get {α : Type} (t : N32 α) : ∀ i, i < 32 → t.l[i]? = some (gget (n32 i) t) := by
  cases t
  intro i h
  match i, h with
  | 0, _ => rfl
  | 1, _ => rfl
  | 2, _ => rfl
  | 3, _ => rfl
  | 4, _ => rfl
  | 5, _ => rfl
  | 6, _ => rfl
  | 7, _ => rfl
  | 8, _ => rfl
  | 9, _ => rfl
  | 10, _ => rfl
  | 11, _ => rfl
  | 12, _ => rfl
  | 13, _ => rfl
  | 14, _ => rfl
  | 15, _ => rfl
  | 16, _ => rfl
  | 17, _ => rfl
  | 18, _ => rfl
  | 19, _ => rfl
  | 20, _ => rfl
  | 21, _ => rfl
  | 22, _ => rfl
  | 23, _ => rfl
  | 24, _ => rfl
  | 25, _ => rfl
  | 26, _ => rfl
  | 27, _ => rfl
  | 28, _ => rfl
  | 29, _ => rfl
  | 30, _ => rfl
  | 31, _ => rfl
  | k + 32, h => omega
theorem n32_set {α : Type} (x : α) (t : N32 α) : ∀ i, i < 32 → (gset (n32 i) x t).l = t.l.set i x := by
  cases t
  intro i h
  match i, h with
  | 0, _ => rfl
  | 1, _ => rfl
  | 2, _ => rfl
  | 3, _ => rfl
  | 4, _ => rfl
  | 5, _ => rfl
  | 6, _ => rfl
  | 7, _ => rfl
  | 8, _ => rfl
  | 9, _ => rfl
  | 10, _ => rfl
  | 11, _ => rfl
  | 12, _ => rfl
  | 13, _ => rfl
  | 14, _ => rfl
  | 15, _ => rfl
  | 16, _ => rfl
  | 17, _ => rfl
  | 18, _ => rfl
  | 19, _ => rfl
  | 20, _ => rfl
  | 21, _ => rfl
  | 22, _ => rfl
  | 23, _ => rfl
  | 24, _ => rfl
  | 25, _ => rfl
  | 26, _ => rfl
  | 27, _ => rfl
  | 28, _ => rfl
  | 29, _ => rfl
  | 30, _ => rfl
  | 31, _ => rfl
  | k + 32, h => omega
theorem N32.len {α : Type} (t : N32 α) : t.l.length = 32 := by cases t; rfl
theorem n32_lens {α : Type} (i : Nat) (h : i < 32) : GLens (n32 (α := α) i) := by
  intro x t
  have h1 := n32_get (gset (n32 i) x t) i h
  rw [n32_set x t i h, List.getElem?_set_self (by rw [N32.len]; exact h)] at h1
  exact (Option.some.inj h1).symm
theorem n32_ind {α : Type} (i j : Nat) (h : i < 32) (hj : j < 32) (hne : i ≠ j) : GInd (n32 (α := α) i) (n32 j) := by
  intro x t
  have h1 := n32_get (gset (n32 j) x t) i h
  rw [n32_set x t j hj, List.getElem?_set_ne (Ne.symm hne), n32_get t i h] at h1
  exact (Option.some.inj h1).symm
theorem n32_const {α : Type} (x : α) (i : Nat) (h : i < 32) : gget (n32 i) (n32c x) = x := by
  have h1 := n32_get (n32c x) i h
  have h2 : (n32c x).l = List.replicate 32 x := rfl
  rw [h2, List.getElem?_replicate, if_pos h] at h1
  exact (Option.some.inj h1).symm

theorem slot_eq (i : Nat) : slot i = gcomp (n32 (i / 16)) (n16 (i % 16)) := rfl
theorem slot_lens (i : Nat) (h : i < 512) : GLens (slot i) := by
  rw [slot_eq]; exact (n32_lens _ (by omega)).comp (n16_lens _ (by omega))
theorem slot_ind (i j : Nat) (h : i < 512) (hj : j < 512) (hne : i ≠ j) : GInd (slot i) (slot j) := by
  rw [slot_eq, slot_eq]
  by_cases hd : i / 16 = j / 16
  · rw [hd]; exact .deep (n32_lens _ (by omega)) (n16_ind _ _ (by omega) (by omega) (by omega))
  · exact .wide (n32_ind _ _ (by omega) (by omega) hd)
theorem slot_nil (i : Nat) (h : i < 512) : gget (slot i) tnil = undef := by
  rw [slot_eq]; unfold tnil
  rw [gget_comp, n32_const _ _ (by omega), n16_const _ _ (by omega)]
theorem slot_set (i j : Nat) (h : i < 512) (hj : j < 512) (v : AV) (t : Tm) : gget (slot i) (gset (slot j) v t) = if i = j then v else gget (slot i) t := by
  split
  · rename_i e; subst e; exact slot_lens i h v t
  · exact slot_ind i j h hj ‹_› v t

theorem loc_eq {α : Type} (k : Nat) (h : k < 262144) : loc (α := α) k = gcomp (n32 (k / 8192)) (gcomp (n32 (k / 256 % 32)) (gcomp (n16 (k / 16 % 16)) (n16 (k % 16)))) := by
  have hb : Nat.blt k 262144 = true := by simpa using h
  simp only [loc, dig_eq, hb]; rfl
theorem loc_out {α : Type} (k : Nat) (h : ¬ k < 262144) : loc (α := α) k = ⟨fun _ => none, fun _ h => h⟩ := by
  have hb : Nat.blt k 262144 = false := by
    cases hc : Nat.blt k 262144 with
    | false => rfl
    | true => exact absurd (by simpa using hc) h
  simp only [loc, hb]; rfl
theorem loc_lens {α : Type} (k : Nat) (h : k < 262144) : GLens (loc (α := α) k) := by
  rw [loc_eq k h]
  exact (n32_lens _ (by omega)).comp ((n32_lens _ (by omega)).comp ((n16_lens _ (by omega)).comp (n16_lens _ (by omega))))
theorem loc_ind {α : Type} (k j : Nat) (h : k < 262144) (hj : j < 262144) (hne : k ≠ j) : GInd (loc (α := α) k) (loc j) := by
  rw [loc_eq k h, loc_eq j hj]
  by_cases h1 : k / 8192 = j / 8192
  · rw [h1]
    refine .deep (n32_lens _ (by omega)) ?_
    by_cases h2 : k / 256 % 32 = j / 256 % 32
    · rw [h2]
      refine .deep (n32_lens _ (by omega)) ?_
      by_cases h3 : k / 16 % 16 = j / 16 % 16
      · rw [h3]; exact .deep (n16_lens _ (by omega)) (n16_ind _ _ (by omega) (by omega) (by omega))
      · exact .wide (n16_ind _ _ (by omega) (by omega) h3)
    · exact .wide (n32_ind _ _ (by omega) (by omega) h2)
  · exact .wide (n32_ind _ _ (by omega) (by omega) h1)
theorem bget_out {α : Type} (k : Nat) (h : ¬ k < 262144) (t : BT α) : bget k t = none := by
  show gget (loc k) t = none
  rw [loc_out k h]; rfl
theorem bget_nil {α : Type} (k : Nat) : bget (α := α) k bnil = none := by
  by_cases h : k < 262144
  · show gget (loc k) bnil = none
    rw [loc_eq k h]; unfold bnil
    rw [gget_comp, n32_const _ _ (by omega), gget_comp, n32_const _ _ (by omega), gget_comp, n16_const _ _ (by omega), n16_const _ _ (by omega)]
  · exact bget_out k h _
theorem bget_put {α : Type} (k j : Nat) (x : Option α) (t : BT α) : bget k (bput j x t) = if k = j ∧ k < 262144 then x else bget k t := by
  by_cases h : k < 262144
  · by_cases hj : j < 262144
    · show gget (loc k) (gset (loc j) x t) = _
      by_cases e : k = j
      · subst e; rw [if_pos ⟨rfl, h⟩]; exact loc_lens k h x t
      · rw [if_neg (fun c => e c.1)]; exact loc_ind k j h hj e x t
    · rw [if_neg (fun (c : k = j ∧ k < 262144) => hj (c.1 ▸ c.2))]
      have : bput j x t = t := by show gset (loc j) x t = t; rw [loc_out j hj]; rfl
      rw [this]
  · rw [bget_out k h, bget_out k h, if_neg (fun c => h c.2)]
end Go.Ax
