/- InductBounds: the walk of what refuses, by hand; the call of awake by what is known of it. -/
import Derived.Test.YtoojlkfklheoeaaGreatDoorProg
import Derived.WalkKit
import Derived.BigQuiet
import Derived.Laws.NewBlocks
namespace Go.Proofs.YtoojlkfklheoeaaGreatDoor
open Go Go.RowKit
set_option maxHeartbeats 1000000
theorem machine_no1 (c0 c1 n o : Value) (d b : Int) (w : World) (h : d < 0) :
    Calls Tryz.prog 10 #[.agg #[c0, c1], n, o, .int .i64 d, .int .i64 b] w fun e w' => e = .returned (.tuple #[.pointer none, .int .i64 2]) ∧ Below w.heap.size w w' := by
  go_enter Tryz.func10, Tryz.ntmps10
  go_wp2_with fail
  go_ret2
  exact ⟨rfl, (Below.refl _ _).alloc (Nat.le_refl _) _⟩
theorem machine_no2 (c0 c1 n o : Value) (d b : Int) (w : World) (h0 : ¬ d < 0) (h : 64 < d) :
    Calls Tryz.prog 10 #[.agg #[c0, c1], n, o, .int .i64 d, .int .i64 b] w fun e w' => e = .returned (.tuple #[.pointer none, .int .i64 2]) ∧ Below w.heap.size w w' := by
  go_enter Tryz.func10, Tryz.ntmps10
  go_wp2_with fail
  go_ret2
  exact ⟨rfl, (Below.refl _ _).alloc (Nat.le_refl _) _⟩
theorem machine_no3 (c0 c1 n o : Value) (d b : Int) (w : World) (h0 : ¬ d < 0) (h1 : ¬ 64 < d) (h : b < 0) :
    Calls Tryz.prog 10 #[.agg #[c0, c1], n, o, .int .i64 d, .int .i64 b] w fun e w' => e = .returned (.tuple #[.pointer none, .int .i64 2]) ∧ Below w.heap.size w w' := by
  go_enter Tryz.func10, Tryz.ntmps10
  go_wp2_with fail
  go_ret2
  exact ⟨rfl, (Below.refl _ _).alloc (Nat.le_refl _) _⟩
theorem machine_no (c0 c1 n o : Value) (d b : Int) (w : World) (h : d < 0 ∨ 64 < d ∨ b < 0) :
    Calls Tryz.prog 10 #[.agg #[c0, c1], n, o, .int .i64 d, .int .i64 b] w fun e w' => e = .returned (.tuple #[.pointer none, .int .i64 2]) ∧ Below w.heap.size w w' := by
  by_cases h0 : d < 0
  · exact machine_no1 c0 c1 n o d b w h0
  · by_cases h1 : 64 < d
    · exact machine_no2 c0 c1 n o d b w h0 h1
    · exact machine_no3 c0 c1 n o d b w h0 h1 (by omega)
theorem cells_of {w w1 : World} {B : Nat} (hb : Below B w w1) {a : Addr} {v : Value} (ha : a.block < B) (h : w.cell? a = some v) : w1.cell? a = some v := (hb.cell ha).trans h
theorem frozen_of {w w1 : World} {B : Nat} (hb : Below B w w1) {a : Addr} (ha : a.block < B) (h : w.frozen? a = false) : w1.frozen? a = false := (hb.frozen ha).trans h
theorem at_two (w : World) (o1 o2 : Obj) : ((w.alloc o1).alloc o2).heap[w.heap.size + 1]? = some o2 := by
  show ((w.heap.push o1).push o2)[w.heap.size + 1]? = _
  rw [Array.getElem?_push, if_pos (by simp)]
theorem cell_two {w w1 : World} {o1 : Obj} {cs : Array Value} {t : TypeId} {i : Nat} {v : Value} (hb : Below ((w.alloc o1).alloc (.cells cs t)).heap.size ((w.alloc o1).alloc (.cells cs t)) w1) (h : cs[i]? = some v) :
    w1.cell? ⟨w.heap.size + 1, i, none⟩ = some v ∧ w1.frozen? ⟨w.heap.size + 1, i, none⟩ = false := by
  have e := at_two w o1 (.cells cs t)
  refine ⟨cells_of hb (by simp) ?_, frozen_of hb (by simp) ?_⟩
  · simp only [World.cell?, e]; exact h
  · simp only [World.frozen?, e]; simp
theorem below_two {w w1 : World} {o1 o2 : Obj} (hb : Below ((w.alloc o1).alloc o2).heap.size ((w.alloc o1).alloc o2) w1) : Below w.heap.size w w1 :=
  (((Below.refl _ w).alloc (Nat.le_refl _) _).alloc (by simp) _).trans (hb.mono (by simp; omega))
theorem search_no (c0 c1 n o : Value) (d b : Int) (w : World) (h : d < 0 ∨ 64 < d ∨ b < 0) :
    Calls Tryz.prog 5 #[.agg #[c0, c1], n, o, .int .i64 d, .int .i64 b] w fun e w' => e = .returned (.tuple #[.agg #[.int .i64 0, .int .i64 0, .slice none 0 0], .int .i64 2]) ∧ Below w.heap.size w w' := by
  go_enter Tryz.func5, Tryz.ntmps5
  go_wp2_with fail
  refine (machine_no c0 c1 n o d b _ h).mono fun e w1 ⟨he, hb⟩ => ?_
  subst he
  have hB := below_two hb
  obtain ⟨hc0, hf0⟩ := cell_two (i := 0) hb rfl
  obtain ⟨hc1, hf1⟩ := cell_two (i := 1) hb rfl
  obtain ⟨hc2, hf2⟩ := cell_two (i := 2) hb rfl
  clear hb
  go_wp2_with fail
  refine bodyPost_ret (v := .tuple #[.agg #[.int .i64 0, .int .i64 0, .slice none 0 0], .int .i64 2]) (by simp [results, Tryz.results5, go_sem, *]) rfl ⟨rfl, ?_⟩
  exact ((hB.setCell (by simp) _).setCell (by simp) _).setCell (by simp) _
theorem prove_no (c0 c1 n o : Value) (d b : Int) (w : World) (h : d < 0 ∨ 64 < d ∨ b < 0) :
    Calls Tryz.prog 6 #[.agg #[c0, c1], n, o, .int .i64 d, .int .i64 b] w fun e w' => e = .returned (.tuple #[.agg #[.int .i64 0, .int .i64 0, .slice none 0 0], .int .i64 2]) ∧ Below w.heap.size w w' := by
  go_enter Tryz.func6, Tryz.ntmps6
  go_wp2_with fail
  refine (machine_no c0 c1 n o d b _ h).mono fun e w1 ⟨he, hb⟩ => ?_
  subst he
  have hB := below_two hb
  obtain ⟨hc0, hf0⟩ := cell_two (i := 0) hb rfl
  obtain ⟨hc1, hf1⟩ := cell_two (i := 1) hb rfl
  obtain ⟨hc2, hf2⟩ := cell_two (i := 2) hb rfl
  clear hb
  go_wp2_with fail
  refine bodyPost_ret (v := .tuple #[.agg #[.int .i64 0, .int .i64 0, .slice none 0 0], .int .i64 2]) (by simp [results, Tryz.results6, go_sem, *]) rfl ⟨rfl, ?_⟩
  exact ((hB.setCell (by simp) _).setCell (by simp) _).setCell (by simp) _
theorem cell_one {w w1 : World} {cs : Array Value} {t : TypeId} {i : Nat} {v : Value} (hb : Below (w.alloc (.cells cs t)).heap.size (w.alloc (.cells cs t)) w1) (h : cs[i]? = some v) :
    w1.cell? ⟨w.heap.size, i, none⟩ = some v := by
  have e : (w.alloc (.cells cs t)).heap[w.heap.size]? = some (.cells cs t) := by
    show (w.heap.push _)[w.heap.size]? = _
    rw [Array.getElem?_push, if_pos rfl]
  refine cells_of hb (by simp) ?_
  simp only [World.cell?, e]; exact h
theorem below_one {w w1 : World} {o1 : Obj} (hb : Below (w.alloc o1).heap.size (w.alloc o1) w1) : Below w.heap.size w w1 :=
  ((Below.refl _ w).alloc (Nat.le_refl _) _).trans (hb.mono (by simp))
/-- what lies in a block that was there, behind a new block -/
theorem past {w : World} {o : Obj} {a : Addr} {v : Value} (h : w.cell? a = some v) : (w.alloc o).cell? a = some v := by
  have hlt : a.block < w.heap.size := by
    cases hq : w.heap[a.block]? with
    | none => simp [World.cell?, hq] at h
    | some o => exact (Array.getElem?_eq_some_iff.1 hq).1
  exact ((Below.refl w.heap.size w).alloc (Nat.le_refl _) o).cell hlt |>.trans h
theorem bounds_out1 (c0 c1 n o : Value) (d b : Int) (w : World) (h : d < 0 ∨ 64 < d ∨ b < 0) (h0 : ¬ 0 ≤ d)
    (aw : ∀ W, Calls Tryz.prog 4 #[] W fun e W' => e = .returned (.bool true) ∧ Below W.heap.size W W') :
    Calls Tryz.prog 3 #[.agg #[c0, c1], n, o, .int .i64 d, .int .i64 b] w fun e w' => e = .returned (.bool true) ∧ Below w.heap.size w w' := by
  go_enter Tryz.func3, Tryz.ntmps3
  go_wp2_with fail
  refine (search_no c0 c1 n o d b _ h).mono fun e w1 ⟨he, hb⟩ => ?_
  subst he
  have hB := below_one hb
  have hs : w.heap.size + 1 ≤ w1.heap.size := by have := hb.size; simpa using this
  have hc0 := past (o := .cells #[.int .i64 0, .int .i64 0, .slice none 0 0] 29) (cell_one (i := 0) hb rfl)
  have hc1 := past (o := .cells #[.int .i64 0, .int .i64 0, .slice none 0 0] 29) (cell_one (i := 1) hb rfl)
  clear hb
  go_wp2_with fail
  refine (prove_no c0 c1 n o d b _ h).mono fun e w2 ⟨he, hb⟩ => ?_
  subst he
  have hB2 : Below w.heap.size w w2 := hB.trans ((below_one hb).mono (by omega))
  have hs2 : w.heap.size ≤ w2.heap.size := by have := hb.size; simp at this; omega
  have hv0 := past (o := .cells #[.int .i64 0, .int .i64 0, .slice none 0 0] 29) (cell_one (i := 0) hb rfl)
  have hv1 := past (o := .cells #[.int .i64 0, .int .i64 0, .slice none 0 0] 29) (cell_one (i := 1) hb rfl)
  have hv2 := past (o := .cells #[.int .i64 0, .int .i64 0, .slice none 0 0] 29) (cell_one (i := 2) hb rfl)
  clear hb hc0 hc1 hB hs
  go_wp2_with fail
  refine (aw _).mono fun e w3 ⟨he, hb⟩ => ?_
  subst he
  have hB3 : Below w.heap.size w w3 := hB2.trans ((below_one hb).mono hs2)
  clear hb hv0 hv1 hv2
  go_wp2_with fail
  go_ret
  exact ⟨rfl, hB3⟩
theorem bounds_out2 (c0 c1 n o : Value) (d b : Int) (w : World) (h : d < 0 ∨ 64 < d ∨ b < 0) (h0 : 0 ≤ d) (h1 : ¬ d ≤ 64)
    (aw : ∀ W, Calls Tryz.prog 4 #[] W fun e W' => e = .returned (.bool true) ∧ Below W.heap.size W W') :
    Calls Tryz.prog 3 #[.agg #[c0, c1], n, o, .int .i64 d, .int .i64 b] w fun e w' => e = .returned (.bool true) ∧ Below w.heap.size w w' := by
  go_enter Tryz.func3, Tryz.ntmps3
  go_wp2_with fail
  refine (search_no c0 c1 n o d b _ h).mono fun e w1 ⟨he, hb⟩ => ?_
  subst he
  have hB := below_one hb
  have hs : w.heap.size + 1 ≤ w1.heap.size := by have := hb.size; simpa using this
  have hc0 := past (o := .cells #[.int .i64 0, .int .i64 0, .slice none 0 0] 29) (cell_one (i := 0) hb rfl)
  have hc1 := past (o := .cells #[.int .i64 0, .int .i64 0, .slice none 0 0] 29) (cell_one (i := 1) hb rfl)
  clear hb
  go_wp2_with fail
  refine (prove_no c0 c1 n o d b _ h).mono fun e w2 ⟨he, hb⟩ => ?_
  subst he
  have hB2 : Below w.heap.size w w2 := hB.trans ((below_one hb).mono (by omega))
  have hs2 : w.heap.size ≤ w2.heap.size := by have := hb.size; simp at this; omega
  have hv0 := past (o := .cells #[.int .i64 0, .int .i64 0, .slice none 0 0] 29) (cell_one (i := 0) hb rfl)
  have hv1 := past (o := .cells #[.int .i64 0, .int .i64 0, .slice none 0 0] 29) (cell_one (i := 1) hb rfl)
  have hv2 := past (o := .cells #[.int .i64 0, .int .i64 0, .slice none 0 0] 29) (cell_one (i := 2) hb rfl)
  clear hb hc0 hc1 hB hs
  go_wp2_with fail
  refine (aw _).mono fun e w3 ⟨he, hb⟩ => ?_
  subst he
  have hB3 : Below w.heap.size w w3 := hB2.trans ((below_one hb).mono hs2)
  clear hb hv0 hv1 hv2
  go_wp2_with fail
  go_ret
  exact ⟨rfl, hB3⟩
theorem bounds_out3 (c0 c1 n o : Value) (d b : Int) (w : World) (h : d < 0 ∨ 64 < d ∨ b < 0) (h0 : 0 ≤ d) (h1 : d ≤ 64) (h2 : ¬ 0 ≤ b)
    (aw : ∀ W, Calls Tryz.prog 4 #[] W fun e W' => e = .returned (.bool true) ∧ Below W.heap.size W W') :
    Calls Tryz.prog 3 #[.agg #[c0, c1], n, o, .int .i64 d, .int .i64 b] w fun e w' => e = .returned (.bool true) ∧ Below w.heap.size w w' := by
  go_enter Tryz.func3, Tryz.ntmps3
  go_wp2_with fail
  refine (search_no c0 c1 n o d b _ h).mono fun e w1 ⟨he, hb⟩ => ?_
  subst he
  have hB := below_one hb
  have hs : w.heap.size + 1 ≤ w1.heap.size := by have := hb.size; simpa using this
  have hc0 := past (o := .cells #[.int .i64 0, .int .i64 0, .slice none 0 0] 29) (cell_one (i := 0) hb rfl)
  have hc1 := past (o := .cells #[.int .i64 0, .int .i64 0, .slice none 0 0] 29) (cell_one (i := 1) hb rfl)
  clear hb
  go_wp2_with fail
  refine (prove_no c0 c1 n o d b _ h).mono fun e w2 ⟨he, hb⟩ => ?_
  subst he
  have hB2 : Below w.heap.size w w2 := hB.trans ((below_one hb).mono (by omega))
  have hs2 : w.heap.size ≤ w2.heap.size := by have := hb.size; simp at this; omega
  have hv0 := past (o := .cells #[.int .i64 0, .int .i64 0, .slice none 0 0] 29) (cell_one (i := 0) hb rfl)
  have hv1 := past (o := .cells #[.int .i64 0, .int .i64 0, .slice none 0 0] 29) (cell_one (i := 1) hb rfl)
  have hv2 := past (o := .cells #[.int .i64 0, .int .i64 0, .slice none 0 0] 29) (cell_one (i := 2) hb rfl)
  clear hb hc0 hc1 hB hs
  go_wp2_with fail
  refine (aw _).mono fun e w3 ⟨he, hb⟩ => ?_
  subst he
  have hB3 : Below w.heap.size w w3 := hB2.trans ((below_one hb).mono hs2)
  clear hb hv0 hv1 hv2
  go_wp2_with fail
  go_ret
  exact ⟨rfl, hB3⟩
theorem bounds_in (c0 c1 n o : Value) (d b : Int) (w : World) (h0 : 0 ≤ d) (h1 : d ≤ 64) (h2 : 0 ≤ b)
    (aw : ∀ W, Calls Tryz.prog 4 #[] W fun e W' => e = .returned (.bool true) ∧ Below W.heap.size W W') :
    Calls Tryz.prog 3 #[.agg #[c0, c1], n, o, .int .i64 d, .int .i64 b] w fun e w' => e = .returned (.bool true) ∧ Below w.heap.size w w' := by
  go_enter Tryz.func3, Tryz.ntmps3
  go_wp2_with fail
  refine (aw _).mono fun e w3 ⟨he, hb⟩ => ?_
  subst he
  have hB3 := below_one hb
  clear hb
  go_wp2_with fail
  go_ret
  exact ⟨rfl, hB3⟩
theorem bounds_any (c0 c1 n o : Value) (d b : Int) (w : World)
    (aw : ∀ W, Calls Tryz.prog 4 #[] W fun e W' => e = .returned (.bool true) ∧ Below W.heap.size W W') :
    Calls Tryz.prog 3 #[.agg #[c0, c1], n, o, .int .i64 d, .int .i64 b] w fun e w' => e = .returned (.bool true) ∧ Below w.heap.size w w' := by
  by_cases h0 : 0 ≤ d
  · by_cases h1 : d ≤ 64
    · by_cases h2 : 0 ≤ b
      · exact bounds_in c0 c1 n o d b w h0 h1 h2 aw
      · exact bounds_out3 c0 c1 n o d b w (by omega) h0 h1 h2 aw
    · exact bounds_out2 c0 c1 n o d b w (by omega) h0 h1 aw
  · exact bounds_out1 c0 c1 n o d b w (by omega) h0 aw
end Go.Proofs.YtoojlkfklheoeaaGreatDoor
