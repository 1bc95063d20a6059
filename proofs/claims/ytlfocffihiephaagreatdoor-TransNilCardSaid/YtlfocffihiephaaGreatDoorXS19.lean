/- Part of an abstract executor of the model's machine, and of its law (S19). -/
import Derived.Test.YtlfocffihiephaaGreatDoorXS18
namespace Go.Ax
open Go.RowKit (Below)
variable {P : Program} {D : Nat → Nat} {base : Nat} {w0 : World} {E : En} {h : H} {nx : Nat} {w : World}
variable {K : AV → H → Nat → O} {r : St} {mask : Nat} {names : List Tmp} {tm : Tm} {e : List AV} {ρ : Operand → Value} {o : Oper}

theorem isC_eq (x : Operand) : isC x = (x matches .const _) := by cases x <;> rfl

/-- the guard lets integers and strings pass -/
theorem guard_pass (op : BinOp) (t : TypeId) (x y : Operand) {X Y : Value} (h1 : X = .nilIface → Y ≠ .nilIface) (h2 : ∀ A, X ≠ .agg A) : (eqGuard op t x y X Y).run P w = .ok () w := by
  unfold eqGuard
  cases X <;> first | (exact absurd rfl (h2 _)) | skip
  all_goals first
  | (cases op <;> rfl)
  | (cases Y <;> first | (exact absurd rfl (h1 rfl)) | (cases op <;> rfl))

theorem cbinE_sound (R : HR D base w0 E h nx w) {op : BinOp} {xt : TypeId} {x y v : AV} {X Y : Value} {a b : Operand} (hx : VR E x X) (hy : VR E y Y)
    (h1 : ∀ k, P.underlying xt ≠ some (.int k)) (h2 : P.underlying xt ≠ some .string)
    (hc : (cbinE P op xt (isC a || isC b)).f h x y = some v) : BinOk P E w (do eqGuard op xt a b X Y; Go.binOp op xt X Y) v := by
  have main : ∀ (bb : Bool), bc (bc (isC a || isC b) false (bothNil x y)) true (bc (P.eqGuardType P.depth xt) (anAgg x) false) = false → (ceq P 6 xt).f h x y = some bb → (op = .eql ∨ op = .neq) →
      (eqGuard op xt a b X Y).run P w = .ok () w ∧ (Op.equal xt X Y).run P w = .ok bb w ∧ EqShape xt x y X Y := by
    intro bb hg hceq hop
    have hs := eqShape hx hy hceq h1 h2
    refine ⟨?_, ceq_sound R 6 xt x y X Y bb hx hy hceq 9994, hs⟩
    have hbn : bc (isC a || isC b) false (bothNil x y) = false := by
      cases hq : bc (isC a || isC b) false (bothNil x y) with
      | false => rfl
      | true => rw [hq] at hg; cases hg
    rw [hbn] at hg
    have hga : bc (P.eqGuardType P.depth xt) (anAgg x) false = false := hg
    by_cases hA : ∃ A, X = .agg A
    · obtain ⟨A, rfl⟩ := hA
      have := hs.agg A rfl
      rw [this] at hga
      have hgt : P.eqGuardType P.depth xt = false := by
        cases hq : P.eqGuardType P.depth xt with
        | false => rfl
        | true => rw [hq] at hga; cases hga
      unfold eqGuard
      rcases hop with rfl | rfl <;> cases Y <;> simp [run_program, hgt]
    · by_cases hN : X = .nilIface ∧ Y = .nilIface
      · obtain ⟨rfl, rfl⟩ := hN
        have hb := hs.nil rfl rfl
        rw [hb] at hbn
        have hl : (isC a || isC b) = true := by
          cases hq : (isC a || isC b) with
          | true => rfl
          | false => rw [hq] at hbn; cases hbn
        cases a <;> cases b <;> first | (cases hl; done) | (rcases hop with rfl | rfl <;> rfl)
      · exact guard_pass op xt a b (fun h h' => hN ⟨h, h'⟩) (fun A h => hA ⟨A, h⟩)
  cases op with
  | eql =>
    replace hc := bc_some' (c := bc (isC a || isC b) false (bothNil x y)) hc
    obtain ⟨g1, hc⟩ := hc
    replace hc := bc_some' (c := bc (P.eqGuardType P.depth xt) (anAgg x) false) hc
    obtain ⟨g2, hc⟩ := hc
    obtain ⟨bb, hb, hv⟩ := ob_some' hc
    cases hv
    obtain ⟨m1, m2, m3⟩ := main bb (by rw [g1]; exact g2) hb (.inl rfl)
    refine ⟨_, .bool bb, ?_⟩
    rw [m3.eql]
    simp [m1, m2]
  | neq =>
    replace hc := bc_some' (c := bc (isC a || isC b) false (bothNil x y)) hc
    obtain ⟨g1, hc⟩ := hc
    replace hc := bc_some' (c := bc (P.eqGuardType P.depth xt) (anAgg x) false) hc
    obtain ⟨g2, hc⟩ := hc
    obtain ⟨bb, hb, hv⟩ := ob_some' hc
    cases hv
    obtain ⟨m1, m2, m3⟩ := main bb (by rw [g1]; exact g2) hb (.inr rfl)
    refine ⟨_, .bool (bnot bb), ?_⟩
    rw [m3.neq]
    cases bb <;> simp [m1, m2, bnot]
  | _ => cases hc
end Go.Ax
