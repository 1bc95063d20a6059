/- Part of an abstract executor of the model's machine, and of its law (S18). -/
import Derived.Test.YtlfocffihiephaaGreatDoorXS17
namespace Go.Ax
open Go.RowKit (Below)
variable {P : Program} {D : Nat → Nat} {base : Nat} {w0 : World} {E : En} {h : H} {nx : Nat} {w : World}
variable {K : AV → H → Nat → O} {r : St} {mask : Nat} {names : List Tmp} {tm : Tm} {e : List AV} {ρ : Operand → Value} {o : Oper}

/-- what the shapes of compared values are good for -/
structure EqShape (xt : TypeId) (x y : AV) (X Y : Value) : Prop where
  eql : Go.binOp .eql xt X Y = (do pure (.bool (← Op.equal xt X Y)))
  neq : Go.binOp .neq xt X Y = (do pure (.bool (!(← Op.equal xt X Y))))
  nil : X = .nilIface → Y = .nilIface → bothNil x y = true
  agg : ∀ A, X = .agg A → anAgg x = true

theorem eqShape {xt : TypeId} {x y : AV} {X Y : Value} {b : Bool} {d : Nat} (hx : VR E x X) (hy : VR E y Y) (hc : (ceq P (d + 1) xt).f h x y = some b)
    (h1 : ∀ k, P.underlying xt ≠ some (.int k)) (h2 : P.underlying xt ≠ some .string) : EqShape xt x y X Y := by
  unfold ceq at hc
  cases hU : P.underlying xt with
  | none => rw [hU] at hc; cases hc
  | some D' =>
    rw [hU] at hc
    cases D' with
    | int k => exact absurd hU (h1 k)
    | string => exact absurd hU h2
    | bool =>
      replace hc := onBool_some hc; obtain ⟨a, rfl, hc⟩ := hc
      replace hc := onBool_some hc; obtain ⟨a', rfl, hc⟩ := hc
      cases hx; cases hy
      exact ⟨rfl, rfl, fun h => (nomatch h), fun _ h => nomatch h⟩
    | struct fs =>
      simp only at hc
      rw [bc_ite] at hc
      split at hc
      · cases hc
      · replace hc := onAgg_some hc; obtain ⟨xs, rfl, hc⟩ := hc
        replace hc := onAgg_some hc; obtain ⟨ys, rfl, hc⟩ := hc
        cases hx; cases hy
        exact ⟨rfl, rfl, fun h => (nomatch h), fun _ _ => rfl⟩
    | pointer e =>
      simp only at hc
      rw [bc_ite] at hc
      split at hc
      · rename_i hn
        have hn := isNil_nilp hn; subst hn
        cases hx
        rw [bc_ite] at hc
        split at hc
        · rename_i hn2
          have hn2 := isNil_nilp hn2; subst hn2
          cases hy
          exact ⟨rfl, rfl, fun h => (nomatch h), fun _ h => nomatch h⟩
        · replace hc := onPtr_some hc; obtain ⟨_, _, rfl, hc⟩ := hc
          cases hy
          exact ⟨rfl, rfl, fun h => (nomatch h), fun _ h => nomatch h⟩
      · replace hc := onPtr_some hc; obtain ⟨_, _, rfl, hc⟩ := hc
        cases hx
        rw [bc_ite] at hc
        split at hc
        · rename_i hn2
          have hn2 := isNil_nilp hn2; subst hn2
          cases hy
          exact ⟨rfl, rfl, fun h => (nomatch h), fun _ h => nomatch h⟩
        · replace hc := onPtr_some hc; obtain ⟨_, _, rfl, hc⟩ := hc
          cases hy
          exact ⟨rfl, rfl, fun h => (nomatch h), fun _ h => nomatch h⟩
    | interface ms =>
      simp only at hc
      rw [bc_ite] at hc
      split at hc
      · rename_i hn
        have hn := isNil_nili hn; subst hn
        cases hx
        rw [bc_ite] at hc
        split at hc
        · rename_i hn2
          have hn2 := isNil_nili hn2; subst hn2
          cases hy
          exact ⟨rfl, rfl, fun _ _ => rfl, fun _ h => nomatch h⟩
        · replace hc := onIface_some hc; obtain ⟨_, _, rfl, hc⟩ := hc
          cases hy
          exact ⟨rfl, rfl, fun _ h => (nomatch h), fun _ h => nomatch h⟩
      · replace hc := onIface_some hc; obtain ⟨_, _, rfl, hc⟩ := hc
        cases hx
        rw [bc_ite] at hc
        split at hc
        · rename_i hn2
          have hn2 := isNil_nili hn2; subst hn2
          cases hy
          exact ⟨rfl, rfl, fun h => (nomatch h), fun _ h => nomatch h⟩
        · replace hc := onIface_some hc; obtain ⟨_, _, rfl, hc⟩ := hc
          cases hy
          exact ⟨rfl, rfl, fun h => (nomatch h), fun _ h => nomatch h⟩
    | slice e =>
      simp only at hc
      rw [bc_ite] at hc
      split at hc
      · rename_i hn
        have hn := isNil_nils hn; subst hn
        cases hx
        rw [bc_ite] at hc
        split at hc
        · rename_i hn2
          have hn2 := isNil_nils hn2; subst hn2
          cases hy
          exact ⟨rfl, rfl, fun h => (nomatch h), fun _ h => nomatch h⟩
        · replace hc := onSl_some hc
          rcases hc with ⟨_, _, _, _, rfl, hc⟩ | ⟨_, _, _, _, rfl, hc⟩ | ⟨_, rfl, hc⟩
          · cases hy; exact ⟨rfl, rfl, fun h => (nomatch h), fun _ h => nomatch h⟩
          · cases hy; exact ⟨rfl, rfl, fun h => (nomatch h), fun _ h => nomatch h⟩
          · cases hc
      · replace hc := bc_some hc; obtain ⟨hn2, hc⟩ := hc
        have hn2 := isNil_nils hn2; subst hn2
        cases hy
        replace hc := onSl_some hc
        rcases hc with ⟨_, _, _, _, rfl, hc⟩ | ⟨_, _, _, _, rfl, hc⟩ | ⟨_, rfl, hc⟩
        · cases hx; exact ⟨rfl, rfl, fun h => (nomatch h), fun _ h => nomatch h⟩
        · cases hx; exact ⟨rfl, rfl, fun h => (nomatch h), fun _ h => nomatch h⟩
        · cases hc
    | map kt vt =>
      simp only at hc
      rw [bc_ite] at hc
      split at hc
      · rename_i hn
        have hn := isNil_nilm hn; subst hn
        cases hx
        rw [bc_ite] at hc
        split at hc
        · rename_i hn2
          have hn2 := isNil_nilm hn2; subst hn2
          cases hy
          exact ⟨rfl, rfl, fun h => (nomatch h), fun _ h => nomatch h⟩
        · replace hc := onMap_some hc
          rcases hc with ⟨rfl, hc⟩ | ⟨_, rfl, hc⟩
          · cases hc
          · cases hy; exact ⟨rfl, rfl, fun h => (nomatch h), fun _ h => nomatch h⟩
      · replace hc := bc_some hc; obtain ⟨hn2, hc⟩ := hc
        have hn2 := isNil_nilm hn2; subst hn2
        cases hy
        replace hc := onMap_some hc
        rcases hc with ⟨rfl, hc⟩ | ⟨_, rfl, hc⟩
        · cases hc
        · cases hx; exact ⟨rfl, rfl, fun h => (nomatch h), fun _ h => nomatch h⟩
    | func a b' c =>
      simp only at hc
      rw [bc_ite] at hc
      split at hc
      · rename_i hn
        have hn := isNil_nilf hn; subst hn
        cases hx
        rw [bc_ite] at hc
        split at hc
        · rename_i hn2
          have hn2 := isNil_nilf hn2; subst hn2
          cases hy
          exact ⟨rfl, rfl, fun h => (nomatch h), fun _ h => nomatch h⟩
        · replace hc := onFn_some hc; obtain ⟨_, _, _, rfl, hc⟩ := hc
          cases hy; exact ⟨rfl, rfl, fun h => (nomatch h), fun _ h => nomatch h⟩
      · replace hc := bc_some hc; obtain ⟨hn2, hc⟩ := hc
        have hn2 := isNil_nilf hn2; subst hn2
        cases hy
        replace hc := onFn_some hc; obtain ⟨_, _, _, rfl, hc⟩ := hc
        cases hx; exact ⟨rfl, rfl, fun h => (nomatch h), fun _ h => nomatch h⟩
    | _ => cases hc
end Go.Ax
