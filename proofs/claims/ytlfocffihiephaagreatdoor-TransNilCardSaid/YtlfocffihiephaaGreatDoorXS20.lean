/- Part of an abstract executor of the model's machine, and of its law (S20). -/
import Derived.Test.YtlfocffihiephaaGreatDoorXS19
namespace Go.Ax
open Go.RowKit (Below)
variable {P : Program} {D : Nat → Nat} {base : Nat} {w0 : World} {E : En} {h : H} {nx : Nat} {w : World}
variable {K : AV → H → Nat → O} {r : St} {mask : Nat} {names : List Tmp} {tm : Tm} {e : List AV} {ρ : Operand → Value} {o : Oper}

theorem cbinI_shape {op : BinOp} {x y v : AV} {X Y : Value} (hx : VR E x X) (hy : VR E y Y) (hc : (cbinI op).f h x y = some v) : ∃ k a, X = .int k a := by
  have : ∃ k a, x = .int k a := by
    cases op with
    | shl | shr => obtain ⟨k, a, h1, _⟩ := onInt_some hc; exact ⟨k, a, h1⟩
    | andNot => cases hc
    | _ => obtain ⟨k, a, b, h1, _⟩ := ar_some hc; exact ⟨k, a, h1⟩
  obtain ⟨k, a, rfl⟩ := this
  cases hx
  exact ⟨_, _, rfl⟩
theorem cbinS_shape {op : BinOp} {x y v : AV} {X Y : Value} (hx : VR E x X) (hy : VR E y Y) (hc : (cbinS op).f h x y = some v) : ∃ s, X = .string s := by
  have : ∃ n l, x = .str n l := by
    cases op with
    | add | eql | neq => obtain ⟨k, a, h1, _⟩ := onStr_some hc; exact ⟨k, a, h1⟩
    | _ => cases hc
  obtain ⟨k, a, rfl⟩ := this
  cases hx
  exact ⟨_, rfl⟩

section
variable (R : HR D base w0 E h nx w) (ho : Ops E mask names tm e ρ o) (hr : (cop P mask names o).f tm e h nx K = some r)
include R ho hr
theorem cop_binOp {op : BinOp} {t : TypeId} {x y : Operand} {q : _} (hop : o.op = .binOp op t x y q) : PuOk P E h nx w (execOp ρ o) K r := by
  have h1 := ho x (by simp [hop, Op.operands])
  have h2 := ho y (by simp [hop, Op.operands])
  simp only [cop, hop] at hr
  obtain ⟨v, hv, hk⟩ := vres_some hr
  have main : BinOk P E w (do eqGuard op t x y (ρ x) (ρ y); Go.binOp op t (ρ x) (ρ y)) v := by
    unfold cbin at hv
    split at hv
    · obtain ⟨k, a, hX⟩ := cbinI_shape h1 h2 hv
      obtain ⟨V, hV, hrun⟩ := cbinI_sound (P := P) (w := w) (xt := t) h1 h2 hv
      refine ⟨V, hV, ?_⟩
      rw [hX] at hrun ⊢
      simp only [Sem.run_bind, guard_pass op t x y (X := .int k a) (Y := ρ y) (fun h => nomatch h) (fun _ h => nomatch h), Result.andThen_ok, hrun]
    · obtain ⟨s, hX⟩ := cbinS_shape h1 h2 hv
      obtain ⟨V, hV, hrun⟩ := cbinS_sound (P := P) (w := w) (xt := t) h1 h2 hv
      refine ⟨V, hV, ?_⟩
      rw [hX] at hrun ⊢
      simp only [Sem.run_bind, guard_pass op t x y (X := .string s) (Y := ρ y) (fun h => nomatch h) (fun _ h => nomatch h), Result.andThen_ok, hrun]
    · rename_i n1 n2
      exact cbinE_sound R h1 h2 (fun k hk => n1 k hk) (fun hk => n2 hk) hv
  obtain ⟨V, hV, hrun⟩ := main
  refine .pure R hk hV ?_
  have : execOp ρ o = (do pure (.value (← (do eqGuard op t x y (ρ x) (ρ y); Go.binOp op t (ρ x) (ρ y))))) := by simp only [execOp, hop]
  rw [this, Sem.run_bind, hrun]
  simp
end
end Go.Ax
