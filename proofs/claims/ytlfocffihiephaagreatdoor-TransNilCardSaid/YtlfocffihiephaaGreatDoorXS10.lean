/- Part of an abstract executor of the model's machine, and of its law (S10). -/
import Derived.Test.YtlfocffihiephaaGreatDoorXS9
import Derived.Laws.MakeOwn
namespace Go.Ax
open Go.RowKit (Below)
variable {P : Program} {D : Nat → Nat} {base : Nat} {w0 : World} {E : En} {h : H} {nx : Nat} {w : World}
variable {K : AV → H → Nat → O} {r : St} {mask : Nat} {names : List Tmp} {tm : Tm} {e : List AV} {ρ : Operand → Value} {o : Oper}

/-- the zero value of a type -/
theorem zeroOf_sound (E : En) {t : TypeId} {i : TI} (hi : tinfo P t = some i) {z : AV} (hz : zeroOf i = some z) :
    ∃ Z, VR E z Z ∧ ∀ w, (zeroValue t).run P w = .ok Z w := by
  obtain ⟨I, h1, h2, h3, h4, h5, h6⟩ := tinfo_some hi
  obtain ⟨l, hl, hz⟩ := ob_some' hz
  obtain ⟨Z, hZ, rfl, hok⟩ := h6 l hl
  have hagg := tinfo_agg hi h1 hl hZ
  refine ⟨Z, ?_, fun w => by simp [zeroValue, run_info h1, hZ]⟩
  cases ha : i.agg with
  | true =>
    rw [ha] at hz hagg
    cases hz
    cases Z <;> first | cases hagg | skip
    have := ofVs_sound E hok
    simpa [Value.cells] using VR.agg this
  | false =>
    rw [ha] at hz hagg
    have hz : lnth 0 (ofVs Z) = some z := hz
    rw [lnth_eq] at hz
    obtain ⟨V, hV, hv⟩ := (ofVs_sound E hok).get 0 z hz
    have hc : Z.cells = #[Z] := by cases Z <;> first | rfl | cases hagg
    rw [hc] at hV
    cases hV
    exact hv

theorem isNil_nili {v : AV} (h : isNil v .nili = true) : v = .m .nili := by
  cases v <;> first | cases h | skip
  rename_i x
  cases x <;> first | rfl | cases h

section
variable (R : HR D base w0 E h nx w) (ho : Ops E mask names tm e ρ o) (hr : (cop P mask names o).f tm e h nx K = some r)
include R ho hr

theorem cop_typeAssert {x : Operand} {xt a : TypeId} {ok : Bool} (hop : o.op = .typeAssert x xt a ok) : PuOk P E h nx w (execOp ρ o) K r := by
  have h1 := ho x (by simp [hop, Op.operands])
  simp only [cop, hop] at hr
  cases hi : tinfo P a with
  | none => rw [hi] at hr; cases hr
  | some i =>
    rw [hi] at hr
    obtain ⟨I, hI, hU, _, _, _, _⟩ := tinfo_some hi
    simp only at hr
    cases hz : zeroOf i with
    | none => rw [hz] at hr; cases hr
    | some z =>
      rw [hz] at hr
      obtain ⟨Z, hZ, hrun⟩ := zeroOf_sound E hi hz
      simp only at hr
      generalize hρ : ρ x = C at *
      rw [bc_ite] at hr
      split at hr
      · rename_i hn
        rw [isNil_nili hn] at h1
        cases h1
        obtain ⟨hok, hk⟩ := bc_some hr
        subst hok
        refine .pure R hk (V := .tuple #[Z, .bool false]) (.tup (.cons hZ (.cons (.bool false) .nil))) ?_
        generalize i.desc = d at *
        cases d <;> simp [execOp, hop, hρ, Instr.typeAssert, run_under hU, hrun]
      · obtain ⟨t, v, hv, hr⟩ := onIface_some hr
        rw [hv] at h1
        cases h1 with
        | iface _ h1 =>
          rename_i V
          obtain ⟨hni, hr⟩ := bc_some' hr
          cases hta : Nat.beq t a with
          | true =>
            rw [hta] at hr
            have hk0 : K (bc ok (.tup [v, .bool true]) v) h nx = some r := hr
            have hta := Nat.eq_of_beq_eq_true hta
            subst hta
            cases ok with
            | true =>
              have hk : K (.tup [v, .bool true]) h nx = some r := hk0
              refine .pure R hk (V := .tuple #[V, .bool true]) (.tup (.cons h1 (.cons (.bool true) .nil))) ?_
              generalize i.desc = d at *
              cases d <;> first | (cases hni; done) | simp [execOp, hop, hρ, Instr.typeAssert, run_under hU]
            | false =>
              have hk : K v h nx = some r := hk0
              refine .pure R hk h1 ?_
              generalize i.desc = d at *
              cases d <;> first | (cases hni; done) | simp [execOp, hop, hρ, Instr.typeAssert, run_under hU]
          | false =>
            rw [hta] at hr
            have hta : t ≠ a := fun hh => by rw [hh, Nat.beq_refl] at hta; cases hta
            obtain ⟨hok, hk⟩ := bc_some hr
            subst hok
            refine .pure R hk (V := .tuple #[Z, .bool false]) (.tup (.cons hZ (.cons (.bool false) .nil))) ?_
            generalize i.desc = d at *
            cases d <;> first | (cases hni; done) | simp [execOp, hop, hρ, Instr.typeAssert, run_under hU, hrun, hta]

omit R in
theorem cop_makeSlice {t : TypeId} {x y : Operand} (hop : o.op = .makeSlice t x y) : MkOk P D E h nx w (execOp ρ o) K r := by
  have h1 := ho x (by simp [hop, Op.operands])
  have h2 := ho y (by simp [hop, Op.operands])
  simp only [cop, hop] at hr
  cases hU : P.underlying t with
  | none => rw [hU] at hr; cases hr
  | some d =>
    rw [hU] at hr
    cases d with
    | slice t' =>
      simp only at hr
      cases hi : tinfo P t' with
      | none => rw [hi] at hr; cases hr
      | some i =>
        rw [hi] at hr
        obtain ⟨I, hI, _, hsz, hby, _, h6⟩ := tinfo_some hi
        simp only at hr
        cases hz : i.zero with
        | none => simp only [hz] at hr; cases hr
        | some z =>
          simp only [hz] at hr
          obtain ⟨Z, hZ, rfl, hok⟩ := h6 z hz
          cases hzl : Nat.beq (llen (ofVs Z)) i.size with
          | false => rw [hzl] at hr; cases hr
          | true =>
            rw [hzl] at hr
            have hzl := Nat.eq_of_beq_eq_true hzl
            rw [llen_eq] at hzl
            obtain ⟨k, l, hl, hr⟩ := onNat_some hr
            obtain ⟨k', c, hc, hr⟩ := onNat_some hr
            obtain ⟨hle, hr⟩ := bc_some hr
            obtain ⟨hroom, hr⟩ := bc_some hr
            have hle : l ≤ c := Nat.le_of_ble_eq_true hle
            have hroom : c * (i.bytes + 1) ≤ 1073741824 := Nat.le_of_ble_eq_true hroom
            rw [hl] at h1; rw [hc] at h2
            generalize hρ : ρ x = C at *
            generalize hρ2 : ρ y = C2 at *
            cases h1; cases h2
            have hls := ofVs_sound E hok
            have hzs := zerosN_sound hls c
            have hZl : Z.cells.size = i.size := by rw [← hzl, ← hls.len]; simp
            refine .new (q := 0) (ob := .cells ((List.replicate c Z.cells.toList).flatten).toArray t' (0, 0)) hr ?_ (fun _ _ hb => .sl 0 l c hb) ?_
            · have := RowR.mk (n := Nat.mul c i.size) hzs
              refine .cells t' t' ?_ ?_ this
              · simp [hZl]
              · intro xs hxs
                unfold rmk at hxs
                rw [bc_ite] at hxs
                split at hxs
                · cases hxs; rw [zerosN_len, hzl]; rfl
                · cases hxs
            · have hb : (I.bytes : Int) * (c : Int) ≤ 281474976710656 := by
                have h1 : c * I.bytes ≤ c * (i.bytes + 1) := Nat.mul_le_mul_left c (by omega)
                have : ((I.bytes * c : Nat) : Int) ≤ 281474976710656 := by rw [Nat.mul_comm]; omega
                rwa [Int.natCast_mul] at this
              have hcc : c ≤ c * (i.bytes + 1) := Nat.le_mul_of_pos_right c (by omega)
              have hrun := run_make (P := P) w t t' I Z hU hI hZ (kd k) (kd k') (Int.ofNat l) (Int.ofNat c) (by simp) (by simpa using hle) hb (by simp; omega)
              rw [madeCells, natOf_ofNat, natOf_ofNat, ← hsz, ← hZl, zeros_model] at hrun
              simp [execOp, hop, hρ, hρ2] at hrun ⊢
              simp [hrun]
    | _ => cases hr
end
end Go.Ax
