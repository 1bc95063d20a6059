/- Part of an abstract executor of the model's machine, and of its law (S9). -/
import Derived.Test.YtlfocffihiephaaGreatDoorXS8
namespace Go.Ax
open Go.RowKit (Below)
variable {P : Program} {D : Nat → Nat} {base : Nat} {w0 : World} {E : En} {h : H} {nx : Nat} {w : World}
variable {K : AV → H → Nat → O} {r : St} {mask : Nat} {names : List Tmp} {tm : Tm} {e : List AV} {ρ : Operand → Value} {o : Oper}

/-- a part of a struct or an array -/
theorem cpart_sound {t : TypeId} {off : Nat} {l : List AV} {L : List Value} {v : AV} (hc : (cpart P t off).f l = some v) (hL : VRL E l L) (w : World) :
    ∃ V, VR E v V ∧ (part t L.toArray off).run P w = .ok V w := by
  unfold cpart at hc
  cases hi : tinfo P t with
  | none => rw [hi] at hc; cases hc
  | some i =>
    rw [hi] at hc
    obtain ⟨I, hI, hU, hsz, _, hag, _⟩ := tinfo_some hi
    simp only at hc
    cases ha : i.agg with
    | true =>
      rw [ha] at hc
      obtain ⟨x, hx, hv⟩ := ob_some' hc
      cases hv
      obtain ⟨hlen, rfl⟩ := ltake_some hx
      rw [ldrop_eq]
      refine ⟨_, .agg ((hL.drop off).take i.size), ?_⟩
      simp only [part, Sem.run_bind, run_agg hU, Result.andThen_ok, ← hag, ha, if_true, run_size hI, Sem.run_pure, hsz]
      congr 2
      apply Array.ext'
      simp [List.extract_eq_take_drop]
    | false =>
      rw [ha] at hc
      have hc : lnth off l = some v := hc
      rw [lnth_eq] at hc
      obtain ⟨V, hV, hv⟩ := hL.get off v hc
      refine ⟨V, hv, ?_⟩
      simp [part, run_agg hU, ← hag, ha, hV]

section
variable (R : HR D base w0 E h nx w) (ho : Ops E mask names tm e ρ o) (hr : (cop P mask names o).f tm e h nx K = some r)
include R ho hr

theorem cop_field {t : TypeId} {x : Operand} {f : Nat} (hop : o.op = .field t x f) : PuOk P E h nx w (execOp ρ o) K r := by
  have h1 := ho x (by simp [hop, Op.operands])
  simp only [cop, hop] at hr
  cases hU : P.underlying t with
  | none => rw [hU] at hr; cases hr
  | some d =>
    rw [hU] at hr
    cases d with
    | struct fs =>
      simp only at hr
      cases hf : fs[f]? with
      | none => rw [hf] at hr; cases hr
      | some fd =>
        rw [hf] at hr
        obtain ⟨l, hl, hr⟩ := onAgg_some hr
        cases hv : (cpart P fd.type fd.offset).f l with
        | none => rw [hv] at hr; cases hr
        | some v =>
          rw [hv] at hr
          rw [hl] at h1
          generalize hρ : ρ x = C at *
          cases h1 with
          | agg hL =>
            obtain ⟨V, hvr, hrun⟩ := cpart_sound hv hL w
            refine .pure R hr hvr ?_
            simp [execOp, hop, hρ, Instr.field, run_under hU, hf, asAgg, hrun]
    | _ => cases hr

theorem cop_convert {s d : TypeId} {x : Operand} (hop : o.op = .convert s d x) : PuOk P E h nx w (execOp ρ o) K r := by
  have h1 := ho x (by simp [hop, Op.operands])
  simp only [cop, hop] at hr
  split at hr
  · rename_i a k hs hd
    obtain ⟨q, n, hb, hk⟩ := onInt_some hr
    rw [hb] at h1
    generalize hρ : ρ x = C at *
    cases h1
    have hv : VR E (.int (kc k) (wrapQ (kc k) n)) (.int k (k.wrap n)) := by
      have := VR.int (E := E) (kc k) (k.wrap n)
      rw [kd_kc] at this
      rw [wrapQ_eq, kd_kc]; exact this
    refine .pure R hk hv ?_
    simp [execOp, hop, hρ, convert, run_under hs, run_under hd, Conv.intToInt]
  · cases hr

omit R ho in
theorem cop_makeMap {t : TypeId} {m : Option Operand} (hop : o.op = .makeMap t m) (ho : Ops E mask names tm e ρ o) : MkOk P D E h nx w (execOp ρ o) K r := by
  simp only [cop, hop] at hr
  cases m with
  | none =>
    simp only at hr
    refine .new (q := 0) (ob := .map #[] 0) hr (.map 0 .nil) (fun _ _ hb => .map hb) ?_
    simp [execOp, hop, Instr.makeMap]
  | some x =>
    have h1 := ho x (by simp [hop, Op.operands])
    cases hU : P.underlying t with
    | none => rw [hU] at hr; cases hr
    | some d =>
      rw [hU] at hr
      cases d with
      | map a b =>
        simp only at hr
        obtain ⟨k, n, hx, hr⟩ := onInt_some hr
        rw [hx] at h1
        generalize hρ : ρ x = C at *
        cases h1
        refine .new (q := 0) (ob := .map #[] 0) hr (.map 0 .nil) (fun _ _ hb => .map hb) ?_
        simp [execOp, hop, hρ, Instr.makeMap, run_under hU, asInt, asIntOf]
      | _ => cases hr

theorem cop_indexAddr {t : TypeId} {x ix : Operand} (hop : o.op = .indexAddr t x ix) : PuOk P E h nx w (execOp ρ o) K r := by
  have h1 := ho x (by simp [hop, Op.operands])
  have h2 := ho ix (by simp [hop, Op.operands])
  simp only [cop, hop] at hr
  cases hU : P.underlying t with
  | none => rw [hU] at hr; cases hr
  | some d =>
    rw [hU] at hr
    cases d with
    | array n t' =>
      simp only at hr
      cases hi : tinfo P t' with
      | none => rw [hi] at hr; cases hr
      | some i =>
        rw [hi] at hr
        obtain ⟨I, hI, _, hsz, _, _, _⟩ := tinfo_some hi
        obtain ⟨b, off, hp, hr⟩ := onPtr_some hr
        obtain ⟨k, j, hj, hr⟩ := onNat_some hr
        obtain ⟨hlt, hk⟩ := bc_some hr
        have hlt := blt_lt hlt
        rw [hp] at h1; rw [hj] at h2
        generalize hρ : ρ x = C at *
        generalize hρ2 : ρ ix = C2 at *
        cases h2
        cases h1 with
        | ptr _ he =>
          refine .pure R hk (.ptr _ he) ?_
          simp [execOp, hop, hρ, hρ2, Instr.indexAt, asIntOf, run_under hU, Instr.sureAddr, hlt, run_size hI, add_lit, hsz]
    | slice t' =>
      simp only at hr
      cases hi : tinfo P t' with
      | none => rw [hi] at hr; cases hr
      | some i =>
        rw [hi] at hr
        obtain ⟨I, hI, _, hsz, _, _, _⟩ := tinfo_some hi
        obtain ⟨k, j, hj, hr⟩ := onNat_some hr
        rw [hj] at h2
        generalize hρ2 : ρ ix = C2 at *
        cases h2
        rcases onSl_some hr with ⟨b, off, n, c, hp, hr⟩ | ⟨b, off, i', n, hp, hr⟩ | ⟨m, hp, hr⟩
        · obtain ⟨hlt, hk⟩ := bc_some hr
          have hlt := blt_lt hlt
          rw [hp] at h1
          generalize hρ : ρ x = C at *
          cases h1 with
          | sl _ _ _ he =>
            refine .pure R hk (.ptr _ he) ?_
            simp [execOp, hop, hρ, hρ2, Instr.indexAt, asIntOf, run_under hU, hlt, run_size hI, add_lit, hsz]
        · obtain ⟨hlt, hk⟩ := bc_some hr
          have hlt := blt_lt hlt
          rw [hp] at h1
          generalize hρ : ρ x = C at *
          cases h1 with
          | slx _ _ _ he =>
            refine .pure R hk (.ptr _ he) ?_
            simp [execOp, hop, hρ, hρ2, Instr.indexAt, asIntOf, run_under hU, hlt, run_size hI, add_lit, hsz]
        · cases hr
    | _ => cases hr

theorem cop_index {t : TypeId} {x ix : Operand} (hop : o.op = .index t x ix) : PuOk P E h nx w (execOp ρ o) K r := by
  have h1 := ho x (by simp [hop, Op.operands])
  have h2 := ho ix (by simp [hop, Op.operands])
  simp only [cop, hop] at hr
  cases hU : P.underlying t with
  | none => rw [hU] at hr; cases hr
  | some d =>
    rw [hU] at hr
    cases d with
    | array n t' =>
      simp only at hr
      cases hi : tinfo P t' with
      | none => rw [hi] at hr; cases hr
      | some i =>
        rw [hi] at hr
        obtain ⟨I, hI, hU', hsz, _, hag, _⟩ := tinfo_some hi
        simp only at hr
        cases ha : i.agg with
        | true =>
          rw [ha] at hr
          obtain ⟨l, hl, hr⟩ := onAgg_some hr
          obtain ⟨k, j, hj, hr⟩ := onNat_some hr
          obtain ⟨hlt, hr⟩ := bc_some hr
          obtain ⟨y, hy, hk⟩ := ob_some' hr
          have hlt := blt_lt hlt
          rw [hl] at h1; rw [hj] at h2
          generalize hρ : ρ x = C at *
          generalize hρ2 : ρ ix = C2 at *
          cases h2
          cases h1 with
          | agg hL =>
            have hc : (cpart P t' (j * i.size)).f l = some (.agg y) := by
              unfold cpart; rw [hi]; simp only [ha, bc_true]; rw [show ltake i.size (ldrop (j * i.size) l) = some y from hy]; rfl
            obtain ⟨V, hvr, hrun⟩ := cpart_sound hc hL w
            refine .pure R hk hvr ?_
            rw [hsz] at hrun
            simp [execOp, hop, hρ, hρ2, Instr.index, asIntOf, run_under hU, hlt, run_size hI, hrun]
        | false =>
          rw [ha] at hr
          obtain ⟨l, hl, hr⟩ := onAgg_some hr
          obtain ⟨k, j, hj, hr⟩ := onNat_some hr
          obtain ⟨hlt, hr⟩ := bc_some hr
          have hlt := blt_lt hlt
          cases hy : lnth (Nat.mul j i.size) l with
          | none => rw [hy] at hr; cases hr
          | some y =>
            rw [hy] at hr
            rw [hl] at h1; rw [hj] at h2
            generalize hρ : ρ x = C at *
            generalize hρ2 : ρ ix = C2 at *
            cases h2
            cases h1 with
            | agg hL =>
              have hc : (cpart P t' (j * i.size)).f l = some y := by
                unfold cpart; rw [hi]; simp only [ha, bc_false]; exact hy
              obtain ⟨V, hvr, hrun⟩ := cpart_sound hc hL w
              refine .pure R hr hvr ?_
              rw [hsz] at hrun
              simp [execOp, hop, hρ, hρ2, Instr.index, asIntOf, run_under hU, hlt, run_size hI, hrun]
    | string =>
      simp only at hr
      obtain ⟨n, l, hl, hr⟩ := onStr_some hr
      obtain ⟨k, j, hj, hr⟩ := onNat_some hr
      obtain ⟨hlt, hk⟩ := bc_some hr
      have hlt := blt_lt hlt
      rw [hl] at h1; rw [hj] at h2
      generalize hρ : ρ x = C at *
      generalize hρ2 : ρ ix = C2 at *
      cases h2
      cases h1
      refine .pure R hk (.int 4 _) ?_
      have hb := strB_get n l j hlt
      have hbyte : ((⟨(strB n l).toArray⟩ : ByteArray))[j]? = some (UInt8.ofNat (n / 256 ^ j)) := by
        have hsz : j < (⟨(strB n l).toArray⟩ : ByteArray).size := by show j < (strB n l).toArray.size; simp [strB_len, hlt]
        rw [getElem?_pos (⟨(strB n l).toArray⟩ : ByteArray) j hsz]
        have : (strB n l)[j]? = some ((strB n l)[j]'(by rw [strB_len]; exact hlt)) := List.getElem?_eq_getElem _
        rw [this] at hb
        rw [← hb]
        simp only [ByteArray.getElem_eq_getElem_data, List.getElem_toArray]
      simp [execOp, hop, hρ, hρ2, Instr.index, asIntOf, run_under hU, hbyte, kd]
      rfl
    | _ => cases hr
end
end Go.Ax
