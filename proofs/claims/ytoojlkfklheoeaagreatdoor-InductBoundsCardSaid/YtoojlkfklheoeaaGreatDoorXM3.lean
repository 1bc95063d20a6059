/- Part of an abstract executor of the model's machine, and of its law (S9, S10, S11, S12, S13, S14). -/
import Derived.Test.YtoojlkfklheoeaaGreatDoorXM2
import Derived.Laws.MakeOwn
import Derived.LaidEql
import Derived.Laws.StructEq
namespace Go.Ax
open Go.RowKit (Below)
variable {P : Program} {D : Nat → Nat} {base : Bas} {w0 : World} {E : En} {h : H} {nx : Nat} {w : World}
variable {K : AV → H → Nat → O} {r : St} {mask : Nat} {names : List Tmp} {tm : Tm} {e : List AV} {ρ : Operand → Value} {o : Oper}

/-- a part of a struct or an array -/
theorem cpart_sound {t : TypeId} {off : Nat} {l : List AV} {L : List Value} {v : AV} (hc : (cpart P t off).f l = some v) (hL : VRL E l L) (w : World) :
    ∃ V, VR E v V ∧ (part t L.toArray off).run P w = .ok V w := by
  unfold cpart at hc
  cases hi : tinfo P t with
  | none => rw [hi] at hc; cases hc
  | some i =>
    rw [hi] at hc
    obtain ⟨I, hI, hU, hsz, _, hag, _⟩ := tinfo_some hi
    simp only at hc
    cases ha : i.agg with
    | true =>
      rw [ha] at hc
      obtain ⟨x, hx, hv⟩ := ob_some' hc
      cases hv
      obtain ⟨hlen, rfl⟩ := ltake_some hx
      rw [ldrop_eq]
      refine ⟨_, .agg ((hL.drop off).take i.size), ?_⟩
      simp only [part, Sem.run_bind, run_agg hU, Result.andThen_ok, ← hag, ha, if_true, run_size hI, Sem.run_pure, hsz]
      congr 2
      apply Array.ext'
      simp [List.extract_eq_take_drop]
    | false =>
      rw [ha] at hc
      have hc : lnth off l = some v := hc
      rw [lnth_eq] at hc
      obtain ⟨V, hV, hv⟩ := hL.get off v hc
      refine ⟨V, hv, ?_⟩
      simp [part, run_agg hU, ← hag, ha, hV]

section
variable (R : HR D base w0 E h nx w) (ho : Ops E mask names tm e ρ o) (hr : (cop P mask names o).f tm e h nx K = some r)
include R ho hr

theorem cop_field {t : TypeId} {x : Operand} {f : Nat} (hop : o.op = .field t x f) : PuOk P E h nx w (execOp ρ o) K r := by
  have h1 := ho x (by simp [hop, Op.operands])
  simp only [cop, hop] at hr
  cases hU : P.underlying t with
  | none => rw [hU] at hr; cases hr
  | some d =>
    rw [hU] at hr
    cases d with
    | struct fs =>
      simp only at hr
      cases hf : fs[f]? with
      | none => rw [hf] at hr; cases hr
      | some fd =>
        rw [hf] at hr
        obtain ⟨l, hl, hr⟩ := onAgg_some hr
        cases hv : (cpart P fd.type fd.offset).f l with
        | none => rw [hv] at hr; cases hr
        | some v =>
          rw [hv] at hr
          rw [hl] at h1
          generalize hρ : ρ x = C at *
          cases h1 with
          | agg hL =>
            obtain ⟨V, hvr, hrun⟩ := cpart_sound hv hL w
            refine .pure R hr hvr ?_
            simp [execOp, hop, hρ, Instr.field, run_under hU, hf, asAgg, hrun]
    | _ => cases hr

theorem cop_convert {s d : TypeId} {x : Operand} (hop : o.op = .convert s d x) : PuOk P E h nx w (execOp ρ o) K r := by
  have h1 := ho x (by simp [hop, Op.operands])
  simp only [cop, hop] at hr
  split at hr
  · rename_i a k hs hd
    obtain ⟨q, n, hb, hk⟩ := onInt_some hr
    rw [hb] at h1
    generalize hρ : ρ x = C at *
    cases h1
    have hv : VR E (.int (kc k) (wrapQ (kc k) n)) (.int k (k.wrap n)) := by
      have := VR.int (E := E) (kc k) (k.wrap n)
      rw [kd_kc] at this
      rw [wrapQ_eq, kd_kc]; exact this
    refine .pure R hk hv ?_
    simp [execOp, hop, hρ, convert, run_under hs, run_under hd, Conv.intToInt]
  · cases hr

omit R ho in
theorem cop_makeMap {t : TypeId} {m : Option Operand} (hop : o.op = .makeMap t m) (ho : Ops E mask names tm e ρ o) : MkOk P D E h nx w (execOp ρ o) K r := by
  simp only [cop, hop] at hr
  cases m with
  | none =>
    simp only at hr
    refine .new (q := 0) (ob := .map #[] 0) hr (.map 0 .nil) (fun _ _ hb => .map hb) ?_
    simp [execOp, hop, Instr.makeMap]
  | some x =>
    have h1 := ho x (by simp [hop, Op.operands])
    cases hU : P.underlying t with
    | none => rw [hU] at hr; cases hr
    | some d =>
      rw [hU] at hr
      cases d with
      | map a b =>
        simp only at hr
        obtain ⟨k, n, hx, hr⟩ := onInt_some hr
        rw [hx] at h1
        generalize hρ : ρ x = C at *
        cases h1
        refine .new (q := 0) (ob := .map #[] 0) hr (.map 0 .nil) (fun _ _ hb => .map hb) ?_
        simp [execOp, hop, hρ, Instr.makeMap, run_under hU, asInt, asIntOf]
      | _ => cases hr

theorem cop_indexAddr {t : TypeId} {x ix : Operand} (hop : o.op = .indexAddr t x ix) : PuOk P E h nx w (execOp ρ o) K r := by
  have h1 := ho x (by simp [hop, Op.operands])
  have h2 := ho ix (by simp [hop, Op.operands])
  simp only [cop, hop] at hr
  cases hU : P.underlying t with
  | none => rw [hU] at hr; cases hr
  | some d =>
    rw [hU] at hr
    cases d with
    | array n t' =>
      simp only at hr
      cases hi : tinfo P t' with
      | none => rw [hi] at hr; cases hr
      | some i =>
        rw [hi] at hr
        obtain ⟨I, hI, _, hsz, _, _, _⟩ := tinfo_some hi
        obtain ⟨b, off, hp, hr⟩ := onPtr_some hr
        obtain ⟨k, j, hj, hr⟩ := onNat_some hr
        obtain ⟨hlt, hk⟩ := bc_some hr
        have hlt := blt_lt hlt
        rw [hp] at h1; rw [hj] at h2
        generalize hρ : ρ x = C at *
        generalize hρ2 : ρ ix = C2 at *
        cases h2
        cases h1 with
        | ptr _ he =>
          refine .pure R hk (.ptr _ he) ?_
          simp [execOp, hop, hρ, hρ2, Instr.indexAt, asIntOf, run_under hU, Instr.sureAddr, hlt, run_size hI, add_lit, hsz]
    | slice t' =>
      simp only at hr
      cases hi : tinfo P t' with
      | none => rw [hi] at hr; cases hr
      | some i =>
        rw [hi] at hr
        obtain ⟨I, hI, _, hsz, _, _, _⟩ := tinfo_some hi
        obtain ⟨k, j, hj, hr⟩ := onNat_some hr
        rw [hj] at h2
        generalize hρ2 : ρ ix = C2 at *
        cases h2
        rcases onSl_some hr with ⟨b, off, n, c, hp, hr⟩ | ⟨b, off, i', n, hp, hr⟩ | ⟨m, hp, hr⟩
        · obtain ⟨hlt, hk⟩ := bc_some hr
          have hlt := blt_lt hlt
          rw [hp] at h1
          generalize hρ : ρ x = C at *
          cases h1 with
          | sl _ _ _ he =>
            refine .pure R hk (.ptr _ he) ?_
            simp [execOp, hop, hρ, hρ2, Instr.indexAt, asIntOf, run_under hU, hlt, run_size hI, add_lit, hsz]
        · obtain ⟨hlt, hk⟩ := bc_some hr
          have hlt := blt_lt hlt
          rw [hp] at h1
          generalize hρ : ρ x = C at *
          cases h1 with
          | slx _ _ _ he =>
            refine .pure R hk (.ptr _ he) ?_
            simp [execOp, hop, hρ, hρ2, Instr.indexAt, asIntOf, run_under hU, hlt, run_size hI, add_lit, hsz]
        · cases hr
    | _ => cases hr

theorem cop_index {t : TypeId} {x ix : Operand} (hop : o.op = .index t x ix) : PuOk P E h nx w (execOp ρ o) K r := by
  have h1 := ho x (by simp [hop, Op.operands])
  have h2 := ho ix (by simp [hop, Op.operands])
  simp only [cop, hop] at hr
  cases hU : P.underlying t with
  | none => rw [hU] at hr; cases hr
  | some d =>
    rw [hU] at hr
    cases d with
    | array n t' =>
      simp only at hr
      cases hi : tinfo P t' with
      | none => rw [hi] at hr; cases hr
      | some i =>
        rw [hi] at hr
        obtain ⟨I, hI, hU', hsz, _, hag, _⟩ := tinfo_some hi
        simp only at hr
        cases ha : i.agg with
        | true =>
          rw [ha] at hr
          obtain ⟨l, hl, hr⟩ := onAgg_some hr
          obtain ⟨k, j, hj, hr⟩ := onNat_some hr
          obtain ⟨hlt, hr⟩ := bc_some hr
          obtain ⟨y, hy, hk⟩ := ob_some' hr
          have hlt := blt_lt hlt
          rw [hl] at h1; rw [hj] at h2
          generalize hρ : ρ x = C at *
          generalize hρ2 : ρ ix = C2 at *
          cases h2
          cases h1 with
          | agg hL =>
            have hc : (cpart P t' (j * i.size)).f l = some (.agg y) := by
              unfold cpart; rw [hi]; simp only [ha, bc_true]; rw [show ltake i.size (ldrop (j * i.size) l) = some y from hy]; rfl
            obtain ⟨V, hvr, hrun⟩ := cpart_sound hc hL w
            refine .pure R hk hvr ?_
            rw [hsz] at hrun
            simp [execOp, hop, hρ, hρ2, Instr.index, asIntOf, run_under hU, hlt, run_size hI, hrun]
        | false =>
          rw [ha] at hr
          obtain ⟨l, hl, hr⟩ := onAgg_some hr
          obtain ⟨k, j, hj, hr⟩ := onNat_some hr
          obtain ⟨hlt, hr⟩ := bc_some hr
          have hlt := blt_lt hlt
          cases hy : lnth (Nat.mul j i.size) l with
          | none => rw [hy] at hr; cases hr
          | some y =>
            rw [hy] at hr
            rw [hl] at h1; rw [hj] at h2
            generalize hρ : ρ x = C at *
            generalize hρ2 : ρ ix = C2 at *
            cases h2
            cases h1 with
            | agg hL =>
              have hc : (cpart P t' (j * i.size)).f l = some y := by
                unfold cpart; rw [hi]; simp only [ha, bc_false]; exact hy
              obtain ⟨V, hvr, hrun⟩ := cpart_sound hc hL w
              refine .pure R hr hvr ?_
              rw [hsz] at hrun
              simp [execOp, hop, hρ, hρ2, Instr.index, asIntOf, run_under hU, hlt, run_size hI, hrun]
    | string =>
      simp only at hr
      obtain ⟨n, l, hl, hr⟩ := onStr_some hr
      obtain ⟨k, j, hj, hr⟩ := onNat_some hr
      obtain ⟨hlt, hk⟩ := bc_some hr
      have hlt := blt_lt hlt
      rw [hl] at h1; rw [hj] at h2
      generalize hρ : ρ x = C at *
      generalize hρ2 : ρ ix = C2 at *
      cases h2
      cases h1
      refine .pure R hk (.int 4 _) ?_
      have hb := strB_get n l j hlt
      have hbyte : ((⟨(strB n l).toArray⟩ : ByteArray))[j]? = some (UInt8.ofNat (n / 256 ^ j)) := by
        have hsz : j < (⟨(strB n l).toArray⟩ : ByteArray).size := by show j < (strB n l).toArray.size; simp [strB_len, hlt]
        rw [getElem?_pos (⟨(strB n l).toArray⟩ : ByteArray) j hsz]
        have : (strB n l)[j]? = some ((strB n l)[j]'(by rw [strB_len]; exact hlt)) := List.getElem?_eq_getElem _
        rw [this] at hb
        rw [← hb]
        simp only [ByteArray.getElem_eq_getElem_data, List.getElem_toArray]
      simp [execOp, hop, hρ, hρ2, Instr.index, asIntOf, run_under hU, hbyte, kd]
      rfl
    | _ => cases hr
end
end Go.Ax
namespace Go.Ax
open Go.RowKit (Below)
variable {P : Program} {D : Nat → Nat} {base : Bas} {w0 : World} {E : En} {h : H} {nx : Nat} {w : World}
variable {K : AV → H → Nat → O} {r : St} {mask : Nat} {names : List Tmp} {tm : Tm} {e : List AV} {ρ : Operand → Value} {o : Oper}

/-- the zero value of a type -/
theorem zeroOf_sound (E : En) {t : TypeId} {i : TI} (hi : tinfo P t = some i) {z : AV} (hz : zeroOf i = some z) :
    ∃ Z, VR E z Z ∧ ∀ w, (zeroValue t).run P w = .ok Z w := by
  obtain ⟨I, h1, h2, h3, h4, h5, h6⟩ := tinfo_some hi
  obtain ⟨l, hl, hz⟩ := ob_some' hz
  obtain ⟨Z, hZ, rfl, hok⟩ := h6 l hl
  have hagg := tinfo_agg hi h1 hl hZ
  refine ⟨Z, ?_, fun w => by simp [zeroValue, run_info h1, hZ]⟩
  cases ha : i.agg with
  | true =>
    rw [ha] at hz hagg
    cases hz
    cases Z <;> first | cases hagg | skip
    have := ofVs_sound E hok
    simpa [Value.cells] using VR.agg this
  | false =>
    rw [ha] at hz hagg
    have hz : lnth 0 (ofVs Z) = some z := hz
    rw [lnth_eq] at hz
    obtain ⟨V, hV, hv⟩ := (ofVs_sound E hok).get 0 z hz
    have hc : Z.cells = #[Z] := by cases Z <;> first | rfl | cases hagg
    rw [hc] at hV
    cases hV
    exact hv

theorem isNil_nili {v : AV} (h : isNil v .nili = true) : v = .m .nili := by
  cases v <;> first | cases h | skip
  rename_i x
  cases x <;> first | rfl | cases h

section
variable (R : HR D base w0 E h nx w) (ho : Ops E mask names tm e ρ o) (hr : (cop P mask names o).f tm e h nx K = some r)
include R ho hr

theorem cop_typeAssert {x : Operand} {xt a : TypeId} {ok : Bool} (hop : o.op = .typeAssert x xt a ok) : PuOk P E h nx w (execOp ρ o) K r := by
  have h1 := ho x (by simp [hop, Op.operands])
  simp only [cop, hop] at hr
  cases hi : tinfo P a with
  | none => rw [hi] at hr; cases hr
  | some i =>
    rw [hi] at hr
    obtain ⟨I, hI, hU, _, _, _, _⟩ := tinfo_some hi
    simp only at hr
    cases hz : zeroOf i with
    | none => rw [hz] at hr; cases hr
    | some z =>
      rw [hz] at hr
      obtain ⟨Z, hZ, hrun⟩ := zeroOf_sound E hi hz
      simp only at hr
      generalize hρ : ρ x = C at *
      rw [bc_ite] at hr
      split at hr
      · rename_i hn
        rw [isNil_nili hn] at h1
        cases h1
        obtain ⟨hok, hk⟩ := bc_some hr
        subst hok
        refine .pure R hk (V := .tuple #[Z, .bool false]) (.tup (.cons hZ (.cons (.bool false) .nil))) ?_
        generalize i.desc = d at *
        cases d <;> simp [execOp, hop, hρ, Instr.typeAssert, run_under hU, hrun]
      · obtain ⟨t, v, hv, hr⟩ := onIface_some hr
        rw [hv] at h1
        cases h1 with
        | iface _ h1 =>
          rename_i V
          obtain ⟨hni, hr⟩ := bc_some' hr
          cases hta : Nat.beq t a with
          | true =>
            rw [hta] at hr
            have hk0 : K (bc ok (.tup [v, .bool true]) v) h nx = some r := hr
            have hta := Nat.eq_of_beq_eq_true hta
            subst hta
            cases ok with
            | true =>
              have hk : K (.tup [v, .bool true]) h nx = some r := hk0
              refine .pure R hk (V := .tuple #[V, .bool true]) (.tup (.cons h1 (.cons (.bool true) .nil))) ?_
              generalize i.desc = d at *
              cases d <;> first | (cases hni; done) | simp [execOp, hop, hρ, Instr.typeAssert, run_under hU]
            | false =>
              have hk : K v h nx = some r := hk0
              refine .pure R hk h1 ?_
              generalize i.desc = d at *
              cases d <;> first | (cases hni; done) | simp [execOp, hop, hρ, Instr.typeAssert, run_under hU]
          | false =>
            rw [hta] at hr
            have hta : t ≠ a := fun hh => by rw [hh, Nat.beq_refl] at hta; cases hta
            obtain ⟨hok, hk⟩ := bc_some hr
            subst hok
            refine .pure R hk (V := .tuple #[Z, .bool false]) (.tup (.cons hZ (.cons (.bool false) .nil))) ?_
            generalize i.desc = d at *
            cases d <;> first | (cases hni; done) | simp [execOp, hop, hρ, Instr.typeAssert, run_under hU, hrun, hta]

omit R in
theorem cop_makeSlice {t : TypeId} {x y : Operand} (hop : o.op = .makeSlice t x y) : MkOk P D E h nx w (execOp ρ o) K r := by
  have h1 := ho x (by simp [hop, Op.operands])
  have h2 := ho y (by simp [hop, Op.operands])
  simp only [cop, hop] at hr
  cases hU : P.underlying t with
  | none => rw [hU] at hr; cases hr
  | some d =>
    rw [hU] at hr
    cases d with
    | slice t' =>
      simp only at hr
      cases hi : tinfo P t' with
      | none => rw [hi] at hr; cases hr
      | some i =>
        rw [hi] at hr
        obtain ⟨I, hI, _, hsz, hby, _, h6⟩ := tinfo_some hi
        simp only at hr
        cases hz : i.zero with
        | none => simp only [hz] at hr; cases hr
        | some z =>
          simp only [hz] at hr
          obtain ⟨Z, hZ, rfl, hok⟩ := h6 z hz
          cases hzl : Nat.beq (llen (ofVs Z)) i.size with
          | false => rw [hzl] at hr; cases hr
          | true =>
            rw [hzl] at hr
            have hzl := Nat.eq_of_beq_eq_true hzl
            rw [llen_eq] at hzl
            obtain ⟨k, l, hl, hr⟩ := onNat_some hr
            obtain ⟨k', c, hc, hr⟩ := onNat_some hr
            obtain ⟨hle, hr⟩ := bc_some hr
            obtain ⟨hroom, hr⟩ := bc_some hr
            have hle : l ≤ c := Nat.le_of_ble_eq_true hle
            have hroom : c * (i.bytes + 1) ≤ 1073741824 := Nat.le_of_ble_eq_true hroom
            rw [hl] at h1; rw [hc] at h2
            generalize hρ : ρ x = C at *
            generalize hρ2 : ρ y = C2 at *
            cases h1; cases h2
            have hls := ofVs_sound E hok
            have hzs := zerosN_sound hls c
            have hZl : Z.cells.size = i.size := by rw [← hzl, ← hls.len]; simp
            refine .new (q := 0) (ob := .cells ((List.replicate c Z.cells.toList).flatten).toArray t' (0, 0)) hr ?_ (fun _ _ hb => .sl 0 l c hb) ?_
            · have := RowR.mk (n := Nat.mul c i.size) hzs
              refine .cells t' t' ?_ ?_ this
              · simp [hZl]
              · intro xs hxs
                unfold rmk at hxs
                rw [bc_ite] at hxs
                split at hxs
                · cases hxs; rw [zerosN_len, hzl]; rfl
                · cases hxs
            · have hb : (I.bytes : Int) * (c : Int) ≤ 281474976710656 := by
                have h1 : c * I.bytes ≤ c * (i.bytes + 1) := Nat.mul_le_mul_left c (by omega)
                have : ((I.bytes * c : Nat) : Int) ≤ 281474976710656 := by rw [Nat.mul_comm]; omega
                rwa [Int.natCast_mul] at this
              have hcc : c ≤ c * (i.bytes + 1) := Nat.le_mul_of_pos_right c (by omega)
              have hrun := run_make (P := P) w t t' I Z hU hI hZ (kd k) (kd k') (Int.ofNat l) (Int.ofNat c) (by simp) (by simpa using hle) hb (by simp; omega)
              rw [madeCells, natOf_ofNat, natOf_ofNat, ← hsz, ← hZl, zeros_model] at hrun
              simp [execOp, hop, hρ, hρ2] at hrun ⊢
              simp [hrun]
    | _ => cases hr
end
end Go.Ax
namespace Go.Ax
open Go.RowKit (Below)
variable {P : Program} {D : Nat → Nat} {base : Bas} {w0 : World} {E : En} {h : H} {nx : Nat} {w : World}
variable {K : AV → H → Nat → O} {r : St} {mask : Nat} {names : List Tmp} {tm : Tm} {e : List AV} {ρ : Operand → Value} {o : Oper}

theorem boundsN_some {v : AV} {y n : Nat} (h : boundsN v y = some n) : ∃ k, v = .int k (.ofNat n) ∧ n ≤ y := by
  obtain ⟨k, n', rfl, h⟩ := onNat_some h
  obtain ⟨h1, h2⟩ := bc_some h
  cases h2
  exact ⟨k, rfl, Nat.le_of_ble_eq_true h1⟩

theorem run_bound {E : En} {v : AV} {V : Value} {y n : Nat} {c : BoundsCode} (hv : VR E v V) (h : boundsN v y = some n) (w : World) :
    (Instr.sliceBound V y c).run P w = .ok n w ∧ n ≤ y := by
  obtain ⟨k, rfl, hle⟩ := boundsN_some h
  cases hv
  refine ⟨?_, hle⟩
  simp [Instr.sliceBound, asIntOf, hle]

/-- a bound that may be left out -/
inductive OR (E : En) : Option AV → Option Value → Prop where
  | none : OR E none none
  | some {v : AV} {V : Value} (h : VR E v V) : OR E (some v) (some V)

theorem bounds_sound {E : En} {isS : Bool} {n c m hh l : Nat} {lo hi mx : Option AV} {LO HI MX : Option Value} (hl : OR E lo LO) (hH : OR E hi HI) (hm : OR E mx MX)
    (e1 : Option.rec (motive := fun _ => Option Nat) (some c) (fun v => boundsN v c) mx = some m)
    (e2 : Option.rec (motive := fun _ => Option Nat) (Option.rec (motive := fun _ => Option Nat) (some n) (fun _ => none) mx) (fun v => boundsN v m) hi = some hh)
    (e3 : Option.rec (motive := fun _ => Option Nat) (some 0) (fun v => boundsN v hh) lo = some l) (w : World) :
    (Instr.sliceBounds isS n c LO HI MX).run P w = .ok (l, hh, m) w := by
  cases hm with
  | none =>
    cases e1
    cases hH with
    | none =>
      cases e2
      cases hl with
      | none => cases e3; simp [Instr.sliceBounds]
      | some h3 => simp [Instr.sliceBounds, (run_bound h3 e3 w).1]
    | some h2 =>
      cases hl with
      | none => cases e3; simp [Instr.sliceBounds, (run_bound h2 e2 w).1]
      | some h3 => simp [Instr.sliceBounds, (run_bound h3 e3 w).1, (run_bound h2 e2 w).1]
  | some h1 =>
    cases hH with
    | none => cases e2
    | some h2 =>
      cases hl with
      | none => cases e3; simp [Instr.sliceBounds, (run_bound h1 e1 w).1, (run_bound h2 e2 w).1]
      | some h3 => simp [Instr.sliceBounds, (run_bound h1 e1 w).1, (run_bound h3 e3 w).1, (run_bound h2 e2 w).1]

theorem sliceEx_sound {b o n c sz q C : Nat} {isS : Bool} {lo hi mx : Option AV} {LO HI MX : Option Value} (hl : OR E lo LO) (hH : OR E hi HI) (hm : OR E mx MX) (hb : E.m b = some (C, q))
    {v : AV} (hs : sliceEx b o n c sz lo hi mx = some v) :
    ∃ l hh m, (∀ w, (Instr.sliceBounds isS n c LO HI MX).run P w = .ok (l, hh, m) w) ∧
      VR E v (.slice (some (if m = l then ⟨C, o, none⟩ else (⟨C, o, none⟩ : Addr).add (l * sz))) (hh - l) (m - l)) := by
  obtain ⟨m, e1, hs⟩ := ob_some' hs
  obtain ⟨hh, e2, hs⟩ := ob_some' hs
  obtain ⟨l, e3, hs⟩ := ob_some' hs
  cases hs
  refine ⟨l, hh, m, bounds_sound hl hH hm e1 e2 e3, ?_⟩
  rw [bc_ite]
  by_cases hml : m = l
  · rw [if_pos hml, if_pos (by rw [hml]; exact Nat.beq_refl l)]
    exact .sl _ _ _ hb
  · rw [if_neg hml, if_neg (fun hx => hml (Nat.eq_of_beq_eq_true hx)), add_lit]
    exact .sl _ _ _ hb

/-- a capacity is what it is: at least k -/
theorem kminOf_sound (R : HR D base w0 E h nx w) {b C q k : Nat} (hb : E.m b = some (C, q)) (hk : kminOf h b = some k) : k ≤ q := by
  rcases onCells_some hk with ⟨x, t, n, hx, hg⟩ | ⟨x, t, sz, k', hx, hg⟩
  · cases hg
  · cases hg
    obtain ⟨_, ob, ho, br⟩ := R.get hb hx
    cases br
    assumption

theorem boundsN_mono {v : AV} {k c n : Nat} (h : boundsN v k = some n) (hk : k ≤ c) : boundsN v c = some n := by
  obtain ⟨a, rfl, hle⟩ := boundsN_some h
  show bc (Nat.ble n c) (some n) none = some n
  rw [bc_ite, if_pos (Nat.ble_eq_true_of_le (Nat.le_trans hle hk))]

theorem sliceGr_sound {b o i n k sz q C : Nat} {lo hi mx : Option AV} {LO HI MX : Option Value} (hl : OR E lo LO) (hH : OR E hi HI) (hm : OR E mx MX) (hb : E.m b = some (C, q))
    (hkq : k ≤ q - i) {v : AV} (hs : sliceGr b o i n k sz lo hi mx = some v) :
    ∃ l hh m, (∀ w, (Instr.sliceBounds true n (q - i) LO HI MX).run P w = .ok (l, hh, m) w) ∧
      VR E v (.slice (some (if m = l then ⟨C, o, none⟩ else (⟨C, o, none⟩ : Addr).add (l * sz))) (hh - l) (m - l)) := by
  cases hm with
  | none =>
    have hs : ob (Option.rec (some n) (fun v => boundsN v k) hi) (fun hh => ob (Option.rec (some 0) (fun v => boundsN v hh) lo) fun l =>
       bc (Nat.beq l 0) (some (.slx b o i hh))
        (bc (Nat.blt l k) (some (.slx b (Nat.add o (Nat.mul l sz)) (Nat.add i l) (Nat.sub hh l)))
          (bc (Nat.beq l hh) (some (.m (.slz b o i l sz))) none))) = some v := hs
    obtain ⟨hh, e2, hs⟩ := ob_some' hs
    obtain ⟨l, e3, hs⟩ := ob_some' hs
    have e2' : Option.rec (motive := fun _ => Option Nat) (some n) (fun v => boundsN v (q - i)) hi = some hh := by
      cases hH with
      | none => exact e2
      | some _ => exact boundsN_mono e2 hkq
    refine ⟨l, hh, q - i, bounds_sound hl hH .none rfl e2' e3, ?_⟩
    rw [bc_ite] at hs
    split at hs
    · rename_i h0
      have h0 : l = 0 := Nat.eq_of_beq_eq_true h0
      cases hs
      subst h0
      have : (if q - i = 0 then (⟨C, o, none⟩ : Addr) else (⟨C, o, none⟩ : Addr).add (0 * sz)) = ⟨C, o, none⟩ := by split <;> simp [add_lit]
      rw [this]
      exact .slx _ _ _ hb
    · rw [bc_ite] at hs
      split at hs
      · rename_i hlt
        have hlt : l < k := blt_lt hlt
        cases hs
        rw [if_neg (by omega), add_lit, show q - i - l = q - (i + l) by omega]
        exact .slx _ _ _ hb
      · rw [bc_ite] at hs
        split at hs
        · rename_i heq
          have heq : l = hh := Nat.eq_of_beq_eq_true heq
          cases hs
          subst heq
          have := VR.slz (E := E) o i l sz hb
          rw [add_lit, Nat.sub_self]
          rwa [show (if q - i = l then (⟨C, o, none⟩ : Addr) else ⟨C, o + l * sz, none⟩) = ⟨C, if q - i = l then o else o + l * sz, none⟩ by split <;> rfl]
        · cases hs
  | @some mv MV h1 =>
    have hs : ob (boundsN mv k) (fun m => ob hi fun hv => ob (boundsN hv m) fun hh => ob (Option.rec (some 0) (fun v => boundsN v hh) lo) fun l =>
      some (.sl b (bc (Nat.beq m l) o (Nat.add o (Nat.mul l sz))) (Nat.sub hh l) (Nat.sub m l))) = some v := hs
    obtain ⟨m, e1, hs⟩ := ob_some' hs
    obtain ⟨hv, ehi, hs⟩ := ob_some' hs
    obtain ⟨hh, e2, hs⟩ := ob_some' hs
    obtain ⟨l, e3, hs⟩ := ob_some' hs
    cases hs
    subst ehi
    refine ⟨l, hh, m, bounds_sound hl hH (.some h1) (boundsN_mono e1 hkq) e2 e3, ?_⟩
    rw [bc_ite]
    by_cases hml : m = l
    · rw [if_pos hml, if_pos (by rw [hml]; exact Nat.beq_refl l)]
      exact .sl _ _ _ hb
    · rw [if_neg hml, if_neg (fun hx => hml (Nat.eq_of_beq_eq_true hx)), add_lit]
      exact .sl _ _ _ hb

theorem strB_slice (n l lo hh : Nat) (h1 : lo ≤ hh) (h2 : hh ≤ l) :
    ((strB n l).drop lo).take (hh - lo) = strB (n / 256 ^ lo % 256 ^ (hh - lo)) (hh - lo) := by
  rw [strB_mod]
  apply List.ext_getElem?
  intro i
  rw [List.getElem?_take]
  split
  · rename_i hi
    rw [List.getElem?_drop, strB_get n l (lo + i) (by omega), strB_get _ _ i hi, Nat.div_div_eq_div_mul, ← Nat.pow_add]
  · rename_i hi
    rw [List.getElem?_eq_none (by rw [strB_len]; omega)]

theorem vres_some {x : Option AV} {K : AV → H → Nat → O} (hk : vres x h nx K = some r) : ∃ v, x = some v ∧ K v h nx = some r := by
  cases x with
  | none => cases hk
  | some v => exact ⟨v, rfl, hk⟩

theorem zeroN_some {v : Option AV} (h : zeroN v = true) : v = none ∨ ∃ k, v = some (.int k (.ofNat 0)) := by
  cases v with
  | none => exact .inl rfl
  | some v =>
    right
    cases v <;> first | cases h | skip
    rename_i k n
    cases n <;> first | cases h | skip
    rename_i n
    have : n = 0 := Nat.eq_of_beq_eq_true h
    subst this
    exact ⟨k, rfl⟩

theorem zero_bounds {lo hi mx : Option AV} {LO HI MX : Option Value} (hl : OR E lo LO) (hH : OR E hi HI) (hm : OR E mx MX) (h1 : zeroN lo = true) (h2 : zeroN hi = true) (h3 : zeroN mx = true)
    (h4 : mx = none ∨ ∃ x, hi = some x) (w : World) : (Instr.sliceBounds true 0 0 LO HI MX).run P w = .ok (0, 0, 0) w := by
  have key : ∀ {v : Option AV} (y : Nat), zeroN v = true → ∀ x, v = some x → boundsN x y = some 0 := by
    intro v y hz x hx
    rcases zeroN_some hz with rfl | ⟨k, rfl⟩
    · cases hx
    · cases hx; show bc (Nat.ble 0 y) (some 0) none = some 0; rw [bc_ite, if_pos (Nat.ble_eq_true_of_le (Nat.zero_le y))]
  refine bounds_sound (m := 0) (hh := 0) (l := 0) hl hH hm ?_ ?_ ?_ w
  · cases mx with
    | none => rfl
    | some x => exact key 0 h3 x rfl
  · cases hi with
    | none => rcases h4 with rfl | ⟨x, hx⟩
              · rfl
              · cases hx
    | some x => exact key 0 h2 x rfl
  · cases lo with
    | none => rfl
    | some x => exact key 0 h1 x rfl

theorem opdo_sound (ho : Ops E mask names tm e ρ o) {v : Option Operand} (hv : ∀ x, v = some x → x ∈ o.op.operands.toList) : OR E ((opdo mask names v).g tm e) (v.map ρ) := by
  cases v with
  | none => exact .none
  | some x => exact .some (ho x (hv x rfl))

section
variable (R : HR D base w0 E h nx w) (ho : Ops E mask names tm e ρ o) (hr : (cop P mask names o).f tm e h nx K = some r)
include R ho hr

theorem cop_slice {t : TypeId} {x : Operand} {lo hi mx : Option Operand} (hop : o.op = .slice t x lo hi mx) : PuOk P E h nx w (execOp ρ o) K r := by
  have h1 := ho x (by simp [hop, Op.operands])
  have hl : OR E ((opdo mask names lo).g tm e) (lo.map ρ) := opdo_sound ho (fun y hy => by subst hy; simp [hop, Op.operands])
  have hH : OR E ((opdo mask names hi).g tm e) (hi.map ρ) := opdo_sound ho (fun y hy => by subst hy; simp [hop, Op.operands])
  have hm : OR E ((opdo mask names mx).g tm e) (mx.map ρ) := opdo_sound ho (fun y hy => by subst hy; simp [hop, Op.operands])
  simp only [cop, hop] at hr
  obtain ⟨v, hv, hk⟩ := vres_some hr
  clear hr
  have main : ∃ V, VR E v V ∧ (Instr.sliceAt t (ρ x) (lo.map ρ) (hi.map ρ) (mx.map ρ)).run P w = .ok V w := by
    generalize (opdo mask names lo).g tm e = alo at *
    generalize (opdo mask names hi).g tm e = ahi at *
    generalize (opdo mask names mx).g tm e = amx at *
    generalize lo.map ρ = LO at *
    generalize hi.map ρ = HI at *
    generalize mx.map ρ = MX at *
    generalize ρ x = C at *
    generalize (opd mask names x).g tm e = c at *
    unfold cslice at hv
    cases hU : P.underlying t with
    | none => rw [hU] at hv; cases hv
    | some d =>
      rw [hU] at hv
      cases d with
      | string =>
        simp only at hv
        obtain ⟨n, l, rfl, hv⟩ := onStr_some hv
        cases h1
        cases hm with
        | some h => cases hv
        | none =>
          have hv : ob (Option.rec (some l) (fun v => boundsN v l) ahi) (fun hh => ob (Option.rec (some 0) (fun v => boundsN v hh) alo) fun lw =>
            some (AV.str (Nat.mod (Nat.div n (Nat.pow 256 lw)) (Nat.pow 256 (Nat.sub hh lw))) (Nat.sub hh lw))) = some v := hv
          obtain ⟨hh, e2, hv⟩ := ob_some' hv
          obtain ⟨lw, e3, hv⟩ := ob_some' hv
          cases hv
          have hb : (Instr.sliceBounds false l l LO HI none).run P w = .ok (lw, hh, l) w := bounds_sound hl hH .none rfl e2 e3 w
          have hhl : hh ≤ l := by
            cases hH with
            | none => cases e2; exact Nat.le_refl _
            | some _ => exact (boundsN_some e2).choose_spec.2
          have hlh : lw ≤ hh := by
            cases hl with
            | none => cases e3; exact Nat.zero_le _
            | some _ => exact (boundsN_some e3).choose_spec.2
          refine ⟨.string ⟨(strB (n / 256 ^ lw % 256 ^ (hh - lw)) (hh - lw)).toArray⟩, .str _ _, ?_⟩
          have hsz : (⟨(strB n l).toArray⟩ : ByteArray).size = l := by show (strB n l).toArray.size = l; simp [strB_len]
          have hex : (⟨(strB n l).toArray⟩ : ByteArray).extract lw hh = ⟨(strB (n / 256 ^ lw % 256 ^ (hh - lw)) (hh - lw)).toArray⟩ := by
            apply ByteArray.ext
            rw [ByteArray.data_extract, ← strB_slice n l lw hh hlh hhl]
            apply Array.ext'
            simp [List.extract_eq_take_drop]
          simp [Instr.sliceAt, Instr.slice, run_under hU, hsz, hb, hex]
      | slice t' =>
        simp only at hv
        cases hi : tinfo P t' with
        | none => rw [hi] at hv; cases hv
        | some i =>
          rw [hi] at hv
          obtain ⟨I, hI, _, hsz, _, _, _⟩ := tinfo_some hi
          rcases onSl_some hv with ⟨b, off, n, c, rfl, hv⟩ | ⟨b, off, i', n, rfl, hv⟩ | ⟨m, rfl, hv⟩
          · cases h1 with
            | sl _ _ _ he =>
              obtain ⟨l, hh, m, hb, hvr⟩ := sliceEx_sound (P := P) (isS := true) hl hH hm he hv
              refine ⟨_, hvr, ?_⟩
              rw [hsz]
              by_cases hml : m = l <;> simp [Instr.sliceAt, Instr.slice, run_under hU, run_size hI, hb, hml]
          · cases h1 with
            | slx _ _ _ he =>
              obtain ⟨k, hk, hv⟩ := ob_some' hv
              have := kminOf_sound R he hk
              obtain ⟨l, hh, m, hb, hvr⟩ := sliceGr_sound (P := P) hl hH hm he (by show Nat.sub k i' ≤ _; have : Nat.sub k i' = k - i' := rfl; omega) hv
              refine ⟨_, hvr, ?_⟩
              rw [hsz]
              by_cases hml : m = l <;> simp [Instr.sliceAt, Instr.slice, run_under hU, run_size hI, hb, hml]
          · obtain ⟨rfl, hv⟩ := onNils_some hv
            cases h1
            obtain ⟨z1, hv⟩ := bc_some hv
            obtain ⟨z2, hv⟩ := bc_some hv
            obtain ⟨z3, hv⟩ := bc_some hv
            have h4 : (amx = none ∨ ∃ x, ahi = some x) ∧ v = .m .nils := by
              cases ahi with
              | none =>
                cases amx with
                | none => exact ⟨.inl rfl, (Option.some.inj hv).symm⟩
                | some _ => cases hv
              | some y => exact ⟨.inr ⟨y, rfl⟩, (Option.some.inj hv).symm⟩
            obtain ⟨h4, rfl⟩ := h4
            have hb := zero_bounds (P := P) hl hH hm z1 z2 z3 h4
            refine ⟨_, .nils, ?_⟩
            simp [Instr.sliceAt, Instr.slice, run_under hU, run_size hI, hb]
      | array n t' =>
        simp only at hv
        cases hi : tinfo P t' with
        | none => rw [hi] at hv; cases hv
        | some i =>
          rw [hi] at hv
          obtain ⟨I, hI, _, hsz, _, _, _⟩ := tinfo_some hi
          obtain ⟨b, off, rfl, hv⟩ := onPtr_some hv
          cases h1 with
          | ptr _ he =>
            obtain ⟨l, hh, m, hb, hvr⟩ := sliceEx_sound (P := P) (isS := false) hl hH hm he hv
            refine ⟨_, hvr, ?_⟩
            rw [hsz]
            simp [Instr.sliceAt, Instr.sureAddr, run_under hU, run_size hI, hb]
      | _ => cases hv
  obtain ⟨V, hvr, hrun⟩ := main
  exact .pure R hk hvr (by simp [execOp, hop, hrun])
end
end Go.Ax
namespace Go.Ax
open Go.RowKit (Below)
variable {P : Program} {D : Nat → Nat} {base : Bas} {w0 : World} {E : En} {h : H} {nx : Nat} {w : World}
variable {K : AV → H → Nat → O} {r : St} {mask : Nat} {names : List Tmp} {tm : Tm} {e : List AV} {ρ : Operand → Value} {o : Oper}

theorem VRL.of_get {E : En} : ∀ {l : List AV} {L : List Value}, L.length = l.length → (∀ (i : Nat) (v : AV), l[i]? = some v → ∃ V, L[i]? = some V ∧ VR E v V) → VRL E l L
  | [], [], _, _ => .nil
  | [], _ :: _, h, _ => by simp at h
  | _ :: _, [], h, _ => by simp at h
  | v :: l, V :: L, h, hg => by
    obtain ⟨V', h1, h2⟩ := hg 0 v rfl
    cases h1
    exact .cons h2 (VRL.of_get (by simpa using h) fun i u hu => by
      obtain ⟨U, h3, h4⟩ := hg (i + 1) u (by simpa using hu)
      exact ⟨U, by simpa using h3, h4⟩)

theorem put_model (off : Nat) : ∀ (vs : List Value) (j : Nat) (C : Array Value), off + j + vs.length ≤ C.size →
    ((vs.zipIdx j).foldl (fun cs (x : Value × Nat) => cs.setIfInBounds (off + x.2) x.1) C).size = C.size ∧
    ∀ i : Nat, ((vs.zipIdx j).foldl (fun cs (x : Value × Nat) => cs.setIfInBounds (off + x.2) x.1) C)[i]? = if off + j ≤ i ∧ i < off + j + vs.length then vs[i - (off + j)]? else C[i]?
  | [], j, C, _ => ⟨rfl, fun i => by rw [if_neg (by simp)]; rfl⟩
  | v :: vs, j, C, hb => by
    simp only [List.length_cons] at hb
    obtain ⟨h1, h2⟩ := put_model off vs (j + 1) (C.setIfInBounds (off + j) v) (by simp; omega)
    simp only [List.zipIdx_cons, List.foldl_cons]
    refine ⟨by rw [h1]; simp, fun i => ?_⟩
    rw [h2 i]
    by_cases hi : off + j = i
    · rw [if_neg (by omega), if_pos (by simp; omega)]
      subst hi
      rw [Array.getElem?_setIfInBounds_self]
      simp; omega
    · by_cases hlt : off + (j + 1) ≤ i ∧ i < off + (j + 1) + vs.length
      · rw [if_pos hlt, if_pos (by simp; omega)]
        rw [show i - (off + j) = (i - (off + (j + 1))) + 1 by omega, List.getElem?_cons_succ]
      · rw [if_neg hlt, if_neg (by simp; omega), Array.getElem?_setIfInBounds_ne hi]

theorem put_sound {E : En} {cells vs : List AV} {C : Array Value} {V : Value} {off : Nat} (hc : VRL E cells C.toList) (hv : VRL E vs V.cells.toList) (hb : off + vs.length ≤ cells.length) :
    VRL E (lput off vs cells) (V.cells.zipIdx.foldl (fun cs (x : Value × Nat) => cs.setIfInBounds (off + x.2) x.1) C).toList := by
  have hcl := hc.len
  have hvl := hv.len
  have hpm := put_model off V.cells.toList 0 C (by rw [hvl]; simp at hcl; omega)
  rw [show (V.cells.zipIdx.foldl (fun cs (x : Value × Nat) => cs.setIfInBounds (off + x.2) x.1) C) =
    ((V.cells.toList.zipIdx 0).foldl (fun cs (x : Value × Nat) => cs.setIfInBounds (off + x.2) x.1) C) by rw [← Array.foldl_toList, Array.toList_zipIdx]]
  refine VRL.of_get ?_ fun i v hi => ?_
  · rw [lput_len _ _ _ (by omega)]
    have := hpm.1
    simp at this hcl ⊢
    omega
  · rw [lput_get _ _ _ (by omega)] at hi
    rw [Array.getElem?_toList, hpm.2 i, hvl]
    simp only [Nat.add_zero]
    split at hi
    · rename_i hx
      rw [if_pos hx]
      exact hv.get _ v hi
    · rename_i hx
      rw [if_neg hx]
      obtain ⟨U, h1, h2⟩ := hc.get i v hi
      exact ⟨U, by simpa using h1, h2⟩

theorem cfill_sound {place : Nat → Option (Nat × Nat)} {n : Nat} {Kf : List AV → O} : ∀ (ps : List (Nat × Operand)) (cells : List AV) (C : Array Value),
    VRL E cells C.toList → cells.length = n → (∀ p ∈ ps, VR E ((opd mask names p.2).g tm e) (ρ p.2)) → (cfill mask names place n ps).f tm e cells Kf = some r →
    ∃ l C', Kf l = some r ∧ VRL E l C'.toList ∧ l.length = n ∧ Instr.fill place C (ps.map fun p => (p.1, ρ p.2)) = some C'
  | [], cells, C, hc, hn, _, hr => ⟨cells, C, hr, hc, hn, rfl⟩
  | (i, x) :: ps, cells, C, hc, hn, hp, hr => by
    have hx : VR E ((opd mask names x).g tm e) (ρ x) := hp (i, x) (by simp)
    simp only [cfill] at hr
    cases hpl : place i with
    | none => rw [hpl] at hr; cases hr
    | some p =>
      obtain ⟨po, sz⟩ := p
      rw [hpl] at hr
      simp only at hr
      have hv := acells_sound hx
      -- either way the cells of the part are laid
      have key : po + sz ≤ n ∧ (acells ((opd mask names x).g tm e)).length = sz ∧ (cfill mask names place n ps).f tm e (lput po (acells ((opd mask names x).g tm e)) cells) Kf = some r := by
        cases hle : Nat.ble (Nat.add po sz) n with
        | false => rw [hle] at hr; cases hr
        | true =>
          rw [hle] at hr
          have hle : po + sz ≤ n := Nat.le_of_ble_eq_true hle
          cases h1 : Nat.beq sz 1 with
          | true =>
            rw [h1] at hr
            have h1 := Nat.eq_of_beq_eq_true h1
            have hr : onAgg ((opd mask names x).g tm e) ((cfill mask names place n ps).f tm e (lput po [(opd mask names x).g tm e] cells) Kf) (fun l => bc (Nat.beq (llen l) 1) ((cfill mask names place n ps).f tm e (lput po l cells) Kf) none) = some r := hr
            generalize (opd mask names x).g tm e = v at *
            cases v <;> first | exact ⟨hle, h1.symm, hr⟩ | skip
            rename_i l
            obtain ⟨h2, h3⟩ := bc_some hr
            have h2 := Nat.eq_of_beq_eq_true h2
            rw [llen_eq] at h2
            exact ⟨hle, by rw [h1]; exact h2, h3⟩
          | false =>
            rw [h1] at hr
            obtain ⟨h2, h3⟩ := bc_some (c := Nat.beq (llen (acells ((opd mask names x).g tm e))) sz) hr
            have h2 := Nat.eq_of_beq_eq_true h2
            rw [llen_eq] at h2
            exact ⟨hle, h2, h3⟩
      obtain ⟨hle, hlen, hk⟩ := key
      have hput := put_sound (off := po) hc hv (by omega)
      have hl2 : (lput po (acells ((opd mask names x).g tm e)) cells).length = n := by rw [lput_len _ _ _ (by omega)]; omega
      obtain ⟨l, C', h1, h2, h3, h4⟩ := cfill_sound ps _ _ hput hl2 (fun p hp' => hp p (by simp [hp'])) hk
      refine ⟨l, C', h1, h2, h3, ?_⟩
      have e1 : (ρ x).cells.size = sz := by have := hv.len; rw [hlen] at this; simpa using this
      have e2 : C.size = n := by have := hc.len; rw [hn] at this; simpa using this
      simp only [List.map_cons, Instr.fill, hpl]
      rw [if_neg (by simp [e1, e2]; omega)]
      exact h4

/-- the places of a struct's fields -/
theorem run_places (P : Program) (w : World) : ∀ (fs : List Field), fs.all (fun f => (tinfo P f.type).isSome) = true →
    (fs.mapM (m := Sem) fun f => do pure (f.offset, ← sizeOf f.type)).run P w = .ok (fs.map fun f => (f.offset, ((tinfo P f.type).map (·.size)).getD 0)) w
  | [], _ => by simp
  | f :: fs, h => by
    simp only [List.all_cons, Bool.and_eq_true] at h
    obtain ⟨i, hi⟩ := Option.isSome_iff_exists.1 h.1
    obtain ⟨I, hI, _, hsz, _, _, _⟩ := tinfo_some hi
    have ih := run_places P w fs h.2
    simp only [List.mapM_cons, Sem.run_bind, run_size hI, Result.andThen_ok, Sem.run_pure, ih, List.map_cons, hi]
    rw [← hsz]
    rfl

section
variable (R : HR D base w0 E h nx w) (ho : Ops E mask names tm e ρ o) (hr : (cop P mask names o).f tm e h nx K = some r)
include R ho hr

theorem cop_build {t : TypeId} {ps : Array (Nat × Operand)} (hop : o.op = .build t ps) : PuOk P E h nx w (execOp ρ o) K r := by
  have hps : ∀ p ∈ ps.toList, VR E ((opd mask names p.2).g tm e) (ρ p.2) := fun p hp => ho p.2 (by
    simp only [hop, Op.operands, List.mem_map]
    exact ⟨p, hp, rfl⟩)
  simp only [cop, hop] at hr
  cases hi : tinfo P t with
  | none => rw [hi] at hr; cases hr
  | some i =>
    rw [hi] at hr
    obtain ⟨I, hI, hU, _, _, _, h6⟩ := tinfo_some hi
    simp only at hr
    cases hz : i.zero with
    | none => simp only [hz] at hr; cases hr
    | some z =>
      simp only [hz] at hr
      obtain ⟨Z, hZ, rfl, hok⟩ := h6 z hz
      have hls := ofVs_sound E hok
      have hzv : ∀ w, (zeroValue t).run P w = .ok Z w := fun w => by simp [zeroValue, run_info hI, hZ]
      have hparts : (ps.map fun (p : Nat × Operand) => (p.1, ρ p.2)).toList = ps.toList.map fun p => (p.1, ρ p.2) := by simp
      generalize hd : i.desc = d at *
      cases d with
      | struct fs =>
        simp only at hr
        rw [bc_ite] at hr
        split at hr
        · rename_i hall
          obtain ⟨l, C, hk, hl, _, hfill⟩ := cfill_sound ps.toList _ Z.cells hls (by rw [llen_eq]) hps hr
          refine .pure R hk (.agg hl) ?_
          have hpl := run_places P w fs.toList hall
          have : (fs.mapM (m := Sem) fun f => do pure (f.offset, ← sizeOf f.type)).run P w = .ok ((fs.toList.map fun f => (f.offset, ((tinfo P f.type).map (·.size)).getD 0)).toArray) w := by
            rw [Array.mapM_eq_mapM_toList]
            simp only [map_eq_pure_bind, Sem.run_bind, hpl, Result.andThen_ok, Sem.run_pure]
          simp only [execOp, hop, Instr.build, Sem.run_bind, hzv, Result.andThen_ok, run_under hU, this, Sem.run_pure]
          have hfill' : Instr.fill (fun i => (fs.toList.map fun f => (f.offset, ((tinfo P f.type).map (·.size)).getD 0)).toArray[i]?) Z.cells ((ps.map fun (p : Nat × Operand) => (p.1, ρ p.2)).toList) = some C := by
            rw [hparts]; simpa using hfill
          simp only [hfill', Sem.run_pure, Result.andThen_ok]
        · cases hr
      | array n t' =>
        simp only at hr
        cases hei : tinfo P t' with
        | none => rw [hei] at hr; cases hr
        | some ei =>
          rw [hei] at hr
          obtain ⟨EI, hEI, _, hesz, _, _, _⟩ := tinfo_some hei
          obtain ⟨l, C, hk, hl, _, hfill⟩ := cfill_sound ps.toList _ Z.cells hls (by rw [llen_eq]) hps hr
          refine .pure R hk (.agg hl) ?_
          have hfill' : Instr.fill (fun i => some (i * EI.size, EI.size)) Z.cells ((ps.map fun (p : Nat × Operand) => (p.1, ρ p.2)).toList) = some C := by
            rw [hparts, ← hesz]; exact hfill
          simp only [execOp, hop, Instr.build, Sem.run_bind, hzv, Result.andThen_ok, run_under hU, run_size hEI, hfill', Sem.run_pure]
      | _ => cases hr

omit R in
theorem cop_buildSlice {t : TypeId} {len : Nat} {ps : Array (Nat × Operand)} (hop : o.op = .buildSlice t len ps) : MkOk P D E h nx w (execOp ρ o) K r := by
  have hps : ∀ p ∈ ps.toList, VR E ((opd mask names p.2).g tm e) (ρ p.2) := fun p hp => ho p.2 (by
    simp only [hop, Op.operands, List.mem_map]
    exact ⟨p, hp, rfl⟩)
  simp only [cop, hop] at hr
  cases hU : P.underlying t with
  | none => rw [hU] at hr; cases hr
  | some d =>
    rw [hU] at hr
    cases d with
    | slice t' =>
      simp only at hr
      cases hi : tinfo P t' with
      | none => rw [hi] at hr; cases hr
      | some i =>
        rw [hi] at hr
        obtain ⟨I, hI, _, hsz, _, _, h6⟩ := tinfo_some hi
        simp only at hr
        cases hz : i.zero with
        | none => simp only [hz] at hr; cases hr
        | some z =>
          simp only [hz] at hr
          obtain ⟨Z, hZ, rfl, hok⟩ := h6 z hz
          have hls := ofVs_sound E hok
          have hparts : (ps.map fun (p : Nat × Operand) => (p.1, ρ p.2)).toList = ps.toList.map fun p => (p.1, ρ p.2) := by simp
          rw [bc_ite] at hr
          split at hr
          · rename_i hc
            rw [Bool.and_eq_true] at hc
            have hle : len * i.size ≤ 16777216 := Nat.le_of_ble_eq_true hc.1
            have hzl := Nat.eq_of_beq_eq_true hc.2
            rw [llen_eq] at hzl
            have hZl : Z.cells.size = i.size := by rw [← hzl, ← hls.len]; simp
            have hzs := zerosN_sound hls len
            have hlen : (zerosN (ofVs Z) len).length = Nat.mul len i.size := by rw [zerosN_len, hzl]; rfl
            obtain ⟨l, C, hk, hl, hln, hfill⟩ := cfill_sound ps.toList _ ((List.replicate len Z.cells.toList).flatten).toArray hzs hlen hps hr
            refine .new (q := 0) (ob := .cells C t' (0, 0)) hk ?_ (fun _ _ hb => .sl 0 len len hb) ?_
            · have := RowR.mk (n := Nat.mul len i.size) hl
              refine .cells t' t' ?_ ?_ (by simpa using this)
              · have := hl.len; rw [hln] at this; simpa using this
              · intro xs hxs
                unfold rmk at hxs
                rw [bc_ite] at hxs
                split at hxs
                · cases hxs; exact hln
                · cases hxs
            · have hfill' : Instr.fill (fun i => some (i * I.size, I.size)) ((List.replicate len Z.cells.toList).flatten).toArray ((ps.map fun (p : Nat × Operand) => (p.1, ρ p.2)).toList) = some C := by
                rw [hparts, ← hsz]; exact hfill
              have hle' : ¬ (len * I.size > 2 ^ 24) := by rw [← hsz]; simp; omega
              have hz0 : ((List.replicate len Z.cells.toList).flatten).toArray = (Array.range (len * I.size)).map (fun i => Z.cells[i % Z.cells.size]!) := by
                rw [← zeros_model, hZl, hsz]
              by_cases h0 : len * I.size = 0
              · have hz1 : ((List.replicate len Z.cells.toList).flatten).toArray = (Array.range (len * I.size)).map (fun i => (#[] : Array Value)[i % (#[] : Array Value).size]!) := by
                  rw [hz0, h0]; simp
                rw [hz1] at hfill'
                simp only [execOp, hop, Instr.buildSlice, Sem.run_bind, Result.andThen_ok, run_under hU, run_size hI, if_neg hle', if_pos h0, Sem.run_pure, hfill', newRow]
                simp
              · rw [hz0] at hfill'
                simp only [execOp, hop, Instr.buildSlice, Sem.run_bind, Result.andThen_ok, run_under hU, run_size hI, if_neg hle', if_neg h0, Sem.run_pure, zeroValue, run_info hI, hZ, hfill', newRow]
                simp
          · cases hr
    | _ => cases hr
end
end Go.Ax
namespace Go.Ax
open Go.RowKit (Below)
variable {P : Program} {D : Nat → Nat} {base : Bas} {w0 : World} {E : En} {h : H} {nx : Nat} {w : World}

theorem isNil_nilp {v : AV} (h : isNil v .nilp = true) : v = .m .nilp := by
  cases v <;> first | cases h | skip
  rename_i x; cases x <;> first | rfl | cases h
theorem isNil_nils {v : AV} (h : isNil v .nils = true) : v = .m .nils := by
  cases v <;> first | cases h | skip
  rename_i x; cases x <;> first | rfl | cases h
theorem isNil_nilm {v : AV} (h : isNil v .nilm = true) : v = .m .nilm := by
  cases v <;> first | cases h | skip
  rename_i x; cases x <;> first | rfl | cases h
theorem isNil_nilf {v : AV} (h : isNil v .nilf = true) : v = .m .nilf := by
  cases v <;> first | cases h | skip
  rename_i x; cases x <;> first | rfl | cases h

theorem fixedB_some (R : HR D base w0 E h nx w) {b c q : Nat} (e : E.m b = some (c, q)) (hf : fixedB h b = true) : (∃ cur t, w.heap[c]? = some (.cells cur t (0, 0))) ∧ (bget b h).isSome := by
  unfold fixedB at hf
  cases hb : bget b h with
  | none => rw [hb] at hf; cases hf
  | some ab =>
    rw [hb] at hf
    cases ab <;> first | cases hf | skip
    obtain ⟨cur, t, h1, _⟩ := R.row e hb (.inl ⟨_, _, _, rfl⟩)
    exact ⟨⟨cur, t, h1⟩, rfl⟩

theorem addr_beq (c o o' : Nat) : ((⟨c, o, none⟩ : Addr) == ⟨c, o', none⟩) = Nat.beq o o' := by
  rw [Bool.eq_iff_iff, beq_iff_eq]
  constructor
  · intro hx; cases hx; exact Nat.beq_refl _
  · intro hx; rw [Nat.eq_of_beq_eq_true hx]

theorem strs_beq (n l n' l' : Nat) : ((⟨(strB n l).toArray⟩ : ByteArray) == ⟨(strB n' l').toArray⟩) = strEq n l n' l' := by
  rw [strEq_eq, beq_toListBytes, ByteArray.toList_eq, ByteArray.toList_eq, Bool.eq_iff_iff, beq_iff_eq, decide_eq_true_iff]

theorem beqB_eq (a b : Bool) : beqB a b = (a == b) := by cases a <;> cases b <;> rfl

/-- a sure answer -/
def EqOk (P : Program) (_D : Nat → Nat) (_base : Bas) (_w0 : World) (E : En) (h : H) (_nx : Nat) (w : World) (d : Nat) : Prop :=
  ∀ (t : TypeId) (x y : AV) (X Y : Value) (b : Bool), VR E x X → VR E y Y → (ceq P d t).f h x y = some b → ∀ m, (Op.equalIn (d + m) t X Y).run P w = .ok b w

theorem cfields_sound {d : Nat} (ih : EqOk P D base w0 E h nx w d) {xs ys : List AV} {XS YS : List Value} (hx : VRL E xs XS) (hy : VRL E ys YS) (m : Nat) :
    ∀ (fs : List Field) (b : Bool), (cfields P (ceq P d) fs).f h xs ys = some b → (Op.eqFields (d + m) XS.toArray YS.toArray fs).run P w = .ok b w
  | [], b, hr => by cases hr; simp [Op.eqFields]
  | f :: fs, b, hr => by
    simp only [cfields] at hr
    cases hn : f.name == "_" with
    | true =>
      rw [hn] at hr
      have hn := eq_of_beq hn
      simp only [Op.eqFields, hn, ne_eq, not_true_eq_false, if_false]
      exact cfields_sound ih hx hy m fs b hr
    | false =>
      rw [hn] at hr
      have hn : f.name ≠ "_" := fun hh => by rw [hh] at hn; cases hn
      obtain ⟨u, hu, hr⟩ := ob_some' hr
      obtain ⟨v, hv, hr⟩ := ob_some' hr
      obtain ⟨c, hc, hr⟩ := ob_some' hr
      obtain ⟨U, hU, hrU⟩ := cpart_sound hu hx w
      obtain ⟨V, hV, hrV⟩ := cpart_sound hv hy w
      have he := ih f.type u v U V c hU hV hc m
      simp only [Op.eqFields, if_pos hn, Sem.run_bind, hrU, Result.andThen_ok, hrV, he]
      cases c with
      | false => cases hr; simp
      | true =>
        simp only [Bool.not_true, Bool.false_eq_true, if_false]
        exact cfields_sound ih hx hy m fs b hr

theorem ceq_bool (_R : HR D base w0 E h nx w) {d : Nat} (_ih : EqOk P D base w0 E h nx w d)  {t : TypeId} (hU : P.underlying t = some (.bool)) {x y : AV} {X Y : Value} {b : Bool} (hx : VR E x X) (hy : VR E y Y)
    (hr : (ceq P (d + 1) t).f h x y = some b) (m : Nat) : (Op.equalIn (d + m + 1) t X Y).run P w = .ok b w := by
  unfold ceq at hr
  rw [hU] at hr
  replace hr := onBool_some hr; obtain ⟨a, rfl, hr⟩ := hr
  replace hr := onBool_some hr; obtain ⟨a', rfl, hr⟩ := hr
  cases hr; cases hx; cases hy
  simp [Op.equalIn, run_under hU, beqB_eq]

theorem ceq_int (_R : HR D base w0 E h nx w) {d : Nat} (_ih : EqOk P D base w0 E h nx w d) {k : IntKind} {t : TypeId} (hU : P.underlying t = some (.int k)) {x y : AV} {X Y : Value} {b : Bool} (hx : VR E x X) (hy : VR E y Y)
    (hr : (ceq P (d + 1) t).f h x y = some b) (m : Nat) : (Op.equalIn (d + m + 1) t X Y).run P w = .ok b w := by
  unfold ceq at hr
  rw [hU] at hr
  replace hr := onInt_some hr; obtain ⟨k1, a, rfl, hr⟩ := hr
  replace hr := onInt_some hr; obtain ⟨k2, a', rfl, hr⟩ := hr
  replace hr := bc_some hr; obtain ⟨hk, hr⟩ := hr
  have hk := Nat.eq_of_beq_eq_true hk
  cases hr
  subst hk
  cases hx; cases hy
  simp [Op.equalIn, run_under hU, intEq_eq]

theorem ceq_string (_R : HR D base w0 E h nx w) {d : Nat} (_ih : EqOk P D base w0 E h nx w d)  {t : TypeId} (hU : P.underlying t = some (.string)) {x y : AV} {X Y : Value} {b : Bool} (hx : VR E x X) (hy : VR E y Y)
    (hr : (ceq P (d + 1) t).f h x y = some b) (m : Nat) : (Op.equalIn (d + m + 1) t X Y).run P w = .ok b w := by
  unfold ceq at hr
  rw [hU] at hr
  replace hr := onStr_some hr; obtain ⟨n, l, rfl, hr⟩ := hr
  replace hr := onStr_some hr; obtain ⟨n', l', rfl, hr⟩ := hr
  cases hr; cases hx; cases hy
  simp [Op.equalIn, run_under hU, strs_beq]

theorem ceq_pointer (R : HR D base w0 E h nx w) {d : Nat} (_ih : EqOk P D base w0 E h nx w d) {e : TypeId} {t : TypeId} (hU : P.underlying t = some (.pointer e)) {x y : AV} {X Y : Value} {b : Bool} (hx : VR E x X) (hy : VR E y Y)
    (hr : (ceq P (d + 1) t).f h x y = some b) (m : Nat) : (Op.equalIn (d + m + 1) t X Y).run P w = .ok b w := by
  unfold ceq at hr
  rw [hU] at hr
  simp only at hr
  rw [bc_ite] at hr
  split at hr
  · rename_i hn
    have := isNil_nilp hn; subst this
    cases hx
    rw [bc_ite] at hr
    split at hr
    · rename_i hn2
      have := isNil_nilp hn2; subst this
      cases hy; cases hr
      simp [Op.equalIn, run_under hU]
    · replace hr := onPtr_some hr; obtain ⟨b', o', rfl, hr⟩ := hr
      cases hr; cases hy
      simp [Op.equalIn, run_under hU]
  · replace hr := onPtr_some hr; obtain ⟨b1, o1, rfl, hr⟩ := hr
    cases hx with
    | @ptr _ c1 q1 _ e1 =>
      rw [bc_ite] at hr
      split at hr
      · rename_i hn2
        have := isNil_nilp hn2; subst this
        cases hy; cases hr
        simp [Op.equalIn, run_under hU]
      · replace hr := onPtr_some hr; obtain ⟨b2, o2, rfl, hr⟩ := hr
        obtain ⟨hnz, hr⟩ := bc_some hr
        have hsz : ∃ n, n ≠ 0 ∧ (sizeOf e).run P w = .ok n w := by
          cases hi : tinfo P e with
          | none => rw [hi] at hnz; cases hnz
          | some i =>
            rw [hi] at hnz
            have hnz : bnot (Nat.beq i.size 0) = true := hnz
            obtain ⟨I, hI, _, hs, _⟩ := tinfo_some hi
            refine ⟨I.size, ?_, run_size hI w⟩
            intro h0
            rw [hs, h0] at hnz
            cases hnz
        obtain ⟨n, hn0, hsz⟩ := hsz
        cases hy with
        | @ptr _ c2 q2 _ e2 =>
          skip
          simp only [Op.equalIn, Sem.run_bind, run_under hU, Result.andThen_ok, hsz, if_pos hn0]
          cases hbb : Nat.beq b1 b2 with
          | true =>
            rw [hbb] at hr
            have hbb := Nat.eq_of_beq_eq_true hbb
            subst hbb
            rw [e1] at e2
            cases e2
            cases hr
            rw [← addr_beq c1 o1 o2]
            simp [sameAddr]
          | false =>
            rw [hbb] at hr
            obtain ⟨f1, hr⟩ := bc_some hr
            obtain ⟨f2, hr⟩ := bc_some hr
            cases hr
            obtain ⟨⟨cur1, t1, g1⟩, l1⟩ := fixedB_some R e1 f1
            obtain ⟨⟨cur2, t2, g2⟩, l2⟩ := fixedB_some R e2 f2
            have hne : b1 ≠ b2 := fun hh => by rw [hh, Nat.beq_refl] at hbb; cases hbb
            refine run_sameAddr_other w (fun hh => hne ?_) g1 g2
            cases hh
            exact R.inj b1 b2 _ _ _ (R.lt e1) (R.lt e2) l1 l2 e1 e2

theorem ceq_interface (_R : HR D base w0 E h nx w) {d : Nat} (ih : EqOk P D base w0 E h nx w d) {ms : Array (String × TypeId)} {t : TypeId} (hU : P.underlying t = some (.interface ms)) {x y : AV} {X Y : Value} {b : Bool} (hx : VR E x X) (hy : VR E y Y)
    (hr : (ceq P (d + 1) t).f h x y = some b) (m : Nat) : (Op.equalIn (d + m + 1) t X Y).run P w = .ok b w := by
  unfold ceq at hr
  rw [hU] at hr
  simp only at hr
  rw [bc_ite] at hr
  split at hr
  · rename_i hn
    have := isNil_nili hn; subst this
    cases hx
    rw [bc_ite] at hr
    split at hr
    · rename_i hn2
      have := isNil_nili hn2; subst this
      cases hy; cases hr
      simp [Op.equalIn, run_under hU]
    · replace hr := onIface_some hr; obtain ⟨ty, vy, rfl, hr⟩ := hr
      cases hr; cases hy
      simp [Op.equalIn, run_under hU]
  · replace hr := onIface_some hr; obtain ⟨tx, vx, rfl, hr⟩ := hr
    cases hx with
    | iface _ hx =>
      rw [bc_ite] at hr
      split at hr
      · rename_i hn2
        have := isNil_nili hn2; subst this
        cases hy; cases hr
        simp [Op.equalIn, run_under hU]
      · replace hr := onIface_some hr; obtain ⟨ty, vy, rfl, hr⟩ := hr
        cases hy with
        | iface _ hy =>
          cases htt : Nat.beq tx ty with
          | false =>
            rw [htt] at hr
            cases hr
            have hne : tx ≠ ty := fun hh => by rw [hh, Nat.beq_refl] at htt; cases htt
            simp [Op.equalIn, run_under hU, hne]
          | true =>
            rw [htt] at hr
            have htt := Nat.eq_of_beq_eq_true htt
            subst htt
            obtain ⟨hc, hr⟩ := bc_some hr
            cases hI : P.info? tx with
            | none => rw [hI] at hc; cases hc
            | some I =>
              rw [hI] at hc
              have hc : I.comparable = true := hc
              have he := ih tx vx vy _ _ b hx hy hr m
              simp [Op.equalIn, run_under hU, run_info hI, hc, he]

theorem ceq_struct (_R : HR D base w0 E h nx w) {d : Nat} (ih : EqOk P D base w0 E h nx w d) {fs : Array Field} {t : TypeId} (hU : P.underlying t = some (.struct fs)) {x y : AV} {X Y : Value} {b : Bool} (hx : VR E x X) (hy : VR E y Y)
    (hr : (ceq P (d + 1) t).f h x y = some b) (m : Nat) : (Op.equalIn (d + m + 1) t X Y).run P w = .ok b w := by
  unfold ceq at hr
  rw [hU] at hr
  simp only at hr
  rw [bc_ite] at hr
  split at hr
  · cases hr
  · rename_i hst
    replace hr := onAgg_some hr; obtain ⟨xs, rfl, hr⟩ := hr
    replace hr := onAgg_some hr; obtain ⟨ys, rfl, hr⟩ := hr
    cases hx with
    | agg hx =>
      cases hy with
      | agg hy =>
        have hf : P.fieldsOf t = fs := by simp [Program.fieldsOf, hU]
        rw [run_equalIn_struct w (d + m) t _ _ (by rw [hf]; exact hU) (by simpa using hst), hf]
        exact cfields_sound ih hx hy m fs.toList b hr

theorem ceq_slice (_R : HR D base w0 E h nx w) {d : Nat} (_ih : EqOk P D base w0 E h nx w d) {e : TypeId} {t : TypeId} (hU : P.underlying t = some (.slice e)) {x y : AV} {X Y : Value} {b : Bool} (hx : VR E x X) (hy : VR E y Y)
    (hr : (ceq P (d + 1) t).f h x y = some b) (m : Nat) : (Op.equalIn (d + m + 1) t X Y).run P w = .ok b w := by
  unfold ceq at hr
  rw [hU] at hr
  simp only at hr
  rw [bc_ite] at hr
  split at hr
  · rename_i hn
    have := isNil_nils hn; subst this
    cases hx
    rw [bc_ite] at hr
    split at hr
    · rename_i hn2
      have := isNil_nils hn2; subst this
      cases hy; cases hr
      simp [Op.equalIn, run_under hU]
    · replace hr := onSl_some hr; rcases hr with ⟨_, _, _, _, rfl, hr⟩ | ⟨_, _, _, _, rfl, hr⟩ | ⟨_, rfl, hr⟩
      · cases hr; cases hy; simp [Op.equalIn, run_under hU]
      · cases hr; cases hy; simp [Op.equalIn, run_under hU]
      · cases hr
  · obtain ⟨hn2, hr⟩ := bc_some hr
    have := isNil_nils hn2; subst this
    cases hy
    replace hr := onSl_some hr; rcases hr with ⟨_, _, _, _, rfl, hr⟩ | ⟨_, _, _, _, rfl, hr⟩ | ⟨_, rfl, hr⟩
    · cases hr; cases hx; simp [Op.equalIn, run_under hU]
    · cases hr; cases hx; simp [Op.equalIn, run_under hU]
    · cases hr

theorem ceq_map (_R : HR D base w0 E h nx w) {d : Nat} (_ih : EqOk P D base w0 E h nx w d) {kt vt : TypeId} {t : TypeId} (hU : P.underlying t = some (.map kt vt)) {x y : AV} {X Y : Value} {b : Bool} (hx : VR E x X) (hy : VR E y Y)
    (hr : (ceq P (d + 1) t).f h x y = some b) (m : Nat) : (Op.equalIn (d + m + 1) t X Y).run P w = .ok b w := by
  unfold ceq at hr
  rw [hU] at hr
  simp only at hr
  rw [bc_ite] at hr
  split at hr
  · rename_i hn
    have := isNil_nilm hn; subst this
    cases hx
    rw [bc_ite] at hr
    split at hr
    · rename_i hn2
      have := isNil_nilm hn2; subst this
      cases hy; cases hr
      simp [Op.equalIn, run_under hU]
    · replace hr := onMap_some hr; rcases hr with ⟨rfl, hr⟩ | ⟨_, rfl, hr⟩
      · cases hr
      · cases hr; cases hy; simp [Op.equalIn, run_under hU]
  · obtain ⟨hn2, hr⟩ := bc_some hr
    have := isNil_nilm hn2; subst this
    cases hy
    replace hr := onMap_some hr; rcases hr with ⟨rfl, hr⟩ | ⟨_, rfl, hr⟩
    · cases hr
    · cases hr; cases hx; simp [Op.equalIn, run_under hU]

theorem ceq_func (_R : HR D base w0 E h nx w) {d : Nat} (_ih : EqOk P D base w0 E h nx w d) {a : Array TypeId} {b' : Array TypeId} {c : Bool} {t : TypeId} (hU : P.underlying t = some (.func a b' c)) {x y : AV} {X Y : Value} {b : Bool} (hx : VR E x X) (hy : VR E y Y)
    (hr : (ceq P (d + 1) t).f h x y = some b) (m : Nat) : (Op.equalIn (d + m + 1) t X Y).run P w = .ok b w := by
  unfold ceq at hr
  rw [hU] at hr
  simp only at hr
  rw [bc_ite] at hr
  split at hr
  · rename_i hn
    have := isNil_nilf hn; subst this
    cases hx
    rw [bc_ite] at hr
    split at hr
    · rename_i hn2
      have := isNil_nilf hn2; subst this
      cases hy; cases hr
      simp [Op.equalIn, run_under hU]
    · replace hr := onFn_some hr; obtain ⟨_, _, _, rfl, hr⟩ := hr
      cases hr; cases hy; simp [Op.equalIn, run_under hU]
  · obtain ⟨hn2, hr⟩ := bc_some hr
    have := isNil_nilf hn2; subst this
    cases hy
    replace hr := onFn_some hr; obtain ⟨_, _, _, rfl, hr⟩ := hr
    cases hr; cases hx; simp [Op.equalIn, run_under hU]

theorem ceq_sound (R : HR D base w0 E h nx w) : ∀ d, EqOk P D base w0 E h nx w d
  | 0 => fun t x y X Y b _ _ hr => by cases hr
  | d + 1 => fun t x y X Y b hx hy hr m => by
    have ih := ceq_sound R d
    rw [show d + 1 + m = (d + m) + 1 by omega]
    cases hU : P.underlying t with
    | none => unfold ceq at hr; rw [hU] at hr; cases hr
    | some D' =>
      cases D' with
      | bool => exact ceq_bool R ih hU hx hy hr m
      | int _ => exact ceq_int R ih hU hx hy hr m
      | string => exact ceq_string R ih hU hx hy hr m
      | pointer _ => exact ceq_pointer R ih hU hx hy hr m
      | interface _ => exact ceq_interface R ih hU hx hy hr m
      | struct _ => exact ceq_struct R ih hU hx hy hr m
      | slice _ => exact ceq_slice R ih hU hx hy hr m
      | map _ _ => exact ceq_map R ih hU hx hy hr m
      | func _ _ _ => exact ceq_func R ih hU hx hy hr m
      | _ => unfold ceq at hr; rw [hU] at hr; cases hr
end Go.Ax
namespace Go.Ax
open Go.RowKit (Below)
variable {P : Program} {D : Nat → Nat} {base : Bas} {w0 : World} {E : En} {h : H} {nx : Nat} {w : World}

theorem sameNow_run {t : TypeId} {d : TypeDesc} (hU : P.underlying t = some d) {X Y : Value} {c : Bool} (hs : Instr.sameNow d X Y = some c) (n : Nat) (w : World) :
    (Op.equalIn (n + 1) t X Y).run P w = .ok c w := by
  unfold Instr.sameNow at hs
  split at hs
  · split at hs
    · rename_i hk
      cases hs
      simp [Op.equalIn, run_under hU, hk]
    · cases hs
  · cases hs; simp [Op.equalIn, run_under hU]
  · cases hs; simp [Op.equalIn, run_under hU]
  · cases hs

/-- what a search for a key finds -/
inductive FR (E : En) (Es : List MapEntry) (i : Nat) : Option (Nat × AV) → Option (Nat × Value) → Prop where
  | none : FR E Es i none none
  | some {j : Nat} {v : AV} {K V : Value} {born : Nat} (hj : i ≤ j) (hE : Es[j - i]? = some ⟨K, V, born⟩) (hv : VR E v V) : FR E Es i (some (j, v)) (some (j, V))

theorem findA_sound (R : HR D base w0 E h nx w) {kt : TypeId} {d : TypeDesc} (hU : P.underlying kt = some d) {k : AV} {KV : Value} (hk : VR E k KV) :
    ∀ {es : List (AV × AV × Nat)} {Es : List MapEntry} (i : Nat) (res : Option (Nat × AV)), EsR E es Es → findA (ceq P 6 kt) h k es i = some res →
    ∃ Res, FR E Es i res Res ∧ (Instr.findAsking kt KV Es i).run P w = .ok Res w ∧ ∀ r, Instr.findNow d KV Es i = some r → r = Res
  | [], _, i, res, .nil, hf => by
    cases hf
    exact ⟨none, .none, by simp [Instr.findAsking], fun r hr => by cases hr; rfl⟩
  | (a, v, born) :: es, _, i, res, .cons (K := A) (V := V) (Es := Es) _ ha hv ht, hf => by
    obtain ⟨b, hb, hf⟩ := ob_some' hf
    have heq : (Op.equal kt KV A).run P w = .ok b w := ceq_sound R 6 kt k a KV A b hk ha hb 9994
    have hnow : ∀ c, Instr.sameNow d KV A = some c → c = b := fun c hc => by
      have := sameNow_run (P := P) hU hc 9999 w
      rw [show Op.equal kt KV A = Op.equalIn (9999 + 1) kt KV A from rfl] at heq
      rw [heq] at this
      cases this; rfl
    cases b with
    | true =>
      cases hf
      refine ⟨some (i, V), .some (Nat.le_refl i) (K := A) (born := born) (by simp) hv, by simp [Instr.findAsking, heq], ?_⟩
      intro r hr
      simp only [Instr.findNow] at hr
      split at hr
      · cases hr; rfl
      · rename_i hs; have := hnow _ hs; cases this
      · cases hr
    | false =>
      obtain ⟨Res, h1, h2, h3⟩ := findA_sound R hU hk (i + 1) res ht hf
      refine ⟨Res, ?_, by simp [Instr.findAsking, heq, h2], ?_⟩
      · cases h1 with
        | none => exact .none
        | @some j v' K' V' born' hj hE hv =>
          refine .some (K := K') (born := born') (by omega) ?_ hv
          rw [show j - i = (j - (i + 1)) + 1 by omega, List.getElem?_cons_succ]
          exact hE
      · intro r hr
        simp only [Instr.findNow] at hr
        split at hr
        · rename_i hs; have := hnow _ hs; cases this
        · exact h3 r hr
        · cases hr

theorem findKey_sound (R : HR D base w0 E h nx w) {kt : TypeId} {d : TypeDesc} (hU : P.underlying kt = some d) {k : AV} {KV : Value} (hk : VR E k KV)
    {es : List (AV × AV × Nat)} {Es : List MapEntry} (res : Option (Nat × AV)) (he : EsR E es Es) (hf : findA (ceq P 6 kt) h k es 0 = some res) :
    ∃ Res, FR E Es 0 res Res ∧ (Instr.findKey kt KV Es).run P w = .ok Res w := by
  obtain ⟨Res, h1, h2, h3⟩ := findA_sound R hU hk 0 res he hf
  refine ⟨Res, h1, ?_⟩
  simp only [Instr.findKey, Sem.run_bind, run_under hU, Result.andThen_ok]
  cases hn : Instr.findNow d KV Es 0 with
  | none => exact h2
  | some r => simp [h3 r hn]

/-- a key that every map takes -/
theorem ckey_sound (w : World) : ∀ (d : Nat) (t : TypeId) (k : AV) (KV : Value) (em : Bool), VR E k KV → (ckey P d t).f k = true → ∀ m, (Instr.checkKey em (d + m) t KV).run P w = .ok () w
  | 0, _, _, _, _, _, hk => by cases hk
  | d + 1, t, k, KV, em, hv, hk => fun m => by
    have ih := ckey_sound w d
    rw [show d + 1 + m = (d + m) + 1 by omega]
    unfold ckey at hk
    cases hU : P.underlying t with
    | none => rw [hU] at hk; cases hk
    | some D' =>
      rw [hU] at hk
      cases D' with
      | struct fs =>
        cases k <;> first | cases hk | skip
        rename_i l
        cases hv with
        | agg hl =>
          rename_i L
          have hk : (ckeyF P (ckey P d) fs.toList).f l = true := hk
          simp only [Instr.checkKey, Sem.run_bind, run_under hU, Result.andThen_ok]
          rw [← Array.forIn_toList]
          generalize fs.toList = fs at *
          clear hU
          induction fs with
          | nil => simp
          | cons f fs ihf =>
            simp only [ckeyF] at hk
            simp only [List.forIn_cons, Sem.run_bind, Sem.run_ite]
            cases hn : f.name == "_" with
            | true =>
              rw [hn] at hk
              have hn := eq_of_beq hn
              have := ihf hk
              simp only [hn, ne_eq, not_true_eq_false, if_false, Sem.run_pure, Result.andThen_ok]
              exact this
            | false =>
              rw [hn] at hk
              have hn : f.name ≠ "_" := fun hh => by rw [hh] at hn; cases hn
              have hk : Option.rec (motive := fun _ => Bool) false (fun x => bc ((ckey P d f.type).f x) ((ckeyF P (ckey P d) fs).f l) false) ((cpart P f.type f.offset).f l) = true := hk
              cases hp : (cpart P f.type f.offset).f l with
              | none => rw [hp] at hk; cases hk
              | some x =>
                rw [hp] at hk
                have hk : bc ((ckey P d f.type).f x) ((ckeyF P (ckey P d) fs).f l) false = true := hk
                obtain ⟨X, hX, hrX⟩ := cpart_sound hp hl w
                cases h1 : (ckey P d f.type).f x with
                | false => rw [h1] at hk; cases hk
                | true =>
                  rw [h1] at hk
                  have h2 := ih f.type x X em hX h1 m
                  have h3 := ihf hk
                  simp only [if_pos hn, hrX, Result.andThen_ok, h2, Sem.run_pure]
                  exact h3
      | interface _ => cases hk
      | array _ _ => cases hk
      | _ => simp [Instr.checkKey, run_under hU]
end Go.Ax
