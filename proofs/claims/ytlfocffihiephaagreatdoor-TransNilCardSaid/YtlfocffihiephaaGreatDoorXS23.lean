/- Part of an abstract executor of the model's machine, and of its law (S23). -/
import Derived.Test.YtlfocffihiephaaGreatDoorXS22
namespace Go.Ax
open Go.RowKit (Below)
variable {P : Program} {D : Nat → Nat} {base : Nat} {w0 : World} {E : En} {h : H} {nx : Nat} {w : World}
variable {K : AV → H → Nat → O} {r : St} {mask : Nat} {names : List Tmp} {tm : Tm} {e : List AV} {ρ : Operand → Value} {o : Oper}

theorem args1 {c : Call} {x : Operand} (hc : c.args.toList = [x]) : c.args.map ρ = #[ρ x] := by
  rw [map_arr, hc]; rfl
theorem args2 {c : Call} {x y : Operand} (hc : c.args.toList = [x, y]) : c.args.map ρ = #[ρ x, ρ y] := by
  rw [map_arr, hc]; rfl
theorem mem_args {c : Call} {x : Operand} (hop : o.op = .call c) (hx : x ∈ c.args.toList) : x ∈ o.op.operands.toList := by
  rw [hop]
  simp only [Op.operands, Call.operands, Array.toList_append, List.mem_append]
  exact .inr hx

section
variable (R : HR D base w0 E h nx w) (ho : Ops E mask names tm e ρ o) (hr : (cop P mask names o).f tm e h nx K = some r)
include R ho hr

theorem cop_len {c : Call} (hop : o.op = .call c) (hc : c.callee = .builtin .len) : PuOk P E h nx w (execOp ρ o) K r := by
  simp only [cop, hop, hc] at hr
  split at hr
  · rename_i t x ht hx
    obtain ⟨n, hn, hk⟩ := ob_some' hr
    obtain ⟨cs, hex⟩ := exec_builtin (ρ := ρ) hop hc
    have h1 := ho x (mem_args hop (by rw [hx]; simp))
    refine .pure R hk (.int 3 _) ?_
    rw [hex, args1 hx]
    simp only [builtin, Sem.run_bind, clen_sound R ht h1 hn, Result.andThen_ok, Sem.run_pure]
    rfl
  · cases hr

theorem cop_cap {c : Call} (hop : o.op = .call c) (hc : c.callee = .builtin .cap) : OpOk P D base w0 E h nx w (execOp ρ o) K r := by
  simp only [cop, hop, hc] at hr
  split at hr
  · rename_i e' x ht hx
    obtain ⟨t, ht1, ht2⟩ := Option.bind_eq_some_iff.1 ht
    obtain ⟨cs, hex⟩ := exec_builtin (ρ := ρ) hop hc
    have h1 := ho x (mem_args hop (by rw [hx]; simp))
    generalize hρ : ρ x = C at h1
    rcases onSl_some hr with ⟨b, o', n, c', hv, hk⟩ | ⟨b, o', i, n, hv, hk⟩ | ⟨y, hv, hk⟩
    · rw [hv] at h1
      cases h1
      refine .pure R hk (.int 3 _) ?_
      rw [hex, args1 hx, hρ]
      simp [builtin, Builtin.cap_, ht1, run_under ht2, goInt, kd]
    · cases hk
    · replace hk := onNils_some hk
      obtain ⟨rfl, hk⟩ := hk
      rw [hv] at h1
      cases h1
      refine .pure R hk (.int 3 _) ?_
      rw [hex, args1 hx, hρ]
      simp [builtin, Builtin.cap_, ht1, run_under ht2, goInt, kd]
  · cases hr

theorem cop_minmax {c : Call} (mx : Bool) (hop : o.op = .call c) (hc : c.callee = .builtin (if mx then .max else .min)) : PuOk P E h nx w (execOp ρ o) K r := by
  have hr' : vres (minmax mx ((opds mask names c.args.toList).g tm e)) h nx K = some r := by
    cases mx <;> (simp only [Bool.false_eq_true, if_false, if_true] at hc; simp only [cop, hop, hc] at hr; exact hr)
  clear hr
  obtain ⟨v, hv, hk⟩ := vres_some hr'
  obtain ⟨cs, hex⟩ := exec_builtin (ρ := ρ) hop hc
  have hl := opds_sound (E := E) (mask := mask) (names := names) (tm := tm) (e := e) (ρ := ρ) c.args.toList (fun x hx => ho x (mem_args hop hx))
  generalize hL : (opds mask names c.args.toList).g tm e = l at *
  obtain ⟨x, t, rfl, hv⟩ := onList_some hv
  cases hargs : c.args.toList.map ρ with
  | nil => rw [hargs] at hl; cases hl
  | cons X T =>
    rw [hargs] at hl
    cases hl with
    | cons hx ht =>
      obtain ⟨V, hV, hrun⟩ := minmax_sound P w mx ht hx hv
      refine .pure R hk hV ?_
      rw [hex, map_arr, hargs]
      cases mx with
      | true => simp only [if_true] at hrun ⊢; simp only [builtin, Builtin.max_, Sem.run_bind, hrun, Result.andThen_ok, Sem.run_pure]
      | false => simp only [Bool.false_eq_true, if_false] at hrun ⊢; simp only [builtin, Builtin.min_, Sem.run_bind, hrun, Result.andThen_ok, Sem.run_pure]

theorem cop_append {c : Call} (hop : o.op = .call c) (hc : c.callee = .builtin .append) : OpOk P D base w0 E h nx w (execOp ρ o) K r := by
  obtain ⟨cs, hex⟩ := exec_builtin (ρ := ρ) hop hc
  simp only [cop, hop, hc] at hr
  split at hr
  · rename_i st xt s x hst hxt hargs
    have h1 := ho s (mem_args hop (by rw [hargs]; simp))
    have h2 := ho x (mem_args hop (by rw [hargs]; simp))
    have fin : ∀ {r : St}, VOk P D base w0 E h nx w (Builtin.append_ c.argTypes o.type #[ρ s, ρ x]) K r → OpOk P D base w0 E h nx w (execOp ρ o) K r := by
      intro r hv
      refine hv.op ?_
      rw [hex, args2 hargs]
      rfl
    have hts : ∀ args, Builtin.append_ c.argTypes o.type args = Builtin.append_ #[st, xt] o.type args := by
      intro args
      simp only [Builtin.append_, hst, hxt]
      rfl
    split at hr
    · rename_i t t' hU1 hU2
      cases hi : tinfo P t with
      | none => rw [hi] at hr; cases hr
      | some i =>
        rw [hi] at hr
        obtain ⟨I, hI, _, hsz, hby, _, hzz⟩ := tinfo_some hi
        simp only at hr
        cases hz : i.zero with
        | none => rw [hz] at hr; cases hr
        | some z =>
          rw [hz] at hr
          obtain ⟨Z, hZ, rfl, hok⟩ := hzz z hz
          simp only at hr
          rw [bc_ite] at hr
          split at hr
          · cases hr
          · rename_i hcond
            simp only [Bool.or_eq_true, Bool.not_eq_true', not_or, Bool.not_eq_true, Bool.not_eq_false] at hcond
            obtain ⟨⟨hb0, hs0⟩, hzl⟩ := hcond
            have hb0 := beq_ne hb0
            have hs0 := beq_ne hs0
            have hzl := beq_eq hzl
            rw [llen_eq, ← (ofVs_sound E hok).len] at hzl
            obtain ⟨m, hm, hr⟩ := ob_some' hr
            obtain ⟨new, hnew, hr⟩ := ob_some' hr
            obtain ⟨N, hN, hlen, hrunN⟩ := firstCells_sound (P := P) R h2 hm (Nat.le_refl _) hnew
            obtain ⟨a', q, hX⟩ := lenA_sound h2 hm
            refine fin ?_
            rw [hts, hX]
            rw [hX] at hrunN
            refine appendA_sound (Z := Z.cells) R h1 hN hlen (by rw [← hzl]; simp) ?_ ?_ hr
            · intro bs n c' w' hle hs hno
              exact run_app_place hU1 hU2 hI (by rw [← hsz]; exact hrunN w fun _ => rfl) hle (by rw [← hsz]; exact hs) hno
            · intro bs n c' O hO hgt hb
              exact run_app_grow hU1 hU2 hI hZ (by rw [← hsz]; exact hO) (by rw [← hsz]; exact hrunN w.drew fun _ => rfl) hgt (by rw [← hby]; exact hb0) (by rw [← hby]; exact hb)
    · rename_i t ik hU1 hU2
      cases hi : tinfo P t with
      | none => rw [hi] at hr; cases hr
      | some i =>
        rw [hi] at hr
        obtain ⟨I, hI, _, hsz, hby, _, hzz⟩ := tinfo_some hi
        simp only at hr
        cases hz : i.zero with
        | none => rw [hz] at hr; cases hr
        | some z =>
          rw [hz] at hr
          obtain ⟨Z, hZ, rfl, hok⟩ := hzz z hz
          simp only at hr
          rw [bc_ite] at hr
          split at hr
          · cases hr
          · rename_i hcond
            simp only [Bool.or_eq_true, Bool.not_eq_true', not_or, Bool.not_eq_true, Bool.not_eq_false] at hcond
            obtain ⟨⟨hb0, hs0⟩, hzl⟩ := hcond
            have hb0 := beq_ne hb0
            have hs0 := beq_ne hs0
            have hzl := beq_eq hzl
            rw [llen_eq, ← (ofVs_sound E hok).len] at hzl
            obtain ⟨k, m, hm, hr⟩ := onNat_some hr
            obtain ⟨hmb, hr⟩ := bc_some hr
            have hmb : m * i.bytes ≤ 1073741824 := ble_le hmb
            rw [hm] at h2
            generalize hX : ρ x = X at *
            cases h2
            have hN := zerosN_sound (ofVs_sound E hok) m
            have hzm := zeros_model Z.cells m
            have hZc : (Builtin.zeroCells Z.cells m).toList = (List.replicate m Z.cells.toList).flatten := by
              unfold Builtin.zeroCells; rw [hzm]
            have hZa : Builtin.zeroCells Z.cells m = ((List.replicate m Z.cells.toList).flatten).toArray := hzm
            refine fin ?_
            rw [hts]
            refine appendA_sound (Z := Z.cells) R h1 hN (by rw [← hZc, Array.length_toList, zeroCells_size, ← hzl]; simp) (by rw [← hzl]; simp) ?_ ?_ hr
            · intro bs n c' w' hle hs hno
              refine run_app_place0 hU1 hU2 hI hZ (by rw [← hsz]; exact hs0) (by rw [← hby]; exact hb0) (by rw [← hby]; exact hmb) hle ?_ hno
              rw [← hsz, hZc]; exact hs
            · intro bs n c' O hO hgt hb
              rw [← hZa]
              exact run_app_grow0 hU1 hU2 hI hZ (by rw [← hsz]; exact hs0) (by rw [← hsz]; exact hO) hgt (by rw [← hby]; exact hb0) (by rw [← hby]; exact hb)
    · cases hr
  · cases hr

theorem cop_copy {c : Call} (hop : o.op = .call c) (hc : c.callee = .builtin .copy) : OpOk P D base w0 E h nx w (execOp ρ o) K r := by
  obtain ⟨cs, hex⟩ := exec_builtin (ρ := ρ) hop hc
  simp only [cop, hop, hc] at hr
  split at hr
  · rename_i t d s ht hargs
    obtain ⟨dt, hdt, hU⟩ := Option.bind_eq_some_iff.1 ht
    have h1 := ho d (mem_args hop (by rw [hargs]; simp))
    have h2 := ho s (mem_args hop (by rw [hargs]; simp))
    cases hi : tinfo P t with
    | none => rw [hi] at hr; cases hr
    | some i =>
      rw [hi] at hr
      obtain ⟨I, hI, _, hsz, _, _, _⟩ := tinfo_some hi
      obtain ⟨n, hn, hr⟩ := ob_some' hr
      obtain ⟨m, hm, hr⟩ := ob_some' hr
      obtain ⟨l, hl, hr⟩ := ob_some' hr
      obtain ⟨a1, c1, hD⟩ := lenA_sound h1 hn
      obtain ⟨a2, c2, hS⟩ := lenA_sound h2 hm
      have hmin : bc (Nat.ble n m) n m = Nat.min m n := by
        rw [bc_ite]
        split
        · rename_i h; have := ble_le h; exact (Nat.min_eq_right this).symm
        · rename_i h
          have : m ≤ n := by
            rcases Nat.lt_or_ge n m with h1 | h1
            · exact absurd (Nat.ble_eq_true_of_le (Nat.le_of_lt h1)) h
            · exact h1
          exact (Nat.min_eq_left this).symm
      rw [hmin] at hl hr
      obtain ⟨L, hL, hlen, hrunL⟩ := firstCells_sound (P := P) R h2 hm (Nat.min_le_left _ _) hl
      have hrunL := hrunL w fun _ => rfl
      rw [hS] at hrunL
      rw [hD] at h1
      have fin : ∀ {w' : World}, (∀ a, a1 = some a → (storeCells a L).run P w = .ok () w') → (a1 = none → w' = w) → (execOp ρ o).run P w = .ok (.value (.int .i64 (Int.ofNat (Nat.min m n)))) w' := by
        intro w' hst hno
        rw [hex, args2 hargs, hD, hS]
        cases a1 with
        | none =>
          have := hno rfl
          subst this
          simp [builtin, Builtin.copy_, hdt, run_under hU, Builtin.lenOf, run_size hI, ← hsz, hrunL, goInt]
        | some a =>
          have := hst a rfl
          simp [builtin, Builtin.copy_, hdt, run_under hU, Builtin.lenOf, run_size hI, ← hsz, hrunL, goInt, this]
      rcases onSl_some hr with ⟨b, o', n', c', hv, hr⟩ | ⟨b, o', i', n', hv, hr⟩ | ⟨y, hv, hr⟩
      · obtain ⟨h', hst, hk⟩ := ob_some' hr
        rw [hv] at h1
        cases h1 with
        | sl _ _ _ he =>
          obtain ⟨w', hrun, hR, hother⟩ := storeB_sound R he hst hL
          refine .mem hR hk (.int 3 _) (fun k hk1 hk2 => hother k (fun hkb => by subst hkb; rw [he] at hk2; cases hk2)) (.inl ?_)
          exact fin (fun a ha => by cases ha; exact hrun P) (fun ha => nomatch ha)
      · obtain ⟨h', hst, hk⟩ := ob_some' hr
        rw [hv] at h1
        cases h1 with
        | slx _ _ _ he =>
          obtain ⟨w', hrun, hR, hother⟩ := storeB_sound R he hst hL
          refine .mem hR hk (.int 3 _) (fun k hk1 hk2 => hother k (fun hkb => by subst hkb; rw [he] at hk2; cases hk2)) (.inl ?_)
          exact fin (fun a ha => by cases ha; exact hrun P) (fun ha => nomatch ha)
      · replace hr := onNils_some hr
        obtain ⟨rfl, hk⟩ := hr
        rw [hv] at h1
        cases h1
        exact .pure R hk (.int 3 _) (fin (fun a ha => nomatch ha) (fun _ => rfl))
  · cases hr

omit R ho hr in
theorem EsR.del : ∀ {es : List (AV × AV × Nat)} {Es : List MapEntry} (j : Nat), EsR E es Es → EsR E (delAt es j) (Es.eraseIdx j)
  | _, _, j, .nil => by cases j <;> exact .nil
  | _, _, 0, .cons _ _ _ t => t
  | _, _, j + 1, .cons b h1 h2 t => by
    simp only [List.eraseIdx_cons_succ]
    exact .cons b h1 h2 (t.del j)

theorem cop_delete {c : Call} (hop : o.op = .call c) (hc : c.callee = .builtin .delete) : OpOk P D base w0 E h nx w (execOp ρ o) K r := by
  obtain ⟨cs, hex⟩ := exec_builtin (ρ := ρ) hop hc
  simp only [cop, hop, hc] at hr
  split at hr
  · rename_i kt vt m x ht hargs
    obtain ⟨mt, hmt, hU⟩ := Option.bind_eq_some_iff.1 ht
    have h1 := ho m (mem_args hop (by rw [hargs]; simp))
    have h2 := ho x (mem_args hop (by rw [hargs]; simp))
    replace hr := bc_some hr
    obtain ⟨hck, hr⟩ := hr
    have hck' : ∀ em, (Instr.checkKey em 10000 kt (ρ x)).run P w = .ok () w := fun em => ckey_sound w 6 kt _ _ em h2 hck 9994
    obtain ⟨dk, hkt⟩ := ckey_under hck
    generalize hρ : ρ m = C at *
    rcases onMap_some hr with ⟨hm, hk⟩ | ⟨b, hm, hr⟩
    · rw [hm] at h1
      cases h1
      refine .pure R hk (undef_sound E) ?_
      rw [hex, args2 hargs, hρ]
      simp [builtin, Builtin.delete_, hmt, run_under hU, hck', Go.undef]
    · rw [hm] at h1
      cases h1 with
      | map he =>
        obtain ⟨es, cl, hb, hr⟩ := onMapB_some hr
        obtain ⟨res, hf, hk⟩ := ob_some' hr
        obtain ⟨Es, hes, hobj⟩ := R.map he hb
        obtain ⟨Res, hFR, hfk⟩ := findKey_sound R hkt h2 res hes hf
        cases hFR with
        | none =>
          have R' := R.setMap he hb (cl' := cl) hes
          refine .mem R' hk (undef_sound E) (bput_other he) (.inl ?_)
          rw [hex, args2 hargs, hρ]
          simp [builtin, Builtin.delete_, hmt, run_under hU, getMap hobj, hck', hfk, setMap hobj, Go.undef]
        | @some j v K' V' born' hj hE hv =>
          have hdel := hes.del j
          have R' := R.setMap he hb (cl' := cl) hdel
          refine .mem R' hk (undef_sound E) (bput_other he) (.inl ?_)
          rw [hex, args2 hargs, hρ]
          have hlt : j < Es.length := by
            rcases Nat.lt_or_ge j Es.length with h1 | h1
            · exact h1
            · rw [List.getElem?_eq_none (by simpa using h1)] at hE; cases hE
          simp [builtin, Builtin.delete_, hmt, run_under hU, getMap hobj, hck', hfk, setMap hobj, Go.undef, Array.eraseIdxIfInBounds, hlt]
  · cases hr

/-- every operation -/
theorem cop_sound : OpOk P D base w0 E h nx w (execOp ρ o) K r := by
  cases hop : o.op with
  | move x => exact (cop_move R ho hr hop).op R
  | assign x => exact cop_assign R ho hr hop
  | pick c a b => exact (cop_pick R ho hr hop).op R
  | alloc t => exact (cop_alloc hr hop).op R
  | box t x => exact (cop_box ho hr hop).op R
  | build t ps => exact (cop_build R ho hr hop).op R
  | buildSlice t n ps => exact (cop_buildSlice ho hr hop).op R
  | load t x => exact (cop_load R ho hr hop).op R
  | store t a x => exact cop_store R ho hr hop
  | nilCheck x => exact (cop_nilCheck R ho hr hop).op R
  | binOp op t x y q => exact (cop_binOp R ho hr hop).op R
  | unOp op t x => exact (cop_unOp R ho hr hop).op R
  | convert s d x => exact (cop_convert R ho hr hop).op R
  | makeInterface t x => exact (cop_makeInterface R ho hr hop).op R
  | makeFunc f a c => exact (cop_makeFunc R ho hr hop).op R
  | makeMap t m => exact (cop_makeMap hr hop ho).op R
  | makeSlice t l c => exact (cop_makeSlice ho hr hop).op R
  | slice t x l hh m => exact (cop_slice R ho hr hop).op R
  | fieldAddr t x f => exact (cop_fieldAddr R ho hr hop).op R
  | field t x f => exact (cop_field R ho hr hop).op R
  | indexAddr t x i => exact (cop_indexAddr R ho hr hop).op R
  | index t x i => exact (cop_index R ho hr hop).op R
  | lookup t x i ok => exact (cop_lookup R ho hr hop).op R
  | mapUpdate t m k x => exact cop_mapUpdate R ho hr (.inl hop)
  | insert t m k x => exact cop_mapUpdate R ho hr (.inr hop)
  | mapEntry t m k => exact cop_mapEntry R ho hr hop
  | entryStore t m s x => exact cop_entryStore R ho hr hop
  | typeAssert x t a ok => exact (cop_typeAssert R ho hr hop).op R
  | extract x i => exact (cop_extract R ho hr hop).op R
  | call c =>
    cases hc : c.callee with
    | builtin b =>
      cases b with
      | len => exact (cop_len R ho hr hop hc).op R
      | cap => exact cop_cap R ho hr hop hc
      | min => exact (cop_minmax R ho hr false hop hc).op R
      | max => exact (cop_minmax R ho hr true hop hc).op R
      | append => exact cop_append R ho hr hop hc
      | copy => exact cop_copy R ho hr hop hc
      | delete => exact cop_delete R ho hr hop hc
      | _ => simp only [cop, hop, hc] at hr; cases hr
    | _ => simp only [cop, hop, hc] at hr; cases hr
  | _ => simp only [cop, hop] at hr; cases hr
end
end Go.Ax
