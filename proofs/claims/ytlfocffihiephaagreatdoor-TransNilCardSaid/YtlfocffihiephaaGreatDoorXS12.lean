/- Part of an abstract executor of the model's machine, and of its law (S12). -/
import Derived.Test.YtlfocffihiephaaGreatDoorXS11
namespace Go.Ax
open Go.RowKit (Below)
variable {P : Program} {D : Nat → Nat} {base : Nat} {w0 : World} {E : En} {h : H} {nx : Nat} {w : World}
variable {K : AV → H → Nat → O} {r : St} {mask : Nat} {names : List Tmp} {tm : Tm} {e : List AV} {ρ : Operand → Value} {o : Oper}

theorem VRL.of_get {E : En} : ∀ {l : List AV} {L : List Value}, L.length = l.length → (∀ (i : Nat) (v : AV), l[i]? = some v → ∃ V, L[i]? = some V ∧ VR E v V) → VRL E l L
  | [], [], _, _ => .nil
  | [], _ :: _, h, _ => by simp at h
  | _ :: _, [], h, _ => by simp at h
  | v :: l, V :: L, h, hg => by
    obtain ⟨V', h1, h2⟩ := hg 0 v rfl
    cases h1
    exact .cons h2 (VRL.of_get (by simpa using h) fun i u hu => by
      obtain ⟨U, h3, h4⟩ := hg (i + 1) u (by simpa using hu)
      exact ⟨U, by simpa using h3, h4⟩)

theorem put_model (off : Nat) : ∀ (vs : List Value) (j : Nat) (C : Array Value), off + j + vs.length ≤ C.size →
    ((vs.zipIdx j).foldl (fun cs (x : Value × Nat) => cs.setIfInBounds (off + x.2) x.1) C).size = C.size ∧
    ∀ i : Nat, ((vs.zipIdx j).foldl (fun cs (x : Value × Nat) => cs.setIfInBounds (off + x.2) x.1) C)[i]? = if off + j ≤ i ∧ i < off + j + vs.length then vs[i - (off + j)]? else C[i]?
  | [], j, C, _ => ⟨rfl, fun i => by rw [if_neg (by simp)]; rfl⟩
  | v :: vs, j, C, hb => by
    simp only [List.length_cons] at hb
    obtain ⟨h1, h2⟩ := put_model off vs (j + 1) (C.setIfInBounds (off + j) v) (by simp; omega)
    simp only [List.zipIdx_cons, List.foldl_cons]
    refine ⟨by rw [h1]; simp, fun i => ?_⟩
    rw [h2 i]
    by_cases hi : off + j = i
    · rw [if_neg (by omega), if_pos (by simp; omega)]
      subst hi
      rw [Array.getElem?_setIfInBounds_self]
      simp; omega
    · by_cases hlt : off + (j + 1) ≤ i ∧ i < off + (j + 1) + vs.length
      · rw [if_pos hlt, if_pos (by simp; omega)]
        rw [show i - (off + j) = (i - (off + (j + 1))) + 1 by omega, List.getElem?_cons_succ]
      · rw [if_neg hlt, if_neg (by simp; omega), Array.getElem?_setIfInBounds_ne hi]

theorem put_sound {E : En} {cells vs : List AV} {C : Array Value} {V : Value} {off : Nat} (hc : VRL E cells C.toList) (hv : VRL E vs V.cells.toList) (hb : off + vs.length ≤ cells.length) :
    VRL E (lput off vs cells) (V.cells.zipIdx.foldl (fun cs (x : Value × Nat) => cs.setIfInBounds (off + x.2) x.1) C).toList := by
  have hcl := hc.len
  have hvl := hv.len
  have hpm := put_model off V.cells.toList 0 C (by rw [hvl]; simp at hcl; omega)
  rw [show (V.cells.zipIdx.foldl (fun cs (x : Value × Nat) => cs.setIfInBounds (off + x.2) x.1) C) =
    ((V.cells.toList.zipIdx 0).foldl (fun cs (x : Value × Nat) => cs.setIfInBounds (off + x.2) x.1) C) by rw [← Array.foldl_toList, Array.toList_zipIdx]]
  refine VRL.of_get ?_ fun i v hi => ?_
  · rw [lput_len _ _ _ (by omega)]
    have := hpm.1
    simp at this hcl ⊢
    omega
  · rw [lput_get _ _ _ (by omega)] at hi
    rw [Array.getElem?_toList, hpm.2 i, hvl]
    simp only [Nat.add_zero]
    split at hi
    · rename_i hx
      rw [if_pos hx]
      exact hv.get _ v hi
    · rename_i hx
      rw [if_neg hx]
      obtain ⟨U, h1, h2⟩ := hc.get i v hi
      exact ⟨U, by simpa using h1, h2⟩

theorem cfill_sound {place : Nat → Option (Nat × Nat)} {n : Nat} {Kf : List AV → O} : ∀ (ps : List (Nat × Operand)) (cells : List AV) (C : Array Value),
    VRL E cells C.toList → cells.length = n → (∀ p ∈ ps, VR E ((opd mask names p.2).g tm e) (ρ p.2)) → (cfill mask names place n ps).f tm e cells Kf = some r →
    ∃ l C', Kf l = some r ∧ VRL E l C'.toList ∧ l.length = n ∧ Instr.fill place C (ps.map fun p => (p.1, ρ p.2)) = some C'
  | [], cells, C, hc, hn, _, hr => ⟨cells, C, hr, hc, hn, rfl⟩
  | (i, x) :: ps, cells, C, hc, hn, hp, hr => by
    have hx : VR E ((opd mask names x).g tm e) (ρ x) := hp (i, x) (by simp)
    simp only [cfill] at hr
    cases hpl : place i with
    | none => rw [hpl] at hr; cases hr
    | some p =>
      obtain ⟨po, sz⟩ := p
      rw [hpl] at hr
      simp only at hr
      have hv := acells_sound hx
      -- either way the cells of the part are laid
      have key : po + sz ≤ n ∧ (acells ((opd mask names x).g tm e)).length = sz ∧ (cfill mask names place n ps).f tm e (lput po (acells ((opd mask names x).g tm e)) cells) Kf = some r := by
        cases hle : Nat.ble (Nat.add po sz) n with
        | false => rw [hle] at hr; cases hr
        | true =>
          rw [hle] at hr
          have hle : po + sz ≤ n := Nat.le_of_ble_eq_true hle
          cases h1 : Nat.beq sz 1 with
          | true =>
            rw [h1] at hr
            have h1 := Nat.eq_of_beq_eq_true h1
            have hr : onAgg ((opd mask names x).g tm e) ((cfill mask names place n ps).f tm e (lput po [(opd mask names x).g tm e] cells) Kf) (fun l => bc (Nat.beq (llen l) 1) ((cfill mask names place n ps).f tm e (lput po l cells) Kf) none) = some r := hr
            generalize (opd mask names x).g tm e = v at *
            cases v <;> first | exact ⟨hle, h1.symm, hr⟩ | skip
            rename_i l
            obtain ⟨h2, h3⟩ := bc_some hr
            have h2 := Nat.eq_of_beq_eq_true h2
            rw [llen_eq] at h2
            exact ⟨hle, by rw [h1]; exact h2, h3⟩
          | false =>
            rw [h1] at hr
            obtain ⟨h2, h3⟩ := bc_some (c := Nat.beq (llen (acells ((opd mask names x).g tm e))) sz) hr
            have h2 := Nat.eq_of_beq_eq_true h2
            rw [llen_eq] at h2
            exact ⟨hle, h2, h3⟩
      obtain ⟨hle, hlen, hk⟩ := key
      have hput := put_sound (off := po) hc hv (by omega)
      have hl2 : (lput po (acells ((opd mask names x).g tm e)) cells).length = n := by rw [lput_len _ _ _ (by omega)]; omega
      obtain ⟨l, C', h1, h2, h3, h4⟩ := cfill_sound ps _ _ hput hl2 (fun p hp' => hp p (by simp [hp'])) hk
      refine ⟨l, C', h1, h2, h3, ?_⟩
      have e1 : (ρ x).cells.size = sz := by have := hv.len; rw [hlen] at this; simpa using this
      have e2 : C.size = n := by have := hc.len; rw [hn] at this; simpa using this
      simp only [List.map_cons, Instr.fill, hpl]
      rw [if_neg (by simp [e1, e2]; omega)]
      exact h4

/-- the places of a struct's fields -/
theorem run_places (P : Program) (w : World) : ∀ (fs : List Field), fs.all (fun f => (tinfo P f.type).isSome) = true →
    (fs.mapM (m := Sem) fun f => do pure (f.offset, ← sizeOf f.type)).run P w = .ok (fs.map fun f => (f.offset, ((tinfo P f.type).map (·.size)).getD 0)) w
  | [], _ => by simp
  | f :: fs, h => by
    simp only [List.all_cons, Bool.and_eq_true] at h
    obtain ⟨i, hi⟩ := Option.isSome_iff_exists.1 h.1
    obtain ⟨I, hI, _, hsz, _, _, _⟩ := tinfo_some hi
    have ih := run_places P w fs h.2
    simp only [List.mapM_cons, Sem.run_bind, run_size hI, Result.andThen_ok, Sem.run_pure, ih, List.map_cons, hi]
    rw [← hsz]
    rfl

section
variable (R : HR D base w0 E h nx w) (ho : Ops E mask names tm e ρ o) (hr : (cop P mask names o).f tm e h nx K = some r)
include R ho hr

theorem cop_build {t : TypeId} {ps : Array (Nat × Operand)} (hop : o.op = .build t ps) : PuOk P E h nx w (execOp ρ o) K r := by
  have hps : ∀ p ∈ ps.toList, VR E ((opd mask names p.2).g tm e) (ρ p.2) := fun p hp => ho p.2 (by
    simp only [hop, Op.operands, List.mem_map]
    exact ⟨p, hp, rfl⟩)
  simp only [cop, hop] at hr
  cases hi : tinfo P t with
  | none => rw [hi] at hr; cases hr
  | some i =>
    rw [hi] at hr
    obtain ⟨I, hI, hU, _, _, _, h6⟩ := tinfo_some hi
    simp only at hr
    cases hz : i.zero with
    | none => simp only [hz] at hr; cases hr
    | some z =>
      simp only [hz] at hr
      obtain ⟨Z, hZ, rfl, hok⟩ := h6 z hz
      have hls := ofVs_sound E hok
      have hzv : ∀ w, (zeroValue t).run P w = .ok Z w := fun w => by simp [zeroValue, run_info hI, hZ]
      have hparts : (ps.map fun (p : Nat × Operand) => (p.1, ρ p.2)).toList = ps.toList.map fun p => (p.1, ρ p.2) := by simp
      generalize hd : i.desc = d at *
      cases d with
      | struct fs =>
        simp only at hr
        rw [bc_ite] at hr
        split at hr
        · rename_i hall
          obtain ⟨l, C, hk, hl, _, hfill⟩ := cfill_sound ps.toList _ Z.cells hls (by rw [llen_eq]) hps hr
          refine .pure R hk (.agg hl) ?_
          have hpl := run_places P w fs.toList hall
          have : (fs.mapM (m := Sem) fun f => do pure (f.offset, ← sizeOf f.type)).run P w = .ok ((fs.toList.map fun f => (f.offset, ((tinfo P f.type).map (·.size)).getD 0)).toArray) w := by
            rw [Array.mapM_eq_mapM_toList]
            simp only [map_eq_pure_bind, Sem.run_bind, hpl, Result.andThen_ok, Sem.run_pure]
          simp only [execOp, hop, Instr.build, Sem.run_bind, hzv, Result.andThen_ok, run_under hU, this, Sem.run_pure]
          have hfill' : Instr.fill (fun i => (fs.toList.map fun f => (f.offset, ((tinfo P f.type).map (·.size)).getD 0)).toArray[i]?) Z.cells ((ps.map fun (p : Nat × Operand) => (p.1, ρ p.2)).toList) = some C := by
            rw [hparts]; simpa using hfill
          simp only [hfill', Sem.run_pure, Result.andThen_ok]
        · cases hr
      | array n t' =>
        simp only at hr
        cases hei : tinfo P t' with
        | none => rw [hei] at hr; cases hr
        | some ei =>
          rw [hei] at hr
          obtain ⟨EI, hEI, _, hesz, _, _, _⟩ := tinfo_some hei
          obtain ⟨l, C, hk, hl, _, hfill⟩ := cfill_sound ps.toList _ Z.cells hls (by rw [llen_eq]) hps hr
          refine .pure R hk (.agg hl) ?_
          have hfill' : Instr.fill (fun i => some (i * EI.size, EI.size)) Z.cells ((ps.map fun (p : Nat × Operand) => (p.1, ρ p.2)).toList) = some C := by
            rw [hparts, ← hesz]; exact hfill
          simp only [execOp, hop, Instr.build, Sem.run_bind, hzv, Result.andThen_ok, run_under hU, run_size hEI, hfill', Sem.run_pure]
      | _ => cases hr

omit R in
theorem cop_buildSlice {t : TypeId} {len : Nat} {ps : Array (Nat × Operand)} (hop : o.op = .buildSlice t len ps) : MkOk P D E h nx w (execOp ρ o) K r := by
  have hps : ∀ p ∈ ps.toList, VR E ((opd mask names p.2).g tm e) (ρ p.2) := fun p hp => ho p.2 (by
    simp only [hop, Op.operands, List.mem_map]
    exact ⟨p, hp, rfl⟩)
  simp only [cop, hop] at hr
  cases hU : P.underlying t with
  | none => rw [hU] at hr; cases hr
  | some d =>
    rw [hU] at hr
    cases d with
    | slice t' =>
      simp only at hr
      cases hi : tinfo P t' with
      | none => rw [hi] at hr; cases hr
      | some i =>
        rw [hi] at hr
        obtain ⟨I, hI, _, hsz, _, _, h6⟩ := tinfo_some hi
        simp only at hr
        cases hz : i.zero with
        | none => simp only [hz] at hr; cases hr
        | some z =>
          simp only [hz] at hr
          obtain ⟨Z, hZ, rfl, hok⟩ := h6 z hz
          have hls := ofVs_sound E hok
          have hparts : (ps.map fun (p : Nat × Operand) => (p.1, ρ p.2)).toList = ps.toList.map fun p => (p.1, ρ p.2) := by simp
          rw [bc_ite] at hr
          split at hr
          · rename_i hc
            rw [Bool.and_eq_true] at hc
            have hle : len * i.size ≤ 16777216 := Nat.le_of_ble_eq_true hc.1
            have hzl := Nat.eq_of_beq_eq_true hc.2
            rw [llen_eq] at hzl
            have hZl : Z.cells.size = i.size := by rw [← hzl, ← hls.len]; simp
            have hzs := zerosN_sound hls len
            have hlen : (zerosN (ofVs Z) len).length = Nat.mul len i.size := by rw [zerosN_len, hzl]; rfl
            obtain ⟨l, C, hk, hl, hln, hfill⟩ := cfill_sound ps.toList _ ((List.replicate len Z.cells.toList).flatten).toArray hzs hlen hps hr
            refine .new (q := 0) (ob := .cells C t' (0, 0)) hk ?_ (fun _ _ hb => .sl 0 len len hb) ?_
            · have := RowR.mk (n := Nat.mul len i.size) hl
              refine .cells t' t' ?_ ?_ (by simpa using this)
              · have := hl.len; rw [hln] at this; simpa using this
              · intro xs hxs
                unfold rmk at hxs
                rw [bc_ite] at hxs
                split at hxs
                · cases hxs; exact hln
                · cases hxs
            · have hfill' : Instr.fill (fun i => some (i * I.size, I.size)) ((List.replicate len Z.cells.toList).flatten).toArray ((ps.map fun (p : Nat × Operand) => (p.1, ρ p.2)).toList) = some C := by
                rw [hparts, ← hsz]; exact hfill
              have hle' : ¬ (len * I.size > 2 ^ 24) := by rw [← hsz]; simp; omega
              have hz0 : ((List.replicate len Z.cells.toList).flatten).toArray = (Array.range (len * I.size)).map (fun i => Z.cells[i % Z.cells.size]!) := by
                rw [← zeros_model, hZl, hsz]
              by_cases h0 : len * I.size = 0
              · have hz1 : ((List.replicate len Z.cells.toList).flatten).toArray = (Array.range (len * I.size)).map (fun i => (#[] : Array Value)[i % (#[] : Array Value).size]!) := by
                  rw [hz0, h0]; simp
                rw [hz1] at hfill'
                simp only [execOp, hop, Instr.buildSlice, Sem.run_bind, Result.andThen_ok, run_under hU, run_size hI, if_neg hle', if_pos h0, Sem.run_pure, hfill', newRow]
                simp
              · rw [hz0] at hfill'
                simp only [execOp, hop, Instr.buildSlice, Sem.run_bind, Result.andThen_ok, run_under hU, run_size hI, if_neg hle', if_neg h0, Sem.run_pure, zeroValue, run_info hI, hZ, hfill', newRow]
                simp
          · cases hr
    | _ => cases hr
end
end Go.Ax
