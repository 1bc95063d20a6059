/- Part of an abstract executor of the model's machine, and of its law (S22). -/
import Derived.Test.YtlfocffihiephaaGreatDoorXS21
namespace Go.Ax
open Go.RowKit (Below)
variable {P : Program} {D : Nat → Nat} {base : Nat} {w0 : World} {E : En} {h : H} {nx : Nat} {w : World}
variable {K : AV → H → Nat → O} {r : St} {mask : Nat} {names : List Tmp} {tm : Tm} {e : List AV} {ρ : Operand → Value} {o : Oper}

/-- a block goes on under a new name -/
theorem HR.alias (R : HR D base w0 E h nx w) {b c q : Nat} {ab ab' : AB} {O : Obj} {w' : World} (hn : nx < 262143) (e : E.m b = some (c, q)) (hb : bget b h = some ab)
    (br : BR D E q ab' O) (u : Upd w c O w') : HR D base w0 (E.put nx (c, q)) (bput nx (some ab') (bput b none h)) (nx + 1) w' := by
  have hf := R.fresh nx (Nat.le_refl _)
  have hle := E.put_le (c, q) hf
  have hlt := R.lt e
  have hc := (R.get e hb).1
  have hold : ∀ k, k ≠ nx → (E.put nx (c, q)).m k = E.m k := fun k hk => by show (if k = nx then _ else E.m k) = _; rw [if_neg hk]
  have hget : ∀ k, bget k (bput nx (some ab') (bput b none h)) = if k = nx then some ab' else if k = b then none else bget k h := fun k => by
    rw [bget_put]
    by_cases hk : k = nx
    · subst hk; rw [if_pos ⟨rfl, by omega⟩, if_pos rfl]
    · rw [if_neg (fun (x : k = nx ∧ k < 262144) => hk x.1), if_neg hk, bget_put]
      by_cases hkb : k = b
      · subst hkb; rw [if_pos ⟨rfl, by omega⟩, if_pos rfl]
      · rw [if_neg (fun (x : k = b ∧ k < 262144) => hkb x.1), if_neg hkb]
  refine ⟨by omega, ?_, ?_, ?_, ?_, ?_, by rw [u.size]; exact R.bsz, fun k hk => by rw [hget, if_neg (by omega), if_neg (by omega)]; exact R.top k (by omega)⟩
  · intro b' hb'; rw [hold b' (by omega)]; exact R.fresh b' (by omega)
  · intro b' c' q' hb'
    rw [u.size]
    by_cases hk : b' = nx
    · subst hk; rw [En.put_at] at hb'; cases hb'; exact R.size b c q e
    · rw [hold b' hk] at hb'; exact R.size b' c' q' hb'
  · intro b' xb c' q' hb' hx hE
    rw [hget] at hx
    split at hx
    · rename_i hk; subst hk
      rw [En.put_at] at hE
      cases hE; cases hx
      exact ⟨hc, O, u.at_, br.mono hle⟩
    · rename_i hk
      split at hx
      · cases hx
      · rename_i hkb
        rw [hold b' hk] at hE
        obtain ⟨h1, o, ho, hbr⟩ := R.live b' xb c' q' (by omega) hx hE
        have hne : c' ≠ c := fun hcc => hkb (R.inj b' b c q' q (by omega) hlt (by rw [hx]; rfl) (by rw [hb]; rfl) (hcc ▸ hE) e)
        exact ⟨h1, o, by rw [u.else_ c' hne]; exact ho, hbr.mono hle⟩
  · have key : ∀ b1 c1 q1, b1 ≠ nx → b1 < nx + 1 → (bget b1 (bput nx (some ab') (bput b none h))).isSome → E.m b1 = some (c1, q1) → c1 ≠ c := by
      intro b1 c1 q1 hk h1 hs e1 hcc
      rw [hget, if_neg hk] at hs
      split at hs
      · cases hs
      · rename_i hkb
        exact hkb (R.inj b1 b c q1 q (by omega) hlt hs (by rw [hb]; rfl) (hcc ▸ e1) e)
    intro b1 b2 c' q1 q2 h1 h2 s1 s2 e1 e2
    by_cases hk1 : b1 = nx
    · by_cases hk2 : b2 = nx
      · omega
      · rw [hk1, En.put_at] at e1; cases e1
        rw [hold b2 hk2] at e2
        exact absurd rfl (key b2 _ _ hk2 h2 s2 e2)
    · by_cases hk2 : b2 = nx
      · rw [hk2, En.put_at] at e2; cases e2
        rw [hold b1 hk1] at e1
        exact absurd rfl (key b1 _ _ hk1 h1 s1 e1)
      · rw [hold b1 hk1] at e1; rw [hold b2 hk2] at e2
        rw [hget, if_neg hk1] at s1; rw [hget, if_neg hk2] at s2
        split at s1
        · cases s1
        · split at s2
          · cases s2
          · exact R.inj b1 b2 c' q1 q2 (by omega) (by omega) s1 s2 e1 e2
  · exact R.below.trans ⟨u.os, u.tape, u.output, Nat.le_of_eq u.size.symm, fun k hk => u.else_ k (by omega)⟩

/-- a value is come to -/
def VOk (P : Program) (D : Nat → Nat) (base : Nat) (w0 : World) (E : En) (h : H) (nx : Nat) (w : World) (s : Sem Value) (K : AV → H → Nat → O) (r : St) : Prop :=
  ∃ v V h' nx' E' w', K v h' nx' = some r ∧ En.le nx E E' ∧ nx ≤ nx' ∧ VR E' v V ∧ HR D base w0 E' h' nx' w' ∧ (∀ b, b < nx → E.m b = none → bget b h' = bget b h) ∧
    s.run P w = .ok V w'
theorem VOk.op {s : Sem Value} {s' : Sem Next} (hv : VOk P D base w0 E h nx w s K r) (hs : s' = (do pure (.value (← s)))) : OpOk P D base w0 E h nx w s' K r := by
  obtain ⟨v, V, h', nx', E', w', h1, h2, h3, h4, h5, h6, h7⟩ := hv
  refine ⟨v, V, h', nx', E', w', h1, h2, h3, h4, h5, h6, .inl ?_⟩
  subst hs
  simp [h7]

theorem grownCap_le (w : World) {need old : Nat} {e : TypeId} : need ≤ grownCap w need old e := by
  simp only [grownCap, Question.cut]; omega

theorem zeroCells_size (Z : Array Value) (n : Nat) : (Builtin.zeroCells Z n).size = n * Z.size := by simp [Builtin.zeroCells]

/-- the row that a growing append makes -/
theorem grow_row {q n m sz k : Nat} {x : Row} {t t' : TypeId} {O N : List Value} {Z : Array Value} (hO : O.length = n * sz) (hN : N.length = m * sz) (hZ : Z.size = sz) (hq : n + m ≤ q) (hk : k = n + m)
    (hx : ∀ i v, rget x i = some v → i < (n + m) * sz ∧ ∃ V, (O ++ N)[i]? = some V ∧ VR E v V) :
    BR D E q (.grow x t sz k) (.cells (O.toArray ++ N.toArray ++ Builtin.zeroCells Z (q - (n + m))) t' (0, 0)) := by
  subst hk
  refine .grow t t' ?_ hq ?_ (fun i v hv => (hx i v hv).1)
  · simp only [Array.size_append, List.size_toArray, zeroCells_size, hO, hN, hZ]
    rw [← Nat.add_mul, ← Nat.add_mul, Nat.add_sub_cancel' hq]
  · intro i v hv
    obtain ⟨hi, V, hV, hr⟩ := hx i v hv
    refine ⟨V, ?_, hr⟩
    have hi2 : i < (O ++ N).length := by rw [List.length_append, hO, hN, ← Nat.add_mul]; exact hi
    have h1 : (O.toArray ++ N.toArray)[i]? = some V := by simpa using hV
    have h2 : i < (O.toArray ++ N.toArray).size := by simpa using hi2
    rw [Array.getElem?_append_left h2]
    exact h1

theorem appendA_sound (R : HR D base w0 E h nx w) {ty t : TypeId} {ts : Array TypeId} {sz bytes m : Nat} {s : AV} {S X : Value} {new : List AV} {N : List Value} {Z : Array Value}
    (hs : VR E s S) (hnew : VRL E new N) (hN : N.length = m * sz) (hZ : Z.size = sz)
    (hplace : ∀ bs n c w', n + m ≤ c → (∀ a, bs = some a → (storeCells (a.add (n * sz)) N).run P w = .ok () w') → (bs = none → w' = w) →
      (Builtin.append_ ts ty #[.slice bs n c, X]).run P w = .ok (.slice bs (n + m) c) w')
    (hgrow : ∀ bs n c O, (Builtin.firstCells sz n (.slice bs n c)).run P w.drew = .ok (List.toArray O) w.drew → c < n + m → (n + m) * bytes ≤ 1073741824 →
      (Builtin.append_ ts ty #[.slice bs n c, X]).run P w = .ok (.slice (some ⟨w.heap.size, 0, none⟩) (n + m) (grownCap w (n + m) c t))
        (w.drew.alloc (.cells (O.toArray ++ N.toArray ++ Builtin.zeroCells Z (grownCap w (n + m) c t - (n + m))) t)))
    (hr : appendA h nx t sz bytes s m new K = some r) : VOk P D base w0 E h nx w (Builtin.append_ ts ty #[S, X]) K r := by
  have hnl := hnew.len
  replace hr := onSl_some hr
  rcases hr with ⟨b, o, n, c, rfl, hr⟩ | ⟨b, o, i, n, rfl, hr⟩ | ⟨y, rfl, hr⟩
  · cases hs with
    | @sl _ C q _ _ _ he =>
      rw [bc_ite] at hr
      split at hr
      · rename_i hle
        have hle : n + m ≤ c := ble_le hle
        obtain ⟨h', hst, hk⟩ := ob_some' hr
        obtain ⟨w', hrun, hR, hother⟩ := storeB_sound R he hst hnew
        refine ⟨_, _, h', nx, E, w', hk, .refl _ _, Nat.le_refl _, .sl _ _ _ he, hR, fun k hk1 hk2 => hother k (fun hkb => by subst hkb; rw [he] at hk2; cases hk2), ?_⟩
        refine hplace _ _ _ _ hle (fun a ha => ?_) (fun ha => nomatch ha)
        cases ha
        rw [add_lit]
        exact hrun P
      · rename_i hle
        have hle : c < n + m := by
          rcases Nat.lt_or_ge c (n + m) with h1 | h1
          · exact h1
          · exact absurd (Nat.ble_eq_true_of_le h1) hle
        obtain ⟨hby, hr⟩ := bc_some hr
        have hby : (n + m) * bytes ≤ 1073741824 := ble_le hby
        obtain ⟨old, hold, hr⟩ := ob_some' hr
        obtain ⟨hlt, hk⟩ := newB_some hr
        obtain ⟨L, hL, hlen, hlies⟩ := loadB_sound R he hold
        have hq := grownCap_le w (need := n + m) (old := c) (e := t)
        have hrun := hgrow (some ⟨C, o, none⟩) n c L (run_firstCells_some w.drew sz n _ n c L hlen (fun j v hj => hlies j v hj)) hle hby
        refine ⟨_, _, _, _, _, _, hk, E.put_le _ (R.fresh nx (Nat.le_refl _)), by omega, .slx 0 0 _ (E.put_at nx _),
          R.drew.alloc (q := grownCap w (n + m) c t) hlt (grow_row (t := t) hlen hN hZ hq rfl ?_), ?_, hrun⟩
        · intro i v hv
          have hv := rmk_get i v hv
          rw [app_eq] at hv
          obtain ⟨V, hV, hr⟩ := (hL.append hnew).get i v hv
          refine ⟨?_, V, hV, hr⟩
          have : i < (L ++ N).length := by
            rcases Nat.lt_or_ge i (L ++ N).length with h1 | h1
            · exact h1
            · rw [List.getElem?_eq_none h1] at hV; cases hV
          rw [List.length_append, hlen, hN] at this
          rw [Nat.add_mul]
          exact this
        · intro b' hb' _
          rw [bget_put, if_neg (fun (z : b' = nx ∧ b' < 262144) => by omega)]
  · cases hs with
    | @slx _ C q _ _ _ he =>
      rcases onCells_some hr with ⟨x, e', k, hb, hg⟩ | ⟨x, e', sz', k, hb, hg⟩
      · cases hg
      · clear hr
        replace hg := bc_some hg
        obtain ⟨hsz, hg⟩ := hg
        replace hsz := beq_eq hsz
        subst hsz
        obtain ⟨hbase, ob, ho, br⟩ := R.get he hb
        cases br with
        | grow _ e'' hsize hkq hrow hbd =>
          rename_i cur
          rw [bc_ite] at hg
          split at hg
          · rename_i hle
            have hle : i + (n + m) ≤ k := ble_le hle
            obtain ⟨h', hst, hk⟩ := ob_some' hg
            obtain ⟨w', hrun, hR, hother⟩ := storeB_sound R he hst hnew
            refine ⟨_, _, h', nx, E, w', hk, .refl _ _, Nat.le_refl _, .slx _ _ _ he, hR, fun k hk1 hk2 => hother k (fun hkb => by subst hkb; rw [he] at hk2; cases hk2), ?_⟩
            refine hplace _ _ _ _ (by omega) (fun a ha => ?_) (fun ha => nomatch ha)
            cases ha
            rw [add_lit]
            exact hrun P
          · rename_i hle
            have hle : k < i + (n + m) := by
              rcases Nat.lt_or_ge k (i + (n + m)) with h1 | h1
              · exact h1
              · exact absurd (Nat.ble_eq_true_of_le h1) hle
            replace hg := bc_some hg
            obtain ⟨hz, hg⟩ := hg
            replace hg := bc_some hg
            obtain ⟨hby, hg⟩ := hg
            have hby : (n + m) * bytes ≤ 1073741824 := ble_le hby
            replace hg := bc_some hg
            obtain ⟨hone, hg⟩ := hg
            obtain ⟨hlt, hk⟩ := newB_some hg
            clear hg
            have hz' : band (band (Nat.beq i 0) (Nat.beq o 0)) (Nat.ble n k) = true := hz
            have hi0 : i = 0 ∧ o = 0 ∧ n ≤ k := by
              cases h1 : Nat.beq i 0 with
              | false => rw [h1] at hz'; cases hz'
              | true =>
                cases h2 : Nat.beq o 0 with
                | false => rw [h1, h2] at hz'; cases hz'
                | true => rw [h1, h2] at hz'; exact ⟨beq_eq h1, beq_eq h2, ble_le hz'⟩
            obtain ⟨rfl, rfl, hnk⟩ := hi0
            have hone := allOne_sound hone hnew
            have hnks : n * sz ≤ q * sz := Nat.mul_le_mul_right _ (by omega)
            have hkle : k * sz ≤ (n + m) * sz := Nat.mul_le_mul_right _ (by omega)
            have hsum : (n + m) * sz = n * sz + m * sz := Nat.add_mul _ _ _
            -- what the new row holds
            have hcells : ∀ i v, rget (rput (rgrow x (Nat.mul (Nat.add n m) sz)) (Nat.mul n sz) new) i = some v →
                (n * sz ≤ i ∧ i < (n + m) * sz ∧ ∃ V, N[i - n * sz]? = some V ∧ VR E v V) ∨ (i < n * sz ∧ ∃ V, cur[i]? = some V ∧ VR E v V) := by
              intro i v hv
              rcases rput_get i v hv with ⟨h1, h2, h3⟩ | ⟨h1, h2⟩
              · refine .inl ⟨h1, ?_, ?_⟩
                · have : Nat.mul n sz = n * sz := rfl
                  omega
                · obtain ⟨V, hV, hvr⟩ := hnew.get _ _ h3
                  exact ⟨V, hV, hvr⟩
              · have h2 := rgrow_get i v h2
                have h3 := hbd i v h2
                have : Nat.mul n sz = n * sz := rfl
                exact .inr ⟨by omega, hrow i v h2⟩
            by_cases hcap : n + m ≤ q
            · -- in place
              have hcs : (n + m) * sz ≤ q * sz := Nat.mul_le_mul_right _ hcap
              have hfit : n * sz + N.length ≤ cur.size := by omega
              have u := setRow_upd (cs := over cur (n * sz) N) ho
              have br' : BR D E q (.grow (rput (rgrow x (Nat.mul (Nat.add n m) sz)) (Nat.mul n sz) new) e' sz (n + m)) (.cells (over cur (n * sz) N) e'' (0, 0)) := by
                refine .grow _ _ (by rw [over_size hfit]; exact hsize) hcap ?_ ?_
                · intro i v hv
                  rw [over_get hfit]
                  rcases hcells i v hv with ⟨h1, h2, V, hV, hvr⟩ | ⟨h1, V, hV, hvr⟩
                  · rw [if_pos ⟨h1, by omega⟩]; exact ⟨V, hV, hvr⟩
                  · rw [if_neg (by omega)]; exact ⟨V, hV, hvr⟩
                · intro i v hv
                  rcases hcells i v hv with ⟨h1, h2, _⟩ | ⟨h1, _⟩ <;> omega
              refine ⟨_, _, _, _, _, _, hk, E.put_le _ (R.fresh nx (Nat.le_refl _)), by omega, .slx 0 0 _ (E.put_at nx _), R.alias hlt he hb br' u, ?_, ?_⟩
              · intro b' hb' hn'
                rw [bget_put, if_neg (fun (z : b' = nx ∧ b' < 262144) => by omega), bget_put, if_neg]
                rintro ⟨rfl, _⟩
                rw [he] at hn'; cases hn'
              · refine hplace _ _ _ _ (by omega) (fun a ha => ?_) (fun ha => nomatch ha)
                cases ha
                rw [add_lit]
                simpa [over] using run_storeCells_at P C (0 + n * sz) e'' N 0 cur w ho (by simpa using hfit) hone
            · -- a new row
              have hq := grownCap_le w (need := n + m) (old := q) (e := t)
              have hOl : (cur.toList.take (n * sz)).length = n * sz := by simp; omega
              have hrun := hgrow (some ⟨C, 0, none⟩) n (q - 0) (cur.toList.take (n * sz)) (run_firstCells_some w.drew sz n _ n (q - 0) _ hOl (fun j v hj => by
                rw [add_lit]
                have hj : cur[j]? = some v := by
                  rw [List.getElem?_take] at hj
                  split at hj
                  · simpa using hj
                  · cases hj
                rw [World.cell?_drew, Nat.zero_add]
                simp [World.cell?, ho, hj])) (by omega) hby
              have R' := (R.drew.drop b).alloc (q := grownCap w (n + m) q t) hlt (grow_row (D := D) (E := E) (t := e') (t' := t) (x := rput (rgrow x (Nat.mul (Nat.add n m) sz)) (Nat.mul n sz) new) hOl hN hZ hq rfl (by
                intro i v hv
                rcases hcells i v hv with ⟨h1, h2, V, hV, hvr⟩ | ⟨h1, V, hV, hvr⟩
                · refine ⟨h2, V, ?_, hvr⟩
                  rw [List.getElem?_append_right (by omega), hOl]; exact hV
                · refine ⟨by omega, V, ?_, hvr⟩
                  rw [List.getElem?_append_left (by omega), List.getElem?_take_of_lt h1]; simpa using hV))
              refine ⟨_, _, _, _, _, _, hk, E.put_le _ (R.fresh nx (Nat.le_refl _)), by omega, .slx 0 0 _ (E.put_at nx _), R', ?_, hrun⟩
              intro b' hb' hn'
              rw [bget_put, if_neg (fun (z : b' = nx ∧ b' < 262144) => by omega), bget_put, if_neg]
              rintro ⟨rfl, _⟩
              rw [he] at hn'; cases hn'
  · replace hr := onNils_some hr
    obtain ⟨rfl, hr⟩ := hr
    cases hs
    rw [bc_ite] at hr
    split at hr
    · rename_i hm
      have hm := beq_eq hm
      subst hm
      refine ⟨_, _, h, nx, E, w, hr, .refl _ _, Nat.le_refl _, .nils, R, fun _ _ _ => rfl, ?_⟩
      exact hplace none 0 0 w (by omega) (fun a ha => nomatch ha) (fun _ => rfl)
    · rename_i hm
      have hm : m ≠ 0 := fun hh => hm (by subst hh; exact Nat.beq_refl 0)
      obtain ⟨hby, hr⟩ := bc_some hr
      have hby : m * bytes ≤ 1073741824 := ble_le hby
      obtain ⟨hlt, hk⟩ := newB_some hr
      have hq := grownCap_le w (need := 0 + m) (old := 0) (e := t)
      have hrun := hgrow none 0 0 [] (run_firstCells_none w.drew sz 0 0 0) (by omega) (by simpa using hby)
      have R' := R.drew.alloc (q := grownCap w (0 + m) 0 t) hlt (grow_row (D := D) (E := E) (t := t) (t' := t) (n := 0) (k := m) (O := []) (x := rmk new (Nat.mul m sz)) (by simp) hN hZ hq (by omega) (by
        intro i v hv
        have hv := rmk_get i v hv
        obtain ⟨V, hV, hvr⟩ := hnew.get i v hv
        refine ⟨?_, V, by simpa using hV, hvr⟩
        rcases Nat.lt_or_ge i N.length with h1 | h1
        · rw [hN] at h1; simpa using h1
        · rw [List.getElem?_eq_none h1] at hV; cases hV))
      have hv := VR.slx (E := E.put nx (w.drew.heap.size, grownCap w (0 + m) 0 t)) 0 0 m (E.put_at nx _)
      refine ⟨_, _, _, _, _, _, hk, E.put_le _ (R.fresh nx (Nat.le_refl _)), by omega, hv, R', ?_, ?_⟩
      · intro b' hb' hn'
        rw [bget_put, if_neg (fun (z : b' = nx ∧ b' < 262144) => by omega)]
      · have e0 : 0 + m = m := by omega
        rw [e0] at hrun ⊢
        exact hrun
end Go.Ax
