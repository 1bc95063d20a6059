/- Part of an abstract executor of the model's machine, and of its law (S40, S41, S42, S43). -/
import Derived.Test.YtoojlkfklheoeaaGreatDoorXM6
namespace Go.Ax
open Go.RowKit (Below)
variable {P : Program} {D : Nat → Nat} {base : Bas} {w0 : World} {f0 : Nat} {cs0 : List Frame}

/-! a call that is reckoned once and used again: the callee runs over a part of the heap, with no callers; what it leaves is laid beside the rest -/
theorem En.le.zero {E E' : En} (h : ∀ b p, E.m b = some p → E'.m b = some p) : En.le 0 E E' := ⟨h, fun _ hb => by omega⟩

theorem CsR.quietUp {E E' : En} {h h' : H} (hu : ∀ b p, E.m b = some p → E'.m b = some p) : ∀ {fl fn : Nat} {dk : Bool} {cs : List Fr} {fcs : List Frame}, quietL cs = true → CsR P D f0 cs0 E h fl fn dk cs fcs → CsR P D f0 cs0 E' h' fl fn dk cs fcs
  | _, _, _, _, _, _, .nil => .nil
  | _, _, _, _, _, hq, .cons hle s t => by
    simp only [quietL, Bool.and_eq_true] at hq
    have le := En.le.zero hu
    refine .cons hle ?_ (t.quietUp hu hq.2)
    cases s with
    | ret hb hm ht => exact .ret (hb.mono le) hm (ht.mono le)
    | reg hb hm hi hx ht hk => exact .reg (hb.mono le) hm hi hx (ht.mono le) (hk.mono le)
    | dreg hb hm hi hp hd hk => have := hq.1; cases this
    | rf hb hm hi hl ht hk => exact .rf (hb.mono le) hm hi (hu _ _ hl) (ht.mono le) (hk.mono le)

/-- from the heap h0, whose blocks lie below nx0, the function f comes back with v and the heap h1 -/
def Sum (P : Program) (D : Nat → Nat) (f n : Nat) (tm : Tm) (c : Code) (h0 : H) (nx0 : Nat) (v : AV) (h1 : H) (nx1 : Nat) : Prop :=
  ∀ (base : Bas) (w : World) (cs0 : List Frame) (m0 : Machine), Reach P D base w f cs0 m0 (.go ⟨⟨f, n, false, none⟩, [], []⟩ tm h0 nx0 [.code c] false) → Reach P D base w f cs0 m0 (.fin v h1 nx1)

/-- what is known in the one or, where the part knew nothing, in the other -/
def Join (h h0 h1 h2 : H) : Prop := ∀ b ab, bget b h2 = some ab → bget b h1 = some ab ∨ bget b h = some ab ∧ bget b h0 = none

/-- the base for the part -/
noncomputable def part (w : World) (E : En) (h0 : H) (nx0 : Nat) : Bas := ⟨fun k => k < w.heap.size ∧ ∀ b q, (bget b h0).isSome = true → E.m b ≠ some (k, q), E, nx0, fun b => (bget b h0).isSome⟩

theorem HR.part {E : En} {h h0 : H} {nx nx0 : Nat} {w : World} (R : HR D base w0 E h nx w) (hs : Sub h0 h) (hn : nx ≤ nx0) (hl : nx0 ≤ 262143) : HR D (part w E h0 nx0) w E h0 nx0 w := by
  have hsome : ∀ {b}, (bget b h0).isSome → (bget b h).isSome := fun {b} hb => by
    obtain ⟨x, hx⟩ := Option.isSome_iff_exists.1 hb
    rw [hs b x hx]; rfl
  have htop : ∀ b, nx ≤ b → bget b h0 = none := fun b hb => by
    cases hq : bget b h0 with
    | none => rfl
    | some x => have := hs b x hq; rw [R.top b hb] at this; cases this
  refine ⟨hl, fun b hb => R.fresh b (by omega), R.size, ?_, ?_, Bel.refl _ _, fun k hk => hk.1, fun b hb => htop b (by omega), fun _ _ hb => hb, Nat.le_refl _, ?_⟩
  · intro b ab c q _ hb hE
    obtain ⟨_, o, ho, br⟩ := R.live b ab c q (R.lt hE) (hs b ab hb) hE
    exact ⟨fun hF => hF.2 b q (by rw [hb]; rfl) hE, o, ho, br⟩
  · intro b b' c q q' _ _ h1 h2 e1 e2
    exact R.inj b b' c q q' (R.lt e1) (R.lt e2) (hsome h1) (hsome h2) e1 e2
  · intro b _ hE hK
    refine ⟨?_, hE⟩
    cases hq : bget b h0 with
    | none => rfl
    | some x => have hK : (bget b h0).isSome = false := hK; rw [hq] at hK; cases hK

theorem HR.join {E E' : En} {h h0 h1 h2 : H} {nx nx0 nx1 : Nat} {w w' : World} (R : HR D base w0 E h nx w) (hs : Sub h0 h) (hj : Join h h0 h1 h2) (hn : nx ≤ nx0)
    (R' : HR D (Ax.part w E h0 nx0) w E' h1 nx1 w') : HR D base w0 E' h2 nx1 w' := by
  have hup : ∀ b p, E.m b = some p → E'.m b = some p := R'.ext
  have hle := En.le.zero hup
  have h01 : nx0 ≤ nx1 := R'.n0le
  -- a block that the rest of the heap knows: it is where it was, and nothing has turned it
  have rest : ∀ b ab c q, bget b h = some ab → bget b h0 = none → E'.m b = some (c, q) → E.m b = some (c, q) ∧ b < nx := by
    intro b ab c q hb hb0 hE
    cases hm : E.m b with
    | some p => rw [hup b p hm] at hE; exact ⟨hE, R.lt hm⟩
    | none =>
      have hlt : b < nx := Nat.lt_of_not_le fun hh => by rw [R.top b hh] at hb; cases hb
      have := (R'.old b (by show b < nx0; omega) hm (by show (bget b h0).isSome = false; rw [hb0]; rfl)).2
      rw [this] at hE; cases hE
  have kept : ∀ b ab c q, bget b h = some ab → bget b h0 = none → E.m b = some (c, q) → (Ax.part w E h0 nx0).F c := by
    intro b ab c q hb hb0 hE
    refine ⟨R.size b c q hE, fun b' q' hb' hE' => ?_⟩
    obtain ⟨x, hx⟩ := Option.isSome_iff_exists.1 hb'
    have hbb : b = b' := R.inj b b' c q q' (R.lt hE) (R.lt hE') (by rw [hb]; rfl) (by rw [hs b' x hx]; rfl) hE hE'
    rw [← hbb, hb0] at hx; cases hx
  have hF : ∀ k, base.F k → (Ax.part w E h0 nx0).F k := by
    intro k hk
    refine ⟨R.bsz k hk, fun b q hb hE => ?_⟩
    obtain ⟨x, hx⟩ := Option.isSome_iff_exists.1 hb
    exact (R.live b x k q (R.lt hE) (hs b x hx) hE).1 hk
  refine ⟨R'.lim, R'.fresh, R'.size, ?_, ?_, R.below.trans (R'.below.mono hF), fun k hk => R'.bsz k (hF k hk) , ?_, fun b p hb => hup b p (R.ext b p hb), by have := R.n0le; omega, ?_⟩
  · intro b ab c q hb h2b hE
    rcases hj b ab h2b with h1b | ⟨hb', hb0⟩
    · obtain ⟨hnF, o, ho, br⟩ := R'.live b ab c q hb h1b hE
      exact ⟨fun hk => hnF (hF c hk), o, ho, br⟩
    · obtain ⟨hE0, hlt⟩ := rest b ab c q hb' hb0 hE
      obtain ⟨hnF, o, ho, br⟩ := R.live b ab c q hlt hb' hE0
      exact ⟨hnF, o, by rw [R'.below.block c (kept b ab c q hb' hb0 hE0)]; exact ho, br.mono hle⟩
  · intro b b' c q q' hb hb' s1 s2 e1 e2
    obtain ⟨x, hx⟩ := Option.isSome_iff_exists.1 s1
    obtain ⟨x', hx'⟩ := Option.isSome_iff_exists.1 s2
    rcases hj b x hx with k1 | ⟨k1, z1⟩
    · rcases hj b' x' hx' with k2 | ⟨k2, z2⟩
      · exact R'.inj b b' c q q' hb hb' (by rw [k1]; rfl) (by rw [k2]; rfl) e1 e2
      · have := (rest b' x' c q' k2 z2 e2).1
        exact absurd (kept b' x' c q' k2 z2 this) (R'.live b x c q hb k1 e1).1
    · rcases hj b' x' hx' with k2 | ⟨k2, z2⟩
      · have := (rest b x c q k1 z1 e1).1
        exact absurd (kept b x c q k1 z1 this) (R'.live b' x' c q' hb' k2 e2).1
      · have r1 := rest b x c q k1 z1 e1
        have r2 := rest b' x' c q' k2 z2 e2
        exact R.inj b b' c q q' r1.2 r2.2 (by rw [k1]; rfl) (by rw [k2]; rfl) r1.1 r2.1
  · intro b hb
    cases hq : bget b h2 with
    | none => rfl
    | some x =>
      rcases hj b x hq with k1 | ⟨k1, _⟩
      · rw [R'.top b hb] at k1; cases k1
      · rw [R.top b (by omega)] at k1; cases k1
  · intro b hb hE hK
    have hq := R.old b hb hE hK
    have hb0 : bget b h0 = none := by
      cases hx : bget b h0 with
      | none => rfl
      | some x => have := hs b x hx; rw [hq.1] at this; cases this
    have hq' := R'.old b (by show b < nx0; have := R.n0le; omega) hq.2 (by show (bget b h0).isSome = false; rw [hb0]; rfl)
    refine ⟨?_, hq'.2⟩
    cases hx : bget b h2 with
    | none => rfl
    | some x =>
      rcases hj b x hx with k1 | ⟨k1, _⟩
      · rw [hq'.1] at k1; cases k1
      · rw [hq.1] at k1; cases k1

theorem sum_reach {m0 : Machine} {f n : Nat} {tm : Tm} {c : Code} {h h0 h1 h2 : H} {nx nx0 nx1 : Nat} {v : AV} {cf : Fr} {cs : List Fr} {r : St} (S0 : Sum P D f n tm c h0 nx0 v h1 nx1)
    (hr : Reach P D base w0 f0 cs0 m0 (.go ⟨⟨f, n, false, none⟩, [], cf :: cs⟩ tm h nx [.code c] false)) (hq : quietL (cf :: cs) = true) (hs : Sub h0 h) (hj : Join h h0 h1 h2) (hn : nx ≤ nx0) (hl : nx0 ≤ 262143)
    (hp : popA P D false (cf :: cs) v h2 nx1 j0 = some r) : Reach P D base w0 f0 cs0 m0 r := by
  obtain ⟨E, fl, fr, fcs, w, hst, S⟩ := hr
  have R := S.hr
  have hsub := S0 (part w E h0 nx0) w fcs (lone fr fcs w) ⟨E, nx0, fr, fcs, w, .refl _ _, ⟨S.fb, S.mode, S.items, S.tm, .nil, Nat.le_refl _, R.part hs hn hl⟩⟩
  obtain ⟨v', h', nx', E', V, w', fr', heq, hst', hfn, hleav, hV, R'⟩ := hsub
  cases heq
  have R2 := R.join hs hj hn R'
  have h01 : nx0 ≤ nx1 := R'.n0le
  obtain ⟨hm, hds, hk, fn, hf, hrun⟩ := hleav
  refine goes_reach (hst.trans hst') (pop_goes (P := P) (dk := false) R2 (by have := S.fl; omega) (S.cs.quietUp R'.ext hq) hV hp ?_ (fun hh => by cases hh))
  intro frc frest hfc _
  subst hfc
  exact .inl (step_return hm hds hf hrun hk)

/-! the parts and the join, as the kernel has them -/
/-- h with the rows of h1 that are named -/
noncomputable def laidOn : List (List Nat) → List (List (Option AB)) → H → H
  | k :: ks, l :: ls, h => mkRow k l (laidOn ks ls h)
  | _, _, h => h

theorem mkRow_get {b : Nat} : ∀ (k : List Nat) (l : List (Option AB)) (h : H) (ab : AB), bget b (mkRow k l h) = some ab → (∃ i : Nat, k[i]? = some b ∧ l[i]? = some (some ab)) ∨ bget b h = some ab
  | [], _, h, ab, hb => by cases ‹List (Option AB)› <;> exact .inr hb
  | _ :: _, [], h, ab, hb => .inr hb
  | a :: k, x :: l, h, ab, hb => by
    have hb : bget b (bput a x (mkRow k l h)) = some ab := hb
    rw [bget_put] at hb
    split at hb
    · rename_i hh
      exact .inl ⟨0, by rw [hh.1]; rfl, by rw [hb]; rfl⟩
    · rcases mkRow_get k l h ab hb with ⟨i, h1, h2⟩ | h1
      · exact .inl ⟨i + 1, h1, h2⟩
      · exact .inr h1
theorem dumpRow_get {h : H} : ∀ (k : List Nat) (i : Nat) {b : Nat} {x : Option AB}, k[i]? = some b → (dumpRow h k)[i]? = some x → x = bget b h
  | [], i, b, x, h1, _ => by cases i <;> cases h1
  | a :: k, 0, b, x, h1, h2 => by
    have h1 : some a = some b := h1
    have h2 : some (bget a h) = some x := h2
    cases h1; cases h2; rfl
  | a :: k, i + 1, b, x, h1, h2 => dumpRow_get k i h1 h2
theorem laidOn_get {h h1 : H} {b : Nat} {ab : AB} : ∀ (ks : List (List Nat)), bget b (laidOn ks (dumpH h1 ks) h) = some ab → bget b h1 = some ab ∨ bget b h = some ab
  | [], hb => .inr hb
  | k :: ks, hb => by
    rcases mkRow_get k (dumpRow h1 k) _ ab hb with ⟨i, h2, h3⟩ | h2
    · exact .inl (dumpRow_get k i h2 h3).symm
    · exact laidOn_get ks h2
theorem mkH_names {b : Nat} {ab : AB} {h : H} : ∀ (ks : List (List Nat)), bget b (mkH ks (dumpH h ks)) = some ab → ∃ k ∈ ks, b ∈ k
  | [], hb => by have hb : bget b bnil = some ab := hb; rw [bget_nil] at hb; cases hb
  | k :: ks, hb => by
    rcases mkRow_get k (dumpRow h k) _ ab hb with ⟨i, h2, _⟩ | h2
    · exact ⟨k, .head _, List.mem_of_getElem? h2⟩
    · obtain ⟨k', h3, h4⟩ := mkH_names ks h2
      exact ⟨k', .tail _ h3, h4⟩
theorem dumpRow_eq {h h' : H} : ∀ (k : List Nat), dumpRow h k = dumpRow h' k → ∀ b ∈ k, bget b h = bget b h'
  | [], _, b, hb => by cases hb
  | a :: k, he, b, hb => by
    have he : bget a h :: dumpRow h k = bget a h' :: dumpRow h' k := he
    injection he with h1 h2
    cases hb with
    | head => exact h1
    | tail _ hb => exact dumpRow_eq k h2 b hb
theorem dumpH_eq {h h' : H} : ∀ (ks : List (List Nat)), dumpH h ks = dumpH h' ks → ∀ k ∈ ks, ∀ b ∈ k, bget b h = bget b h'
  | [], _, k, hk, _, _ => by cases hk
  | a :: ks, he, k, hk, b, hb => by
    have he : dumpRow h a :: dumpH h ks = dumpRow h' a :: dumpH h' ks := he
    injection he with h1 h2
    cases hk with
    | head => exact dumpRow_eq a h1 b hb
    | tail _ hk => exact dumpH_eq ks h2 k hk b hb

/-- h0 is the part of h that ks names, and h1 still has it; h2: what ks1 names in h1, laid on h -/
theorem join_laid {h h0 h1 : H} {ks ks1 : List (List Nat)} (e0 : mkH ks (dumpH h ks) = h0) (e1 : dumpH h1 ks = dumpH h0 ks) : Sub h0 h ∧ Join h h0 h1 (laidOn ks1 (dumpH h1 ks1) h) := by
  subst e0
  refine ⟨mkH_sub ks, fun b ab hb => ?_⟩
  rcases laidOn_get ks1 hb with h1b | hb
  · exact .inl h1b
  · cases hq : bget b (mkH ks (dumpH h ks)) with
    | none => exact .inr ⟨hb, rfl⟩
    | some x =>
      obtain ⟨k, hk, hbk⟩ := mkH_names ks hq
      have h2 := mkH_sub ks b x hq
      rw [hb] at h2
      refine .inl ?_
      rw [dumpH_eq ks e1 k hk b hbk, hq, h2]

/-- the state behind a call that is reckoned elsewhere: ks names what the callee reads, ks1 what is kept of what it made, ks2 what goes on at all -/
noncomputable def sumS (P : Program) (D : Nat → Nat) (ks1 ks2 : List (List Nat)) (cs : List Fr) (h : H) (v : AV) (h1 : H) (nx1 : Nat) : O :=
  bc (quietL cs) (nextS ks2 (popA P D false cs v (laidOn ks1 (dumpH h1 ks1) h) nx1 j0)) none

theorem nextS_reach {m0 : Machine} {o : O} {r : St} {ks : List (List Nat)} (hs : ∀ s, o = some s → Reach P D base w0 f0 cs0 m0 s) (hk : nextS ks o = some r) : Reach P D base w0 f0 cs0 m0 r := by
  cases o with
  | none => cases hk
  | some s => exact next_reach (n := 0) (hs s rfl) (by cases s <;> exact hk)

theorem sumS_reach {m0 : Machine} {f n : Nat} {tm : Tm} {c : Code} {h h0 h1 : H} {nx nx0 nx1 : Nat} {v : AV} {cf : Fr} {cs : List Fr} {r : St} {ks ks1 ks2 : List (List Nat)} (S0 : Sum P D f n tm c h0 nx0 v h1 nx1)
    (hr : Reach P D base w0 f0 cs0 m0 (.go ⟨⟨f, n, false, none⟩, [], cf :: cs⟩ tm h nx [.code c] false)) (e0 : mkH ks (dumpH h ks) = h0) (e1 : dumpH h1 ks = dumpH h0 ks)
    (hn : Nat.ble nx nx0 = true) (hl : Nat.ble nx0 262143 = true) (hp : sumS P D ks1 ks2 (cf :: cs) h v h1 nx1 = some r) : Reach P D base w0 f0 cs0 m0 r := by
  obtain ⟨hq, hp⟩ := bc_some hp
  obtain ⟨hs, hj⟩ := join_laid (ks1 := ks1) e0 e1
  exact nextS_reach (fun s hps => sum_reach S0 hr hq hs hj (Nat.le_of_ble_eq_true hn) (Nat.le_of_ble_eq_true hl) hps) hp
/-- the end of a reckoning apart: what is named goes on -/
noncomputable def finS (ks : List (List Nat)) (o : O) : O :=
  Option.rec none (fun s => St.rec (fun _ _ _ _ _ _ => none) (fun v h nx => some (.fin v (mkH ks (dumpH h ks)) nx)) s) o
theorem finS_reach {m0 : Machine} {n : Nat} {s r : St} {ks : List (List Nat)} (hs : Reach P D base w0 f0 cs0 m0 s) (hk : finS ks (runS P D n s) = some r) : Reach P D base w0 f0 cs0 m0 r := by
  cases hq : runS P D n s with
  | none => rw [hq] at hk; cases hk
  | some s' =>
    have hs' := runS_reach hs hq
    rw [hq] at hk
    cases s' with
    | go sk tm h nx todo ret => cases hk
    | fin v h nx =>
      have hk : some (St.fin v (mkH ks (dumpH h ks)) nx) = some r := hk
      cases hk
      obtain ⟨v', h', nx', E, V, w', fr, heq, h1, h2, h3, h4, h5⟩ := hs'
      cases heq
      exact ⟨_, _, _, E, V, w', fr, rfl, h1, h2, h3, h4, h5.sub (mkH_sub ks)⟩
end Go.Ax
namespace Go.Ax
open Go.RowKit (Below)
variable {P : Program} {D : Nat → Nat} {base : Bas} {w0 : World} {f0 : Nat} {cs0 : List Frame}

/-! the blocks of a reckoning apart, under other names -/
noncomputable def renF (ρ : Nat → Nat) (f : Fn) : Fn := match f with | .yield b => .yield (ρ b) | f => f
noncomputable def renM (ρ : Nat → Nat) (x : AM) : AM := match x with | .map b => .map (ρ b) | .slz b o i l z => .slz (ρ b) o i l z | x => x
mutual
noncomputable def ren (ρ : Nat → Nat) : AV → AV
  | .int k n => .int k n
  | .bool b => .bool b
  | .ptr b o => .ptr (ρ b) o
  | .str n l => .str n l
  | .sl b o n c => .sl (ρ b) o n c
  | .slx b o i n => .slx (ρ b) o i n
  | .agg l => .agg (renL ρ l)
  | .tup l => .tup (renL ρ l)
  | .fn f a c => .fn (renF ρ f) (renL ρ a) (renL ρ c)
  | .iface t v => .iface t (ren ρ v)
  | .m x => .m (renM ρ x)
noncomputable def renL (ρ : Nat → Nat) : List AV → List AV
  | [] => []
  | v :: l => ren ρ v :: renL ρ l
end
theorem renL_map (ρ : Nat → Nat) : ∀ l, renL ρ l = l.map (ren ρ)
  | [] => by simp [renL]
  | v :: l => by simp [renL, renL_map ρ l]

section
variable {E1 E2 : En} {ρ : Nat → Nat}
theorem FnR.push (h : ∀ b p, E1.m b = some p → E2.m (ρ b) = some p) {f g : Fn} (r : FnR E1 f g) : FnR E2 (renF ρ f) g := by
  cases r with
  | yield hb => exact .yield (h _ _ hb)
  | func => exact .func _
  | method => exact .method _
  | methodOf => exact .methodOf _ _
  | via => exact .via _ _ _ _
theorem FnR.pull (h : ∀ b p, E2.m (ρ b) = some p → E1.m b = some p) {f g : Fn} (r : FnR E2 (renF ρ f) g) : FnR E1 f g := by
  cases f with
  | yield b => cases r with | yield hb => exact .yield (h _ _ hb)
  | func => cases r; exact .func _
  | method => cases r; exact .method _
  | methodOf => cases r; exact .methodOf _ _
  | via => cases r; exact .via _ _ _ _

mutual
theorem VR.push (h : ∀ b p, E1.m b = some p → E2.m (ρ b) = some p) : ∀ {v : AV} {V : Value}, VR E1 v V → VR E2 (ren ρ v) V
  | _, _, .int k n => by rw [ren]; exact .int k n
  | _, _, .bool b => by rw [ren]; exact .bool b
  | _, _, .ptr o hb => by rw [ren]; exact .ptr o (h _ _ hb)
  | _, _, .str n l => by rw [ren]; exact .str n l
  | _, _, .sl o n k hb => by rw [ren]; exact .sl o n k (h _ _ hb)
  | _, _, .slx o i n hb => by rw [ren]; exact .slx o i n (h _ _ hb)
  | _, _, .agg hl => by rw [ren]; exact .agg (VRL.push h hl)
  | _, _, .tup hl => by rw [ren]; exact .tup (VRL.push h hl)
  | _, _, .fn hf ha hc => by rw [ren]; exact .fn (hf.push h) (VRL.push h ha) (VRL.push h hc)
  | _, _, .iface t hv => by rw [ren]; exact .iface t (VR.push h hv)
  | _, _, .nilp => by rw [ren]; exact .nilp
  | _, _, .nils => by rw [ren]; exact .nils
  | _, _, .nilm => by rw [ren]; exact .nilm
  | _, _, .nilf => by rw [ren]; exact .nilf
  | _, _, .nili => by rw [ren]; exact .nili
  | _, _, .map hb => by rw [ren]; exact .map (h _ _ hb)
  | _, _, .slz o i l sz hb => by rw [ren]; exact .slz o i l sz (h _ _ hb)
  | _, _, .cst v hv => by rw [ren]; exact .cst v hv
  | _, _, .ext k hv => by rw [ren]; exact .ext k hv
theorem VRL.push (h : ∀ b p, E1.m b = some p → E2.m (ρ b) = some p) : ∀ {l : List AV} {L : List Value}, VRL E1 l L → VRL E2 (renL ρ l) L
  | _, _, .nil => by rw [renL]; exact .nil
  | _, _, .cons hv t => by rw [renL]; exact .cons (VR.push h hv) (VRL.push h t)
end
mutual
theorem VR.pull (h : ∀ b p, E2.m (ρ b) = some p → E1.m b = some p) : ∀ (v : AV) {V : Value}, VR E2 (ren ρ v) V → VR E1 v V
  | .int k n, _, r => by rw [ren] at r; cases r; exact .int k n
  | .bool b, _, r => by rw [ren] at r; cases r; exact .bool b
  | .ptr b o, _, r => by rw [ren] at r; cases r with | ptr _ hb => exact .ptr o (h _ _ hb)
  | .str n l, _, r => by rw [ren] at r; cases r; exact .str n l
  | .sl b o n c, _, r => by rw [ren] at r; cases r with | sl _ _ _ hb => exact .sl o n c (h _ _ hb)
  | .slx b o i n, _, r => by rw [ren] at r; cases r with | slx _ _ _ hb => exact .slx o i n (h _ _ hb)
  | .agg l, _, r => by rw [ren] at r; cases r with | agg hl => exact .agg (VRL.pull h l hl)
  | .tup l, _, r => by rw [ren] at r; cases r with | tup hl => exact .tup (VRL.pull h l hl)
  | .fn f a c, _, r => by rw [ren] at r; cases r with | fn hf ha hc => exact .fn (hf.pull h) (VRL.pull h a ha) (VRL.pull h c hc)
  | .iface t v, _, r => by rw [ren] at r; cases r with | iface _ hv => exact .iface t (VR.pull h v hv)
  | .m x, _, r => by
    rw [ren] at r
    cases x with
    | map b => cases r with | map hb => exact .map (h _ _ hb)
    | slz b o i l z => cases r with | slz _ _ _ _ hb => exact .slz o i l z (h _ _ hb)
    | nilp => cases r; exact .nilp
    | nils => cases r; exact .nils
    | nilm => cases r; exact .nilm
    | nilf => cases r; exact .nilf
    | nili => cases r; exact .nili
    | cst v => cases r with | cst _ hv => exact .cst _ hv
    | ext k => cases r with | ext _ hv => exact .ext k hv
theorem VRL.pull (h : ∀ b p, E2.m (ρ b) = some p → E1.m b = some p) : ∀ (l : List AV) {L : List Value}, VRL E2 (renL ρ l) L → VRL E1 l L
  | [], _, r => by rw [renL] at r; cases r; exact .nil
  | v :: l, _, r => by rw [renL] at r; cases r with | cons hv t => exact .cons (VR.pull h v hv) (VRL.pull h l t)
end
end

/-! blocks, written out -/
noncomputable def rowOf (t : Bool) (l : List AV) : Row := bc t (.t (tput l 0 bnil)) (.l l)
inductive Ds where
  | cells (t : Bool) (l : List AV) (e : TypeId) (n : Nat)
  | grow (t : Bool) (l : List AV) (e : TypeId) (sz k : Nat)
  | map (es : List (AV × AV × Nat)) (c : Nat)
noncomputable def toAB (d : Ds) : AB := match d with
  | .cells t l e n => .cells (rowOf t l) e n
  | .grow t l e sz k => .grow (rowOf t l) e sz k
  | .map es c => .map es c
noncomputable def renE (ρ : Nat → Nat) : List (AV × AV × Nat) → List (AV × AV × Nat)
  | [] => []
  | (k, v, n) :: r => (ren ρ k, ren ρ v, n) :: renE ρ r
noncomputable def renD (ρ : Nat → Nat) (d : Ds) : Ds := match d with
  | .cells t l e n => .cells t (renL ρ l) e n
  | .grow t l e sz k => .grow t (renL ρ l) e sz k
  | .map es c => .map (renE ρ es) c

theorem row_ren (ρ : Nat → Nat) (t : Bool) (l : List AV) (o : Nat) : rget (rowOf t (renL ρ l)) o = (rget (rowOf t l) o).map (ren ρ) := by
  cases t with
  | false =>
    show lnth o (renL ρ l) = (lnth o l).map (ren ρ)
    rw [lnth_eq, lnth_eq, renL_map, List.getElem?_map]
  | true =>
    show bget o (tput (renL ρ l) 0 bnil) = (bget o (tput l 0 bnil)).map (ren ρ)
    by_cases ho : o < 262144
    · rw [tput_get _ _ _ _ ho, tput_get _ _ _ _ ho, renL_map, List.length_map, List.getElem?_map, bget_nil]
      split <;> rfl
    · rw [bget_out o ho, bget_out o ho]; rfl

section
variable {E1 E2 : En} {ρ : Nat → Nat}
theorem RowR.push (h : ∀ b p, E1.m b = some p → E2.m (ρ b) = some p) {t : Bool} {l : List AV} {c : Array Value} (r : RowR E1 (rowOf t l) c) : RowR E2 (rowOf t (renL ρ l)) c := by
  intro o v hv
  rw [row_ren] at hv
  cases hq : rget (rowOf t l) o with
  | none => rw [hq] at hv; cases hv
  | some x =>
    rw [hq] at hv
    obtain rfl : ren ρ x = v := Option.some.inj hv
    obtain ⟨V, hV, hx⟩ := r o x hq
    exact ⟨V, hV, hx.push h⟩
theorem RowR.pull (h : ∀ b p, E2.m (ρ b) = some p → E1.m b = some p) {t : Bool} {l : List AV} {c : Array Value} (r : RowR E2 (rowOf t (renL ρ l)) c) : RowR E1 (rowOf t l) c := by
  intro o v hv
  obtain ⟨V, hV, hx⟩ := r o (ren ρ v) (by rw [row_ren, hv]; rfl)
  exact ⟨V, hV, VR.pull h v hx⟩
theorem EsR.pushR (h : ∀ b p, E1.m b = some p → E2.m (ρ b) = some p) : ∀ {es : List (AV × AV × Nat)} {Es : List MapEntry}, EsR E1 es Es → EsR E2 (renE ρ es) Es
  | _, _, .nil => .nil
  | _, _, .cons b hk hv t => .cons b (hk.push h) (hv.push h) (t.pushR h)
theorem EsR.pullR (h : ∀ b p, E2.m (ρ b) = some p → E1.m b = some p) : ∀ {es : List (AV × AV × Nat)} {Es : List MapEntry}, EsR E2 (renE ρ es) Es → EsR E1 es Es
  | [], _, r => by cases r; exact .nil
  | (k, v, n) :: es, _, r => by
    have r : EsR E2 ((ren ρ k, ren ρ v, n) :: renE ρ es) _ := r
    cases r with
    | cons b hk hv t => exact .cons n (VR.pull h k hk) (VR.pull h v hv) (t.pullR h)
theorem renL_length (ρ : Nat → Nat) (l : List AV) : (renL ρ l).length = l.length := by rw [renL_map, List.length_map]
theorem rowOf_len {t : Bool} {l xs : List AV} {n : Nat} (hl : ∀ ys, rowOf t (renL ρ l) = .l ys → ys.length = n) (h : rowOf t l = .l xs) : xs.length = n := by
  cases t with
  | false =>
    have h : (Row.l l : Row) = .l xs := h
    cases h
    rw [← renL_length ρ l]; exact hl _ rfl
  | true => cases h
theorem rowOf_len' {t : Bool} {l xs : List AV} {n : Nat} (hl : ∀ ys, rowOf t l = .l ys → ys.length = n) (h : rowOf t (renL ρ l) = .l xs) : xs.length = n := by
  cases t with
  | false =>
    have h : (Row.l (renL ρ l) : Row) = .l xs := h
    cases h
    rw [renL_length ρ l]; exact hl _ rfl
  | true => cases h
theorem row_some {t : Bool} {l : List AV} {o : Nat} {v : AV} (h : rget (rowOf t (renL ρ l)) o = some v) : ∃ x, rget (rowOf t l) o = some x := by
  rw [row_ren] at h
  cases hq : rget (rowOf t l) o with
  | none => rw [hq] at h; cases h
  | some x => exact ⟨x, rfl⟩

theorem BR.push (h : ∀ b p, E1.m b = some p → E2.m (ρ b) = some p) {q : Nat} {d : Ds} {o : Obj} (r : BR D E1 q (toAB d) o) : BR D E2 q (toAB (renD ρ d)) o := by
  cases d with
  | cells t l e n =>
    generalize hx : toAB (.cells t l e n) = x at r
    cases r with
    | cells e1 e2 hn hl hr => cases hx; exact .cells _ _ hn (fun xs hh => rowOf_len' hl hh) (hr.push h)
    | _ => cases hx
  | grow t l e sz k =>
    generalize hx : toAB (.grow t l e sz k) = x at r
    cases r with
    | grow e1 e2 hn hk hr hb => cases hx; exact .grow _ _ hn hk (hr.push h) (fun o v hv => by obtain ⟨x, hx⟩ := row_some hv; exact hb o x hx)
    | _ => cases hx
  | map es c =>
    generalize hx : toAB (.map es c) = x at r
    cases r with
    | map cl hm => cases hx; exact .map _ (hm.pushR h)
    | _ => cases hx
theorem BR.pull (h : ∀ b p, E2.m (ρ b) = some p → E1.m b = some p) {q : Nat} {d : Ds} {o : Obj} (r : BR D E2 q (toAB (renD ρ d)) o) : BR D E1 q (toAB d) o := by
  cases d with
  | cells t l e n =>
    generalize hx : toAB (renD ρ (.cells t l e n)) = x at r
    cases r with
    | cells e1 e2 hn hl hr => cases hx; exact .cells _ _ hn (fun xs hh => rowOf_len hl hh) (hr.pull h)
    | _ => cases hx
  | grow t l e sz k =>
    generalize hx : toAB (renD ρ (.grow t l e sz k)) = x at r
    cases r with
    | grow e1 e2 hn hk hr hb => cases hx; exact .grow _ _ hn hk (hr.pull h) (fun o v hv => hb o (ren ρ v) (by rw [row_ren, hv]; rfl))
    | _ => cases hx
  | map es c =>
    generalize hx : toAB (renD ρ (.map es c)) = x at r
    cases r with
    | map cl hm => cases hx; exact .map _ (hm.pullR h)
    | _ => cases hx
end

/-! the part of the heap, and what comes back -/
/-- how names go: those of the part by a list, what it makes anew from nx on -/
noncomputable def rhoT : List (Nat × Nat) → Nat → Nat
  | [], b => 262144 + b
  | p :: r, b => bc (Nat.beq p.1 b) p.2 (rhoT r b)
noncomputable def rho (l : List (Nat × Nat)) (nx0 nx : Nat) (b : Nat) : Nat := bc (Nat.ble nx0 b) (nx + (b - nx0)) (rhoT l b)

/-- h0 as h has it, under other names -/
structure Part (ρ : Nat → Nat) (nx0 nx : Nat) (h0 h : H) : Prop where
  at_ : ∀ b ab, bget b h0 = some ab → ∃ d, ab = toAB d ∧ bget (ρ b) h = some (toAB (renD ρ d))
  inj : ∀ b b', (bget b h0).isSome = true → (bget b' h0).isSome = true → ρ b = ρ b' → b = b'
  new : ∀ b, nx0 ≤ b → ρ b = nx + (b - nx0)
structure Back (ρ : Nat → Nat) (h0 h1 h h2 : H) : Prop where
  at_ : ∀ b' ab', bget b' h2 = some ab' → (∃ b d, b' = ρ b ∧ bget b h1 = some (toAB d) ∧ ab' = toAB (renD ρ d)) ∨ bget b' h = some ab' ∧ ∀ b, (bget b h0).isSome = true → ρ b ≠ b'

noncomputable def partR (ρ : Nat → Nat) (w : World) (E : En) (h0 : H) (nx0 : Nat) : Bas :=
  ⟨fun k => k < w.heap.size ∧ ∀ b q, (bget b h0).isSome = true → E.m (ρ b) ≠ some (k, q), ⟨fun b => E.m (ρ b)⟩, nx0, fun b => (bget b h0).isSome⟩

section
variable {E : En} {h h0 h1 h2 : H} {nx nx0 nx1 : Nat} {w w' : World} {ρ : Nat → Nat}

theorem Part.some_ (p : Part ρ nx0 nx h0 h) {b : Nat} (hb : (bget b h0).isSome = true) : (bget (ρ b) h).isSome = true := by
  obtain ⟨x, hx⟩ := Option.isSome_iff_exists.1 hb
  obtain ⟨d, _, hd⟩ := p.at_ b x hx
  rw [hd]; rfl
theorem Part.low (p : Part ρ nx0 nx h0 h) (R : HR D base w0 E h nx w) {b : Nat} (hb : (bget b h0).isSome = true) : ρ b < nx ∧ b < nx0 := by
  have h1 : ρ b < nx := Nat.lt_of_not_le fun hh => by have := p.some_ hb; rw [R.top _ hh] at this; cases this
  exact ⟨h1, Nat.lt_of_not_le fun hh => by rw [p.new b hh] at h1; omega⟩

theorem HR.partR (R : HR D base w0 E h nx w) (p : Part ρ nx0 nx h0 h) (hl : nx0 ≤ 262143) : HR D (Ax.partR ρ w E h0 nx0) w ⟨fun b => E.m (ρ b)⟩ h0 nx0 w := by
  refine ⟨hl, fun b hb => R.fresh _ (by rw [p.new b hb]; omega), fun b c q hb => R.size (ρ b) c q hb, ?_, ?_, Bel.refl _ _, fun k hk => hk.1, ?_, fun _ _ hb => hb, Nat.le_refl _, ?_⟩
  · intro b ab c q _ hb hE
    obtain ⟨d, rfl, hd⟩ := p.at_ b ab hb
    obtain ⟨_, o, ho, br⟩ := R.live (ρ b) _ c q (R.lt hE) hd hE
    exact ⟨fun hF => hF.2 b q (by rw [hb]; rfl) hE, o, ho, BR.pull (ρ := ρ) (fun _ _ hb => hb) br⟩
  · intro b b' c q q' _ _ s1 s2 e1 e2
    exact p.inj b b' s1 s2 (R.inj (ρ b) (ρ b') c q q' (R.lt e1) (R.lt e2) (p.some_ s1) (p.some_ s2) e1 e2)
  · intro b hb
    cases hq : bget b h0 with
    | none => rfl
    | some x => have := (p.low R (b := b) (by rw [hq]; rfl)).2; omega
  · intro b _ hE hK
    refine ⟨?_, hE⟩
    cases hq : bget b h0 with
    | none => rfl
    | some x => have hK : (bget b h0).isSome = false := hK; rw [hq] at hK; cases hK

open Classical in
/-- where the blocks are, behind the call -/
noncomputable def backE (ρ : Nat → Nat) (nx0 : Nat) (h0 : H) (E Es : En) : En :=
  ⟨fun b' => match E.m b' with
    | some p => some p
    | none => if hx : ∃ b, ρ b = b' ∧ (b < nx0 → (bget b h0).isSome = true) ∧ (Es.m b).isSome = true then Es.m (Classical.choose hx) else none⟩

theorem backE_up (Es : En) {b' : Nat} {p : Nat × Nat} (hb : E.m b' = some p) : (backE ρ nx0 h0 E Es).m b' = some p := by
  simp only [backE, hb]

theorem Part.one (p : Part ρ nx0 nx h0 h) (R : HR D base w0 E h nx w) {b b1 : Nat} (k : b < nx0 → (bget b h0).isSome = true) (k1 : b1 < nx0 → (bget b1 h0).isSome = true) (he : ρ b1 = ρ b) : b1 = b := by
  by_cases hb : b < nx0
  · by_cases hb1 : b1 < nx0
    · exact p.inj b1 b (k1 hb1) (k hb) he
    · have := (p.low R (k hb)).1
      rw [p.new b1 (by omega)] at he; omega
  · by_cases hb1 : b1 < nx0
    · have := (p.low R (k1 hb1)).1
      rw [p.new b (by omega)] at he; omega
    · rw [p.new b (by omega), p.new b1 (by omega)] at he; omega

theorem backE_at (p : Part ρ nx0 nx h0 h) (R : HR D base w0 E h nx w) {Es : En} {b : Nat} (hn : E.m (ρ b) = none) (k : b < nx0 → (bget b h0).isSome = true) : (backE ρ nx0 h0 E Es).m (ρ b) = Es.m b := by
  simp only [backE, hn]
  split
  · rename_i hx
    have hc := Classical.choose_spec hx
    rw [p.one R k hc.2.1 hc.1]
  · rename_i hx
    cases hq : Es.m b with
    | none => rfl
    | some z => exact absurd ⟨b, rfl, k, by rw [hq]; rfl⟩ hx
theorem backE_none {Es : En} {b' : Nat} {z : Nat × Nat} (hn : E.m b' = none) (hz : (backE ρ nx0 h0 E Es).m b' = some z) : ∃ b, ρ b = b' ∧ (b < nx0 → (bget b h0).isSome = true) ∧ Es.m b = some z := by
  simp only [backE, hn] at hz
  split at hz
  · rename_i hx
    have hc := Classical.choose_spec hx
    exact ⟨_, hc.1, hc.2.1, hz⟩
  · cases hz

/-- what is known of a block of the part, behind the call -/
theorem Part.known {Es : En} (R' : HR D (Ax.partR ρ w E h0 nx0) w Es h1 nx1 w') {b : Nat} {z : Nat × Nat} (hn : E.m (ρ b) = none) (hz : Es.m b = some z) : b < nx0 → (bget b h0).isSome = true := by
  intro hb
  cases hq : (bget b h0).isSome with
  | true => rfl
  | false => have := (R'.old b hb hn hq).2; rw [hz] at this; cases this

theorem backE_push (p : Part ρ nx0 nx h0 h) (R : HR D base w0 E h nx w) {Es : En} (R' : HR D (Ax.partR ρ w E h0 nx0) w Es h1 nx1 w') :
    ∀ b z, Es.m b = some z → (backE ρ nx0 h0 E Es).m (ρ b) = some z := by
  intro b z hz
  cases hE : E.m (ρ b) with
  | some z' =>
    have h2 : Es.m b = some z' := R'.ext b z' hE
    rw [hz] at h2
    rw [backE_up Es hE, ← h2]
  | none => rw [backE_at p R hE (Part.known R' hE hz), hz]

theorem HR.back (R : HR D base w0 E h nx w) (p : Part ρ nx0 nx h0 h) (bk : Back ρ h0 h1 h h2) {Es : En} (R' : HR D (Ax.partR ρ w E h0 nx0) w Es h1 nx1 w') (hlim : nx + (nx1 - nx0) ≤ 262143) :
    HR D base w0 (backE ρ nx0 h0 E Es) h2 (nx + (nx1 - nx0)) w' := by
  have h01 : nx0 ≤ nx1 := R'.n0le
  have push := backE_push p R R'
  -- a block of the part, seen from behind the call
  have down : ∀ b d c q, bget b h1 = some (toAB d) → (backE ρ nx0 h0 E Es).m (ρ b) = some (c, q) → Es.m b = some (c, q) := by
    intro b d c q hb hz
    cases hE : E.m (ρ b) with
    | some z =>
      have h2 : Es.m b = some z := R'.ext b z hE
      rw [backE_up Es hE] at hz
      rw [h2, hz]
    | none =>
      have k : b < nx0 → (bget b h0).isSome = true := by
        intro hlt
        cases hq : (bget b h0).isSome with
        | true => rfl
        | false => have := (R'.old b hlt hE hq).1; rw [hb] at this; cases this
      rw [backE_at p R hE k] at hz
      exact hz
  have rest : ∀ b' ab c q, bget b' h = some ab → (∀ b, (bget b h0).isSome = true → ρ b ≠ b') → (backE ρ nx0 h0 E Es).m b' = some (c, q) → E.m b' = some (c, q) := by
    intro b' ab c q hb hno hz
    cases hE : E.m b' with
    | some z => rw [backE_up Es hE] at hz; exact hz
    | none =>
      obtain ⟨b, rfl, k, _⟩ := backE_none hE hz
      have hlt : ρ b < nx := Nat.lt_of_not_le fun hh => by rw [R.top _ hh] at hb; cases hb
      have hb0 : b < nx0 := Nat.lt_of_not_le fun hh => by rw [p.new b hh] at hlt; omega
      exact absurd rfl (hno b (k hb0))
  have kept : ∀ b' ab c q, bget b' h = some ab → (∀ b, (bget b h0).isSome = true → ρ b ≠ b') → E.m b' = some (c, q) → (Ax.partR ρ w E h0 nx0).F c := by
    intro b' ab c q hb hno hE
    refine ⟨R.size b' c q hE, fun b q' hb0 hE' => ?_⟩
    exact hno b hb0 (R.inj (ρ b) b' c q' q (R.lt hE') (R.lt hE) (p.some_ hb0) (by rw [hb]; rfl) hE' hE)
  have hF : ∀ k, base.F k → (Ax.partR ρ w E h0 nx0).F k := by
    intro k hk
    refine ⟨R.bsz k hk, fun b q hb hE => ?_⟩
    obtain ⟨x, hx⟩ := Option.isSome_iff_exists.1 (p.some_ hb)
    exact (R.live (ρ b) x k q (R.lt hE) hx hE).1 hk
  have top : ∀ b d, bget b h1 = some (toAB d) → b < nx1 ∧ (b < nx0 → ρ b < nx) := by
    intro b d hb
    refine ⟨Nat.lt_of_not_le (fun hh => by rw [R'.top b hh] at hb; cases hb), fun hlt => ?_⟩
    cases hK : (bget b h0).isSome with
    | true => exact (p.low R hK).1
    | false =>
      cases hE : E.m (ρ b) with
      | some z => exact R.lt hE
      | none => have := (R'.old b hlt hE hK).1; rw [hb] at this; cases this
  refine ⟨hlim, ?_, ?_, ?_, ?_, R.below.trans (R'.below.mono hF), fun k hk => R'.bsz k (hF k hk), ?_, fun b z hb => backE_up Es (R.ext b z hb), by have := R.n0le; omega, ?_⟩
  · intro b' hb'
    cases hz : (backE ρ nx0 h0 E Es).m b' with
    | none => rfl
    | some z =>
      have hE : E.m b' = none := R.fresh b' (by omega)
      obtain ⟨b, rfl, k, hs⟩ := backE_none hE hz
      by_cases hb0 : b < nx0
      · have := (p.low R (k hb0)).1; omega
      · rw [p.new b (by omega)] at hb'
        rw [R'.fresh b (by omega)] at hs; cases hs
  · intro b' c q hz
    cases hE : E.m b' with
    | some z =>
      rw [backE_up Es hE] at hz
      cases hz
      exact Nat.lt_of_lt_of_le (R.size b' c q hE) R'.below.size
    | none =>
      obtain ⟨b, rfl, _, hs⟩ := backE_none hE hz
      exact R'.size b c q hs
  · intro b' ab' c q hb' h2b hz
    rcases bk.at_ b' ab' h2b with ⟨b, d, rfl, h1b, rfl⟩ | ⟨hb, hno⟩
    · have hs := down b d c q h1b hz
      obtain ⟨hnF, o, ho, br⟩ := R'.live b _ c q (top b d h1b).1 h1b hs
      exact ⟨fun hk => hnF (hF c hk), o, ho, br.push push⟩
    · have hE := rest b' ab' c q hb hno hz
      obtain ⟨hnF, o, ho, br⟩ := R.live b' ab' c q (R.lt hE) hb hE
      exact ⟨hnF, o, by rw [R'.below.block c (kept b' ab' c q hb hno hE)]; exact ho, br.mono (En.le.zero fun b z hb => backE_up Es hb)⟩
  · intro b' b'' c q q' hb1 hb2 s1 s2 e1 e2
    obtain ⟨x, hx⟩ := Option.isSome_iff_exists.1 s1
    obtain ⟨x', hx'⟩ := Option.isSome_iff_exists.1 s2
    rcases bk.at_ b' x hx with ⟨b, d, rfl, k1, rfl⟩ | ⟨k1, n1⟩
    · have z1 := down b d c q k1 e1
      rcases bk.at_ b'' x' hx' with ⟨b2, d2, rfl, k2, rfl⟩ | ⟨k2, n2⟩
      · have z2 := down b2 d2 c q' k2 e2
        rw [R'.inj b b2 c q q' (top b d k1).1 (top b2 d2 k2).1 (by rw [k1]; rfl) (by rw [k2]; rfl) z1 z2]
      · have z2 := rest b'' x' c q' k2 n2 e2
        exact absurd (kept b'' x' c q' k2 n2 z2) (R'.live b _ c q (top b d k1).1 k1 z1).1
    · have z1 := rest b' x c q k1 n1 e1
      rcases bk.at_ b'' x' hx' with ⟨b2, d2, rfl, k2, rfl⟩ | ⟨k2, n2⟩
      · have z2 := down b2 d2 c q' k2 e2
        exact absurd (kept b' x c q k1 n1 z1) (R'.live b2 _ c q' (top b2 d2 k2).1 k2 z2).1
      · have z2 := rest b'' x' c q' k2 n2 e2
        exact R.inj b' b'' c q q' (R.lt z1) (R.lt z2) (by rw [k1]; rfl) (by rw [k2]; rfl) z1 z2
  · intro b' hb'
    cases hq : bget b' h2 with
    | none => rfl
    | some x =>
      rcases bk.at_ b' x hq with ⟨b, d, rfl, k1, _⟩ | ⟨k1, _⟩
      · have ht := top b d k1
        by_cases hb0 : b < nx0
        · have := ht.2 hb0; omega
        · have := ht.1; rw [p.new b (by omega)] at hb'; omega
      · rw [R.top b' (by omega)] at k1; cases k1
  · intro b' hb' hE0 hK
    have hq := R.old b' hb' hE0 hK
    have hn := R.n0le
    refine ⟨?_, ?_⟩
    · cases hx : bget b' h2 with
      | none => rfl
      | some x =>
        exfalso
        rcases bk.at_ b' x hx with ⟨b, d, rfl, k1, _⟩ | ⟨k1, _⟩
        · by_cases hb0 : b < nx0
          · cases hK0 : (bget b h0).isSome with
            | true => have := p.some_ hK0; rw [hq.1] at this; cases this
            | false => have := (R'.old b hb0 hq.2 hK0).1; rw [k1] at this; cases this
          · rw [p.new b (by omega)] at hb'; omega
        · rw [hq.1] at k1; cases k1
    · cases hz : (backE ρ nx0 h0 E Es).m b' with
      | none => rfl
      | some z =>
        exfalso
        obtain ⟨b, rfl, k, _⟩ := backE_none hq.2 hz
        by_cases hb0 : b < nx0
        · have := p.some_ (k hb0); rw [hq.1] at this; cases this
        · rw [p.new b (by omega)] at hb'; omega
end
end Go.Ax
namespace Go.Ax
open Go.RowKit (Below)
variable {P : Program} {D : Nat → Nat} {base : Bas} {w0 : World} {f0 : Nat} {cs0 : List Frame}

/-! a reckoning apart, used -/
theorem goes_run_reach {m0 m : Machine} {r : St} {n : Nat} (hs : Steps P m0 m) (g : Goes P D base w0 f0 cs0 m (runA P D n) r) : Reach P D base w0 f0 cs0 m0 r := by
  rcases g with ⟨E, fl, sk, tm, h, nx, todo, ret, fr, fcs, w, h1, h2, h3⟩ | he
  · exact run_reach n ⟨E, fl, fr, fcs, w, hs.trans h2, h3⟩ h1
  · have he := he.of_steps hs
    obtain ⟨v, h, nx, E, V, w', fr, rfl, hrest⟩ := he
    exact ⟨v, h, nx, E, V, w', fr, rfl, hrest⟩

theorem ren_undef (ρ : Nat → Nat) : ren ρ undef = undef := by
  show ren ρ (.tup []) = .tup []
  rw [ren, renL]
theorem renL_getD (ρ : Nat → Nat) (l : List AV) (i : Nat) : (renL ρ l).getD i undef = ren ρ (l.getD i undef) := by
  rw [renL_map]
  simp only [List.getD, List.getElem?_map]
  cases l[i]? with
  | none => exact (ren_undef ρ).symm
  | some x => rfl

theorem sumR_reach {m0 : Machine} {f n m : Nat} {args : List AV} {c : Code} {h h0 h1 h2 : H} {nx nx0 nx1 : Nat} {v : AV} {cf : Fr} {cs : List Fr} {r : St} {ρ : Nat → Nat} (S0 : Sum P D f n (setArgs args 0 tnil) c h0 nx0 v h1 nx1)
    (hr : Reach P D base w0 f0 cs0 m0 (.go ⟨⟨f, n, false, none⟩, [], cf :: cs⟩ (setArgs (renL ρ args) 0 tnil) h nx [.code c] false)) (hlen : args.length ≤ 512) (hq : quietL (cf :: cs) = true)
    (p : Part ρ nx0 nx h0 h) (bk : Back ρ h0 h1 h h2) (hl : nx0 ≤ 262143) (hlim : nx + (nx1 - nx0) ≤ 262143)
    (hp : popA P D false (cf :: cs) (ren ρ v) h2 (nx + (nx1 - nx0)) (runA P D m) = some r) : Reach P D base w0 f0 cs0 m0 r := by
  obtain ⟨E, fl, fr, fcs, w, hst, S⟩ := hr
  have R := S.hr
  have hfb := S.fb
  have hpull : ∀ b z, E.m (ρ b) = some z → (⟨fun b => E.m (ρ b)⟩ : En).m b = some z := fun _ _ hb => hb
  have fb : FrB D ⟨fun b => E.m (ρ b)⟩ ⟨f, n, false, none⟩ [] fr := by
    refine ⟨hfb.fn, hfb.size, hfb.bound, ?_, hfb.kind, ?_⟩
    · have := hfb.df
      generalize fr.defers = ds at this
      have this : DRL E [] ds := this
      cases this; exact .nil
    · have := hfb.rd
      generalize fr.roundOf = z at this
      have this : RdR E none z := this
      cases this; exact .none
  have items : ItL ⟨fun b => E.m (ρ b)⟩ [.code c] fr.todo := by
    have := S.items rfl
    generalize fr.todo = td at this
    cases this with
    | cons hI hK =>
      cases hI; cases hK
      exact .cons (.code c) .nil
  have tmr : TmR ⟨fun b => E.m (ρ b)⟩ (D f) (setArgs args 0 tnil) fr.tmps := by
    intro t ht hm
    have h1 := S.tm t ht hm
    rw [setArgs_get _ 0 tnil t ht (by rw [renL_length]; omega), renL_length] at h1
    rw [setArgs_get _ 0 tnil t ht (by omega)]
    split
    · rename_i hh
      rw [if_pos hh, renL_getD] at h1
      exact VR.pull hpull _ h1
    · rename_i hh
      rw [if_neg hh, slot_nil t ht, ← ren_undef ρ] at h1
      rw [slot_nil t ht]
      exact VR.pull hpull _ h1
  have hsub := S0 (Ax.partR ρ w E h0 nx0) w fcs (lone fr fcs w) ⟨⟨fun b => E.m (ρ b)⟩, nx0, fr, fcs, w, .refl _ _, ⟨fb, S.mode, fun _ => items, tmr, .nil, Nat.le_refl _, R.partR p hl⟩⟩
  obtain ⟨v', h', nx', Es, V, w', fr', heq, hst', hfn, hleav, hV, R'⟩ := hsub
  cases heq
  have R2 := R.back p bk R' hlim
  have hV2 := hV.push (backE_push p R R')
  obtain ⟨hm, hds, hk, fn, hf, hrun⟩ := hleav
  refine goes_run_reach (hst.trans hst') (pop_goes (P := P) (dk := false) R2 (by have := S.fl; omega) (S.cs.quietUp (fun b z hb => backE_up Es hb) hq) hV2 hp ?_ (fun hh => by cases hh))
  intro frc frest hfc _
  subst hfc
  exact .inl (step_return hm hds hf hrun hk)

/-! as the kernel has it -/
noncomputable def rowA : List Ds → List (Option AB)
  | [] => []
  | d :: l => some (toAB d) :: rowA l
noncomputable def rowsA : List (List Ds) → List (List (Option AB))
  | [] => []
  | l :: ls => rowA l :: rowsA ls
noncomputable def renRow (ρ : Nat → Nat) : List Ds → List Ds
  | [] => []
  | d :: l => renD ρ d :: renRow ρ l
noncomputable def renRows (ρ : Nat → Nat) : List (List Ds) → List (List Ds)
  | [] => []
  | l :: ls => renRow ρ l :: renRows ρ ls
noncomputable def mapN (ρ : Nat → Nat) : List Nat → List Nat
  | [] => []
  | b :: l => ρ b :: mapN ρ l
noncomputable def mapNs (ρ : Nat → Nat) : List (List Nat) → List (List Nat)
  | [] => []
  | l :: ls => mapN ρ l :: mapNs ρ ls
noncomputable def appN (l m : List Nat) : List Nat := List.rec m (fun b _ ih => b :: ih) l
noncomputable def flatN : List (List Nat) → List Nat
  | [] => []
  | l :: ls => appN l (flatN ls)
noncomputable def memN (b : Nat) : List Nat → Bool
  | [] => false
  | c :: l => bc (Nat.beq b c) true (memN b l)
noncomputable def onceN : List Nat → Bool
  | [] => true
  | b :: l => bc (memN b l) false (onceN l)
theorem appN_mem {b : Nat} : ∀ {l m : List Nat}, b ∈ appN l m ↔ b ∈ l ∨ b ∈ m
  | [], m => by show b ∈ m ↔ _; simp
  | c :: l, m => by
    show b ∈ c :: appN l m ↔ _
    rw [List.mem_cons, appN_mem, List.mem_cons]
    constructor
    · rintro (h | h | h) <;> simp [h]
    · rintro ((h | h) | h) <;> simp [h]
theorem flatN_mem {b : Nat} : ∀ {ks : List (List Nat)}, b ∈ flatN ks ↔ ∃ k ∈ ks, b ∈ k
  | [] => by simp [flatN]
  | k :: ks => by simp [flatN, appN_mem, flatN_mem]
theorem memN_iff {b : Nat} : ∀ {l : List Nat}, memN b l = true ↔ b ∈ l
  | [] => by simp [memN]
  | c :: l => by
    have : memN b (c :: l) = bc (Nat.beq b c) true (memN b l) := rfl
    rw [this, bc_ite, List.mem_cons]
    split
    · rename_i hh
      have : b = c := Nat.eq_of_beq_eq_true hh
      simp [this]
    · rename_i hh
      have : ¬ b = c := fun he => hh (by rw [he]; exact Nat.beq_refl c)
      simp [this, memN_iff]
theorem onceN_nodup : ∀ {l : List Nat}, onceN l = true → l.Nodup
  | [], _ => .nil
  | c :: l, h => by
    have h : bc (memN c l) false (onceN l) = true := h
    rw [bc_ite] at h
    split at h
    · cases h
    · rename_i hh
      exact List.nodup_cons.2 ⟨fun hm => hh (memN_iff.2 hm), onceN_nodup h⟩
theorem mapN_map (ρ : Nat → Nat) : ∀ l, mapN ρ l = l.map ρ
  | [] => rfl
  | b :: l => by show ρ b :: mapN ρ l = _; rw [mapN_map ρ l]; rfl
theorem appN_map (ρ : Nat → Nat) : ∀ l m, (appN l m).map ρ = appN (l.map ρ) (m.map ρ)
  | [], m => rfl
  | b :: l, m => by show ρ b :: (appN l m).map ρ = ρ b :: appN (l.map ρ) (m.map ρ); rw [appN_map ρ l m]
theorem flatN_map (ρ : Nat → Nat) : ∀ ks, flatN (mapNs ρ ks) = (flatN ks).map ρ
  | [] => rfl
  | k :: ks => by
    show appN (mapN ρ k) (flatN (mapNs ρ ks)) = (appN k (flatN ks)).map ρ
    rw [flatN_map ρ ks, mapN_map, appN_map]
theorem inj_of_nodup {ρ : Nat → Nat} : ∀ {l : List Nat}, (l.map ρ).Nodup → ∀ a ∈ l, ∀ b ∈ l, ρ a = ρ b → a = b
  | [], _, a, ha, _, _, _ => by cases ha
  | c :: l, h, a, ha, b, hb, he => by
    rw [List.map_cons, List.nodup_cons] at h
    rcases List.mem_cons.1 ha with e1 | a1
    · rcases List.mem_cons.1 hb with e2 | b1
      · rw [e1, e2]
      · rw [e1] at he
        exact absurd (List.mem_map.2 ⟨b, b1, he.symm⟩) h.1
    · rcases List.mem_cons.1 hb with e2 | b1
      · rw [e2] at he
        exact absurd (List.mem_map.2 ⟨a, a1, he⟩) h.1
      · exact inj_of_nodup h.2 a a1 b b1 he

/-- where a row of a list of rows stands -/
def AtR (ks : List (List Nat)) (ls : List (List Ds)) (b : Nat) (d : Ds) : Prop := ∃ (i j : Nat) (k : List Nat) (l : List Ds), ks[i]? = some k ∧ ls[i]? = some l ∧ k[j]? = some b ∧ l[j]? = some d
theorem rowA_get : ∀ {l : List Ds} {j : Nat} {x : Option AB}, (rowA l)[j]? = some x → ∃ d, l[j]? = some d ∧ x = some (toAB d)
  | [], j, x, h => by have h : ([] : List (Option AB))[j]? = some x := h; simp at h
  | d :: l, 0, x, h => by
    have h : some (some (toAB d)) = some x := h
    exact ⟨d, rfl, (Option.some.inj h).symm⟩
  | d :: l, j + 1, x, h => rowA_get (l := l) (j := j) h
theorem laidOn_at {b : Nat} {ab : AB} {h : H} : ∀ {ks : List (List Nat)} {ls : List (List Ds)}, bget b (laidOn ks (rowsA ls) h) = some ab → (∃ d, AtR ks ls b d ∧ ab = toAB d) ∨ bget b h = some ab
  | [], _, hb => .inr hb
  | _ :: _, [], hb => .inr hb
  | k :: ks, l :: ls, hb => by
    have hb : bget b (mkRow k (rowA l) (laidOn ks (rowsA ls) h)) = some ab := hb
    rcases mkRow_get k _ _ ab hb with ⟨j, h1, h2⟩ | h1
    · obtain ⟨d, h3, h4⟩ := rowA_get h2
      exact .inl ⟨d, ⟨0, j, k, l, rfl, rfl, h1, h3⟩, Option.some.inj h4⟩
    · rcases laidOn_at h1 with ⟨d, ⟨i, j, k', l', a1, a2, a3, a4⟩, h2⟩ | h2
      · exact .inl ⟨d, ⟨i + 1, j, k', l', a1, a2, a3, a4⟩, h2⟩
      · exact .inr h2
theorem mkH_laid : ∀ (ks : List (List Nat)) (ls : List (List (Option AB))), mkH ks ls = laidOn ks ls bnil
  | [], ls => by cases ls <;> rfl
  | _ :: _, [] => rfl
  | k :: ks, l :: ls => by show mkRow k l (mkH ks ls) = mkRow k l (laidOn ks ls bnil); rw [mkH_laid ks ls]
theorem mkH_at {b : Nat} {ab : AB} {ks : List (List Nat)} {ls : List (List Ds)} (hb : bget b (mkH ks (rowsA ls)) = some ab) : ∃ d, AtR ks ls b d ∧ ab = toAB d := by
  rw [mkH_laid] at hb
  rcases laidOn_at hb with h | h
  · exact h
  · rw [bget_nil] at h; cases h
theorem dump_row {h : H} : ∀ {k : List Nat} {l : List Ds}, dumpRow h k = rowA l → ∀ {j b : Nat} {d : Ds}, k[j]? = some b → l[j]? = some d → bget b h = some (toAB d)
  | [], _, _, j, b, d, h1, _ => by simp at h1
  | _ :: _, [], _, j, b, d, _, h2 => by simp at h2
  | c :: k, x :: l, he, j, b, d, h1, h2 => by
    have he : bget c h :: dumpRow h k = some (toAB x) :: rowA l := he
    injection he with e1 e2
    cases j with
    | zero =>
      have h1 : some c = some b := h1
      have h2 : some x = some d := h2
      cases h1; cases h2; exact e1
    | succ j => exact dump_row e2 (j := j) h1 h2
theorem dump_at {h : H} : ∀ {ks : List (List Nat)} {ls : List (List Ds)}, dumpH h ks = rowsA ls → ∀ {b : Nat} {d : Ds}, AtR ks ls b d → bget b h = some (toAB d)
  | [], _, _, b, d, ⟨i, j, k, l, a1, _⟩ => by simp at a1
  | _ :: _, [], _, b, d, ⟨i, j, k, l, _, a2, _⟩ => by simp at a2
  | k0 :: ks, l0 :: ls, he, b, d, ⟨i, j, k, l, a1, a2, a3, a4⟩ => by
    have he : dumpRow h k0 :: dumpH h ks = rowA l0 :: rowsA ls := he
    injection he with e1 e2
    cases i with
    | zero =>
      have a1 : some k0 = some k := a1
      have a2 : some l0 = some l := a2
      cases a1; cases a2
      exact dump_row e1 a3 a4
    | succ i => exact dump_at e2 ⟨i, j, k, l, a1, a2, a3, a4⟩
theorem renRow_map (ρ : Nat → Nat) : ∀ l, renRow ρ l = l.map (renD ρ)
  | [] => rfl
  | d :: l => by show renD ρ d :: renRow ρ l = _; rw [renRow_map ρ l]; rfl
theorem renRows_map (ρ : Nat → Nat) : ∀ l, renRows ρ l = l.map (renRow ρ)
  | [] => rfl
  | d :: l => by show renRow ρ d :: renRows ρ l = _; rw [renRows_map ρ l]; rfl
theorem mapNs_map (ρ : Nat → Nat) : ∀ l, mapNs ρ l = l.map (mapN ρ)
  | [] => rfl
  | d :: l => by show mapN ρ d :: mapNs ρ l = _; rw [mapNs_map ρ l]; rfl
theorem AtR.ren {ρ : Nat → Nat} {ks : List (List Nat)} {ls : List (List Ds)} {b : Nat} {d : Ds} (a : AtR ks ls b d) : AtR (mapNs ρ ks) (renRows ρ ls) (ρ b) (renD ρ d) := by
  obtain ⟨i, j, k, l, a1, a2, a3, a4⟩ := a
  refine ⟨i, j, mapN ρ k, renRow ρ l, ?_, ?_, ?_, ?_⟩
  · rw [mapNs_map, List.getElem?_map, a1]; rfl
  · rw [renRows_map, List.getElem?_map, a2]; rfl
  · rw [mapN_map, List.getElem?_map, a3]; rfl
  · rw [renRow_map, List.getElem?_map, a4]; rfl
theorem AtR.unren {ρ : Nat → Nat} {ks : List (List Nat)} {ls : List (List Ds)} {b' : Nat} {d' : Ds} (a : AtR (mapNs ρ ks) (renRows ρ ls) b' d') : ∃ b d, AtR ks ls b d ∧ b' = ρ b ∧ d' = renD ρ d := by
  obtain ⟨i, j, k, l, a1, a2, a3, a4⟩ := a
  rw [mapNs_map, List.getElem?_map] at a1
  rw [renRows_map, List.getElem?_map] at a2
  cases hk : ks[i]? with
  | none => rw [hk] at a1; cases a1
  | some k0 =>
    cases hl : ls[i]? with
    | none => rw [hl] at a2; cases a2
    | some l0 =>
      rw [hk] at a1; rw [hl] at a2
      obtain rfl : mapN ρ k0 = k := Option.some.inj a1
      obtain rfl : renRow ρ l0 = l := Option.some.inj a2
      rw [mapN_map, List.getElem?_map] at a3
      rw [renRow_map, List.getElem?_map] at a4
      cases hb : k0[j]? with
      | none => rw [hb] at a3; cases a3
      | some b =>
        cases hd : l0[j]? with
        | none => rw [hd] at a4; cases a4
        | some d =>
          rw [hb] at a3; rw [hd] at a4
          exact ⟨b, d, ⟨i, j, k0, l0, hk, hl, hb, hd⟩, (Option.some.inj a3).symm, (Option.some.inj a4).symm⟩
theorem AtR.mem {ks : List (List Nat)} {ls : List (List Ds)} {b : Nat} {d : Ds} (a : AtR ks ls b d) : b ∈ flatN ks := by
  obtain ⟨i, j, k, l, a1, _, a3, _⟩ := a
  exact flatN_mem.2 ⟨k, List.mem_of_getElem? a1, List.mem_of_getElem? a3⟩

/-- a reckoning apart, as data -/
structure SumD where
  f : Nat
  n : Nat
  args : List AV
  k0 : List (List Nat)
  l0 : List (List Ds)
  nx0 : Nat
  v : AV
  k1 : List (List Nat)
  l1 : List (List Ds)
  nx1 : Nat
noncomputable def appL {α : Type} (l m : List α) : List α := List.rec m (fun b _ ih => b :: ih) l
theorem appL_eq {α : Type} : ∀ (l m : List α), appL l m = l ++ m
  | [], _ => rfl
  | a :: l, m => by show a :: appL l m = _; rw [appL_eq l m]; rfl
noncomputable def SumD.h0 (s : SumD) : H := mkH s.k0 (rowsA s.l0)
noncomputable def SumD.h1 (s : SumD) : H := mkH (appL s.k0 s.k1) (rowsA (appL s.l0 s.l1))
noncomputable def SumD.start (P : Program) (s : SumD) : St := .go ⟨⟨s.f, s.n, false, none⟩, [], []⟩ (setArgs s.args 0 tnil) s.h0 s.nx0 [.code (codeAt P s.f [])] false
def SumD.holds (P : Program) (D : Nat → Nat) (s : SumD) : Prop := Sum P D s.f s.n (setArgs s.args 0 tnil) (codeAt P s.f []) s.h0 s.nx0 s.v s.h1 s.nx1
/-- what the kernel looks at, once -/
def SumD.fine (s : SumD) : Prop := (dumpH s.h1 s.k0, dumpH s.h1 s.k1) = (rowsA s.l0, rowsA s.l1)

noncomputable def hOf (o : O) : H := Option.rec bnil (fun s => St.rec (fun _ _ h _ _ _ => h) (fun _ h _ => h) s) o
noncomputable def csOf (o : O) : List Fr := Option.rec [] (fun s => St.rec (fun sk _ _ _ _ _ => sk.cs) (fun _ _ _ => []) s) o
noncomputable def callO (P : Program) (f n : Nat) (args : List AV) (nx : Nat) (o : O) : O := some (.go ⟨⟨f, n, false, none⟩, [], csOf o⟩ (setArgs args 0 tnil) (hOf o) nx [.code (codeAt P f [])] false)
/-- what of a state is held against a call: all but the heap and the callers -/
noncomputable def headO (o : O) : Option (FS × List ADf × Tm × Nat × List AI × Bool) :=
  Option.rec none (fun s => St.rec (fun sk tm _ nx todo ret => SK.rec (fun fs df _ => some (fs, df, tm, nx, todo, ret)) sk) (fun _ _ _ => none) s) o
noncomputable def callH (P : Program) (f n : Nat) (args : List AV) (nx : Nat) : Option (FS × List ADf × Tm × Nat × List AI × Bool) := some (⟨f, n, false, none⟩, [], setArgs args 0 tnil, nx, [.code (codeAt P f [])], false)
theorem callO_of {f n : Nat} {args : List AV} {nx : Nat} {o : O} (h : headO o = callH P f n args nx) : o = callO P f n args nx o := by
  cases o with
  | none => cases h
  | some s =>
    cases s with
    | fin v h' nx' => cases h
    | go sk tm hh nx' todo ret =>
      obtain ⟨fs, df, cs⟩ := sk
      have h : (some (fs, df, tm, nx', todo, ret) : Option (FS × List ADf × Tm × Nat × List AI × Bool)) = some (⟨f, n, false, none⟩, [], setArgs args 0 tnil, nx, [.code (codeAt P f [])], false) := h
      simp only [Option.some.injEq, Prod.mk.injEq] at h
      obtain ⟨rfl, rfl, rfl, rfl, rfl, rfl⟩ := h
      rfl
noncomputable def SumD.use (P : Program) (D : Nat → Nat) (s : SumD) (t : List (Nat × Nat)) (nx : Nat) (o : O) (m : Nat) : O :=
  bc (quietL (csOf o)) (onList (csOf o) none fun cf cs => popA P D false (cf :: cs) (ren (rho t s.nx0 nx) s.v) (laidOn (mapNs (rho t s.nx0 nx) s.k1) (rowsA (renRows (rho t s.nx0 nx) s.l1)) (hOf o)) (nx + (s.nx1 - s.nx0)) (runA P D m)) none
noncomputable def lenB : List AV → Nat → Bool
  | [], _ => true
  | _ :: l, k => Nat.rec false (fun k _ => lenB l k) k
noncomputable def SumD.chk (s : SumD) (t : List (Nat × Nat)) (nx : Nat) : Bool :=
  bc (onceN (flatN (mapNs (rho t s.nx0 nx) s.k0))) (bc (lenB s.args 512) (bc (Nat.ble s.nx0 262143) (Nat.ble (nx + (s.nx1 - s.nx0)) 262143) false) false) false
theorem lenB_le : ∀ {l : List AV} {k : Nat}, lenB l k = true → l.length ≤ k
  | [], _, _ => Nat.zero_le _
  | _ :: l, 0, h => by cases h
  | _ :: l, k + 1, h => by
    have h : lenB l k = true := h
    have := lenB_le h
    simp; exact this
/-- the three facts of a use: the state is that call; the heap has the part; and the numbers fit -/
def SumD.fits (P : Program) (s : SumD) (t : List (Nat × Nat)) (nx : Nat) (o : O) : Prop :=
  (headO o, dumpH (hOf o) (mapNs (rho t s.nx0 nx) s.k0), s.chk t nx) = (callH P s.f s.n (renL (rho t s.nx0 nx) s.args) nx, rowsA (renRows (rho t s.nx0 nx) s.l0), true)

theorem bc_and {a b : Bool} (h : bc a b false = true) : a = true ∧ b = true := by cases a <;> first | exact ⟨rfl, h⟩ | cases h

theorem use_reach {m0 : Machine} {s : SumD} {t : List (Nat × Nat)} {nx m : Nat} {o : O} (S0 : s.holds P D) (hf : s.fine) (hr : ∀ st, o = some st → Reach P D base w0 f0 cs0 m0 st) (hu : s.fits P t nx o) :
    ∀ st, s.use P D t nx o m = some st → Reach P D base w0 f0 cs0 m0 st := by
  intro st hst
  have hu : (headO o, dumpH (hOf o) (mapNs (rho t s.nx0 nx) s.k0), s.chk t nx) = (callH P s.f s.n (renL (rho t s.nx0 nx) s.args) nx, rowsA (renRows (rho t s.nx0 nx) s.l0), true) := hu
  have hf : (dumpH s.h1 s.k0, dumpH s.h1 s.k1) = (rowsA s.l0, rowsA s.l1) := hf
  have hA := congrArg Prod.fst hu
  replace hA := callO_of hA
  have hB := congrArg (fun x => x.2.1) hu
  have hC := congrArg (fun x => x.2.2) hu
  have f0' := congrArg Prod.fst hf
  have f1' := congrArg Prod.snd hf
  simp only at hB hC f0' f1'
  have c1 := bc_and hC
  have c2 := bc_and c1.2
  have c3 := bc_and c2.2
  have hst : bc (quietL (csOf o)) (onList (csOf o) none fun cf cs => popA P D false (cf :: cs) (ren (rho t s.nx0 nx) s.v) (laidOn (mapNs (rho t s.nx0 nx) s.k1) (rowsA (renRows (rho t s.nx0 nx) s.l1)) (hOf o)) (nx + (s.nx1 - s.nx0)) (runA P D m)) none = some st := hst
  obtain ⟨hq, hst⟩ := bc_some hst
  have hreach := hr _ hA
  generalize hρ : rho t s.nx0 nx = ρ at *
  have part : Part ρ s.nx0 nx s.h0 (hOf o) := by
    refine ⟨fun b ab hb => ?_, fun b b' hb hb' he => ?_, fun b hb => ?_⟩
    · obtain ⟨d, a, rfl⟩ := mkH_at hb
      exact ⟨d, rfl, dump_at hB a.ren⟩
    · have nd := onceN_nodup c1.1
      rw [flatN_map] at nd
      obtain ⟨x, hx⟩ := Option.isSome_iff_exists.1 hb
      obtain ⟨x', hx'⟩ := Option.isSome_iff_exists.1 hb'
      obtain ⟨d, a, _⟩ := mkH_at hx
      obtain ⟨d', a', _⟩ := mkH_at hx'
      exact inj_of_nodup nd b a.mem b' a'.mem he
    · rw [← hρ]
      show bc (Nat.ble s.nx0 b) (nx + (b - s.nx0)) (rhoT t b) = _
      rw [bc_ite, if_pos (Nat.ble_eq_true_of_le hb)]
  have back : Back ρ s.h0 s.h1 (hOf o) (laidOn (mapNs ρ s.k1) (rowsA (renRows ρ s.l1)) (hOf o)) := by
    refine ⟨fun b' ab' hb => ?_⟩
    rcases laidOn_at hb with ⟨d', a', rfl⟩ | hb
    · obtain ⟨b, d, a, rfl, rfl⟩ := a'.unren
      exact .inl ⟨b, d, rfl, dump_at f1' a, rfl⟩
    · by_cases hx : ∃ b, (bget b s.h0).isSome = true ∧ ρ b = b'
      · obtain ⟨b, hb0, rfl⟩ := hx
        obtain ⟨x, hx⟩ := Option.isSome_iff_exists.1 hb0
        obtain ⟨d, a, _⟩ := mkH_at hx
        have h2 := dump_at hB a.ren
        rw [hb] at h2
        exact .inl ⟨b, d, rfl, dump_at f0' a, Option.some.inj h2⟩
      · exact .inr ⟨hb, fun b hb0 he => hx ⟨b, hb0, he⟩⟩
  cases hcs : csOf o with
  | nil => rw [hcs] at hst; cases hst
  | cons cf cs =>
    rw [hcs] at hst hq hreach
    exact sumR_reach S0 hreach (lenB_le c2.1) hq part back (Nat.le_of_ble_eq_true c3.1) (Nat.le_of_ble_eq_true c3.2) hst

/-- the end of a reckoning apart -/
theorem finS_reachO {m0 : Machine} {o : O} {r : St} {ks : List (List Nat)} (hs : ∀ s, o = some s → Reach P D base w0 f0 cs0 m0 s) (hk : finS ks o = some r) : Reach P D base w0 f0 cs0 m0 r := by
  cases o with
  | none => cases hk
  | some s => exact finS_reach (n := 0) (hs s rfl) (by cases s <;> exact hk)
theorem runS_reachO {m0 : Machine} {n : Nat} {s : St} (hs : Reach P D base w0 f0 cs0 m0 s) : ∀ st, runS P D n s = some st → Reach P D base w0 f0 cs0 m0 st := fun _ h => runS_reach hs h
theorem SumD.end_ {s : SumD} (h : ∀ (base : Bas) (w : World) (cs0 : List Frame) (m0 : Machine), Reach P D base w s.f cs0 m0 (s.start P) → Reach P D base w s.f cs0 m0 (.fin s.v s.h1 s.nx1)) : s.holds P D := h
end Go.Ax
namespace Go.Ax
open Go.RowKit (Below)
variable {P : Program} {D : Nat → Nat}

/-! the glue: from state to state, whatever the machine's beginning -/
def Goe (P : Program) (D : Nat → Nat) (a b : St) : Prop := ∀ (base : Bas) (w0 : World) (f0 : Nat) (cs0 : List Frame) (m0 : Machine), Reach P D base w0 f0 cs0 m0 a → Reach P D base w0 f0 cs0 m0 b
def GoeO (P : Program) (D : Nat → Nat) (a : St) (o : O) : Prop := ∀ b, o = some b → Goe P D a b
def GoeT (P : Program) (D : Nat → Nat) (a : St) : Prop := ∃ o, GoeO P D a o ∧ finTrue o = true
theorem Goe.trans {a b c : St} (h : Goe P D a b) (k : Goe P D b c) : Goe P D a c := fun base w0 f0 cs0 m0 r => k base w0 f0 cs0 m0 (h base w0 f0 cs0 m0 r)
theorem GoeT.trans {a b : St} (h : Goe P D a b) (k : GoeT P D b) : GoeT P D a := by
  obtain ⟨o, g, t⟩ := k
  exact ⟨o, fun c hc => h.trans (g c hc), t⟩
theorem goe_run (n : Nat) (s : St) : GoeO P D s (runS P D n s) := fun _ hb _ _ _ _ _ r => runS_reach r hb
theorem goe_use {m : Nat} {a : St} {s : SumD} {t : List (Nat × Nat)} {nx : Nat} {o : O} (h : s.holds P D) (hf : s.fine) (g : GoeO P D a o) (hu : s.fits P t nx o) : GoeO P D a (s.use P D t nx o m) :=
  fun b hb base w0 f0 cs0 m0 r => use_reach h hf (fun st hst => g st hst base w0 f0 cs0 m0 r) hu b hb
theorem goe_next {a b : St} {o : O} {ks : List (List Nat)} (g : GoeO P D a o) (hk : nextS ks o = some b) : Goe P D a b :=
  fun base w0 f0 cs0 m0 r => nextS_reach (fun st hst => g st hst base w0 f0 cs0 m0 r) hk
theorem goe_fin {a b : St} {o : O} {ks : List (List Nat)} (g : GoeO P D a o) (hk : finS ks o = some b) : Goe P D a b :=
  fun base w0 f0 cs0 m0 r => finS_reachO (fun st hst => g st hst base w0 f0 cs0 m0 r) hk
theorem goe_true {a : St} {o : O} (g : GoeO P D a o) (hk : finTrue o = true) : GoeT P D a := ⟨o, g, hk⟩
theorem goe_join {a r : St} {o : O} {ks : List (List Nat)} {vs : List Nat} {n0 n1 : Nat} (g : GoeO P D a o) (hk : joinS P D ks vs n0 n1 o = (some 2, some r, some r)) : Goe P D a r := by
  intro base w0 f0 cs0 m0 hr
  cases o with
  | none => cases hk
  | some s => exact join_reach (n := 0) (g s rfl base w0 f0 cs0 m0 hr) (by cases s <;> exact hk)
theorem holds_of {s : SumD} (g : Goe P D (s.start P) (.fin s.v s.h1 s.nx1)) : s.holds P D := fun base w cs0 m0 r => g base w s.f cs0 m0 r

/-- the whole call: it comes back, true -/
theorem calls_of {w : World} {f : Nat} {ARGS : Array Value} {s : St} (ho : ∀ V ∈ ARGS.toList, vone V = true)
    (hs : (center P D f).e (extArgs ARGS.size) false (fun fs tm td => some (.go ⟨fs, [], []⟩ tm bnil 0 td false)) = some s) (g : GoeT P D s) :
    Calls P f ARGS w fun e W' => e = .returned (.bool true) ∧ Below w.heap.size w W' := by
  obtain ⟨o, g, hk⟩ := g
  cases o with
  | none => cases hk
  | some st => exact fin_calls (n := 0) (fun cs0 => g st rfl _ _ _ _ _ (start_reach (P := P) (D := D) (w := w) ho cs0 hs)) (by cases st <;> exact hk)
/-- a call without arguments -/
theorem calls_none {w : World} {f : Nat} {s : St} (hs : (center P D f).e [] false (fun fs tm td => some (.go ⟨fs, [], []⟩ tm bnil 0 td false)) = some s) (g : GoeT P D s) :
    Calls P f #[] w fun e W' => e = .returned (.bool true) ∧ Below w.heap.size w W' :=
  calls_of (ARGS := #[]) (fun _ hV => by simp at hV) hs g
end Go.Ax
