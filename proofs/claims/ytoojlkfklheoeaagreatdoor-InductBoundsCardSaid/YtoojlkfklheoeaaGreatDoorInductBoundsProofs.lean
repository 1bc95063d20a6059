/- InductBounds: whatever the program, the names, the depth and the budget, the call returns true, and what it was given reads behind the call as before. The condition: three tables of Go's library hold what the row lists (the card ties that to the program's text). The closed run at its end is a run of an abstract executor, reckoned by the kernel, and the executor's law; what refuses is walked by hand. -/
import Derived.Test.YtoojlkfklheoeaaGreatDoorTie
import Derived.Test.YtoojlkfklheoeaaGreatDoorCards
import Derived.Test.YtoojlkfklheoeaaGreatDoorXRG
import Derived.Test.YtoojlkfklheoeaaGreatDoorXFc
import Derived.Test.YtoojlkfklheoeaaGreatDoorXFd
import Derived.Test.YtoojlkfklheoeaaGreatDoorXW
import Derived.ProofKit
import Derived.OpenShut
import Derived.LaidMore
import Derived.Lay
import Derived.SevenTiedAt
import Derived.ChangeStays
import Derived.Stop.Joined
import Derived.Carry
import Derived.Lib.SmallJoins
namespace Go.Proofs.YtoojlkfklheoeaaGreatDoor
open Go Go.ChangeShapes Go.WideShapes Go.ChangeAt Go.RowKit Go.Joins

/-- the closed run: the examples -/
theorem awake (W : World) : Calls Tryz.prog 4 #[] W fun e W' => e = .returned (.bool true) ∧ Below W.heap.size W W' := by
  have h := Ax.calls_none (P := Tryz.prog) (D := Ax.D0) (f := (4 : Nat)) (s := Ax.m0.start Tryz.prog) (w := W) Ax.m0_start Ax.m0_goes
  exact h

theorem laid_stays (P : Program) (l : List (String × DataW Unit)) : ∀ (w w' : World) (_ : Array Value), w.heap = w'.heap → laidMetH P l w → laidMetH P l w' :=
  fun _ _ _ hh h => h.of_heap hh

theorem trodAll_five {H : Type} {enc : TypeId × Value → H} {P : Program} {w : World} {base : Nat} {spare : Nat → Bool} {held : Bool} {t t' t'' t3 t4 : TypeId} {args : Array Value} {ds : List (DataW H)} {ps : List MemPlace}
    (h : DataW.TrodAll enc P w base spare held [t, t', t'', t3, t4] args.toList ds ps) :
    ∃ v v' v'' v3 v4 d d' d'' d3 d4 p p' p'' p3 p4, args = #[v, v', v'', v3, v4] ∧ ds = [d, d', d'', d3, d4] ∧ ps = p ++ (p' ++ (p'' ++ (p3 ++ p4))) ∧
      DataW.Trod enc P w base spare held t v d p ∧ DataW.Trod enc P w base spare held t' v' d' p' ∧ DataW.Trod enc P w base spare held t'' v'' d'' p'' ∧ DataW.Trod enc P w base spare held t3 v3 d3 p3 ∧ DataW.Trod enc P w base spare held t4 v4 d4 p4 := by
  obtain ⟨v, vs, d, ds', p, q, hargs, rfl, rfl, hd, hrest⟩ := trodAll_cons h
  obtain ⟨v', vs', d', ds'', p', q', rfl, rfl, rfl, hd', hrest'⟩ := trodAll_cons hrest
  obtain ⟨v'', vs'', d'', ds''', p'', q'', rfl, rfl, rfl, hd'', hrest''⟩ := trodAll_cons hrest'
  obtain ⟨v3, vs3, d3, ds3, p3, q3, rfl, rfl, rfl, hd3, hrest3⟩ := trodAll_cons hrest''
  obtain ⟨v4, vs4, d4, ds4, p4, q4, rfl, rfl, rfl, hd4, hrest4⟩ := trodAll_cons hrest3
  obtain ⟨rfl, rfl, rfl⟩ := trodAll_nil hrest4
  exact ⟨v, v', v'', v3, v4, d, d', d'', d3, d4, p, p', p'', p3, p4, by cases args; simp_all, rfl, by simp, hd, hd', hd'', hd3, hd4⟩

set_option maxRecDepth 100000 in
theorem lifted (os : Os) (started : os.Started) (H : Type) (enc : TypeId × Value → H) :
    ReturnsInHanded {} Tryz.checked os 3 .any (fun w args => (Rows.inductBoundsSpec.pre enc Tryz.prog Tryz.f3 [] false w args ∧ laidMetH Tryz.prog Rows.inductBoundsRow.laid w) ∧ sizedMet enc Tryz.prog Tryz.f3 (OpenSpec.ofChange Rows.inductBoundsSpec) false w args)
      (Rows.inductBoundsSpec.post enc Tryz.prog Tryz.f3 false true false false) := by
  refine returnsInHanded_of_change_and (C := Tryz.checked) (X := fun w _ => laidMetH Tryz.prog Rows.inductBoundsRow.laid w) (laid_stays Tryz.prog Rows.inductBoundsRow.laid) own started (by kernel_rfl) Tryz.func3
    (ChangeSpec.witness_shaped (enc := enc) (C := Tryz.checked) (os := os) (X := fun w _ => laidMetH Tryz.prog Rows.inductBoundsRow.laid w) false (World.laidAll Tryz.prog os Rows.inductBoundsRow.laid) #[.agg #[.slice none 0 0, .slice none 0 0], .string ⟨#[]⟩, .string ⟨#[]⟩, .int .i64 0, .int .i64 0] 8 (World.laidAll_os _ _ _)
      (World.shaped_of_ZipB (by kernel_rfl) (by kernel_rfl)) (by kernel_rfl) (by kernel_rfl) (by kernel_rfl)
      (by rw [MakeChecks.laidMetH_plain _ _ _ (by kernel_rfl)]; exact laidMet_laidAll _ (by kernel_rfl) (by kernel_rfl))) ?_
  intro W base args ds gs before hval0 hW _ _ _ _
  have hval : ∀ (j : Nat) t v, Tryz.f3.params[j]? = some t → args[j]? = some v → Value.okWide Tryz.prog W .any base t v := hval0
  have hW' := hW
  have hlt : ∀ p ∈ before, p.block < W.heap.size := fun p hp => by simpa using hW.lt p hp
  obtain ⟨p, q, hA0, hV, rfl, _, _⟩ := hW
  have hA : DataW.TrodAll enc Tryz.prog W 0 (fun _ => true) true Tryz.f3.params.toList args.toList ds p := hA0
  rw [Tryz.params3] at hA hval
  obtain ⟨v0, v1, v2, v3, v4, d0, d1, d2, d3, d4, p0, p1, p2, p3, p4, rfl, rfl, rfl, h0, h1, h2, h3, h4⟩ := trodAll_five hA
  obtain ⟨rfl, rfl⟩ := trodVars_none hV
  simp only [List.append_nil] at hW' hlt
  have k0 := h0
  have k3 := h3
  have k4 := h4
  obtain ⟨c0, c1, rfl⟩ : ∃ c0 c1, v0 = .agg #[c0, c1] := by
    obtain ⟨c0, c1, _, _, _, hv, _⟩ := open_agg2 Tryz.underlying25 (by kernel_rfl) cells25 (hval 0 25 v0 rfl rfl) h0
    exact ⟨c0, c1, hv⟩
  obtain ⟨d, rfl⟩ : ∃ d, v3 = .int .i64 d := by
    obtain ⟨d, hv, _⟩ := open_int Tryz.underlying3 (hval 3 3 v3 rfl rfl) h3
    exact ⟨d, hv⟩
  obtain ⟨b, rfl⟩ : ∃ b, v4 = .int .i64 b := by
    obtain ⟨b, hv, _⟩ := open_int Tryz.underlying3 (hval 4 3 v4 rfl rfl) h4
    exact ⟨b, hv⟩
  refine (bounds_any c0 c1 v1 v2 d b W awake).mono fun e W' ⟨he, hb⟩ => ?_
  subst he
  have e1 : Rows.inductBoundsSpec.fn H ([d0, d1, d2, d3, d4] ++ []) = { results := [.lit (.bool true)], args := [d0, d1, d2, d3, d4] } := rfl
  have stay : ∀ {t : TypeId} {v : Value} {x : DataW H} {ps : List MemPlace}, Tryz.prog.readableRec t = true → t < Tryz.prog.types.size → DataW.Trod enc Tryz.prog W 0 (fun _ => true) true t v x ps → (∀ y ∈ ps, y.block < W.heap.size) →
      DataW.Trod enc Tryz.prog W' 0 (fun b => decide (b < W.heap.size)) true t v x ps := fun hr ht h hl => Below.trod laidOut hr ht h hb hl
  have stayF : ∀ {t : TypeId} {v : Value} {x : DataW H} {ps : List MemPlace}, Tryz.prog.readableRec t = true → t < Tryz.prog.types.size → DataW.Trod enc Tryz.prog W 0 (fun _ => true) true t v x ps → (∀ y ∈ ps, y.block < W.heap.size) →
      DataW.Trod enc Tryz.prog W' 0 (fun b => decide (b < W.heap.size)) true t v x ps := fun hr ht h hl => stay hr ht h hl
  refine ⟨_, rfl, [d0, d1, d2, d3, d4], [], p0 ++ (p1 ++ (p2 ++ (p3 ++ p4))), [], p0 ++ (p1 ++ (p2 ++ (p3 ++ p4))), [], hW', ?_, ?_, ?_, hb.frame _, fun h => by cases h⟩
  · rw [e1]; exact trodAll_mk1 (shut_bool Tryz.underlying4 true)
  · rw [e1]
    exact trodAll_cons_mk (stay read25 row25 k0 fun x hx => hlt x (by simp [hx])) (trodAll_cons_mk (stay read9 row9 h1 fun x hx => hlt x (by simp [hx])) (trodAll_cons_mk (stay read9 row9 h2 fun x hx => hlt x (by simp [hx]))
      (trodAll_mk2 (stay read3 row3 k3 fun x hx => hlt x (by simp [hx])) (stay read3 row3 k4 fun x hx => hlt x (by simp [hx])))))
  · rw [e1]; rfl

theorem row_holds : Rows.InductBoundsSaid :=
  OpenClaim.holds_of_wide 3 Tryz.f3 rfl rfl rfl rfl rfl rfl rfl ⟨rfl, rfl, rfl, rfl, rfl⟩ rfl rfl rfl rfl rfl named3 Tryz.func3 facts instance3 wrapper3
    (fun os started H enc _ => lifted os started H enc)

theorem goes_not {P : Program} {c : OpenClaim} (no : P.funcs.any Func.goes = false) (hs : c.start = .entering) : false = c.goesBy P := by
  have h1 : ∀ g : Nat, (P.funcs[g]?).any Func.goes = false := by
    intro g
    cases hg : P.funcs[g]? with
    | none => rfl
    | some fn =>
      cases hq : fn.goes with
      | false => simpa using hq
      | true =>
        have : P.funcs.any Func.goes = true := Array.any_eq_true'.2 ⟨fn, Array.mem_of_getElem? hg, hq⟩
        rw [no] at this; cases this
  have h2 : ∀ f, P.goes f = false := by
    intro f
    unfold Program.goes
    rw [no, Bool.and_false, Bool.or_false, List.any_eq_false]
    intro g _
    rw [h1 g]
    exact Bool.false_ne_true
  have h3 : P.goesFrom c.func = false := by
    unfold Program.goesFrom
    cases P.funcNamed c.func with
    | none => rfl
    | some f => exact h2 f
  unfold OpenClaim.goesBy Program.goesAt
  rw [h3, hs]; rfl

theorem inductBounds_holds : Rows.InductBoundsCardSaid :=
  Claim7.holds_tied_plain_at .later [] [.data, .data, .data] true (true, "96c0ae6ca1aace6e6f3e87817e503e36ae4a5221c85c455c44bd5e35d76677d7") true row_holds (fun _ h => by cases h) (by kernel_rfl) (fun _ h => by cases h) inductBounds_row_tie rfl ⟨rfl, rfl⟩ (by kernel_rfl) rfl
    (fun f fn hf hfn => by
      obtain rfl : f = 3 := Option.some.inj (named3.symm.trans hf) |>.symm
      obtain rfl : fn = Tryz.f3 := (Option.some.inj (Tryz.func3.symm.trans hfn)).symm
      exact ⟨by kernel_rfl, fun j t ht => by
        rw [Tryz.params3] at ht
        have hm : t ∈ [25, 9, 9, 3, 3] := by simpa using Array.mem_of_getElem? ht
        have hall : ([25, 9, 9, 3, 3].all fun u => !Tryz.prog.wantsStandIn u) = true := by kernel_rfl
        exact (show Tryz.prog.wantsStandIn t = false by simpa using List.all_eq_true.1 hall t hm)⟩)
    (goes_not noGo rfl)
#print axioms inductBounds_holds
end Go.Proofs.YtoojlkfklheoeaaGreatDoor
