/- TransNil: whatever the two slices, the call returns true, and what they hold reads behind the call as before. The condition: three tables of Go's library hold what the row lists (the card ties that to the program's text). The walk is a run of an abstract executor, reckoned by the kernel, and the executor's law. -/
import Derived.Test.YtlfocffihiephaaGreatDoorTie
import Derived.Test.YtlfocffihiephaaGreatDoorCards
import Derived.Test.YtlfocffihiephaaGreatDoorXQC1
import Derived.Test.YtlfocffihiephaaGreatDoorXQC2
import Derived.Test.YtlfocffihiephaaGreatDoorXQC3
import Derived.Test.YtlfocffihiephaaGreatDoorXQC4
import Derived.Test.YtlfocffihiephaaGreatDoorXQC5
import Derived.Test.YtlfocffihiephaaGreatDoorXFc
import Derived.ProofKit
import Derived.OpenShut
import Derived.LaidMore
import Derived.Lay
import Derived.SevenTiedAt
import Derived.ChangeStays
import Derived.Stop.Joined
namespace Go.Proofs.YtlfocffihiephaaGreatDoor
open Go Go.ChangeShapes Go.WideShapes Go.ChangeAt Go.RowKit

/-- the walk: the whole call -/
theorem walk (W : World) (args : Array Value) (hsz : args.size = 2) (ho : ∀ V ∈ args.toList, Ax.vone V = true) :
    Calls Tryz.prog 3 args W fun e W' => e = .returned (.bool true) ∧ Below W.heap.size W W' := by
  refine Ax.fin_calls (D := Ax.D0) (s := Ax.s4 Tryz.prog) (fun cs0 => ?_) Ax.c5
  have h0 := Ax.start_reach (P := Tryz.prog) (D := Ax.D0) (w := W) (f := 3) ho (s := Ax.s0 Tryz.prog) cs0 (by rw [hsz]; exact Ax.c0)
  exact Ax.next_reach (Ax.next_reach (Ax.next_reach (Ax.next_reach h0 Ax.c1) Ax.c2) Ax.c3) Ax.c4

theorem own : ownKnob Tryz.prog.godebug = none := by kernel_rfl
def here (t : TypeId) : Prop := t = 22 ∨ t = 23 ∨ t = 4 ∨ t = 3
theorem kids : Kids Tryz.prog here := by
  have u22 := Tryz.underlying22
  have u23 := Tryz.underlying23
  have u4 := Tryz.underlying4
  have u3 := Tryz.underlying3
  refine ⟨?_, ?_, ?_, ?_, ?_⟩
  · rintro t e (rfl | rfl | rfl | rfl) h <;> simp_all
  · rintro t e (rfl | rfl | rfl | rfl) h
    · rw [u22] at h; cases h; exact .inr (.inr (.inl rfl))
    · rw [u23] at h; cases h; exact .inr (.inr (.inr rfl))
    · rw [u4] at h; cases h
    · rw [u3] at h; cases h
  · rintro t e n (rfl | rfl | rfl | rfl) h <;> simp_all
  · rintro t fs (rfl | rfl | rfl | rfl) h <;> simp_all
  · rintro t k e (rfl | rfl | rfl | rfl) h <;> simp_all
theorem cells3 : Tryz.prog.cellsOf 3 = 1 := by kernel_rfl
theorem cells4 : Tryz.prog.cellsOf 4 = 1 := by kernel_rfl
theorem sizes {t e : TypeId} (ht : here t) (h : Tryz.prog.underlying t = some (.slice e)) : 0 < Tryz.prog.cellsOf e := by
  rcases ht with rfl | rfl | rfl | rfl
  · rw [Tryz.underlying22] at h; cases h; rw [cells4]; omega
  · rw [Tryz.underlying23] at h; cases h; rw [cells3]; omega
  · rw [Tryz.underlying4] at h; cases h
  · rw [Tryz.underlying3] at h; cases h

theorem one_of_slice {P : Program} {W : World} {base : Nat} {t e : TypeId} {v : Value} (ht : P.underlying t = some (.slice e)) (h : Value.okWide P W .any base t v) : Ax.vone v = true := by
  cases v <;> first | rfl | (simp [Value.okWide, ht, Cell.okWide, Cell.ok] at h)

theorem laid_stays (P : Program) (l : List (String × DataW Unit)) : ∀ (w w' : World) (_ : Array Value), w.heap = w'.heap → laidMetH P l w → laidMetH P l w' :=
  fun _ _ _ hh h => h.of_heap hh

set_option maxRecDepth 100000 in
theorem lifted (os : Os) (started : os.Started) (H : Type) (enc : TypeId × Value → H) :
    ReturnsInHanded {} Tryz.checked os 3 .any (fun w args => (Rows.transNilSpec.pre enc Tryz.prog Tryz.f3 [] false w args ∧ laidMetH Tryz.prog Rows.transNilRow.laid w) ∧ sizedMet enc Tryz.prog Tryz.f3 (OpenSpec.ofChange Rows.transNilSpec) false w args)
      (Rows.transNilSpec.post enc Tryz.prog Tryz.f3 false true false false) := by
  refine returnsInHanded_of_change_and (C := Tryz.checked) (X := fun w _ => laidMetH Tryz.prog Rows.transNilRow.laid w) (laid_stays Tryz.prog Rows.transNilRow.laid) own started (by kernel_rfl) Tryz.func3
    (ChangeSpec.witness_shaped (enc := enc) (C := Tryz.checked) (os := os) (X := fun w _ => laidMetH Tryz.prog Rows.transNilRow.laid w) false (World.laidAll Tryz.prog os Rows.transNilRow.laid) #[.slice none 0 0, .slice none 0 0] 8 (World.laidAll_os _ _ _)
      (World.shaped_of_ZipB (by kernel_rfl) (by kernel_rfl)) (by kernel_rfl) (by kernel_rfl) (by kernel_rfl)
      (by rw [MakeChecks.laidMetH_plain _ _ _ (by kernel_rfl)]; exact laidMet_laidAll _ (by kernel_rfl) (by kernel_rfl))) ?_
  intro W base args ds gs before hval0 hW _ _ _ _
  have hval : ∀ (j : Nat) t v, Tryz.f3.params[j]? = some t → args[j]? = some v → Value.okWide Tryz.prog W .any base t v := hval0
  have hW' := hW
  have hlt : ∀ p ∈ before, p.block < W.heap.size := fun p hp => by simpa using hW.lt p hp
  obtain ⟨p, q, hA0, hV, rfl, _, _⟩ := hW
  have hA : DataW.TrodAll enc Tryz.prog W 0 (fun _ => true) true Tryz.f3.params.toList args.toList ds p := hA0
  rw [Tryz.params3] at hA hval
  obtain ⟨v0, v1, d0, d1, p0, p1, rfl, rfl, rfl, h0, h1⟩ := trodAll_two hA
  obtain ⟨rfl, rfl⟩ := trodVars_none hV
  have o0 := one_of_slice Tryz.underlying22 (hval 0 22 v0 rfl rfl)
  have o1 := one_of_slice Tryz.underlying23 (hval 1 23 v1 rfl rfl)
  simp only [List.append_nil] at hW' hlt
  refine (walk W #[v0, v1] rfl (by intro V hV; simp at hV; rcases hV with rfl | rfl <;> assumption)).mono fun e W' ⟨he, hb⟩ => ?_
  subst he
  have stays : ∀ {t : TypeId} {v : Value} {d : DataW H} {ps : List MemPlace} {sp : Nat → Bool}, here t → DataW.Trod enc Tryz.prog W 0 (fun _ => true) true t v d ps → (∀ x ∈ ps, x.block < W.heap.size) → (∀ x ∈ ps, sp x.block = true) → DataW.Trod enc Tryz.prog W' 0 sp true t v d ps := by
    rintro t v d ps sp ht ⟨fuel, h⟩ hl hs
    exact ⟨fuel, DataW.trod_stays kids (fun ht h => sizes ht h) (fun h => by cases h) ht h (fun x hx => hb.same (hl x hx)) hs⟩
  have hsp : ∀ x ∈ p0 ++ p1, (fun b => decide (b < W.heap.size)) x.block = true := fun x hx => by simpa using hlt x hx
  have e1 : Rows.transNilSpec.fn H ([d0, d1] ++ []) = { results := [.lit (.bool true)], args := [d0, d1] } := rfl
  refine ⟨_, rfl, [d0, d1], [], p0 ++ p1, [], p0 ++ p1, [], hW', ?_, ?_, ?_, hb.frame _, fun h => by cases h⟩
  · rw [e1]; exact trodAll_mk1 (shut_bool Tryz.underlying4 true)
  · rw [e1]
    exact trodAll_mk2 (stays (.inl rfl) h0 (fun x hx => hlt x (by simp [hx])) fun x hx => hsp x (by simp [hx])) (stays (.inr (.inl rfl)) h1 (fun x hx => hlt x (by simp [hx])) fun x hx => hsp x (by simp [hx]))
  · rw [e1]; rfl

theorem row_holds : Rows.TransNilSaid :=
  OpenClaim.holds_of_wide 3 Tryz.f3 rfl rfl rfl rfl rfl rfl rfl ⟨rfl, rfl, rfl, rfl, rfl⟩ rfl rfl rfl rfl rfl named3 Tryz.func3 facts instance3 wrapper3
    (fun os started H enc _ => lifted os started H enc)

theorem goes_not {P : Program} {c : OpenClaim} (no : P.funcs.any Func.goes = false) (hs : c.start = .entering) : false = c.goesBy P := by
  have h1 : ∀ g : Nat, (P.funcs[g]?).any Func.goes = false := by
    intro g
    cases hg : P.funcs[g]? with
    | none => rfl
    | some fn =>
      cases hq : fn.goes with
      | false => simpa using hq
      | true =>
        have : P.funcs.any Func.goes = true := Array.any_eq_true'.2 ⟨fn, Array.mem_of_getElem? hg, hq⟩
        rw [no] at this; cases this
  have h2 : ∀ f, P.goes f = false := by
    intro f
    unfold Program.goes
    rw [no, Bool.and_false, Bool.or_false, List.any_eq_false]
    intro g _
    rw [h1 g]
    exact Bool.false_ne_true
  have h3 : P.goesFrom c.func = false := by
    unfold Program.goesFrom
    cases P.funcNamed c.func with
    | none => rfl
    | some f => exact h2 f
  unfold OpenClaim.goesBy Program.goesAt
  rw [h3, hs]; rfl

theorem transNil_holds : Rows.TransNilCardSaid :=
  Claim7.holds_tied_plain_at .later [] [.data, .data, .data] true (true, "5536c2a650a34053d7e8ca45b8aaff57aabf112113abc813f78f2f5d75160547") true row_holds (fun _ h => by cases h) (by kernel_rfl) (fun _ h => by cases h) transNil_row_tie rfl ⟨rfl, rfl⟩ (by kernel_rfl) rfl
    (fun f fn hf hfn => by
      obtain rfl : f = 3 := Option.some.inj (named3.symm.trans hf) |>.symm
      obtain rfl : fn = Tryz.f3 := (Option.some.inj (Tryz.func3.symm.trans hfn)).symm
      exact ⟨by kernel_rfl, fun j t ht => by
        rw [Tryz.params3] at ht
        have hm : t ∈ [22, 23] := by simpa using Array.mem_of_getElem? ht
        have hall : ([22, 23].all fun u => !Tryz.prog.wantsStandIn u) = true := by kernel_rfl
        exact (show Tryz.prog.wantsStandIn t = false by simpa using List.all_eq_true.1 hall t hm)⟩)
    (goes_not noGo rfl)
#print axioms transNil_holds
end Go.Proofs.YtlfocffihiephaaGreatDoor
