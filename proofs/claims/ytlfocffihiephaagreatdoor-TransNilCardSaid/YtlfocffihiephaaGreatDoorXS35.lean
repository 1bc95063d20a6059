/- Part of an abstract executor of the model's machine, and of its law (S35). -/
import Derived.Test.YtlfocffihiephaaGreatDoorXS34
namespace Go.Ax
open Go.RowKit (Below)
variable {P : Program} {D : Nat → Nat} {base : Nat} {w0 : World} {f0 : Nat} {cs0 : List Frame}

/-! jumps -/
theorem exitA_cons (id : Nat) (i : AI) (k : List AI) : exitA id (i :: k) = match i with | .blk id' => if id' = id then some k else exitA id k | _ => exitA id k := by
  cases i <;> first | rfl | skip
  rename_i id'
  show bc (Nat.beq id' id) (some k) (exitA id k) = _
  rw [bc_ite]
  by_cases hh : id' = id
  · subst hh; rw [if_pos (Nat.beq_refl _)]; simp
  · rw [if_neg (fun hq => hh (beq_eq hq))]; simp [hh]

theorem exitA_sound {E : En} (id : Nat) : ∀ {k : List AI} {K : List Item}, ItL E k K → (∀ k', exitA id k = some k' → ∃ K', exitTo id K = some K' ∧ ItL E k' K') ∧ (exitA id k = none → exitTo id K = none)
  | _, _, .nil => ⟨fun k' hk => (nomatch hk), fun _ => rfl⟩
  | _, _, .cons h t => by
    have ih := exitA_sound id t
    rw [exitA_cons]
    cases h with
    | blk id' =>
      simp only
      by_cases hh : id' = id
      · subst hh
        simp only [if_true, exitTo, beq_self_eq_true]
        exact ⟨fun k' hk => (by cases hk; exact ⟨_, rfl, t⟩), fun hk => (nomatch hk)⟩
      · have : (id' == id) = false := by simpa using hh
        simp only [if_neg hh, exitTo, this, Bool.false_eq_true, if_false]
        exact ih
    | _ => exact ih

theorem gotoA_sound {E : En} (l : Nat) : ∀ {k : List AI} {K : List Item}, ItL E k K → (∀ k', gotoA l k = some k' → ∃ K', gotoIn l K = some K' ∧ ItL E k' K') ∧ (gotoA l k = none → gotoIn l K = none)
  | _, _, .nil => ⟨fun k' hk => (nomatch hk), fun _ => rfl⟩
  | _, _, .cons h t => by
    have ih := gotoA_sound l t
    cases h with
    | scope body =>
      simp only [gotoA, gotoIn]
      cases hf : findLabel body l with
      | none => exact ih
      | some rest => exact ⟨fun k' hk => (by cases hk; exact ⟨_, rfl, .cons (.code _) (.cons (.scope _) t)⟩), fun hk => (nomatch hk)⟩
    | _ => exact ih

/-! a frame is left -/
theorem run_setLoop {w : World} {c : Nat} {L : Loop} {ob : Obj} (hg : w.heap[c]? = some (.loop L)) : (setObj c ob).run P w = .ok () { w with heap := w.heap.setIfInBounds c ob } := by
  simp [setObj, Sem.run, hg]

theorem run_endRound {w : World} {c : Nat} {L : Loop} (hg : w.heap[c]? = some (.loop L)) (jump : Option Code) :
    (Instr.endRound c jump).run P w = .ok (.bool jump.isNone) { w with heap := w.heap.setIfInBounds c (.loop { L with state := if jump.isNone then .ready else .done, pending := jump }) } := by
  simp [Instr.endRound, run_getLoop hg, run_setLoop hg]

section
variable {fr : Frame} {fcs : List Frame} {w w' : World} {V : Value} {frc : Frame}
/-- the four places at which a frame is left -/
inductive Leaves (fr : Frame) : Option Code → Bool → Prop
  | fin (ht : fr.todo = []) : Leaves fr none true
  | ret {k : List Item} (ht : fr.todo = .code .ret :: k) : Leaves fr (some .ret) true
  | exit {id : Nat} {k : List Item} (ht : fr.todo = .code (.exit id) :: k) (he : exitTo id k = none) : Leaves fr (some (.exit id)) false
  | goto {l : Nat} {k : List Item} (ht : fr.todo = .code (.goto l) :: k) (he : gotoIn l k = none) : Leaves fr (some (.goto l)) false

theorem step_leaves {jump : Option Code} {go : Bool} (hl : Leaves fr jump go) (hm : fr.mode = .run) (hr : fr.roundOf = none) (hg : go = true) :
    step P (lone fr fcs w) = .next (lone { fr with mode := .returning } fcs w) := by
  refine step_lone_go ?_
  cases hl with
  | fin ht => simp [stepG, hm, stepG.exec, ht, hr]
  | ret ht => simp [stepG, hm, stepG.exec, ht, hr]
  | exit ht he => cases hg
  | goto ht he => cases hg

theorem step_endsRound {jump : Option Code} {go : Bool} {l : Nat} (hl : Leaves fr jump go) (hm : fr.mode = .run) (hr : fr.roundOf = some l) (hk : fr.kind = .normal) (he : (Instr.endRound l jump).run P w = .ok V w') :
    step P (lone fr (frc :: fcs) w) = .next (lone (frc.finish V) fcs w') := by
  refine step_lone_go ?_
  cases hl with
  | fin ht => simp [stepG, hm, stepG.exec, ht, hr, he, doReturn, hk]
  | ret ht => simp [stepG, hm, stepG.exec, ht, hr, he, doReturn, hk]
  | exit ht hx => simp [stepG, hm, stepG.exec, ht, hr, he, doReturn, hk, hx]
  | goto ht hx => simp [stepG, hm, stepG.exec, ht, hr, he, doReturn, hk, hx]
end

theorem keep_put {fl : Nat} {E : En} {h : H} {b c q : Nat} {x : Option AB} (he : E.m b = some (c, q)) : Keep fl E h E (bput b x h) :=
  ⟨.refl _ _, fun k _ hk => by
    rw [bget_put, if_neg]
    rintro ⟨rfl, _⟩
    rw [he] at hk; cases hk⟩

section
variable {E : En} {h : H} {fl nx : Nat} {w : World} {fs : FS} {df : List ADf} {cs : List Fr} {fcs : List Frame} {tm : Tm} {fr : Frame} {j : J} {r : St}

theorem leave_goes (R : HR D base w0 E h nx w) (hfl : fl ≤ nx) (hb : FrB D E fs df fr) (hm : fr.mode = .run) (T : TmR E (D fs.fn) tm fr.tmps) (C : CsR P D f0 cs0 E h fl fs.fn fs.dk cs fcs)
    {jump : Option Code} {go : Bool} (hl : Leaves fr jump go) (hr : leaveA P D jump go ⟨fs, df, cs⟩ tm h nx j = some r) : Goes P D base w0 f0 cs0 (lone fr fcs w) j r := by
  have hrd := hb.rd
  cases hrf : fs.rd with
  | none =>
    rw [hrf] at hrd
    have hround : fr.roundOf = none := by generalize hz : fr.roundOf = z at hrd; cases hrd; rfl
    have hr : bc go (j ⟨fs, df, cs⟩ tm h nx [] true) none = some r := by
      simp only [leaveA, hrf] at hr; exact hr
    obtain ⟨hg, hr⟩ := bc_some hr
    exact .inl ⟨E, fl, ⟨fs, df, cs⟩, tm, h, nx, [], true, { fr with mode := .returning }, fcs, w, hr, .one (step_leaves hl hm hround hg), ⟨⟨hb.fn, hb.size, hb.bound, hb.df, hb.kind, hb.rd⟩, rfl, (fun hh => by cases hh), T, C, hfl, R⟩⟩
  | some lb =>
    rw [hrf] at hrd
    obtain ⟨lc, q, hround, he⟩ : ∃ lc q, fr.roundOf = some lc ∧ E.m lb = some (lc, q) := by
      generalize hz : fr.roundOf = z at hrd
      cases hrd with
      | some h => exact ⟨_, _, rfl, h⟩
    have hr : bc fs.dk none (onList cs none fun _ _ => onLoop (bget lb h) none fun L => popA P D false cs (.bool (bnot (isSome' jump))) (bput lb (some (.loop { L with state := Option.rec .ready (fun _ => .done) jump, pending := jump })) h) nx j) = some r := by
      simp only [leaveA, hrf] at hr; exact hr
    replace hr := bc_some' hr
    obtain ⟨hdk, hr⟩ := hr
    replace hr := onList_some hr
    obtain ⟨c, crest, hcs, hr⟩ := hr
    obtain ⟨L, hL, hr⟩ := onLoop_some hr
    obtain ⟨L', hLR, hobj⟩ := R.loop he hL
    have hk : fr.kind = .normal := by have := hb.kind; rw [hdk] at this; exact this
    have hend := run_endRound (P := P) hobj jump
    have hLR' : LoopR D E { L with state := Option.rec .ready (fun _ => .done) jump, pending := jump } { L' with state := if jump.isNone then .ready else .done, pending := jump } := by
      refine { hLR with state := ?_, pending := rfl }
      cases jump <;> rfl
    have R' := R.set he hL (.loop hLR') (setMap_upd hobj)
    have hv : VR E (.bool (bnot (isSome' jump))) (.bool jump.isNone) := by cases jump <;> exact .bool _
    have C' := C.keep (keep_put (fl := fl) (h := h) (x := some (.loop { L with state := Option.rec .ready (fun _ => .done) jump, pending := jump })) he)
    rw [hdk] at C'
    refine pop_goes (P := P) R' hfl C' hv hr ?_ ?_
    · intro frc frest hf _
      subst hf
      exact .inl (step_endsRound hl hm hround hk hend)
    · intro hh; rw [hcs] at hh; cases hh
end
end Go.Ax
