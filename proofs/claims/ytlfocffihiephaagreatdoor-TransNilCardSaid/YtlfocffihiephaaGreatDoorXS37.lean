/- Part of an abstract executor of the model's machine, and of its law (S37). -/
import Derived.Test.YtlfocffihiephaaGreatDoorXS36
import Derived.Defers
namespace Go.Ax
open Go.RowKit (Below)
variable {P : Program} {D : Nat → Nat} {base : Nat} {w0 : World} {f0 : Nat} {cs0 : List Frame}

section
variable {fr : Frame} {fcs : List Frame} {w w' : World} {k : List Item} {V : Value} {frc : Frame}

theorem run_beginRound {c : Nat} {L : Loop} (hg : w.heap[c]? = some (.loop L)) (hs : L.state = .ready) :
    (Instr.beginRound c).run P w = .ok () { w with heap := w.heap.setIfInBounds c (.loop { L with state := .busy }) } := by
  simp [Instr.beginRound, run_getLoop hg, run_setLoop hg, hs]
theorem run_endLoop {c : Nat} {L : Loop} (hg : w.heap[c]? = some (.loop L)) (hs : L.state ≠ .busy) :
    (Instr.endLoop c).run P w = .ok L.pending { w with heap := w.heap.setIfInBounds c (.loop { L with state := .exhausted }) } := by
  simp [Instr.endLoop, run_getLoop hg, run_setLoop hg, hs]

theorem step_begin {l : Nat} (hm : fr.mode = .run) (ht : fr.todo = .beginRound :: k) (hr : fr.roundOf = some l) (he : (Instr.beginRound l).run P w = .ok () w') :
    step P (lone fr fcs w) = .next (lone { fr with todo := k } fcs w') := by
  refine step_lone_go ?_
  simp [stepG, hm, stepG.exec, ht, hr, stepG.apply, he, Frame.finish]
theorem step_endLoop {l : Nat} {jump : Option Code} (hm : fr.mode = .run) (ht : fr.todo = .endRangeFunc l :: k) (he : (Instr.endLoop l).run P w = .ok jump w') :
    step P (lone fr fcs w) = .next (lone { fr with todo := (jump.map Item.code).toList ++ k } fcs w') := by
  refine step_lone_go ?_
  simp [stepG, hm, stepG.exec, ht, he]

theorem step_return {fn : Func} (hm : fr.mode = .returning) (hd : fr.defers = []) (hf : P.funcs[fr.fn]? = some fn) (hr : (results fn fr.tmps).run P w = .ok V w) (hk : fr.kind = .normal) :
    step P (lone fr (frc :: fcs) w) = .next (lone (frc.finish V) fcs w) := by
  refine step_lone_go ?_
  simp [stepG, hm, unwind, hd, hf, hr, doReturn, hk]
theorem step_returnD {fn : Func} (hm : fr.mode = .returning) (hd : fr.defers = []) (hf : P.funcs[fr.fn]? = some fn) (hr : (results fn fr.tmps).run P w = .ok V w) (hk : fr.kind = .deferred) (hc : frc.mode = .returning) :
    step P (lone fr (frc :: fcs) w) = .next (lone frc fcs w) := by
  refine step_lone_go ?_
  simp [stepG, hm, unwind, hd, hf, hr, doReturn, hk, hc]
theorem step_take {c : Nat} {args : Array Value} {ds calls : List Deferred} (hm : fr.mode = .returning) (hd : fr.defers = { target := .collected c, args } :: ds) (he : (Instr.takeDeferred c).run P w = .ok calls w') :
    step P (lone fr fcs w) = .next (lone { fr with defers := calls ++ ds } fcs w') := by
  refine step_lone_go ?_
  simp [stepG, hm, unwind, hd, he]
end

theorem appD_eq (l r : List ADf) : appD l r = l ++ r := by
  induction l with
  | nil => rfl
  | cons x l ih => show x :: appD l r = _; rw [ih]; rfl

section
variable {E : En} {h : H} {fl nx : Nat} {w : World} {sk : SK} {fcs : List Frame} {tm : Tm} {fr : Frame} {j : J} {r : St} {todo : List AI} {ret : Bool}

theorem unwind_goes {fs : FS} {df : List ADf} {cs : List Fr} (S : SR P D base w0 f0 cs0 E fl ⟨fs, df, cs⟩ tm h nx todo true fr fcs w) (hr : unwindA P D fs.fn fs df cs tm h nx todo j = some r) : Goes P D base w0 f0 cs0 (lone fr fcs w) j r := by
  have hb := S.fb
  have hm : fr.mode = .returning := S.mode
  have hdf := hb.df
  have hbf := hb.fn
  have hk := hb.kind
  simp only at hdf hbf hk
  generalize hds : fr.defers = ds at hdf
  cases hdf with
  | nil =>
    obtain ⟨v, hv, hr⟩ := ob_some' (x := (cres P D fs.fn).g tm h) hr
    obtain ⟨fn, V, hf, hV, hrun⟩ := cres_sound (P := P) S.hr S.tm hv
    rw [← hbf] at hf
    refine pop_goes (P := P) S.hr S.fl S.cs hV hr ?_ ?_
    · intro frc frest hfc _
      subst hfc
      cases hdk : fs.dk with
      | false =>
        rw [hdk] at hk
        exact .inl (step_return hm hds hf hrun hk)
      | true =>
        rw [hdk] at hk
        by_cases hcm : frc.mode = .returning
        · exact .inl (step_returnD hm hds hf hrun hk hcm)
        · exact .inr ⟨rfl, hcm⟩
    · intro hcs hfcs hfn hdk
      subst hfcs
      have hdk : fs.dk = false := hdk
      rw [hdk] at hk
      exact ⟨v, h, nx, E, V, w, fr, rfl, .refl _ _, by rw [hbf]; exact hfn, ⟨hm, hds, hk, fn, hf, hrun⟩, hV, S.hr⟩
  | @cons d d' ds0 ds' hd hdt =>
    cases hd with
    | @call dd g Cp A hg hC hA =>
      have hr : (Fn.rec (fun g => bc (isFn P g) ((center P D g).e (app dd.args dd.cap) true fun fs' tm' td' => j ⟨fs', [], ⟨fs, tm, todo, ds0, true⟩ :: cs⟩ tm' h nx td' false) none) (fun _ => none) (fun _ _ => none) (fun _ _ _ _ => none) (fun _ => none) dd.fn : Option St) = some r := hr
      generalize hfn : dd.fn = q at hr hg
      cases hg with
      | func gf =>
        have hr : bc (isFn P gf) ((center P D gf).e (app dd.args dd.cap) true fun fs' tm' td' => j ⟨fs', [], ⟨fs, tm, todo, ds0, true⟩ :: cs⟩ tm' h nx td' false) none = some r := hr
        obtain ⟨hisf, hr⟩ := bc_some hr
        obtain ⟨fn, c, hf, hbody, h512, hD, hlen, hr⟩ := center_some hr
        have hall : VRL E (app dd.args dd.cap) (A.toArray ++ Cp.toArray).toList := by
          rw [app_eq]; simpa using hA.append hC
        have hst := step_defer (P := P) (fr := fr) (cs := fcs) (w := w) (by rw [hm]; exact fun hh => by cases hh) hds rfl (f := gf) (args := A.toArray ++ Cp.toArray) (by
          simp only [invoke]; exact run_callFunc hisf _ _)
        have hsus : SusR P D E h fl nx true ⟨fs, tm, todo, ds0, true⟩ { fr with defers := ds' } := .ret ⟨hb.fn, hb.size, hb.bound, hdt, hb.kind, hb.rd⟩ hm S.tm
        exact .inl ⟨E, nx, _, _, _, _, _, _, _, _, _, hr, .one hst, SR.enter S.hr S.fl hf hbody h512 hD hlen hall hsus S.cs⟩
      | _ => cases hr
    | @coll b c q he =>
      have hr : (Option.rec none (fun x => AB.rec (fun _ _ _ => none) (fun _ _ _ _ => none) (fun _ _ => none) (fun _ => none)
        (fun l => ob l fun l => j ⟨fs, appD l ds0, cs⟩ tm (bput b (some (.dfr none)) h) nx todo true) x) (bget b h) : Option St) = some r := hr
      cases hbg : bget b h with
      | none => rw [hbg] at hr; cases hr
      | some ab =>
        rw [hbg] at hr
        cases ab with
        | dfr l =>
          obtain ⟨l, hl, hr⟩ := ob_some' (x := l) hr
          subst hl
          obtain ⟨_, ob, hob, br⟩ := S.hr.get he hbg
          cases br with
          | @dfr _ l' hll =>
            have htake : (Instr.takeDeferred c).run P w = .ok l' { w with heap := w.heap.setIfInBounds c (.deferred none) } := by
              have h1 : (getObj c).run P w = .ok (.deferred (some l')) w := by simp [getObj, Sem.run, hob]
              have h2 : (setObj c (.deferred none)).run P w = .ok () { w with heap := w.heap.setIfInBounds c (.deferred none) } := by simp [setObj, Sem.run, hob]
              simp only [Instr.takeDeferred, Sem.run_bind, h1, Result.andThen_ok, h2, Sem.run_pure]
            have R' := S.hr.set he hbg (.dfrN) (setMap_upd (ob := .deferred none) hob)
            refine .inl ⟨E, fl, _, _, _, _, _, _, _, _, _, hr, .one (step_take hm hds htake), ⟨⟨hb.fn, hb.size, hb.bound, ?_, hb.kind, hb.rd⟩, hm, (fun hh => by cases hh), S.tm, S.cs.keep (keep_put he), S.fl, R'⟩⟩
            show DRL E (appD l ds0) (l' ++ ds')
            rw [appD_eq]; exact hll.append hdt
        | _ => cases hr

theorem step_goes (S : SR P D base w0 f0 cs0 E fl sk tm h nx todo ret fr fcs w) (hr : stepA P D sk tm h nx todo ret j = some r) : Goes P D base w0 f0 cs0 (lone fr fcs w) j r := by
  obtain ⟨⟨f, n, dk, rd⟩, df, cs⟩ := sk
  have hr : bc ret (unwindA P D f ⟨f, n, dk, rd⟩ df cs tm h nx todo j)
      (onList todo (leaveA P D none true ⟨⟨f, n, dk, rd⟩, df, cs⟩ tm h nx j) fun i k => (citem P D f i).s ⟨⟨f, n, dk, rd⟩, df, cs⟩ tm h nx k j) = some r := hr
  cases ret with
  | true => exact unwind_goes S hr
  | false =>
    have hm : fr.mode = .run := S.mode
    have hit := S.items rfl
    have hb := S.fb
    simp only [bc_false] at hr
    generalize htd : fr.todo = K at hit
    cases hit with
    | nil => exact leave_goes S.hr S.fl hb hm S.tm S.cs (.fin htd) hr
    | @cons i I k K hI hK =>
      have hr : (citem P D f i).s ⟨⟨f, n, dk, rd⟩, df, cs⟩ tm h nx k j = some r := hr
      cases hI with
      | code c => exact ccode_goes (fs := ⟨f, n, dk, rd⟩) c S.hr S.fl hb hm htd hK S.tm S.cs hr
      | blk id => exact .inl ⟨E, fl, _, _, _, _, _, _, _, _, _, hr, .one (step_item hm htd (.inl ⟨id, rfl, rfl⟩)), ⟨hb.todo _, hm, fun _ => hK, S.tm, S.cs, S.fl, S.hr⟩⟩
      | scope c => exact .inl ⟨E, fl, _, _, _, _, _, _, _, _, _, hr, .one (step_item hm htd (.inr (.inl ⟨c, rfl, rfl⟩))), ⟨hb.todo _, hm, fun _ => hK, S.tm, S.cs, S.fl, S.hr⟩⟩
      | loop c =>
        refine .of_steps (.one (step_item hm htd (.inr (.inr ⟨c, rfl, rfl⟩)))) ?_
        exact ccode_goes (fs := ⟨f, n, dk, rd⟩) c S.hr S.fl (hb.todo _) hm rfl (.cons (.loop c) hK) S.tm S.cs hr
      | @erf l lc q he =>
        obtain ⟨L, hL, hr⟩ := onLoop_some hr
        obtain ⟨L', hLR, hobj⟩ := S.hr.loop he hL
        have hbusy : L.state ≠ .busy := by intro hh; rw [hh] at hr; cases hr
        have hr : j ⟨⟨f, n, dk, rd⟩, df, cs⟩ tm (bput l (some (.loop { L with state := .exhausted })) h) nx (Option.rec k (fun c => .code c :: k) L.pending) false = some r := by
          cases hs : L.state <;> rw [hs] at hr <;> first | exact absurd hs hbusy | exact hr
        have hend := run_endLoop (P := P) hobj (by rw [hLR.state]; exact hbusy)
        have R' := S.hr.set he hL (.loop (L := { L with state := .exhausted }) (L' := { L' with state := .exhausted }) { hLR with state := rfl }) (setMap_upd hobj)
        refine .inl ⟨E, fl, _, _, _, _, _, _, _, _, _, hr, .one (step_endLoop hm htd hend), ⟨hb.todo _, hm, fun _ => ?_, S.tm, S.cs.keep (keep_put he), S.fl, R'⟩⟩
        rw [hLR.pending]
        cases L.pending with
        | none => exact hK
        | some c => exact .cons (.code c) hK
      | br =>
        have hrd := hb.rd
        have hr : (Option.rec none (fun l => onLoop (bget l h) none fun L => match L.state with
            | .ready => j ⟨⟨f, n, dk, rd⟩, df, cs⟩ tm (bput l (some (.loop { L with state := .busy })) h) nx k false
            | _ => none) rd : Option St) = some r := hr
        cases rd with
        | none => cases hr
        | some lb =>
          obtain ⟨lc, q, hround, he⟩ : ∃ lc q, fr.roundOf = some lc ∧ E.m lb = some (lc, q) := by
            simp only at hrd
            generalize hz : fr.roundOf = z at hrd
            cases hrd with
            | some h => exact ⟨_, _, rfl, h⟩
          obtain ⟨L, hL, hr⟩ := onLoop_some hr
          obtain ⟨L', hLR, hobj⟩ := S.hr.loop he hL
          cases hs : L.state <;> rw [hs] at hr <;> first | (cases hr; done) | skip
          have hbeg := run_beginRound (P := P) hobj (by rw [hLR.state]; exact hs)
          have R' := S.hr.set he hL (.loop (L := { L with state := .busy }) (L' := { L' with state := .busy }) { hLR with state := rfl }) (setMap_upd hobj)
          exact .inl ⟨E, fl, _, _, _, _, _, _, _, _, _, hr, .one (step_begin hm htd hround hbeg), ⟨hb.todo _, hm, fun _ => hK, S.tm, S.cs.keep (keep_put he), S.fl, R'⟩⟩
end

/-- the machine, begun at m0, comes to what the abstract state says -/
def Reach (P : Program) (D : Nat → Nat) (base : Nat) (w0 : World) (f0 : Nat) (cs0 : List Frame) (m0 : Machine) : St → Prop
  | .go sk tm h nx todo ret => ∃ E fl fr fcs w, Steps P m0 (lone fr fcs w) ∧ SR P D base w0 f0 cs0 E fl sk tm h nx todo ret fr fcs w
  | .fin v h nx => Ends P D base w0 f0 cs0 m0 (.fin v h nx)

theorem Ends.of_steps {m m' : Machine} {r : St} (s : Steps P m m') (e : Ends P D base w0 f0 cs0 m' r) : Ends P D base w0 f0 cs0 m r := by
  obtain ⟨v, h, nx, E, V, w', fr, h1, h2, h3⟩ := e
  exact ⟨v, h, nx, E, V, w', fr, h1, s.trans h2, h3⟩

theorem run_reach {m0 : Machine} : ∀ (n : Nat) {sk : SK} {tm : Tm} {h : H} {nx : Nat} {todo : List AI} {ret : Bool} {r : St}, Reach P D base w0 f0 cs0 m0 (.go sk tm h nx todo ret) → runA P D n sk tm h nx todo ret = some r → Reach P D base w0 f0 cs0 m0 r
  | 0, sk, tm, h, nx, todo, ret, r, hr, hk => by
    have hk : (some (St.go sk tm h nx todo ret) : O) = some r := hk
    cases hk
    exact hr
  | n + 1, sk, tm, h, nx, todo, ret, r, hr, hk => by
    have hk : stepA P D sk tm h nx todo ret (runA P D n) = some r := hk
    obtain ⟨E, fl, fr, fcs, w, hs, S⟩ := hr
    rcases step_goes S hk with ⟨E', fl', sk', tm', h', nx', todo', ret', fr', fcs', w', hk', hs', S'⟩ | he
    · exact run_reach n ⟨E', fl', fr', fcs', w', hs.trans hs', S'⟩ hk'
    · have he := he.of_steps hs
      obtain ⟨v, h, nx, E, V, w', fr, rfl, hrest⟩ := he
      exact ⟨v, h, nx, E, V, w', fr, rfl, hrest⟩

theorem runS_reach {m0 : Machine} {n : Nat} {s r : St} (hs : Reach P D base w0 f0 cs0 m0 s) (hk : runS P D n s = some r) : Reach P D base w0 f0 cs0 m0 r := by
  cases s with
  | go sk tm h nx todo ret => exact run_reach n hs hk
  | fin v h nx =>
    have hk : (some (St.fin v h nx) : O) = some r := hk
    cases hk
    exact hs

/-! the beginning -/
/-- opaque arguments: none of them an aggregate -/
def extArgs : Nat → List AV
  | 0 => []
  | n + 1 => extArgs n ++ [.m (.ext n)]

theorem start_reach {w : World} {f : Nat} {ARGS : Array Value} (ho : ∀ V ∈ ARGS.toList, vone V = true) {s : St} (cs0 : List Frame)
    (hs : (center P D f).e (extArgs ARGS.size) false (fun fs tm td => some (.go ⟨fs, [], []⟩ tm bnil 0 td false)) = some s) : Reach P D w.heap.size w f cs0 (lone (Frame.enter P f ARGS .normal) cs0 w) s := by
  obtain ⟨fn, c, hf, hb, h512, hD, hlen, hk⟩ := center_some hs
  cases hk
  have hx : ∀ k, vone (ARGS.getD k .nilFunc) = true := by
    intro k
    rw [Array.getD_eq_getD_getElem?]
    cases hq : ARGS[k]? with
    | none => rfl
    | some V => exact ho V (by simpa using Array.mem_of_getElem? hq)
  let E : En := ⟨fun _ => none, fun k => ARGS.getD k .nilFunc, hx⟩
  have R : HR D w.heap.size w E bnil 0 w := ⟨by omega, fun _ _ => rfl, (fun b c q hh => by cases hh), (fun b ab c q hb _ _ => by omega), (fun b b' c q q' hb _ _ _ _ => by omega), Below.refl _ _, Nat.le_refl _, fun b _ => bget_nil b⟩
  have hargs : ∀ n, n ≤ ARGS.size → VRL E (extArgs n) (ARGS.toList.take n) := by
    intro n
    induction n with
    | zero => intro _; simp; exact .nil
    | succ n ih =>
      intro hn
      have h1 : ARGS.toList.take (n + 1) = ARGS.toList.take n ++ [ARGS.getD n .nilFunc] := by
        rw [List.take_add_one]
        congr 1
        have : n < ARGS.toList.length := by simp; omega
        rw [List.getElem?_eq_getElem this]
        simp [Array.getD_eq_getD_getElem?, Array.getElem?_eq_getElem (show n < ARGS.size by omega)]
      rw [h1]
      exact (ih (by omega)).append (.cons (.ext n) .nil)
  have ha : VRL E (extArgs ARGS.size) ARGS.toList := by
    have := hargs ARGS.size (Nat.le_refl _)
    rwa [List.take_of_length_le (by simp)] at this
  refine ⟨E, 0, _, cs0, w, .refl _ _, ?_⟩
  obtain ⟨h1, h2, h3⟩ := enter_frame (P := P) (D := D) (E := E) (dk := false) hf hb h512 hD hlen ha
  exact ⟨h1, rfl, fun _ => h2, h3, .nil, Nat.le_refl _, R⟩
end Go.Ax
