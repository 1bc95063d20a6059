/- Part of an abstract executor of the model's machine, and of its law (S28). -/
import Derived.Test.YtlfocffihiephaaGreatDoorXS27
namespace Go.Ax
open Go.RowKit (Below)
variable {P : Program} {D : Nat → Nat} {base : Nat} {w0 : World} {f0 : Nat} {cs0 : List Frame} {E : En} {h : H} {nx : Nat} {w : World} {r : St} {j : J}

/-- what comes behind a value -/
def After (P : Program) (D : Nat → Nat) (base : Nat) (w0 : World) (f0 : Nat) (cs0 : List Frame) (E : En) (h : H) (nx : Nat) (fs : FS) (cs : List Fr) (td : List AI) (j : J) (tm : Tm) (e : List AV) (fr : Frame) (fcs : List Frame) (kk : Put) (r : St) : Prop :=
  ∀ v V h' nx' E' w' df' ds', VR E' v V → Keep nx E h E' h' → nx ≤ nx' → HR D base w0 E' h' nx' w' → DRL E' df' ds' → kk.p v (.mk ⟨fs, df', cs⟩ td j) tm e h' nx' = some r →
    Goes P D base w0 f0 cs0 (lone ({ fr with defers := ds' }.finish V) fcs w') j r

theorem finish_defers (fr : Frame) : ({ fr with defers := fr.defers } : Frame) = fr := rfl

section
variable {mask : Nat} {ns : List Tmp} {tm : Tm} {e : List AV} {o : Oper} {it : List AV → AI} {kk : Put} {fs : FS} {df : List ADf} {cs : List Fr} {td : List AI} {fr : Frame} {fcs : List Frame} {ops : Array Oper}
  {i : Nat} {rest : List Nat} {k : List Item} {pend : Tmp → Prop} {fl : Nat}

theorem cval_goes (R : HR D base w0 E h nx w) (hb : FrB D E fs df fr) (hm : fr.mode = .run) (hi : fr.todo = .inRegion ops (i :: rest) :: k) (ho : ops[i]? = some o)
    (hw : Region.wanted o (yielded ops fr.tmps) = true) (hop : Ops E mask ns tm e fr.eval o) (hnd : ∀ c, o.op ≠ .defer c)
    (hr : (cval P mask ns o kk).r (.mk ⟨fs, df, cs⟩ td j) tm e h nx = some r) (hput : After P D base w0 f0 cs0 E h nx fs cs td j tm e fr fcs kk r) :
    Goes P D base w0 f0 cs0 (lone fr fcs w) j r := by
  have hr' : (cop P mask ns o).f tm e h nx (fun v h nx => kk.p v (.mk ⟨fs, df, cs⟩ td j) tm e h nx) = some r := hr
  obtain ⟨v, V, h', nx', E', w', h1, h2, h3, h4, h5, h6, h7⟩ := cop_sound R hop hr'
  refine .of_steps (.one (step_value hm hi ho hw (.inr hnd) h7)) ?_
  have := hput v V h' nx' E' w' df fr.defers h4 ⟨h2, h6⟩ h3 h5 (hb.df.mono h2) h1
  exact this

theorem noRecover (hb : FrB D E fs df fr) (C : CsR P D f0 cs0 E h fl fs.fn fs.dk cs fcs) : tryRecover fr fcs = none := by
  have hk := hb.kind
  cases hdk : fs.dk with
  | false => rw [hdk] at hk; simp [tryRecover, hk]
  | true =>
    rw [hdk] at hk C
    cases C with
    | cons hle s t =>
      cases s with
      | ret hb' hm ht => simp [tryRecover, hk, hm]

theorem cone_goes (R : HR D base w0 E h nx w) (hfl : fl ≤ nx) (hb : FrB D E fs df fr) (hm : fr.mode = .run) (hi : fr.todo = .inRegion ops (i :: rest) :: k) (ho : ops[i]? = some o)
    (hw : Region.wanted o (yielded ops fr.tmps) = true) (T : TR E mask ns tm e fr.tmps pend) (hp : ∀ t, Operand.tmp t ∈ o.op.operands.toList → ¬ pend t)
    (C : CsR P D f0 cs0 E h fl fs.fn fs.dk cs fcs) (hs : SusR P D E h fl nx false ⟨fs, tm, it e :: td, df, false⟩ fr)
    (hr : (cone P D mask ns o it kk).r (.mk ⟨fs, df, cs⟩ td j) tm e h nx = some r) (hput : After P D base w0 f0 cs0 E h nx fs cs td j tm e fr fcs kk r) :
    Goes P D base w0 f0 cs0 (lone fr fcs w) j r := by
  unfold cone at hr
  cases hok : o.op.operands.toList.all (okd mask ns) with
  | false => rw [hok] at hr; cases hr
  | true =>
    rw [hok] at hr
    have hop := ops_sound T hok hp
    have hok' := List.all_eq_true.1 hok
    simp only [bc_true] at hr
    cases hc : o.op with
    | call c =>
      rw [hc] at hr
      simp only at hr
      have hnd : ∀ c', o.op ≠ .defer c' := fun c' hh => by rw [hc] at hh; cases hh
      have hargs : VRL E ((opds mask ns c.args.toList).g tm e) (c.args.map fr.eval).toList := by
        have := args_sound T c.args.toList (fun x hx => hok' x (mem_args hc hx)) (fun t ht => hp t (mem_args hc ht))
        simpa using this
      cases hcal : c.callee with
      | value f =>
        rw [hcal] at hr
        simp only at hr
        have hfm : f ∈ o.op.operands.toList := by rw [hc]; simp [Op.operands, Call.operands, hcal]
        have hfv := hop f hfm
        have hex : execOp fr.eval o = (do let d ← Deferred.ofValue (fr.eval f) (c.args.map fr.eval); invoke d.target d.args) := by
          simp [execOp, hc, resolve, hcal]
        -- a function value
        have gen : ∀ {g : Fn} {first cap : List AV} {G : Fn} {A Cp : List Value}, fr.eval f = .func G A.toArray Cp.toArray → FnR E g G → VRL E first A → VRL E cap Cp →
            (Fn.rec (fun f => goCall P D f (app first (app ((opds mask ns c.args.toList).g tm e) cap)) (it e) (.mk ⟨fs, df, cs⟩ td j) tm h nx) (fun _ => none) (fun _ _ => none) (fun _ _ _ _ => none)
              (fun l => goRound D l (app first ((opds mask ns c.args.toList).g tm e)) (it e) (.mk ⟨fs, df, cs⟩ td j) tm h nx) g : Option St) = some r → Goes P D base w0 f0 cs0 (lone fr fcs w) j r := by
          intro g first cap G A Cp hF hg hA hC hr
          cases hg with
          | func f' =>
            have hr : goCall P D f' (app first (app ((opds mask ns c.args.toList).g tm e) cap)) (it e) (.mk ⟨fs, df, cs⟩ td j) tm h nx = some r := hr
            have hall : VRL E (app first (app ((opds mask ns c.args.toList).g tm e) cap)) ((A.toArray ++ c.args.map fr.eval) ++ Cp.toArray).toList := by
              rw [app_eq, app_eq]
              simp only [Array.toList_append, List.append_assoc]
              simpa using hA.append (hargs.append hC)
            refine goCall_goes R hfl hr hall hs C (step_enter hm hi ho hw (.inr hnd) ?_)
            rw [hex, hF]
            simp only [Deferred.ofValue, Sem.run_bind, Sem.run_pure, Result.andThen_ok, invoke]
            exact run_callFunc (goCall_isFn hr) _ _
          | @yield b cc q he =>
            have hr : goRound D b (app first ((opds mask ns c.args.toList).g tm e)) (it e) (.mk ⟨fs, df, cs⟩ td j) tm h nx = some r := hr
            have hall : VRL E (app first ((opds mask ns c.args.toList).g tm e)) (A.toArray ++ c.args.map fr.eval).toList := by
              rw [app_eq]
              simp only [Array.toList_append]
              simpa using hA.append hargs
            refine goRound_goes R hfl hr he hall hs C fun f' tmps a b hy => step_round hm hi ho hw (.inr hnd) ?_
            rw [hex, hF]
            simp only [Deferred.ofValue, Sem.run_bind, Sem.run_pure, Result.andThen_ok, invoke]
            exact hy
          | _ => cases hr
        cases f with
        | func f' =>
          exact gen (g := .func f') (first := []) (cap := []) (G := .func f') (A := []) (Cp := []) rfl (.func f') .nil .nil (by
            show goCall P D f' (app [] (app ((opds mask ns c.args.toList).g tm e) [])) (it e) (.mk ⟨fs, df, cs⟩ td j) tm h nx = some r
            have : app ([] : List AV) (app ((opds mask ns c.args.toList).g tm e) []) = (opds mask ns c.args.toList).g tm e := by rw [app_eq, app_eq]; simp
            rw [this]; exact hr)
        | _ =>
          simp only at hr
          replace hr := onFn_some hr
          obtain ⟨g, first, cap, hfv', hr⟩ := hr
          rw [hfv'] at hfv
          generalize hF : fr.eval _ = F at hfv gen
          cases hfv with
          | fn hg hA hC => exact gen rfl hg hA hC hr
      | invoke rc name =>
        rw [hcal] at hr
        simp only at hr
        have hrm : rc ∈ o.op.operands.toList := by rw [hc]; simp [Op.operands, Call.operands, hcal]
        have hrv := hop rc hrm
        replace hr := onIface_some hr
        obtain ⟨t, v, hv, hr⟩ := hr
        obtain ⟨p, hp1, hr⟩ := ob_some' hr
        rw [hv] at hrv
        generalize hF : fr.eval rc = F at hrv
        cases hrv with
        | @iface _ _ V hV =>
          obtain ⟨g, rv⟩ := p
          obtain ⟨RV, hRV, hrun⟩ := cmethod_sound (P := P) R hp1 hV (P.types.size + 99)
          have hall : VRL E (rv :: (opds mask ns c.args.toList).g tm e) (#[RV] ++ c.args.map fr.eval).toList := by
            simp only [Array.toList_append]
            exact .cons hRV (by simpa using hargs)
          refine goCall_goes R hfl hr hall hs C (step_enter hm hi ho hw (.inr hnd) ?_)
          have hdep : P.types.size + Made.depth = P.types.size + 99 + 1 := by simp [Made.depth]
          have hex : (execOp fr.eval o).run P w = (callMethod (.iface t V) name (c.args.map fr.eval)).run P w := by
            simp only [execOp, hc, resolve, hcal, hF, Sem.run_bind, Sem.run_pure, Result.andThen_ok, invoke]
            have h1 : (#[Value.iface t V] ++ c.args.map fr.eval)[0]? = some (.iface t V) := by rw [Array.getElem?_append_left (by simp)]; rfl
            simp only [h1]
            congr 2
            apply Array.ext'
            simp
            exact List.take_of_length_le (by simp)
          rw [hex]
          simp only [callMethod, Sem.run_bind, run_program, Result.andThen_ok, hdep, hrun]
          exact run_callFunc (goCall_isFn hr) _ _
      | builtin b =>
        rw [hcal] at hr
        simp only at hr
        by_cases hrec : b = .recover
        · subst hrec
          simp only at hr
          have hr : bc (isSome' fs.rd) none (kk.p (.m .nili) (.mk ⟨fs, df, cs⟩ td j) tm e h nx) = some r := hr
          replace hr := bc_some' hr
          obtain ⟨hrd, hr⟩ := hr
          have hround : fr.roundOf = none := by
            have := hb.rd
            cases hq : fs.rd with
            | none => rw [hq] at this; generalize hz : fr.roundOf = z at this; cases this; rfl
            | some b => rw [hq] at hrd; cases hrd
          obtain ⟨consts, hex⟩ := exec_builtin (ρ := fr.eval) hc hcal
          refine .of_steps (.one (step_recover hm hi ho hw hround (noRecover hb C) (w' := w) ?_)) ?_
          · rw [hex]; simp [builtin]
          · exact hput (.m .nili) .nilIface h nx E w df fr.defers .nili (.refl _ _ _) (Nat.le_refl _) R hb.df hr
        · have hr : (cval P mask ns o kk).r (.mk ⟨fs, df, cs⟩ td j) tm e h nx = some r := by
            cases b <;> first | exact absurd rfl hrec | exact hr
          exact cval_goes R hb hm hi ho hw hop hnd hr hput
    | defer c =>
      rw [hc] at hr
      simp only at hr
      have hargs : VRL E ((opds mask ns c.args.toList).g tm e) (c.args.map fr.eval).toList := by
        have hmem : ∀ x ∈ c.args.toList, x ∈ o.op.operands.toList := fun x hx => by
          rw [hc]
          simp only [Op.operands, Call.operands, Array.toList_append, List.mem_append]
          exact .inr hx
        have := args_sound T c.args.toList (fun x hx => hok' x (hmem x hx)) (fun t ht => hp t (hmem _ ht))
        simpa using this
      cases hcal : c.callee with
      | value f =>
        rw [hcal] at hr
        simp only at hr
        have hfm : f ∈ o.op.operands.toList := by rw [hc]; simp [Op.operands, Call.operands, hcal]
        have hfv := hop f hfm
        replace hr := onFn_some hr
        obtain ⟨g, first, cap, hfv', hr⟩ := hr
        rw [hfv'] at hfv
        generalize hF : fr.eval f = F at hfv
        cases hfv with
        | @fn _ G _ _ A Cp hg hA hC =>
          cases hg with
          | func f' =>
            have hr : bc (isSome' fs.rd) none (kk.p undef (.mk ⟨fs, .call ⟨.func f', cap, app first ((opds mask ns c.args.toList).g tm e)⟩ :: df, cs⟩ td j) tm e h nx) = some r := hr
            replace hr := bc_some' hr
            obtain ⟨hrd, hr⟩ := hr
            have hround : fr.roundOf = none := by
              have := hb.rd
              cases hq : fs.rd with
              | none => rw [hq] at this; generalize hz : fr.roundOf = z at this; cases this; rfl
              | some b => rw [hq] at hrd; cases hrd
            have hall : VRL E (app first ((opds mask ns c.args.toList).g tm e)) (A ++ (c.args.map fr.eval).toList) := by
              rw [app_eq]; exact hA.append hargs
            have hd : DR E (.call ⟨.func f', cap, app first ((opds mask ns c.args.toList).g tm e)⟩) { target := .fn (.func f') Cp.toArray, args := (A ++ (c.args.map fr.eval).toList).toArray } :=
              .call (.func f') hC hall
            have hda : (A ++ (c.args.map fr.eval).toList).toArray = A.toArray ++ c.args.map fr.eval := by apply Array.ext'; simp
            rw [hda] at hd
            refine .of_steps (.one (step_deferred hm hi ho hw hround (d := { target := .fn (.func f') Cp.toArray, args := A.toArray ++ c.args.map fr.eval }) (w' := w) ?_)) ?_
            · simp [execOp, hc, resolve, hcal, hF, Deferred.ofValue]
            · exact hput undef Go.undef h nx E w _ _ (undef_sound E) (.refl _ _ _) (Nat.le_refl _) R (.cons hd hb.df) hr
          | _ => cases hr
      | _ => rw [hcal] at hr; cases hr
    | _ =>
      rw [hc] at hr
      exact cval_goes R hb hm hi ho hw hop (fun c hh => by rw [hc] at hh; cases hh) hr hput
end
end Go.Ax
