/- Part of an abstract executor of the model's machine, and of its law (S29). -/
import Derived.Test.YtlfocffihiephaaGreatDoorXS28
namespace Go.Ax
open Go.RowKit (Below)
variable {P : Program} {D : Nat → Nat} {base : Nat} {w0 : World} {f0 : Nat} {cs0 : List Frame}

theorem guardR_some {g : Wan} {a : Rop} {b : Put} {cx : Cx} {tm : Tm} {e : List AV} {h : H} {nx : Nat} {r : St} (hr : (guardR g a b).r cx tm e h nx = some r) :
    (g.f tm e = some true ∧ a.r cx tm e h nx = some r) ∨ (g.f tm e = some false ∧ b.p undef cx tm e h nx = some r) := by
  have hr : (Option.rec none (fun t => bc t (a.r cx tm e h nx) (b.p undef cx tm e h nx)) (g.f tm e) : Option St) = some r := hr
  cases hg : g.f tm e with
  | none => rw [hg] at hr; cases hr
  | some t =>
    rw [hg] at hr
    cases t with
    | true => exact .inl ⟨rfl, hr⟩
    | false => exact .inr ⟨rfl, hr⟩

/-- behind a value, in a region: the rest goes on from the frame in which the value is put -/
theorem after_put {E : En} {h : H} {nx : Nat} {r : St} {j : J} {mask : Nat} {ns : List Tmp} {tm : Tm} {e : List AV} {o : Oper} {fs : FS} {df : List ADf} {cs : List Fr} {td : List AI} {fr : Frame} {fcs : List Frame}
    {ops : Array Oper} {i : Nat} {rest : List Nat} {k : List Item} {fl : Nat} {kr : Rop} (hfl : fl ≤ nx) (hb : FrB D E fs df fr) (hm : fr.mode = .run) (hi : fr.todo = .inRegion ops (i :: rest) :: k) (ho : ops[i]? = some o)
    (C : CsR P D f0 cs0 E h fl fs.fn fs.dk cs fcs) (hk : ItL E td k)
    (go : ∀ (v : AV) (V : Value) (E' : En) (h' : H) (nx' : Nat) (w' : World) (df' : List ADf) (fr' : Frame) (tm' : Tm) (e' : List AV), VR E' v V → Keep nx E h E' h' → nx ≤ nx' → HR D base w0 E' h' nx' w' → FrB D E' fs df' fr' → fr'.mode = .run → fr'.todo = .inRegion ops rest :: k →
      fr'.tmps = putT fr.tmps o.dst V → PutOk mask fs.n o.dst v ns tm e tm' e' → CsR P D f0 cs0 E' h' fl fs.fn fs.dk cs fcs → ItL E' td k → fl ≤ nx' →
      kr.r (.mk ⟨fs, df', cs⟩ td j) tm' e' h' nx' = some r → Goes P D base w0 f0 cs0 (lone fr' fcs w') j r) :
    After P D base w0 f0 cs0 E h nx fs cs td j tm e fr fcs (cput mask o.dst kr) r := by
  intro v V h' nx' E' w' df' ds' hv hkeep hnx R hdf hr
  obtain ⟨tm', e', hr', hput⟩ := cput_some (ns := ns) hr
  have hfin := finish_reg (fr := { fr with defers := ds' }) hi ho V
  rw [hfin]
  have hb' := hb.mono hkeep.le
  refine go v V E' h' nx' w' df' _ tm' e' hv hkeep hnx R ⟨hb'.fn, ?_, hb'.bound, hdf, hb'.kind, hb'.rd⟩ hm rfl rfl hput (C.keep (hkeep.low hfl)) (hk.mono hkeep.le) (by omega) hr'
  show (putT fr.tmps o.dst V).size = fs.n
  rw [putT_size]; exact hb.size

theorem regionEnd_goes {E : En} {h : H} {nx : Nat} {r : St} {j : J} {mask : Nat} {ns : List Tmp} {tm : Tm} {e : List AV} {fs : FS} {df : List ADf} {cs : List Fr} {td : List AI} {fr : Frame} {fcs : List Frame}
    {ops : Array Oper} {k : List Item} {fl : Nat} {w : World} (R : HR D base w0 E h nx w) (hfl : fl ≤ nx) (hb : FrB D E fs df fr) (hm : fr.mode = .run) (hi : fr.todo = .inRegion ops [] :: k)
    (T : TmR E (D fs.fn) tm fr.tmps) (C : CsR P D f0 cs0 E h fl fs.fn fs.dk cs fcs) (hk : ItL E td k)
    (hr : doneR.r (.mk ⟨fs, df, cs⟩ td j) tm e h nx = some r) : Goes P D base w0 f0 cs0 (lone fr fcs w) j r :=
  .inl ⟨E, fl, ⟨fs, df, cs⟩, tm, h, nx, td, false, { fr with todo := k }, fcs, w, hr, .one (step_regionEnd hm hi), ⟨⟨hb.fn, hb.size, hb.bound, hb.df, hb.kind, hb.rd⟩, hm, fun _ => hk, T, C, hfl, R⟩⟩

/-- a region whose order is fixed -/
theorem crun_goes {ops : Array Oper} {fcs : List Frame} {cs : List Fr} {td : List AI} {j : J} {r : St} {fs : FS} {fl : Nat} {k : List Item} : ∀ (os : List Oper) (ns : List Tmp) (rest : List Nat) (E : En) (h : H) (nx : Nat) (w : World) (df : List ADf) (tm : Tm) (e : List AV) (fr : Frame),
    HR D base w0 E h nx w → fl ≤ nx → FrB D E fs df fr → fr.mode = .run → fr.todo = .inRegion ops rest :: k → Idx ops rest os → TR E (D fs.fn) ns tm e fr.tmps (fun _ => False) →
    CsR P D f0 cs0 E h fl fs.fn fs.dk cs fcs → ItL E td k → (crun P D (D fs.fn) ops ns os).r (.mk ⟨fs, df, cs⟩ td j) tm e h nx = some r → Goes P D base w0 f0 cs0 (lone fr fcs w) j r := by
  intro os
  induction os with
  | nil =>
    intro ns rest E h nx w df tm e fr R hfl hb hm hi hx T C hk hr
    cases hx
    exact regionEnd_goes (mask := D fs.fn) (ns := ns) R hfl hb hm hi (T.slots fun t ht => ht) C hk hr
  | cons o os ih =>
    intro ns rest E h nx w df tm e fr R hfl hb hm hi hx T C hk hr
    cases hx with
    | @cons i _ rest _ ho hx =>
      have after : After P D base w0 f0 cs0 E h nx fs cs td j tm e fr fcs (cput (D fs.fn) o.dst (crun P D (D fs.fn) ops (names' (D fs.fn) o.dst ns) os)) r := by
        refine after_put (mask := D fs.fn) (ns := ns) hfl hb hm hi ho C hk ?_
        intro v V E' h' nx' w' df' fr' tm' e' hv hkeep hnx R' hb' hm' hi' ht hput C' hk' hfl' hr'
        refine ih _ rest E' h' nx' w' df' tm' e' fr' R' hfl' hb' hm' hi' hx ?_ C' hk' hr'
        rw [ht]
        exact (T.mono hkeep.le).put hput hb.size hb.bound hv (fun u _ => .inr fun hh => hh)
      have hs : SusR P D E h fl nx false ⟨fs, tm, .reg ⟨ops, ns, o :: os⟩ e :: td, df, false⟩ fr := .reg hb hm hi (.cons ho hx) T hk
      have one : Region.wanted o (yielded ops fr.tmps) = true → (cone P D (D fs.fn) ns o (.reg ⟨ops, ns, o :: os⟩) (cput (D fs.fn) o.dst (crun P D (D fs.fn) ops (names' (D fs.fn) o.dst ns) os))).r (.mk ⟨fs, df, cs⟩ td j) tm e h nx = some r →
          Goes P D base w0 f0 cs0 (lone fr fcs w) j r := fun hw hr => cone_goes (it := .reg ⟨ops, ns, o :: os⟩) R hfl hb hm hi ho hw T (fun _ _ hh => hh) C hs hr after
      simp only [crun] at hr
      cases hg : o.guard with
      | none =>
        rw [hg] at hr
        refine one ?_ hr
        simp [Region.wanted, hg]
      | some jw =>
        rw [hg] at hr
        rcases guardR_some hr with ⟨hw, hr⟩ | ⟨hw, hr⟩
        · exact one (cwant_sound T hw fun _ _ _ _ _ hh => hh) hr
        · refine .of_steps (.one (step_unwanted hm hi ho (cwant_sound T hw fun _ _ _ _ _ hh => hh))) ?_
          exact after undef Go.undef h nx E w df fr.defers (undef_sound E) (.refl _ _ _) (Nat.le_refl _) R hb.df hr

/-- a call comes back into a region whose order is fixed -/
theorem creg_after {E : En} {h : H} {nx : Nat} {r : St} {j : J} {ns : List Tmp} {tm : Tm} {e : List AV} {o : Oper} {os : List Oper} {fs : FS} {df : List ADf} {cs : List Fr} {td : List AI} {fr : Frame} {fcs : List Frame}
    {ops : Array Oper} {i : Nat} {rest : List Nat} {k : List Item} {fl : Nat} (hfl : fl ≤ nx) (hb : FrB D E fs df fr) (hm : fr.mode = .run) (hi : fr.todo = .inRegion ops (i :: rest) :: k) (hx : Idx ops (i :: rest) (o :: os))
    (T : TR E (D fs.fn) ns tm e fr.tmps fun _ => False) (C : CsR P D f0 cs0 E h fl fs.fn fs.dk cs fcs) (hk : ItL E td k) :
    After P D base w0 f0 cs0 E h nx fs cs td j tm e fr fcs (cregF P D fs.fn ⟨ops, ns, o :: os⟩) r := by
  cases hx with
  | cons ho hx =>
    refine after_put (mask := D fs.fn) (ns := ns) hfl hb hm hi ho C hk ?_
    intro v V E' h' nx' w' df' fr' tm' e' hv hkeep hnx R' hb' hm' hi' ht hput C' hk' hfl' hr'
    refine crun_goes os _ rest E' h' nx' w' df' tm' e' fr' R' hfl' hb' hm' hi' hx ?_ C' hk' hr'
    rw [ht]
    exact (T.mono hkeep.le).put hput hb.size hb.bound hv (fun u _ => .inr fun hh => hh)
end Go.Ax
