/- Part of an abstract executor of the model's machine, and of its law (S34). -/
import Derived.Test.YtlfocffihiephaaGreatDoorXS33
import Derived.Laws.Sem
namespace Go.Ax
open Go.RowKit (Below)
variable {P : Program} {D : Nat → Nat} {base : Nat} {w0 : World} {f0 : Nat} {cs0 : List Frame}

/-! the results of a function -/
section
variable {E : En} {h : H} {nx : Nat} {w : World} {mask : Nat} {tm : Tm} {tmps : Array Value}

/-- a result variable, read -/
def rv1 (tmps : Array Value) : ResultVar → Sem Value
  | .tmp t => pure (tmps.getD t Go.undef)
  | .cell a t => do loadVar t (← asAddr (tmps.getD a Go.undef))

theorem cres1_sound (R : HR D base w0 E h nx w) (T : TmR E mask tm tmps) {x : ResultVar} {v : AV} (hr : (cres1 P mask x).g tm h = some v) : ∃ V, VR E v V ∧ (rv1 tmps x).run P w = .ok V w := by
  cases x with
  | tmp t =>
    simp only [cres1] at hr
    cases hk : okd mask [] (.tmp t) with
    | false => rw [hk] at hr; cases hr
    | true =>
      rw [hk] at hr
      cases hr
      have := TR.start T (fun _ => False) t hk (fun hh => hh)
      cases hm : Nat.testBit mask t with
      | true => simp [okd, hm, elookC] at hk
      | false =>
        simp only [opd, hm, bc_false] at this
        exact ⟨_, this, Sem.run_pure _ _ _⟩
  | cell a t =>
    simp only [cres1] at hr
    cases hi : tinfo P t with
    | none => rw [hi] at hr; cases hr
    | some i =>
      rw [hi] at hr
      obtain ⟨I, hI, hU, hsz, _, hag, _⟩ := tinfo_some hi
      simp only at hr
      cases hk : okd mask [] (.tmp a) with
      | false => rw [hk] at hr; cases hr
      | true =>
        rw [hk] at hr
        simp only [bc_true] at hr
        have hT := TR.start T (fun _ => False) a hk (fun hh => hh)
        cases hm : Nat.testBit mask a with
        | true => simp [okd, hm, elookC] at hk
        | false =>
          simp only [opd, hm, bc_false] at hT
          have hrun : ∀ {A : Addr} {V : Value}, tmps.getD a Go.undef = .pointer (some A) → (loadVar t A).run P w = .ok V w → (rv1 tmps (.cell a t)).run P w = .ok V w := by
            intro A V h1 h2
            simp only [rv1, Sem.run_bind, h1, asAddr, Sem.run_pure, Result.andThen_ok, h2]
          cases ha : i.agg with
          | true =>
            rw [ha] at hr
            obtain ⟨b, o, hp, hr⟩ := onPtr_some hr
            obtain ⟨l, hl, hr⟩ := ob_some' hr
            cases hr
            rw [hp] at hT
            generalize hC : tmps.getD a Go.undef = C at hT
            cases hT with
            | ptr _ he =>
              obtain ⟨L, hL, hlen, hlies⟩ := loadB_sound R he hl
              have hrl := run_loadCells_list (P := P) w ⟨_, o, none⟩ L hlies
              rw [hlen, hsz] at hrl
              exact ⟨_, .agg hL, hrun hC (by simp [loadVar, run_agg hU, ← hag, ha, run_size hI, hrl])⟩
          | false =>
            rw [ha] at hr
            obtain ⟨b, o, hp, hr⟩ := onPtr_some hr
            rw [hp] at hT
            generalize hC : tmps.getD a Go.undef = C at hT
            cases hT with
            | ptr _ he =>
              obtain ⟨V, hc, hV⟩ := load1_sound R he hr
              exact ⟨V, hV, hrun hC (by simp [loadVar, run_agg hU, ← hag, ha, hc])⟩

theorem cresL_sound (R : HR D base w0 E h nx w) (T : TmR E mask tm tmps) : ∀ {l : List ResultVar} {vs : List AV}, (cresL P mask l).g tm h = some vs →
    ∃ VS, VRL E vs VS ∧ (l.mapM (rv1 tmps)).run P w = .ok VS w
  | [], vs, hr => by cases hr; exact ⟨[], .nil, by simp⟩
  | x :: l, vs, hr => by
    obtain ⟨v, hv, hr⟩ := ob_some' (x := (cres1 P mask x).g tm h) hr
    obtain ⟨vs', hvs, hr⟩ := ob_some' (x := (cresL P mask l).g tm h) hr
    cases hr
    obtain ⟨V, hV, h1⟩ := cres1_sound (P := P) R T hv
    obtain ⟨VS, hVS, h2⟩ := cresL_sound R T hvs
    refine ⟨V :: VS, .cons hV hVS, ?_⟩
    rw [List.mapM_cons]
    simp only [Sem.run_bind, h1, Result.andThen_ok, h2, Sem.run_pure]

theorem cres_sound (R : HR D base w0 E h nx w) {f : Nat} (T : TmR E (D f) tm tmps) {v : AV} (hr : (cres P D f).g tm h = some v) :
    ∃ fn V, P.funcs[f]? = some fn ∧ VR E v V ∧ (results fn tmps).run P w = .ok V w := by
  unfold cres at hr
  cases hf : P.funcs[f]? with
  | none => rw [hf] at hr; cases hr
  | some fn =>
    rw [hf] at hr
    simp only at hr
    have hrun : ∀ VS : List Value, (fn.results.toList.mapM (rv1 tmps)).run P w = .ok VS w → (results fn tmps).run P w = .ok (match VS with | [V] => V | l => .tuple l.toArray) w := by
      intro VS hVS
      have h1 : results fn tmps = (do let vs ← fn.results.mapM (rv1 tmps); pure (if h : vs.size = 1 then vs[0] else .tuple vs)) := by
        unfold results
        congr 1
      rw [h1, Array.mapM_eq_mapM_toList]
      simp only [Sem.run_bind, Sem.run_map, hVS, Result.andThen_ok, Sem.run_pure]
      rcases VS with _ | ⟨V, _ | ⟨V', l⟩⟩
      · rfl
      · rfl
      · simp
    split at hr
    · rename_i x hx
      obtain ⟨V, hV, h1⟩ := cres1_sound (P := P) R T hr
      refine ⟨fn, V, rfl, hV, hrun [V] ?_⟩
      rw [hx]
      rw [List.mapM_cons]
      simp only [Sem.run_bind, h1, Result.andThen_ok, List.mapM_nil, Sem.run_pure]
    · rename_i l hl
      obtain ⟨vs, hvs, hr⟩ := ob_some' hr
      cases hr
      obtain ⟨VS, hVS, h2⟩ := cresL_sound (P := P) R T hvs
      refine ⟨fn, .tuple VS.toArray, rfl, .tup hVS, ?_⟩
      rw [hrun VS h2]
      have hlen : VS.length = fn.results.toList.length := by
        have h3 := hVS.len
        have h4 : ∀ {l : List ResultVar} {vs : List AV}, (cresL P (D f) l).g tm h = some vs → vs.length = l.length := by
          intro l
          induction l with
          | nil => intro vs hh; cases hh; rfl
          | cons x l ih =>
            intro vs hh
            obtain ⟨v, _, hh⟩ := ob_some' (x := (cres1 P (D f) x).g tm h) hh
            obtain ⟨vs', hv', hh⟩ := ob_some' (x := (cresL P (D f) l).g tm h) hh
            cases hh
            simp [ih hv']
        rw [h3, h4 hvs]
      rcases VS with _ | ⟨V, _ | ⟨V', VS⟩⟩
      · rfl
      · exfalso
        rcases hq : fn.results.toList with _ | ⟨a, _ | ⟨b, l'⟩⟩
        · rw [hq] at hlen; simp at hlen
        · exact hl a hq
        · rw [hq] at hlen; simp at hlen
      · rfl
end

/-! back to the caller -/
theorem DInv.lift {s : Bool} {E : En} {h : H} {fl nx nx' mask x : Nat} {ops : Array Oper} {done : List (Nat × Oper)} {pre rest : List Nat} {ns : List Tmp} {tm : Tm} {e : List AV} {tmps : Array Value} {B : Nat → Nat}
    (d : DInv P s E h fl nx mask ops x done pre rest ns tm e tmps B) (hn : nx ≤ nx') : DInv P s E h fl nx' mask ops x done pre rest ns tm e tmps B := by
  refine { d with pf := ?_, bk := ?_ }
  · intro a ha har
    obtain ⟨ns0, tm0, e0, v0, wb0, q⟩ := d.pf a ha har
    exact ⟨ns0, tm0, e0, v0, wb0, q.same, q.want, q.dst, q.off, fun hh => ⟨(q.on hh).1, (q.on hh).2.grow (fun _ _ hh => hh) hn⟩⟩
  · intro a ha har
    rcases d.bk a ha har with h1 | h1
    · exact .inl h1
    · exact .inr (by omega)

section
variable {E : En} {h : H} {fl nx : Nat} {w : World} {cs : List Fr} {fcs : List Frame} {fn : Nat} {dk : Bool} {v : AV} {V : Value} {j : J} {r : St} {m : Machine}

theorem pop_goes (R : HR D base w0 E h nx w) (hfl : fl ≤ nx) (C : CsR P D f0 cs0 E h fl fn dk cs fcs) (hv : VR E v V) (hr : popA P D dk cs v h nx j = some r)
    (hst : ∀ frc frest, fcs = frc :: frest → cs ≠ [] → step P m = .next (lone (if dk then frc else frc.finish V) frest w) ∨ (dk = true ∧ frc.mode ≠ .returning))
    (hend : cs = [] → fcs = cs0 → fn = f0 → dk = false → Ends P D base w0 f0 cs0 m (.fin v h nx)) : Goes P D base w0 f0 cs0 m j r := by
  cases C with
  | nil =>
    have hr : (some (St.fin v h nx) : O) = some r := hr
    cases hr
    exact .inr (hend rfl rfl rfl rfl)
  | @cons fl0 _ _ _ c cs frc fcs hle s t =>
    have hs := hst frc fcs rfl (fun hh => by cases hh)
    cases s with
    | @ret fs tm td df _ hb hm ht =>
      rcases hs with hs | ⟨_, hs⟩
      · have hr : j ⟨fs, df, cs⟩ tm h nx td true = some r := hr
        exact .inl ⟨E, fl0, ⟨fs, df, cs⟩, tm, h, nx, td, true, frc, fcs, w, hr, .one hs, ⟨hb, hm, (fun hh => by cases hh), ht, t, by omega, R⟩⟩
      · exact absurd hm hs
    | @reg fs tm ops ns o os e td df _ i rest k hb hm hi hx ht hk =>
      rcases hs with hs | ⟨hs, _⟩
      · have hr : (cregF P D fs.fn ⟨ops, ns, o :: os⟩).p v (.mk ⟨fs, df, cs⟩ td j) tm e h nx = some r := by cases fs; exact hr
        refine .of_steps (.one hs) ?_
        exact creg_after (P := P) (by omega) hb hm hi hx ht t hk v V h nx E w df frc.defers hv (.refl _ _ _) (Nat.le_refl _) R hb.df hr
      · cases hs
    | @dreg fs tm ops ns o rc ps e td df _ i x pre rest k done B hb hm hi hp hd hk =>
      rcases hs with hs | ⟨hs, _⟩
      · have hr : (cdregF P D fs.fn ⟨ops, ns, .ef i o rc :: ps⟩).p v (.mk ⟨fs, df, cs⟩ td j) tm e h nx = some r := by cases fs; exact hr
        refine .of_steps (.one hs) ?_
        exact cdreg_after (P := P) hp (by omega) hb hm hi t hk (hd.lift hfl) v V h nx E w df frc.defers hv (.refl _ _ _) (Nat.le_refl _) R hb.df hr
      · cases hs
    | @rf fs tm l c q td df _ k hb hm hi hl ht hk =>
      rcases hs with hs | ⟨hs, _⟩
      · have hr : j ⟨fs, df, cs⟩ tm h nx (.erf l :: td) false = some r := by cases fs; exact hr
        have hfin : frc.finish V = { frc with todo := .endRangeFunc c :: k } := by simp [Frame.finish, hi]
        refine .inl ⟨E, fl0, ⟨fs, df, cs⟩, tm, h, nx, .erf l :: td, false, frc.finish V, fcs, w, hr, .one hs, ?_⟩
        rw [hfin]
        exact ⟨⟨hb.fn, hb.size, hb.bound, hb.df, hb.kind, hb.rd⟩, hm, fun _ => .cons (.erf hl) hk, ht, t, by omega, R⟩
      · cases hs
end
end Go.Ax
