/- Part of an abstract executor of the model's machine, and of its law (S36). -/
import Derived.Test.YtlfocffihiephaaGreatDoorXS35
namespace Go.Ax
open Go.RowKit (Below)
variable {P : Program} {D : Nat → Nat} {base : Nat} {w0 : World} {f0 : Nat} {cs0 : List Frame}

theorem idx_range (ops : Array Oper) : Idx ops (List.range ops.size) ops.toList := by
  have key : ∀ (l : List Oper) (k : Nat), (∀ d o, l[d]? = some o → ops[k + d]? = some o) → Idx ops (List.range' k l.length) l := by
    intro l
    induction l with
    | nil => intro k _; exact .nil
    | cons o l ih =>
      intro k hk
      rw [List.length_cons, List.range'_succ]
      exact .cons (by simpa using hk 0 o rfl) (ih (k + 1) fun d o' hd => by rw [show k + 1 + d = k + (d + 1) by omega]; exact hk (d + 1) o' (by simpa using hd))
  have := key ops.toList 0 (fun d o hd => by simpa using hd)
  rw [List.range_eq_range']
  simpa using this

theorem DInv.start {E : En} {h : H} {fl nx mask : Nat} {ops : Array Oper} {L : List Nat} {tm : Tm} {tmps : Array Value} (hl : Lin .any ops L) (T : TmR E mask tm tmps) :
    DInv P false E h fl nx mask ops 0 [] [] L [] tm [] tmps (fun _ => 0) := by
  refine ⟨by simpa using hl, ?_, ?_, ?_, ?_, ?_, TR.start T _, ?_, ?_, ?_, ?_⟩
  · intro j hj; cases hj
  · intro j _ hb; simp at hb
  · intro a ha; cases ha
  · intro a ha; cases ha
  · intro a ha; cases ha
  · intro a ha; cases ha
  · intro a ha; cases ha
  · intro a ha; cases ha
  · intro a ha; cases ha

/-! steps of control -/
section
variable {fr : Frame} {fcs : List Frame} {w : World} {k : List Item}
theorem step_to {c : Code} {k' : List Item} (hm : fr.mode = .run) (ht : fr.todo = .code c :: k)
    (hc : (c = .skip ∧ k' = k) ∨ (∃ l, c = .label l ∧ k' = k) ∨ (∃ a b, c = .seq a b ∧ k' = .code a :: .code b :: k) ∨ (∃ id a, c = .block id a ∧ k' = .code a :: .inBlock id :: k) ∨
      (∃ a, c = .loop a ∧ k' = .code a :: .inLoop a :: k) ∨ (∃ a, c = .scope a ∧ k' = .code a :: .inScope a :: k) ∨ (∃ id, c = .exit id ∧ exitTo id k = some k') ∨ (∃ l, c = .goto l ∧ gotoIn l k = some k') ∨
      (∃ id ops, c = .region id ops false ∧ k' = .inRegion ops (List.range ops.size) :: k)) :
    step P (lone fr fcs w) = .next (lone { fr with todo := k' } fcs w) := by
  refine step_lone_go ?_
  rcases hc with ⟨rfl, rfl⟩ | ⟨l, rfl, rfl⟩ | ⟨a, b, rfl, rfl⟩ | ⟨id, a, rfl, rfl⟩ | ⟨a, rfl, rfl⟩ | ⟨a, rfl, rfl⟩ | ⟨id, rfl, he⟩ | ⟨l, rfl, he⟩ | ⟨id, ops, rfl, rfl⟩
  all_goals first
    | (simp [stepG, hm, stepG.exec, ht]; done)
    | (simp [stepG, hm, stepG.exec, ht, he]; done)

theorem step_cond' {c : Operand} {a b : Code} {t : Bool} (hm : fr.mode = .run) (ht : fr.todo = .code (.cond c a b) :: k) (hc : fr.eval c = .bool t) :
    step P (lone fr fcs w) = .next (lone { fr with todo := .code (if t then a else b) :: k } fcs w) := by
  refine step_lone_go ?_
  simp [stepG, hm, stepG.exec, ht, hc]

theorem step_draw {id : Nat} {ops : Array Oper} (hm : fr.mode = .run) (ht : fr.todo = .code (.region id ops true) :: k) :
    step P (lone fr fcs w) = .next (lone { fr with todo := .inRegion ops (Region.schedule (P.follows .mixedOrders) ops (w.tape w.drawn (.order fr.fn id))) :: k } fcs w.drew) := by
  refine step_lone_go ?_
  simp [stepG, hm, stepG.exec, ht, choose, Sem.run, Question.forced, Question.cut]

theorem step_item {i : Item} {k' : List Item} (hm : fr.mode = .run) (ht : fr.todo = i :: k) (hc : (∃ id, i = .inBlock id ∧ k' = k) ∨ (∃ c, i = .inScope c ∧ k' = k) ∨ (∃ c, i = .inLoop c ∧ k' = .code c :: .inLoop c :: k)) :
    step P (lone fr fcs w) = .next (lone { fr with todo := k' } fcs w) := by
  refine step_lone_go ?_
  rcases hc with ⟨id, rfl, rfl⟩ | ⟨c, rfl, rfl⟩ | ⟨c, rfl, rfl⟩ <;> simp [stepG, hm, stepG.exec, ht]

theorem step_range {f : Operand} {ps : Array Tmp} {a b : Code} {l : Nat} {mark : List Deferred} {w1 : World} {G : FuncId} {ARGS : Array Value} (hm : fr.mode = .run) (ht : fr.todo = .code (.rangeFunc f ps a b) :: k)
    (he : (Instr.enterLoop fr.fn fr.tmps ps a b fr.roundOf).run P w = .ok (l, mark) w1)
    (hi : (do let d ← Deferred.ofValue (fr.eval f) #[.func (.yield l) #[] #[]]; invoke d.target d.args : Sem Next).run P w1 = .ok (.enter G ARGS) w1) :
    step P (lone fr fcs w) = .next (lone (Frame.enter P G ARGS .normal) ({ fr with todo := .inRangeFunc l :: k, defers := mark ++ fr.defers } :: fcs) w1) := by
  refine step_lone_go ?_
  have hev : ∀ (fr' : Frame), fr'.tmps = fr.tmps → fr'.eval = fr.eval := by
    intro fr' hh
    funext x
    cases x <;> simp [Frame.eval, hh]
  have hev' : ∀ m, ({ fr with todo := .inRangeFunc l :: k, defers := mark ++ fr.defers, mode := m } : Frame).eval = fr.eval := fun m => hev _ rfl
  have hres : ∀ ty, (do let d ← resolve fr.eval { callee := .value f, args := #[.const (.func (.yield l) #[] #[])], argTypes := #[] } ty; invoke d.target d.args : Sem Next) = (do let d ← Deferred.ofValue (fr.eval f) #[.func (.yield l) #[] #[]]; invoke d.target d.args : Sem Next) := by
    intro ty
    simp [resolve, Frame.eval]
  simp only [stepG, hm, stepG.exec, ht, Sem.runT_eq, he, GStep.bare_after, stepG.apply, hev', hres]
  simp [hi]
end

section
variable {fl : Nat} {fs : FS} {cs : List Fr} {fcs : List Frame} {j : J} {r : St}

theorem FrB.todo {E : En} {df : List ADf} {fr : Frame} (hb : FrB D E fs df fr) (k : List Item) : FrB D E fs df { fr with todo := k } := ⟨hb.fn, hb.size, hb.bound, hb.df, hb.kind, hb.rd⟩

theorem enterRF_some {f : AV} {lb : Nat} {K : FS → Tm → List AI → O} (hr : enterRF P D f lb K = some r) : ∃ g first cap, f = .fn (.func g) first cap ∧ isFn P g = true ∧
    (center P D g).e (app first (.fn (.yield lb) [] [] :: cap)) false K = some r := by
  obtain ⟨g, first, cap, rfl, hr⟩ := onFn_some hr
  cases g with
  | func g =>
    obtain ⟨h1, h2⟩ := bc_some (c := isFn P g) hr
    exact ⟨g, first, cap, rfl, h1, h2⟩
  | _ => cases hr

theorem rangeFunc_goes {E E' : En} {h h' : H} {nx nx' : Nat} {w w1 : World} {df df' : List ADf} {tm : Tm} {fr : Frame} {k : List AI} {K : List Item} {g : Operand} {ps : Array Tmp} {a b : Code} {lb lc q : Nat} {mark : List Deferred}
    (R : HR D base w0 E' h' nx' w1) (hfl : fl ≤ nx) (hn : nx ≤ nx') (hkeep : Keep nx E h E' h') (hb : FrB D E fs df fr) (hm : fr.mode = .run) (hi : fr.todo = .code (.rangeFunc g ps a b) :: K) (hk : ItL E k K) (T : TmR E (D fs.fn) tm fr.tmps)
    (C : CsR P D f0 cs0 E h fl fs.fn fs.dk cs fcs) (hg : okd (D fs.fn) [] g = true) (hl : E'.m lb = some (lc, q)) (hdf : DRL E' df' (mark ++ fr.defers))
    (he : (Instr.enterLoop fr.fn fr.tmps ps a b fr.roundOf).run P w = .ok (lc, mark) w1)
    (hr : enterRF P D ((opd (D fs.fn) [] g).g tm []) lb (fun fs' tm' td' => j ⟨fs', [], ⟨fs, tm, .rf lb :: k, df', false⟩ :: cs⟩ tm' h' nx' td' false) = some r) : Goes P D base w0 f0 cs0 (lone fr fcs w) j r := by
  obtain ⟨gf, first, cap, hf, hfn, hr⟩ := enterRF_some hr
  obtain ⟨fn, c, hfun, hbody, h512, hD, hlen, hr⟩ := center_some hr
  have hv := opd_sound (TR.start T fun _ => False) g hg (fun _ _ hh => hh)
  rw [hf] at hv
  have hv := hv.mono hkeep.le
  generalize hF : fr.eval g = F at hv
  cases hv with
  | @fn _ G _ _ A Cp hG hA hC =>
    cases hG
    have hall : VRL E' (app first (.fn (.yield lb) [] [] :: cap)) (A.toArray ++ #[Value.func (.yield lc) #[] #[]] ++ Cp.toArray).toList := by
      rw [app_eq]
      simp only [Array.toList_append, List.append_assoc]
      exact hA.append (.cons (VR.fn (A := []) (C := []) (.yield hl) .nil .nil) hC)
    have hst := step_range (P := P) (fcs := fcs) hm hi he (G := gf) (ARGS := A.toArray ++ #[Value.func (.yield lc) #[] #[]] ++ Cp.toArray) (by
      rw [hF]
      simp only [Deferred.ofValue, Sem.run_bind, Sem.run_pure, Result.andThen_ok, invoke]
      exact run_callFunc hfn _ _)
    have hb' := hb.mono hkeep.le
    have hsus : SusR P D E' h' fl nx' false ⟨fs, tm, .rf lb :: k, df', false⟩ { fr with todo := .inRangeFunc lc :: K, defers := mark ++ fr.defers } :=
      .rf ⟨hb'.fn, hb'.size, hb'.bound, hdf, hb'.kind, hb'.rd⟩ hm rfl hl (T.mono hkeep.le) (hk.mono hkeep.le)
    exact .inl ⟨E', nx', _, _, _, _, _, _, _, _, _, hr, .one hst, SR.enter R (by omega) hfun hbody h512 hD hlen hall hsus (C.keep (hkeep.low hfl))⟩

theorem ccode_goes : ∀ (c : Code) {E : En} {h : H} {nx : Nat} {w : World} {df : List ADf} {tm : Tm} {fr : Frame} {k : List AI} {K : List Item}, HR D base w0 E h nx w → fl ≤ nx → FrB D E fs df fr → fr.mode = .run →
    fr.todo = .code c :: K → ItL E k K → TmR E (D fs.fn) tm fr.tmps → CsR P D f0 cs0 E h fl fs.fn fs.dk cs fcs →
    (ccode P D fs.fn c).s ⟨fs, df, cs⟩ tm h nx k j = some r → Goes P D base w0 f0 cs0 (lone fr fcs w) j r := by
  intro c
  induction c with
  | skip =>
    intro E h nx w df tm fr k K R hfl hb hm hi hk T C hr
    exact .inl ⟨E, fl, ⟨fs, df, cs⟩, tm, h, nx, k, false, _, fcs, w, hr, .one (step_to hm hi (.inl ⟨rfl, rfl⟩)), ⟨hb.todo _, hm, fun _ => hk, T, C, hfl, R⟩⟩
  | label l =>
    intro E h nx w df tm fr k K R hfl hb hm hi hk T C hr
    exact .inl ⟨E, fl, ⟨fs, df, cs⟩, tm, h, nx, k, false, _, fcs, w, hr, .one (step_to hm hi (.inr (.inl ⟨l, rfl, rfl⟩))), ⟨hb.todo _, hm, fun _ => hk, T, C, hfl, R⟩⟩
  | seq a b iha ihb =>
    intro E h nx w df tm fr k K R hfl hb hm hi hk T C hr
    simp only [ccode] at hr
    exact .of_steps (.one (step_to hm hi (.inr (.inr (.inl ⟨a, b, rfl, rfl⟩))))) (iha R hfl (hb.todo _) hm rfl (.cons (.code b) hk) T C hr)
  | block id a iha =>
    intro E h nx w df tm fr k K R hfl hb hm hi hk T C hr
    simp only [ccode] at hr
    exact .of_steps (.one (step_to hm hi (.inr (.inr (.inr (.inl ⟨id, a, rfl, rfl⟩)))))) (iha R hfl (hb.todo _) hm rfl (.cons (.blk id) hk) T C hr)
  | loop a iha =>
    intro E h nx w df tm fr k K R hfl hb hm hi hk T C hr
    simp only [ccode] at hr
    exact .of_steps (.one (step_to hm hi (.inr (.inr (.inr (.inr (.inl ⟨a, rfl, rfl⟩))))))) (iha R hfl (hb.todo _) hm rfl (.cons (.loop a) hk) T C hr)
  | scope a iha =>
    intro E h nx w df tm fr k K R hfl hb hm hi hk T C hr
    simp only [ccode] at hr
    exact .of_steps (.one (step_to hm hi (.inr (.inr (.inr (.inr (.inr (.inl ⟨a, rfl, rfl⟩)))))))) (iha R hfl (hb.todo _) hm rfl (.cons (.scope a) hk) T C hr)
  | cond x a b iha ihb =>
    intro E h nx w df tm fr k K R hfl hb hm hi hk T C hr
    simp only [ccode] at hr
    cases hok : okd (D fs.fn) [] x with
    | false => rw [hok] at hr; cases hr
    | true =>
      rw [hok] at hr
      simp only [bc_true] at hr
      obtain ⟨t, ht, hr⟩ := onBool_some hr
      have hv := opd_sound (TR.start T fun _ => False) x hok (fun _ _ hh => hh)
      rw [ht] at hv
      generalize hF : fr.eval x = F at hv
      cases hv
      have hst := step_cond' (P := P) (fcs := fcs) (w := w) hm hi hF
      cases t with
      | true => exact .of_steps (.one hst) (iha R hfl (hb.todo _) hm rfl hk T C hr)
      | false => exact .of_steps (.one hst) (ihb R hfl (hb.todo _) hm rfl hk T C hr)
  | exit id =>
    intro E h nx w df tm fr k K R hfl hb hm hi hk T C hr
    simp only [ccode] at hr
    obtain ⟨s1, s2⟩ := exitA_sound id hk
    cases hx : exitA id k with
    | some k' =>
      rw [hx] at hr
      obtain ⟨K', hK, hk'⟩ := s1 k' hx
      exact .inl ⟨E, fl, ⟨fs, df, cs⟩, tm, h, nx, k', false, _, fcs, w, hr, .one (step_to hm hi (.inr (.inr (.inr (.inr (.inr (.inr (.inl ⟨id, rfl, hK⟩)))))))), ⟨hb.todo _, hm, fun _ => hk', T, C, hfl, R⟩⟩
    | none =>
      rw [hx] at hr
      exact leave_goes R hfl hb hm T C (.exit hi (s2 hx)) hr
  | goto l =>
    intro E h nx w df tm fr k K R hfl hb hm hi hk T C hr
    simp only [ccode] at hr
    obtain ⟨s1, s2⟩ := gotoA_sound l hk
    cases hx : gotoA l k with
    | some k' =>
      rw [hx] at hr
      obtain ⟨K', hK, hk'⟩ := s1 k' hx
      exact .inl ⟨E, fl, ⟨fs, df, cs⟩, tm, h, nx, k', false, _, fcs, w, hr, .one (step_to hm hi (.inr (.inr (.inr (.inr (.inr (.inr (.inr (.inl ⟨l, rfl, hK⟩))))))))), ⟨hb.todo _, hm, fun _ => hk', T, C, hfl, R⟩⟩
    | none =>
      rw [hx] at hr
      exact leave_goes R hfl hb hm T C (.goto hi (s2 hx)) hr
  | ret =>
    intro E h nx w df tm fr k K R hfl hb hm hi hk T C hr
    exact leave_goes R hfl hb hm T C (.ret hi) hr
  | region id ops draw =>
    intro E h nx w df tm fr k K R hfl hb hm hi hk T C hr
    cases draw with
    | false =>
      simp only [ccode] at hr
      refine .of_steps (.one (step_to hm hi (.inr (.inr (.inr (.inr (.inr (.inr (.inr (.inr ⟨id, ops, rfl, rfl⟩)))))))))) ?_
      exact crun_goes (k := K) ops.toList [] (List.range ops.size) E h nx w df tm [] _ R hfl (hb.todo _) hm rfl (idx_range ops) (TR.start T _) C hk hr
    | true =>
      simp only [ccode] at hr
      cases hp : plan ops with
      | none => rw [hp] at hr; cases hr
      | some ps =>
        rw [hp] at hr
        obtain ⟨hpo, hlin⟩ := plan_lin hp (P.follows .mixedOrders) (w.tape w.drawn (.order fr.fn id))
        refine .of_steps (.one (step_draw hm hi)) ?_
        exact cplan_goes hpo [] _ [] E h nx w.drew df tm [] _ _ R.drew hfl (hb.todo _) hm rfl C hk (DInv.start hlin T) hr
  | rangeFunc g ps a b iha ihb =>
    intro E h nx w df tm fr k K R hfl hb hm hi hk T C hr
    simp only [ccode] at hr
    cases hok : okd (D fs.fn) [] g with
    | false => rw [hok] at hr; cases hr
    | true =>
      rw [hok] at hr
      simp only [bc_true] at hr
      have hrd := hb.rd
      cases hrf : fs.rd with
      | none =>
        rw [hrf] at hrd hr
        have hround : fr.roundOf = none := by generalize hz : fr.roundOf = z at hrd; cases hrd; rfl
        obtain ⟨hlt, hr⟩ := bc_some hr
        have hlt : nx + 1 < 262142 := blt_lt hlt
        rw [dig_eq, dig_eq] at hr
        have R1 := R.alloc (ab := .dfr (some [])) (O := .deferred (some [])) (q := 0) (by omega) (.dfr .nil)
        have hE1 := E.put_le (w.heap.size, 0) (R.fresh nx (Nat.le_refl _))
        have hat1 : (E.put nx (w.heap.size, 0)).m nx = some (w.heap.size, 0) := En.put_at _ _ _
        have hLR : LoopR D (E.put nx (w.heap.size, 0)) { state := .ready, pending := none, fn := fs.fn, tm := tm, n := fs.n, params := ps, assign := a, body := b, defers := nx }
            { state := .ready, pending := none, fn := fr.fn, tmps := fr.tmps, params := ps, assign := a, body := b, defers := w.heap.size } :=
          ⟨rfl, rfl, hb.fn, hb.size, hb.bound, T.mono hE1, rfl, rfl, rfl, ⟨0, hat1⟩⟩
        have R2 := R1.alloc (ab := mkLoop fs tm ps a b nx) (q := 0) (by omega) (.loop hLR)
        have hE2 := (E.put nx (w.heap.size, 0)).put_le (nx := nx + 1) ((w.alloc (.deferred (some []))).heap.size, 0) (R1.fresh (nx + 1) (Nat.le_refl _))
        have hkeep : Keep nx E h ((E.put nx (w.heap.size, 0)).put (nx + 1) ((w.alloc (.deferred (some []))).heap.size, 0)) (bput (nx + 1) (some (mkLoop fs tm ps a b nx)) (bput nx (some (.dfr (some []))) h)) :=
          ⟨hE1.trans hE2 (by omega), fun c hc _ => by rw [bget_put, if_neg (fun (z : c = nx + 1 ∧ c < 262144) => by omega), bget_put, if_neg (fun (z : c = nx ∧ c < 262144) => by omega)]⟩
        refine rangeFunc_goes (h' := bput (nx + 1) (some (mkLoop fs tm ps a b nx)) (bput nx (some (.dfr (some []))) h)) (lb := nx + 1) (mark := [{ target := .collected w.heap.size, args := #[] }]) R2 hfl (by omega) hkeep hb hm hi hk T C hok (En.put_at _ _ _) ?_ ?_ hr
        · exact .cons (.coll (hE2.up _ _ hat1)) (hb.df.mono hkeep.le)
        · rw [hround]
          simp [Instr.enterLoop]
      | some lb =>
        rw [hrf] at hrd hr
        obtain ⟨lc, q, hround, he⟩ : ∃ lc q, fr.roundOf = some lc ∧ E.m lb = some (lc, q) := by
          generalize hz : fr.roundOf = z at hrd
          cases hrd with
          | some h => exact ⟨_, _, rfl, h⟩
        obtain ⟨L, hL, hr⟩ := onLoop_some hr
        obtain ⟨hlt, hr⟩ := bc_some hr
        have hlt := blt_lt hlt
        rw [dig_eq] at hr
        obtain ⟨L', hLR0, hobj⟩ := R.loop he hL
        obtain ⟨qd, hqd⟩ := hLR0.defers
        have hLR : LoopR D E { state := .ready, pending := none, fn := fs.fn, tm := tm, n := fs.n, params := ps, assign := a, body := b, defers := L.defers }
            { state := .ready, pending := none, fn := fr.fn, tmps := fr.tmps, params := ps, assign := a, body := b, defers := L'.defers } :=
          ⟨rfl, rfl, hb.fn, hb.size, hb.bound, T, rfl, rfl, rfl, ⟨qd, hqd⟩⟩
        have R2 := R.alloc (ab := mkLoop fs tm ps a b L.defers) (q := 0) hlt (.loop hLR)
        have hE2 := E.put_le (w.heap.size, 0) (R.fresh nx (Nat.le_refl _))
        have hkeep : Keep nx E h (E.put nx (w.heap.size, 0)) (bput nx (some (mkLoop fs tm ps a b L.defers)) h) :=
          ⟨hE2, fun c hc _ => by rw [bget_put, if_neg (fun (z : c = nx ∧ c < 262144) => by omega)]⟩
        refine rangeFunc_goes (h' := bput nx (some (mkLoop fs tm ps a b L.defers)) h) (lb := nx) (mark := []) R2 hfl (by omega) hkeep hb hm hi hk T C hok (En.put_at _ _ _) (hb.df.mono hkeep.le) ?_ hr
        rw [hround]
        simp [Instr.enterLoop, run_getLoop hobj]
  | refuse why =>
    intro E h nx w df tm fr k K R hfl hb hm hi hk T C hr
    cases hr
end
end Go.Ax
