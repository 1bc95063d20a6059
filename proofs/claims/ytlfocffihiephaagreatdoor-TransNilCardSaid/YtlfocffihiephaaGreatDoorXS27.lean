/- Part of an abstract executor of the model's machine, and of its law (S27). -/
import Derived.Test.YtlfocffihiephaaGreatDoorXS26
namespace Go.Ax
open Go.RowKit (Below)
variable {P : Program} {D : Nat → Nat} {base : Nat} {w0 : World} {f0 : Nat} {cs0 : List Frame} {E : En} {h : H} {nx : Nat} {w : World} {r : St} {j : J}

/-! entering a function -/
theorem setArgs_get : ∀ (args : List AV) (i : Nat) (tm : Tm) (t : Nat), t < 512 → i + args.length ≤ 512 →
    gget (slot t) (setArgs args i tm) = if i ≤ t ∧ t < i + args.length then args.getD (t - i) undef else gget (slot t) tm
  | [], i, tm, t, _, _ => by rw [if_neg (by simp)]; rfl
  | v :: args, i, tm, t, ht, hl => by
    have hl : i + (args.length + 1) ≤ 512 := hl
    have h0 : setArgs (v :: args) i tm = setArgs args (i + 1) (gset (slot i) v tm) := by
      show dig i (fun i => setArgs args (Nat.succ i) (gset (slot i) v tm)) = _
      rw [dig_eq]
    rw [h0, setArgs_get args (i + 1) _ t ht (by omega), slot_set t i ht (by omega)]
    simp only [List.length_cons]
    by_cases h1 : t = i
    · subst h1
      rw [if_neg (by omega), if_pos rfl, if_pos (by omega)]; simp
    · by_cases h2 : i + 1 ≤ t ∧ t < i + 1 + args.length
      · rw [if_pos h2, if_pos (by omega)]
        obtain ⟨d, hd⟩ : ∃ d, t - i = d + 1 := ⟨t - i - 1, by omega⟩
        rw [hd, show t - (i + 1) = d by omega]
        simp
      · rw [if_neg h2, if_neg h1, if_neg (by omega)]

theorem center_some {f : Nat} {args : List AV} {dk : Bool} {K : FS → Tm → List AI → O} (hr : (center P D f).e args dk K = some r) :
    ∃ fn c, P.funcs[f]? = some fn ∧ fn.body = some c ∧ fn.ntmps ≤ 512 ∧ D f < 2 ^ fn.ntmps ∧ args.length ≤ fn.ntmps ∧ K ⟨f, fn.ntmps, dk, none⟩ (setArgs args 0 tnil) [.code c] = some r := by
  unfold center at hr
  cases hf : P.funcs[f]? with
  | none => rw [hf] at hr; cases hr
  | some fn =>
    rw [hf] at hr
    simp only at hr
    cases hb : fn.body with
    | none => rw [hb] at hr; cases hr
    | some c =>
      rw [hb] at hr
      simp only at hr
      cases hc : (Nat.ble fn.ntmps 512 && Nat.blt (D f) (Nat.pow 2 fn.ntmps)) with
      | false => rw [hc] at hr; cases hr
      | true =>
        rw [hc] at hr
        rw [Bool.and_eq_true] at hc
        have hr' : bc (Nat.ble (llen args) fn.ntmps) (bc (paramsOk (D f) (llen args)) (K ⟨f, fn.ntmps, dk, none⟩ (setArgs args 0 tnil) [.code c]) none) none = some r := hr
        obtain ⟨h1, hr1⟩ := bc_some hr'
        obtain ⟨_, hr2⟩ := bc_some hr1
        have h1 := ble_le h1
        rw [llen_eq] at h1
        exact ⟨fn, c, rfl, hb, ble_le hc.1, blt_lt hc.2, h1, hr2⟩

theorem enter_frame {f : Nat} {fn : Func} {c : Code} {args : List AV} {ARGS : Array Value} {dk : Bool}
    (hf : P.funcs[f]? = some fn) (hb : fn.body = some c) (h512 : fn.ntmps ≤ 512) (hD : D f < 2 ^ fn.ntmps) (hlen : args.length ≤ fn.ntmps) (ha : VRL E args ARGS.toList) :
    FrB D E ⟨f, fn.ntmps, dk, none⟩ [] (Frame.enter P f ARGS (if dk then .deferred else .normal)) ∧ ItL E [.code c] (Frame.enter P f ARGS (if dk then .deferred else .normal)).todo ∧
      TmR E (D f) (setArgs args 0 tnil) (Frame.enter P f ARGS (if dk then .deferred else .normal)).tmps := by
  have hal := ha.len
  have hal : ARGS.size = args.length := by simpa using hal
  refine ⟨⟨rfl, ?_, hD, .nil, rfl, .none⟩, ?_, ?_⟩
  · simp [Frame.enter, hf]; omega
  · simp only [Frame.enter, hf, hb, Option.bind_some, Option.getD_some]
    exact .cons (.code c) .nil
  · intro t ht hm
    have h0 := setArgs_get args 0 tnil t ht (by omega)
    rw [h0]
    simp only [Frame.enter, hf, Option.map_some, Option.getD_some, Array.getD_eq_getD_getElem?]
    by_cases h1 : t < args.length
    · rw [if_pos (by omega), Array.getElem?_append_left (by omega)]
      obtain ⟨V, hV, hv⟩ := ha.get t (args.getD t undef) (by simp [List.getD, List.getElem?_eq_getElem h1])
      have hV : ARGS[t]? = some V := by simpa using hV
      rw [hV]; simpa using hv
    · rw [if_neg (by omega), slot_nil t ht]
      by_cases h2 : t < fn.ntmps
      · have : (ARGS ++ Array.replicate (fn.ntmps - ARGS.size) Go.undef)[t]? = some Go.undef := by
          rw [Array.getElem?_append_right (by omega), Array.getElem?_replicate, if_pos (by omega)]
        rw [this]; exact undef_sound E
      · have : (ARGS ++ Array.replicate (fn.ntmps - ARGS.size) Go.undef)[t]? = none := by
          apply Array.getElem?_eq_none; simp; omega
        rw [this]; exact undef_sound E

theorem SR.enter (R : HR D base w0 E h nx w) {fl : Nat} (hfl : fl ≤ nx) {f : Nat} {fn : Func} {c : Code} {args : List AV} {ARGS : Array Value} {dk : Bool} {cf : Fr} {cs : List Fr} {fr : Frame} {fcs : List Frame}
    (hf : P.funcs[f]? = some fn) (hb : fn.body = some c) (h512 : fn.ntmps ≤ 512) (hD : D f < 2 ^ fn.ntmps) (hlen : args.length ≤ fn.ntmps) (ha : VRL E args ARGS.toList)
    (hs : SusR P D E h fl nx dk cf fr) (C : CsR P D f0 cs0 E h fl cf.fs.fn cf.fs.dk cs fcs) :
    SR P D base w0 f0 cs0 E nx ⟨⟨f, fn.ntmps, dk, none⟩, [], cf :: cs⟩ (setArgs args 0 tnil) h nx [.code c] false (Frame.enter P f ARGS (if dk then .deferred else .normal)) (fr :: fcs) w := by
  obtain ⟨h1, h2, h3⟩ := enter_frame (dk := dk) hf hb h512 hD hlen ha
  exact ⟨h1, rfl, fun _ => h2, h3, .cons hfl hs C, Nat.le_refl _, R⟩

theorem run_callFunc {f : Nat} (hf : isFn P f = true) (args : Array Value) (w : World) : (callFunc f args).run P w = .ok (.enter f args) w := by
  unfold isFn at hf
  cases hg : P.funcs[f]? with
  | none => rw [hg] at hf; cases hf
  | some fn =>
    rw [hg] at hf
    simp only [Bool.and_eq_true, Bool.not_eq_true'] at hf
    obtain ⟨h1, h2⟩ := hf
    have hb : fn.body.isNone = false := by cases hq : fn.body <;> simp [hq] at h2 ⊢
    have h1' : ¬ fn.name = "runtime.NumGoroutine" := by simpa using h1
    have hb' : ¬ fn.body = none := fun hh => by rw [hh] at hb; cases hb
    simp [callFunc, hg, h1', hb']

/-- a call out of a region: the frame is laid by -/
theorem goCall_goes (R : HR D base w0 E h nx w) {fl : Nat} (hfl : fl ≤ nx) {f : Nat} {args : List AV} {ARGS : Array Value} {it : AI} {fs : FS} {df : List ADf} {cs : List Fr} {td : List AI} {tm : Tm} {fr : Frame} {fcs : List Frame}
    (hr : goCall P D f args it (.mk ⟨fs, df, cs⟩ td j) tm h nx = some r) (ha : VRL E args ARGS.toList)
    (hs : SusR P D E h fl nx false ⟨fs, tm, it :: td, df, false⟩ fr) (C : CsR P D f0 cs0 E h fl fs.fn fs.dk cs fcs)
    (hst : step P (lone fr fcs w) = .next (lone (Frame.enter P f ARGS .normal) (fr :: fcs) w)) : Goes P D base w0 f0 cs0 (lone fr fcs w) j r := by
  obtain ⟨_, hr⟩ := bc_some hr
  obtain ⟨fn, c, hf, hb, h512, hD, hlen, hk⟩ := center_some hr
  exact .inl ⟨_, _, _, _, _, _, _, _, _, _, _, hk, .one hst, SR.enter R hfl hf hb h512 hD hlen ha hs C⟩

theorem goCall_isFn {f : Nat} {args : List AV} {it : AI} {cx : Cx} {tm : Tm} (hr : goCall P D f args it cx tm h nx = some r) : isFn P f = true := (bc_some hr).1

/-! a round of a range over a function -/
theorem onLoop_some {γ : Type} {x : γ} {b : Option AB} {k : ALoop → Option γ} (hr : onLoop b none k = some x) : ∃ L, b = some (.loop L) ∧ k L = some x := by
  cases b with
  | none => cases hr
  | some b => cases b <;> first | exact ⟨_, rfl, hr⟩ | cases hr

theorem HR.loop (R : HR D base w0 E h nx w) {b c q : Nat} (e : E.m b = some (c, q)) {L : ALoop} (hb : bget b h = some (.loop L)) : ∃ L', LoopR D E L L' ∧ w.heap[c]? = some (.loop L') := by
  obtain ⟨_, ob, ho, br⟩ := R.get e hb
  cases br with
  | loop hl => exact ⟨_, hl, ho⟩

theorem run_getLoop {c : Nat} {L : Loop} (hg : w.heap[c]? = some (.loop L)) : (Instr.getLoop c).run P w = .ok L w := by
  simp [Instr.getLoop, getObj, Sem.run, hg]

theorem allP_all {p : Tmp → Bool} : ∀ {l : List Tmp}, allP p l = true → ∀ t ∈ l, p t = true
  | [], _, t, ht => by cases ht
  | x :: l, ha, t, ht => by
    have ha : bc (p x) (allP p l) false = true := ha
    rw [bc_ite] at ha
    split at ha
    · cases ht with
      | head => assumption
      | tail _ hm => exact allP_all ha t hm
    · cases ha

theorem setParams_sound {mask : Nat} : ∀ (ts : List Tmp) (vs : List AV) (VS : List Value) (tm tm' : Tm) (tmps : Array Value), setParams ts vs tm = some tm' → VRL E vs VS → TmR E mask tm tmps →
    (∀ t ∈ ts, t < tmps.size ∧ Nat.testBit mask t = false) → vs.length = ts.length → TmR E mask tm' ((ts.zip VS).foldl (fun tmps (t, a) => tmps.setIfInBounds t a) tmps)
  | [], vs, VS, tm, tm', tmps, hs, hv, ht, _, _ => by cases hs; exact ht
  | t :: ts, vs, VS, tm, tm', tmps, hs, hv, ht, hp, hl => by
    obtain ⟨v, r, rfl, hs⟩ := onList_some hs
    obtain ⟨hlt, hs⟩ := bc_some hs
    have hlt := blt_lt hlt
    cases hv with
    | cons hv1 hvt =>
      rename_i V L
      simp only [List.zip_cons_cons, List.foldl_cons]
      obtain ⟨hts, htm⟩ := hp t (by simp)
      refine setParams_sound ts r _ _ _ _ hs hvt ?_ (fun u hu => by rw [Array.size_setIfInBounds]; exact hp u (by simp [hu])) (by simpa using hl)
      intro u hu hmu
      rw [slot_set u t hu hlt]
      by_cases hut : u = t
      · subst hut
        rw [if_pos rfl]
        simpa [Array.getD_eq_getD_getElem?, hts] using hv1
      · rw [if_neg hut]
        have : (tmps.setIfInBounds t V).getD u Go.undef = tmps.getD u Go.undef := by
          simp only [Array.getD_eq_getD_getElem?]
          rw [Array.getElem?_setIfInBounds_ne (fun hh => hut hh.symm)]
        rw [this]
        exact ht u hu hmu

theorem goRound_some {l : Nat} {args : List AV} {it : AI} {fs : FS} {df : List ADf} {cs : List Fr} {td : List AI} {tm : Tm} (hr : goRound D l args it (.mk ⟨fs, df, cs⟩ td j) tm h nx = some r) :
    ∃ L tm', bget l h = some (.loop L) ∧ (∀ t ∈ L.params.toList, t < L.n ∧ Nat.testBit (D L.fn) t = false) ∧ args.length = L.params.size ∧ setParams L.params.toList args L.tm = some tm' ∧
      j ⟨⟨L.fn, L.n, false, some l⟩, [], ⟨fs, tm, it :: td, df, false⟩ :: cs⟩ tm' h nx [.code L.assign, .br, .code L.body] false = some r := by
  obtain ⟨L, hL, hr⟩ := onLoop_some hr
  obtain ⟨hp, hr⟩ := bc_some hr
  obtain ⟨hn, hr⟩ := bc_some hr
  obtain ⟨tm', htm, hr⟩ := ob_some' hr
  refine ⟨L, tm', hL, ?_, ?_, htm, hr⟩
  · intro t ht
    have := allP_all hp t ht
    rw [bc_ite] at this
    split at this
    · rename_i h1
      refine ⟨blt_lt h1, ?_⟩
      cases hb : Nat.testBit (D L.fn) t with
      | false => rfl
      | true => rw [hb] at this; cases this
    · cases this
  · have := beq_eq hn
    rwa [llen_eq] at this

theorem goRound_goes (R : HR D base w0 E h nx w) {fl : Nat} (hfl : fl ≤ nx) {l c q : Nat} {args : List AV} {ARGS : Array Value} {it : AI} {fs : FS} {df : List ADf} {cs : List Fr} {td : List AI} {tm : Tm} {fr : Frame} {fcs : List Frame}
    (hr : goRound D l args it (.mk ⟨fs, df, cs⟩ td j) tm h nx = some r) (he : E.m l = some (c, q)) (ha : VRL E args ARGS.toList)
    (hs : SusR P D E h fl nx false ⟨fs, tm, it :: td, df, false⟩ fr) (C : CsR P D f0 cs0 E h fl fs.fn fs.dk cs fcs)
    (hst : ∀ f tmps a b, (Instr.yield c ARGS).run P w = .ok (.round c f tmps a b) w → step P (lone fr fcs w) = .next (lone (Frame.round c f tmps a b .normal) (fr :: fcs) w)) : Goes P D base w0 f0 cs0 (lone fr fcs w) j r := by
  obtain ⟨L, tm', hL, hp, hn, htm, hk⟩ := goRound_some hr
  obtain ⟨L', hLR, hobj⟩ := R.loop he hL
  have hsz : ARGS.size = L'.params.size := by
    have := ha.len
    rw [hLR.params]; simp at this; omega
  have hy : (Instr.yield c ARGS).run P w = .ok (.round c L'.fn ((L'.params.zip ARGS).foldl (fun tmps (t, a) => tmps.setIfInBounds t a) L'.tmps) L'.assign L'.body) w := by
    simp [Instr.yield, run_getLoop hobj, hsz]
  refine .inl ⟨E, nx, _, _, _, _, _, _, Frame.round c L'.fn ((L'.params.zip ARGS).foldl (fun tmps (t, a) => tmps.setIfInBounds t a) L'.tmps) L'.assign L'.body .normal, fr :: fcs, w, hk, .one (hst _ _ _ _ hy), ?_⟩
  have hzip : (L'.params.zip ARGS).foldl (fun tmps (t, a) => tmps.setIfInBounds t a) L'.tmps = (L.params.toList.zip ARGS.toList).foldl (fun tmps (t, a) => tmps.setIfInBounds t a) L'.tmps := by
    rw [hLR.params, ← Array.foldl_toList, Array.toList_zip]
  have hT := setParams_sound (E := E) (mask := D L.fn) L.params.toList args ARGS.toList L.tm tm' L'.tmps htm ha hLR.tm (fun t ht => by rw [hLR.size]; exact hp t ht) (by rw [hn]; simp)
  have hsize : ∀ (l : List (Tmp × Value)) (a : Array Value), (l.foldl (fun tmps (t, a) => tmps.setIfInBounds t a) a).size = a.size := by
    intro l
    induction l with
    | nil => intro a; rfl
    | cons x l ih => intro a; simp only [List.foldl_cons]; rw [ih]; simp
  refine ⟨⟨hLR.fn, ?_, hLR.bound, .nil, rfl, .some he⟩, rfl, fun _ => ?_, ?_, .cons hfl hs C, Nat.le_refl _, R⟩
  · show ((L'.params.zip ARGS).foldl _ L'.tmps).size = L.n
    rw [hzip, hsize]; exact hLR.size
  · show ItL E _ [.code L'.assign, .beginRound, .code L'.body]
    rw [hLR.assign, hLR.body]
    exact .cons (.code _) (.cons .br (.cons (.code _) .nil))
  · show TmR E (D L.fn) tm' ((L'.params.zip ARGS).foldl _ L'.tmps)
    rw [hzip]; exact hT

/-! methods through an interface -/
theorem run_nilWrap (t : TypeId) (a : Addr) (s : String) (w : World) : (Builtin.ssaWrapNilChk_ #[t] t #[.pointer (some a), strVal "", strVal s]).run P w = .ok (.pointer (some a)) w := rfl

theorem cmethod_sound (R : HR D base w0 E h nx w) {t : TypeId} {name : String} {v rv : AV} {V : Value} {f : Nat} (hm : (cmethod P t name).f h v = some (f, rv)) (hv : VR E v V) (n : Nat) :
    ∃ RV, VR E rv RV ∧ (method (n + 1) t V name).run P w = .ok (f, RV) w := by
  unfold cmethod at hm
  split at hm
  · rename_i i d hi hd
    split at hm
    · rename_i m hfind
      have hrun : ∀ {g : FuncId} {ptr : Bool} {RV : Value}, m.path.toList = [] → m.func = some (g, ptr) →
          (receiverAt t (.val V) ptr (some ((name.splitOn ".").getLastD name))).run P w = .ok RV w → (method (n + 1) t V name).run P w = .ok (g, RV) w := by
        intro g ptr RV hp hf hrc
        have hpe : m.path = #[] := by apply Array.ext'; simpa using hp
        simp only [method, Sem.run_bind, run_info hi, Result.andThen_ok, hfind, hpe, follow, Sem.run_pure, hf, Array.isEmpty_empty, if_true, hrc]
      split at hm
      · rename_i g hp hf
        cases hm
        exact ⟨V, hv, hrun hp hf (by simp [receiverAt, run_under hd, Place.get])⟩
      · rename_i g el hp hf
        split at hm
        · rename_i ti hti
          obtain ⟨I, hI, hU, hsz, _, hag, _⟩ := tinfo_some hti
          cases ha : ti.agg with
          | true =>
            rw [ha] at hm
            obtain ⟨b, off, rfl, hm⟩ := onPtr_some hm
            obtain ⟨l, hl, hm⟩ := ob_some' hm
            cases hm
            cases hv with
            | ptr _ he =>
              obtain ⟨L, hL, hlen, hlies⟩ := loadB_sound R he hl
              have hrl := run_loadCells_list (P := P) w ⟨_, off, none⟩ L hlies
              rw [hlen, hsz] at hrl
              exact ⟨_, .agg hL, hrun hp hf (by simp [receiverAt, run_under hd, Place.get, run_nilWrap, asAddr, loadVar, run_agg hU, ← hag, ha, run_size hI, hrl])⟩
          | false =>
            rw [ha] at hm
            obtain ⟨b, off, rfl, hm⟩ := onPtr_some hm
            obtain ⟨x, hl, hm⟩ := ob_some' hm
            cases hm
            cases hv with
            | ptr _ he =>
              obtain ⟨X, hc, hX⟩ := load1_sound R he hl
              exact ⟨_, hX, hrun hp hf (by simp [receiverAt, run_under hd, Place.get, run_nilWrap, asAddr, loadVar, run_agg hU, ← hag, ha, hc])⟩
        · cases hm
      · cases hm
      · rename_i g hp hf hnp
        cases hm
        refine ⟨V, hv, hrun hp hf ?_⟩
        rename_i d
        revert hd hnp
        generalize hq : d = d'
        intro hnp hd
        cases d' <;> first | exact absurd rfl (hnp _) | simp [receiverAt, run_under hd, Place.get]
      · cases hm
    · cases hm
  · cases hm
end Go.Ax
