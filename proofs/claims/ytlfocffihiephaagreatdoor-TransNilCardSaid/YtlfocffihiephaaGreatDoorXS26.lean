/- Part of an abstract executor of the model's machine, and of its law (S26). -/
import Derived.Test.YtlfocffihiephaaGreatDoorXS25
namespace Go.Ax
open Go.RowKit (Below)

/-! the frames -/
inductive ItR (E : En) : AI → Item → Prop
  | code (c : Code) : ItR E (.code c) (.code c)
  | blk (id : Nat) : ItR E (.blk id) (.inBlock id)
  | loop (c : Code) : ItR E (.loop c) (.inLoop c)
  | scope (c : Code) : ItR E (.scope c) (.inScope c)
  | erf {l c q : Nat} (h : E.m l = some (c, q)) : ItR E (.erf l) (.endRangeFunc c)
  | br : ItR E .br .beginRound
inductive ItL (E : En) : List AI → List Item → Prop
  | nil : ItL E [] []
  | cons {a : AI} {i : Item} {l : List AI} {L : List Item} (h : ItR E a i) (t : ItL E l L) : ItL E (a :: l) (i :: L)
theorem ItR.mono {nx : Nat} {E E' : En} (hl : En.le nx E E') {a : AI} {i : Item} (h : ItR E a i) : ItR E' a i := by
  cases h with
  | code => exact .code _
  | blk => exact .blk _
  | loop => exact .loop _
  | scope => exact .scope _
  | erf h => exact .erf (hl.up _ _ h)
  | br => exact .br
theorem ItL.mono {nx : Nat} {E E' : En} (hl : En.le nx E E') : ∀ {l : List AI} {L : List Item}, ItL E l L → ItL E' l L
  | _, _, .nil => .nil
  | _, _, .cons h t => .cons (h.mono hl) (t.mono hl)

inductive RdR (E : En) : Option Nat → Option Nat → Prop
  | none : RdR E none none
  | some {b c q : Nat} (h : E.m b = some (c, q)) : RdR E (some b) (some c)
theorem RdR.mono {nx : Nat} {E E' : En} (hl : En.le nx E E') {a b : Option Nat} (h : RdR E a b) : RdR E' a b := by
  cases h with
  | none => exact .none
  | some h => exact .some (hl.up _ _ h)

structure FrB (D : Nat → Nat) (E : En) (fs : FS) (df : List ADf) (fr : Frame) : Prop where
  fn : fr.fn = fs.fn
  size : fr.tmps.size = fs.n
  bound : D fs.fn < 2 ^ fs.n
  df : DRL E df fr.defers
  kind : fr.kind = if fs.dk then .deferred else .normal
  rd : RdR E fs.rd fr.roundOf
theorem FrB.mono {nx : Nat} {E E' : En} (hl : En.le nx E E') {D : Nat → Nat} {fs : FS} {df : List ADf} {fr : Frame} (h : FrB D E fs df fr) : FrB D E' fs df fr :=
  { h with df := h.df.mono hl, rd := h.rd.mono hl }

/-- the operations that the machine has before it, as the abstract list -/
inductive Idx (ops : Array Oper) : List Nat → List Oper → Prop
  | nil : Idx ops [] []
  | cons {i : Nat} {o : Oper} {l : List Nat} {os : List Oper} (h : ops[i]? = some o) (t : Idx ops l os) : Idx ops (i :: l) (o :: os)

/-! orders -/
def Pred (m : Region.Mode) (ops : Array Oper) (p j : Nat) : Prop := ∃ o, ops[j]? = some o ∧ ∃ e ∈ o.after.toList, Region.binds m e = true ∧ e.on = p
structure Lin (m : Region.Mode) (ops : Array Oper) (L : List Nat) : Prop where
  nodup : L.Nodup
  all : ∀ i, i ∈ L ↔ i < ops.size
  ord : ∀ l1 j l2, L = l1 ++ j :: l2 → ∀ p, Pred m ops p j → p ∈ l1

/-- h0 knows nothing that h does not -/
def Sub (h0 h : H) : Prop := ∀ b ab, bget b h0 = some ab → bget b h = some ab

def SameT (mask : Nat) (ns : List Tmp) (tm : Tm) (e : List AV) (ns0 : List Tmp) (tm0 : Tm) (e0 : List AV) (t : Tmp) : Prop :=
  okd mask ns (.tmp t) = true ∧ (opd mask ns (.tmp t)).g tm e = (opd mask ns0 (.tmp t)).g tm0 e0

/-- a floating operation that the machine has not yet run; s: an effect lies between (what it reads is looked at anew) -/
inductive Kind (P : Program) (s : Bool) (E : En) (h : H) (fl nx : Nat) (mask : Nat) (ns0 : List Tmp) (tm0 : Tm) (e0 : List AV) (b : Nat) (o : Oper) (v : AV) : Prop
  | pure (hk : okind o = .pure) (hf : ∀ h nx K, (cop P mask ns0 o).f tm0 e0 h nx K = K v h nx) : Kind P s E h fl nx mask ns0 tm0 e0 b o v
  | reads (hk : okind o = .reads) (hf : s = true ∨ ∃ h0, Sub h0 h ∧ ∀ nx K, (cop P mask ns0 o).f tm0 e0 h0 nx K = K v h0 nx) : Kind P s E h fl nx mask ns0 tm0 e0 b o v
  | makes (hk : okind o = .makes) (hb : E.m b = none) (h1 : fl ≤ b) (h2 : b < nx) (h3 : b < 262143) (ab : AB) (kv : Nat → AV) (hg : bget b h = some ab) (hv : v = kv b)
      (hf : ∀ h nx K, (cop P mask ns0 o).f tm0 e0 h nx K = newB ab h nx (fun b h' nx' => K (kv b) h' nx')) : Kind P s E h fl nx mask ns0 tm0 e0 b o v

structure Pnd (P : Program) (s : Bool) (E : En) (h : H) (fl nx : Nat) (mask : Nat) (ops : Array Oper) (ns : List Tmp) (tm : Tm) (e : List AV) (b : Nat) (o : Oper)
    (ns0 : List Tmp) (tm0 : Tm) (e0 : List AV) (v : AV) (wb : Bool) : Prop where
  same : ∀ t, readsT ops o t = true → okd mask ns0 (.tmp t) = true → SameT mask ns tm e ns0 tm0 e0 t
  want : (cwant mask ns0 ops o).f tm0 e0 = some wb
  dst : ∀ t, o.dst = some t → okd mask ns (.tmp t) = true ∧ (opd mask ns (.tmp t)).g tm e = v
  off : wb = false → v = undef
  on : wb = true → o.op.operands.toList.all (okd mask ns0) = true ∧ Kind P s E h fl nx mask ns0 tm0 e0 b o v
def PndE (P : Program) (s : Bool) (E : En) (h : H) (fl nx : Nat) (mask : Nat) (ops : Array Oper) (ns : List Tmp) (tm : Tm) (e : List AV) (b : Nat) (o : Oper) : Prop :=
  ∃ ns0 tm0 e0 v wb, Pnd P s E h fl nx mask ops ns tm e b o ns0 tm0 e0 v wb

/-- in the middle of a region that draws its order: x: what the plan is through with; done: the floating operations among them; rest: what the machine has before it -/
structure DInv (P : Program) (s : Bool) (E : En) (h : H) (fl nx : Nat) (mask : Nat) (ops : Array Oper) (x : Nat) (done : List (Nat × Oper)) (pre rest : List Nat) (ns : List Tmp) (tm : Tm) (e : List AV)
    (tmps : Array Value) (B : Nat → Nat) : Prop where
  lin : Lin .any ops (pre ++ rest)
  h1 : ∀ j ∈ pre, Nat.testBit x j = true
  h2 : ∀ j ∈ rest, Nat.testBit x j = true → ∃ o, (j, o) ∈ done
  h3 : ∀ a ∈ done, ops[a.1]? = some a.2 ∧ Nat.testBit x a.1 = true ∧ okind a.2 ≠ .eff
  st : ∀ a ∈ done, ∀ b ∈ done, ∀ t, a.2.dst = some t → readsT ops b.2 t = true → Nat.testBit ((Region.before ops).getD b.1 0) a.1 = true
  un : ∀ a ∈ done, ∀ b ∈ done, ∀ t, a.2.dst = some t → b.2.dst = some t → a.1 = b.1
  tr : TR E mask ns tm e tmps (fun t => ∃ a ∈ done, a.1 ∈ rest ∧ a.2.dst = some t)
  pf : ∀ a ∈ done, a.1 ∈ rest → PndE P s E h fl nx mask ops ns tm e (B a.1) a.2
  inj : ∀ a ∈ done, ∀ b ∈ done, a.1 ∈ rest → b.1 ∈ rest → B a.1 = B b.1 → a.1 = b.1
  bk : ∀ a ∈ done, a.1 ∈ rest → B a.1 = 262144 + a.1 ∨ B a.1 < nx
  dl : ∀ a ∈ done, ∀ t, a.2.dst = some t → t < tmps.size

inductive PlanOk (ops : Array Oper) (bef : Array Nat) : Nat → List (Nat × Oper) → List PS → Prop
  | nil {x : Nat} {done : List (Nat × Oper)} (h : (List.range ops.size).all (Nat.testBit x) = true) : PlanOk ops bef x done []
  | fl {x i : Nat} {o : Oper} {done : List (Nat × Oper)} {ps : List PS} (ho : ops[i]? = some o) (hx : Nat.testBit x i = false) (hd : direct .any x o = true) (hk : okind o ≠ .eff)
      (hf : fits ops (bef.getD i 0) o false done = true) (hw : ownT ops o = true) (t : PlanOk ops bef (Nat.lor x (Nat.shiftLeft 1 i)) ((i, o) :: done) ps) : PlanOk ops bef x done (.fl i o :: ps)
  | ef {x i : Nat} {o : Oper} {done : List (Nat × Oper)} {ps : List PS} (ho : ops[i]? = some o) (hx : Nat.testBit x i = false) (hd : direct .any x o = true)
      (only : ∀ j o', ops[j]? = some o' → Nat.testBit x j = false → direct .any x o' = true → j = i)
      (hf : fits ops (bef.getD i 0) o true done = true) (t : PlanOk ops bef (Nat.lor x (Nat.shiftLeft 1 i)) done ps) : PlanOk ops bef x done (.ef i o (readersR (bef.getD i 0) done) :: ps)

/-- a frame that waits for a call -/
inductive SusR (P : Program) (D : Nat → Nat) (E : En) (h : H) (fl nx : Nat) : Bool → Fr → Frame → Prop
  | ret {fs : FS} {tm : Tm} {td : List AI} {df : List ADf} {fr : Frame} (hb : FrB D E fs df fr) (hm : fr.mode = .returning) (ht : TmR E (D fs.fn) tm fr.tmps) : SusR P D E h fl nx true ⟨fs, tm, td, df, true⟩ fr
  | reg {fs : FS} {tm : Tm} {ops : Array Oper} {ns : List Tmp} {o : Oper} {os : List Oper} {e : List AV} {td : List AI} {df : List ADf} {fr : Frame} {i : Nat} {rest : List Nat} {k : List Item}
      (hb : FrB D E fs df fr) (hm : fr.mode = .run) (hi : fr.todo = .inRegion ops (i :: rest) :: k) (hx : Idx ops (i :: rest) (o :: os)) (ht : TR E (D fs.fn) ns tm e fr.tmps fun _ => False) (hk : ItL E td k) :
      SusR P D E h fl nx false ⟨fs, tm, .reg ⟨ops, ns, o :: os⟩ e :: td, df, false⟩ fr
  | dreg {fs : FS} {tm : Tm} {ops : Array Oper} {ns : List Tmp} {o : Oper} {rc : List Oper} {ps : List PS} {e : List AV} {td : List AI} {df : List ADf} {fr : Frame} {i x : Nat} {pre rest : List Nat} {k : List Item}
      {done : List (Nat × Oper)} {B : Nat → Nat}
      (hb : FrB D E fs df fr) (hm : fr.mode = .run) (hi : fr.todo = .inRegion ops (i :: rest) :: k) (hp : PlanOk ops (Region.before ops) x done (.ef i o rc :: ps))
      (hd : DInv P true E h fl nx (D fs.fn) ops x done pre (i :: rest) ns tm e fr.tmps B) (hk : ItL E td k) :
      SusR P D E h fl nx false ⟨fs, tm, .dreg ⟨ops, ns, .ef i o rc :: ps⟩ e :: td, df, false⟩ fr
  | rf {fs : FS} {tm : Tm} {l c q : Nat} {td : List AI} {df : List ADf} {fr : Frame} {k : List Item}
      (hb : FrB D E fs df fr) (hm : fr.mode = .run) (hi : fr.todo = .inRangeFunc c :: k) (hl : E.m l = some (c, q)) (ht : TmR E (D fs.fn) tm fr.tmps) (hk : ItL E td k) :
      SusR P D E h fl nx false ⟨fs, tm, .rf l :: td, df, false⟩ fr

inductive CsR (P : Program) (D : Nat → Nat) (f0 : Nat) (cs0 : List Frame) (E : En) (h : H) : Nat → Nat → Bool → List Fr → List Frame → Prop
  | nil {fl : Nat} : CsR P D f0 cs0 E h fl f0 false [] cs0
  | cons {fl fl' fn : Nat} {dk : Bool} {c : Fr} {cs : List Fr} {fr : Frame} {fcs : List Frame} (hle : fl ≤ fl') (s : SusR P D E h fl fl' dk c fr) (t : CsR P D f0 cs0 E h fl c.fs.fn c.fs.dk cs fcs) :
      CsR P D f0 cs0 E h fl' fn dk (c :: cs) (fr :: fcs)

/-- what a step of memory keeps, below a floor -/
structure Keep (fl : Nat) (E : En) (h : H) (E' : En) (h' : H) : Prop where
  le : En.le fl E E'
  mem : ∀ b, b < fl → E.m b = none → bget b h' = bget b h
theorem Keep.refl (fl : Nat) (E : En) (h : H) : Keep fl E h E h := ⟨.refl _ _, fun _ _ _ => rfl⟩
theorem En.le.low {a b : Nat} {E E' : En} (h : En.le b E E') (hab : a ≤ b) : En.le a E E' := ⟨h.up, fun k hk => h.old k (by omega), h.x⟩
theorem Keep.low {a b : Nat} {E E' : En} {h h' : H} (k : Keep b E h E' h') (hab : a ≤ b) : Keep a E h E' h' := ⟨k.le.low hab, fun c hc => k.mem c (by omega)⟩
theorem Keep.trans {a b : Nat} {E E' E'' : En} {h h' h'' : H} (k : Keep a E h E' h') (k' : Keep b E' h' E'' h'') (hab : a ≤ b) : Keep a E h E'' h'' :=
  ⟨k.le.trans k'.le hab, fun c hc hn => by rw [k'.mem c (by omega) (k.le.old c hc hn), k.mem c hc hn]⟩

theorem Kind.keep {P : Program} {E E' : En} {h h' : H} {fl nx mask : Nat} {ns0 : List Tmp} {tm0 : Tm} {e0 : List AV} {b : Nat} {o : Oper} {v : AV} (k : Keep nx E h E' h')
    (q : Kind P true E h fl nx mask ns0 tm0 e0 b o v) : Kind P true E' h' fl nx mask ns0 tm0 e0 b o v := by
  cases q with
  | pure hk hf => exact .pure hk hf
  | reads hk hf => exact .reads hk (.inl rfl)
  | makes hk hb h1 h2 h3 ab kv hg hv hf => exact .makes hk (k.le.old b h2 hb) h1 h2 h3 ab kv (by rw [k.mem b h2 hb]; exact hg) hv hf
theorem PndE.keep {P : Program} {E E' : En} {h h' : H} {fl nx mask : Nat} {ops : Array Oper} {ns : List Tmp} {tm : Tm} {e : List AV} {b : Nat} {o : Oper} (k : Keep nx E h E' h')
    (q : PndE P true E h fl nx mask ops ns tm e b o) : PndE P true E' h' fl nx mask ops ns tm e b o := by
  obtain ⟨ns0, tm0, e0, v, wb, q⟩ := q
  exact ⟨ns0, tm0, e0, v, wb, q.same, q.want, q.dst, q.off, fun hw => ⟨(q.on hw).1, (q.on hw).2.keep k⟩⟩
theorem DInv.keep {P : Program} {E E' : En} {h h' : H} {fl nx mask x : Nat} {ops : Array Oper} {done : List (Nat × Oper)} {pre rest : List Nat} {ns : List Tmp} {tm : Tm} {e : List AV} {tmps : Array Value} {B : Nat → Nat}
    (k : Keep nx E h E' h') (q : DInv P true E h fl nx mask ops x done pre rest ns tm e tmps B) : DInv P true E' h' fl nx mask ops x done pre rest ns tm e tmps B :=
  { q with tr := q.tr.mono k.le, pf := fun a ha hr => (q.pf a ha hr).keep k }

theorem SusR.keep {P : Program} {D : Nat → Nat} {E E' : En} {h h' : H} {fl nx : Nat} {dk : Bool} {c : Fr} {fr : Frame} (k : Keep nx E h E' h') (s : SusR P D E h fl nx dk c fr) : SusR P D E' h' fl nx dk c fr := by
  cases s with
  | ret hb hm ht => exact .ret (hb.mono k.le) hm (ht.mono k.le)
  | reg hb hm hi hx ht hk => exact .reg (hb.mono k.le) hm hi hx (ht.mono k.le) (hk.mono k.le)
  | dreg hb hm hi hp hd hk => exact .dreg (hb.mono k.le) hm hi hp (hd.keep k) (hk.mono k.le)
  | rf hb hm hi hl ht hk => exact .rf (hb.mono k.le) hm hi (k.le.up _ _ hl) (ht.mono k.le) (hk.mono k.le)
theorem CsR.keep {P : Program} {D : Nat → Nat} {f0 : Nat} {cs0 : List Frame} {E E' : En} {h h' : H} : ∀ {fl fn : Nat} {dk : Bool} {cs : List Fr} {fcs : List Frame}, Keep fl E h E' h' →
    CsR P D f0 cs0 E h fl fn dk cs fcs → CsR P D f0 cs0 E' h' fl fn dk cs fcs
  | _, _, _, _, _, _, .nil => .nil
  | _, _, _, _, _, k, .cons hle s t => .cons hle (s.keep k) (t.keep (k.low hle))

/-- the machine and the abstract state -/
structure SR (P : Program) (D : Nat → Nat) (base : Nat) (w0 : World) (f0 : Nat) (cs0 : List Frame) (E : En) (fl : Nat) (sk : SK) (tm : Tm) (h : H) (nx : Nat) (todo : List AI) (ret : Bool)
    (fr : Frame) (fcs : List Frame) (w : World) : Prop where
  fb : FrB D E sk.fs sk.df fr
  mode : fr.mode = if ret then .returning else .run
  items : ret = false → ItL E todo fr.todo
  tm : TmR E (D sk.fs.fn) tm fr.tmps
  cs : CsR P D f0 cs0 E h fl sk.fs.fn sk.fs.dk sk.cs fcs
  fl : fl ≤ nx
  hr : HR D base w0 E h nx w

def Ends (P : Program) (D : Nat → Nat) (base : Nat) (w0 : World) (f0 : Nat) (cs0 : List Frame) (m : Machine) (r : St) : Prop :=
  ∃ v h nx E V w' fr, r = .fin v h nx ∧ Steps P m (lone fr cs0 w') ∧ fr.fn = f0 ∧ fr.leaving P w' (.returned V) ∧ VR E v V ∧ HR D base w0 E h nx w'
def Goes (P : Program) (D : Nat → Nat) (base : Nat) (w0 : World) (f0 : Nat) (cs0 : List Frame) (m : Machine) (j : J) (r : St) : Prop :=
  (∃ E fl sk tm h nx todo ret fr fcs w, j sk tm h nx todo ret = some r ∧ Steps P m (lone fr fcs w) ∧ SR P D base w0 f0 cs0 E fl sk tm h nx todo ret fr fcs w) ∨ Ends P D base w0 f0 cs0 m r
theorem Goes.of_steps {P : Program} {D : Nat → Nat} {base : Nat} {w0 : World} {f0 : Nat} {cs0 : List Frame} {m m' : Machine} {j : J} {r : St} (s : Steps P m m') (g : Goes P D base w0 f0 cs0 m' j r) : Goes P D base w0 f0 cs0 m j r := by
  rcases g with ⟨E, fl, sk, tm, h, nx, todo, ret, fr, fcs, w, h1, h2, h3⟩ | ⟨v, h, nx, E, V, w', fr, h1, h2, h3⟩
  · exact .inl ⟨E, fl, sk, tm, h, nx, todo, ret, fr, fcs, w, h1, s.trans h2, h3⟩
  · exact .inr ⟨v, h, nx, E, V, w', fr, h1, s.trans h2, h3⟩

/-! steps of the machine -/
section
variable {P : Program} {fr : Frame} {cs : List Frame} {w w' : World} {ops : Array Oper} {i : Nat} {rest : List Nat} {k : List Item} {o : Oper}

theorem stepG_oper (hm : fr.mode = .run) (ht : fr.todo = .inRegion ops (i :: rest) :: k) (ho : ops[i]? = some o) (hw : Region.wanted o (yielded ops fr.tmps) = true) (hd : fr.roundOf = none ∨ ∀ c, o.op ≠ .defer c) :
    stepG P true { frame := fr, callers := cs, status := .running, dying := none } w = stepG.apply P true fr cs none (execOp fr.eval o) w := by
  have hop : fr.oper? = some o := by simp [Frame.oper?, ht, ho]
  simp only [stepG, hm, stepG.exec, ht, ho, Option.map_some, Option.getD_some, hw, if_true, stepG.oper, hop]
  rcases hd with hd | hd
  · rw [hd]
  · cases hr : fr.roundOf with
    | none => rfl
    | some l => cases hq : o.op <;> first | rfl | exact absurd hq (hd _)

theorem step_value {V : Value} (hm : fr.mode = .run) (ht : fr.todo = .inRegion ops (i :: rest) :: k) (ho : ops[i]? = some o) (hw : Region.wanted o (yielded ops fr.tmps) = true) (hd : fr.roundOf = none ∨ ∀ c, o.op ≠ .defer c)
    (hr : (execOp fr.eval o).run P w = .ok (.value V) w' ∨ ((execOp fr.eval o).run P w = .ok .skip w' ∧ V = Go.undef)) :
    step P (lone fr cs w) = .next (lone (fr.finish V) cs w') := by
  refine step_lone_go ?_
  rw [stepG_oper hm ht ho hw hd]
  rcases hr with hr | ⟨hr, rfl⟩
  · simp [stepG.apply, hr]
  · simp [stepG.apply, hr]

theorem step_unwanted (hm : fr.mode = .run) (ht : fr.todo = .inRegion ops (i :: rest) :: k) (ho : ops[i]? = some o) (hw : Region.wanted o (yielded ops fr.tmps) = false) :
    step P (lone fr cs w) = .next (lone (fr.finish Go.undef) cs w) := by
  refine step_lone_go ?_
  simp [stepG, hm, stepG.exec, ht, ho, hw]

theorem step_enter {f : FuncId} {args : Array Value} (hm : fr.mode = .run) (ht : fr.todo = .inRegion ops (i :: rest) :: k) (ho : ops[i]? = some o) (hw : Region.wanted o (yielded ops fr.tmps) = true) (hd : fr.roundOf = none ∨ ∀ c, o.op ≠ .defer c)
    (hr : (execOp fr.eval o).run P w = .ok (.enter f args) w') :
    step P (lone fr cs w) = .next (lone (Frame.enter P f args .normal) (fr :: cs) w') := by
  refine step_lone_go ?_
  rw [stepG_oper hm ht ho hw hd]
  simp [stepG.apply, hr, ht]

theorem step_round {l : Nat} {f : FuncId} {tmps : Array Value} {a b : Code} (hm : fr.mode = .run) (ht : fr.todo = .inRegion ops (i :: rest) :: k) (ho : ops[i]? = some o) (hw : Region.wanted o (yielded ops fr.tmps) = true) (hd : fr.roundOf = none ∨ ∀ c, o.op ≠ .defer c)
    (hr : (execOp fr.eval o).run P w = .ok (.round l f tmps a b) w') :
    step P (lone fr cs w) = .next (lone (Frame.round l f tmps a b .normal) (fr :: cs) w') := by
  refine step_lone_go ?_
  rw [stepG_oper hm ht ho hw hd]
  simp [stepG.apply, hr]

theorem step_deferred {d : Deferred} (hm : fr.mode = .run) (ht : fr.todo = .inRegion ops (i :: rest) :: k) (ho : ops[i]? = some o) (hw : Region.wanted o (yielded ops fr.tmps) = true) (hd : fr.roundOf = none)
    (hr : (execOp fr.eval o).run P w = .ok (.defer d) w') :
    step P (lone fr cs w) = .next (lone ({ fr with defers := d :: fr.defers }.finish Go.undef) cs w') := by
  refine step_lone_go ?_
  rw [stepG_oper hm ht ho hw (.inl hd)]
  simp only [stepG.apply, Sem.runT_eq, hr, GStep.bare_after]
  rfl

theorem step_recover (hm : fr.mode = .run) (ht : fr.todo = .inRegion ops (i :: rest) :: k) (ho : ops[i]? = some o) (hw : Region.wanted o (yielded ops fr.tmps) = true) (hd : fr.roundOf = none)
    (hn : tryRecover fr cs = none) (hr : (execOp fr.eval o).run P w = .ok .recover w') :
    step P (lone fr cs w) = .next (lone (fr.finish .nilIface) cs w') := by
  refine step_lone_go ?_
  rw [stepG_oper hm ht ho hw (.inl hd)]
  simp [stepG.apply, hr, hd, hn]

theorem step_regionEnd (hm : fr.mode = .run) (ht : fr.todo = .inRegion ops [] :: k) : step P (lone fr cs w) = .next (lone { fr with todo := k } cs w) := by
  refine step_lone_go ?_
  simp [stepG, hm, stepG.exec, ht]

theorem finish_reg (ht : fr.todo = .inRegion ops (i :: rest) :: k) (ho : ops[i]? = some o) (V : Value) : fr.finish V = { fr with tmps := putT fr.tmps o.dst V, todo := .inRegion ops rest :: k } := by
  simp only [Frame.finish, ht, ho, Option.bind_some]
  cases hd : o.dst <;> simp [putT]
end
end Go.Ax
