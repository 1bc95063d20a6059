/- Part of an abstract executor of the model's machine, and of its law (WB). -/
import Derived.Test.YtlfocffihiephaaGreatDoorXWA
namespace Go.Ax

noncomputable def leqL (f : AV → AV → Bool) : List AV → List AV → Bool
  | [], [] => true
  | x :: xs, y :: ys => f x y && leqL f xs ys
  | _, _ => false

noncomputable def amEq (x y : AM) : Bool :=
  match x, y with
  | .nilp, .nilp => true | .nils, .nils => true | .nilm, .nilm => true | .nilf, .nilf => true | .nili, .nili => true
  | .map b, .map b' => Nat.beq b b'
  | .slz b o i l z, .slz b' o' i' l' z' => Nat.beq b b' && Nat.beq o o' && Nat.beq i i' && Nat.beq l l' && Nat.beq z z'
  | .ext k, .ext k' => Nat.beq k k'
  | _, _ => false

/-- the same abstract value (a sure yes) -/
noncomputable def avEqF : Nat → AV → AV → Bool
  | 0, _, _ => false
  | d + 1, x, y => match x, y with
    | .bool a, .bool b => beqB a b
    | .int k a, .int k' b => Nat.beq k k' && intEq a b
    | .str n l, .str n' l' => Nat.beq n n' && Nat.beq l l'
    | .ptr b o, .ptr b' o' => Nat.beq b b' && Nat.beq o o'
    | .sl b o n c, .sl b' o' n' c' => Nat.beq b b' && Nat.beq o o' && Nat.beq n n' && Nat.beq c c'
    | .slx b o i n, .slx b' o' i' n' => Nat.beq b b' && Nat.beq o o' && Nat.beq i i' && Nat.beq n n'
    | .fn f a c, .fn f' a' c' => decide (f = f') && leqL (avEqF d) a a' && leqL (avEqF d) c c'
    | .iface t v, .iface t' v' => Nat.beq t t' && avEqF d v v'
    | .agg l, .agg l' => leqL (avEqF d) l l'
    | .tup l, .tup l' => leqL (avEqF d) l l'
    | .m x, .m y => amEq x y
    | _, _ => false
noncomputable def avEq : AV → AV → Bool := avEqF 20

/-- is the operation run? -/
structure Wan where
  f : Tm → List AV → Option Bool
noncomputable def cwant (mask : Nat) (names : List Tmp) (ops : Array Oper) (o : Oper) : Wan :=
  match o.guard with
  | none => ⟨fun _ _ => some true⟩
  | some (j, want) =>
    match (ops[j]?).bind (·.dst) with
    | none => ⟨fun _ _ => some false⟩
    | some t => bc (okd mask names (.tmp t)) ⟨fun tm e => (fun v => onBool v (onTup v none fun _ => some false) fun b => some (beqB b want)) ((opd mask names (.tmp t)).g tm e)⟩ ⟨fun _ _ => none⟩

/-- what a region does not change -/
inductive Cx where
  | mk (sk : SK) (td : List AI) (j : J)
structure Rop where
  r : Cx → Tm → List AV → H → Nat → O
noncomputable def failR : Rop := ⟨fun _ _ _ _ _ => none⟩

/-- a value is put where the operation says; then the rest -/
structure Put where
  p : AV → Cx → Tm → List AV → H → Nat → O
noncomputable def failP : Put := ⟨fun _ _ _ _ _ _ => none⟩
noncomputable def cput (mask : Nat) (d : Option Tmp) (k : Rop) : Put :=
  match d with
  | none => ⟨fun _ cx tm e h nx => k.r cx tm e h nx⟩
  | some t => bc (Nat.testBit mask t)
      ⟨fun v cx tm e h nx => k.r cx tm (v :: e) h nx⟩
      (bc (Nat.blt t 512) ⟨fun v cx tm e h nx => Cx.rec (fun sk _ _ => SK.rec (fun fs _ _ => FS.rec (fun _ n _ _ => bc (Nat.blt t n) (k.r cx ((gset (slot t) v tm)) e h nx) none) fs) sk) cx⟩ failP)
noncomputable def names' (mask : Nat) (d : Option Tmp) (names : List Tmp) : List Tmp :=
  match d with
  | none => names
  | some t => bc (Nat.testBit mask t) (t :: names) names

/-- a function's entry -/
structure Ent where
  e : List AV → Bool → (FS → Tm → List AI → O) → O

noncomputable def setArgs (args : List AV) : Nat → Tm → Tm := List.rec (fun _ tm => tm) (fun v _ ih i tm => dig i fun i => ih (Nat.succ i) ((gset (slot i) v tm))) args
noncomputable def paramsOk (mask n : Nat) : Bool := Nat.beq (Nat.mod mask (Nat.pow 2 n)) 0

noncomputable def center (P : Program) (D : Nat → Nat) (f : Nat) : Ent :=
  match P.funcs[f]? with
  | some fn => match fn.body with
    | some c => bc (Nat.ble fn.ntmps 512 && Nat.blt (D f) (Nat.pow 2 fn.ntmps)) ⟨fun args dk K => bc (Nat.ble (llen args) fn.ntmps) (bc (paramsOk (D f) (llen args))
        (K ⟨f, fn.ntmps, dk, none⟩ (setArgs args 0 tnil) [.code c]) none) none⟩ ⟨fun _ _ _ => none⟩
    | none => ⟨fun _ _ _ => none⟩
  | none => ⟨fun _ _ _ => none⟩

noncomputable def setParams (ts : List Tmp) : List AV → Tm → Option Tm :=
  List.rec (fun _ tm => some tm) (fun t _ ih vs tm => onList vs none fun v r => bc (Nat.blt t 512) (ih r ((gset (slot t) v tm))) none) ts

noncomputable def onLoop {β : Type} (b : Option AB) (d : β) (k : ALoop → β) : β :=
  Option.rec d (fun b => AB.rec (fun _ _ _ => d) (fun _ _ _ _ => d) (fun _ _ => d) k (fun _ => d) b) b

noncomputable def allP (p : Tmp → Bool) (l : List Tmp) : Bool := List.rec true (fun t _ ih => bc (p t) ih false) l

noncomputable def isSome' {α : Type} (x : Option α) : Bool := Option.rec false (fun _ => true) x

/-- a call out of a region: f with args; 'it' is what the frame stands at meanwhile -/
noncomputable def goCall (P : Program) (D : Nat → Nat) (f : Nat) (args : List AV) (it : AI) (cx : Cx) (tm : Tm) (h : H) (nx : Nat) : O :=
  bc (isFn P f) ((center P D f).e args false fun fs' tm' td' => Cx.rec (fun sk td j => SK.rec (fun fs df cs => j ⟨fs', [], ⟨fs, tm, it :: td, df, false⟩ :: cs⟩ tm' h nx td' false) sk) cx) none

/-- a round of a range over a function -/
noncomputable def goRound (D : Nat → Nat) (l : Nat) (args : List AV) (it : AI) (cx : Cx) (tm : Tm) (h : H) (nx : Nat) : O :=
  onLoop (bget l h) none fun L =>
    bc (allP (fun t => bc (Nat.blt t L.n) (bnot (Nat.testBit (D L.fn) t)) false) L.params.toList)
      (bc (Nat.beq (llen args) L.params.size)
        (ob (setParams L.params.toList args L.tm) fun tm' => Cx.rec (fun sk td j => SK.rec (fun fs df cs =>
          j ⟨⟨L.fn, L.n, false, some l⟩, [], ⟨fs, tm, it :: td, df, false⟩ :: cs⟩ tm' h nx [.code L.assign, .br, .code L.body] false) sk) cx) none) none

/-- an operation that comes to a value at once -/
noncomputable def cval (P : Program) (mask : Nat) (names : List Tmp) (o : Oper) (k : Put) : Rop :=
  ⟨fun cx tm e h nx => (cop P mask names o).f tm e h nx fun v h nx => k.p v cx tm e h nx⟩

/-- one operation, then the rest ('k' behind its value) -/
noncomputable def cone (P : Program) (D : Nat → Nat) (mask : Nat) (names : List Tmp) (o : Oper) (it : List AV → AI) (k : Put) : Rop :=
  bc (o.op.operands.toList.all (okd mask names))
  (match o.op with
  | .call c => (match c.callee with
    | .value f => (match f with
      | .func f => ⟨fun cx tm e h nx => goCall P D f ((opds mask names c.args.toList).g tm e) (it e) cx tm h nx⟩
      | f => ⟨fun cx tm e h nx => onFn ((opd mask names f).g tm e) none fun g first cap =>
          Fn.rec (fun f => goCall P D f (app first (app ((opds mask names c.args.toList).g tm e) cap)) (it e) cx tm h nx) (fun _ => none) (fun _ _ => none) (fun _ _ _ _ => none)
            (fun l => goRound D l (app first ((opds mask names c.args.toList).g tm e)) (it e) cx tm h nx) g⟩)
    | .invoke r name => ⟨fun cx tm e h nx => onIface ((opd mask names r).g tm e) none fun t v =>
        ob ((cmethod P t name).f h v) fun p => goCall P D p.1 (p.2 :: (opds mask names c.args.toList).g tm e) (it e) cx tm h nx⟩
    | .builtin b => match b with
      | .recover => ⟨fun cx tm e h nx => Cx.rec (fun sk td j => SK.rec (fun fs df cs => bc (isSome' fs.rd) none (k.p (.m .nili) (.mk ⟨fs, df, cs⟩ td j) tm e h nx)) sk) cx⟩
      | _ => cval P mask names o k)
  | .defer c => (match c.callee with
    | .value f => ⟨fun cx tm e h nx => onFn ((opd mask names f).g tm e) none fun g first cap =>
        Fn.rec (fun g => Cx.rec (fun sk td j => SK.rec (fun fs df cs => bc (isSome' fs.rd) none (k.p undef (.mk ⟨fs, .call ⟨.func g, cap, app first ((opds mask names c.args.toList).g tm e)⟩ :: df, cs⟩ td j) tm e h nx)) sk) cx)
          (fun _ => none) (fun _ _ => none) (fun _ _ _ _ => none) (fun _ => none) g⟩
    | _ => failR)
  | _ => cval P mask names o k) failR

noncomputable def guardR (g : Wan) (a : Rop) (b : Put) : Rop :=
  ⟨fun cx tm e h nx => Option.rec none (fun t => bc t (a.r cx tm e h nx) (b.p undef cx tm e h nx)) (g.f tm e)⟩

/-- a region is through: on to what comes next -/
noncomputable def doneR : Rop := ⟨fun cx tm _ h nx => Cx.rec (fun sk td j => j sk tm h nx td false) cx⟩

noncomputable def crun (P : Program) (D : Nat → Nat) (mask : Nat) (ops : Array Oper) : List Tmp → List Oper → Rop
  | _, [] => doneR
  | names, o :: os =>
    let k := cput mask o.dst (crun P D mask ops (names' mask o.dst names) os)
    let a := cone P D mask names o (.reg ⟨ops, names, o :: os⟩) k
    match o.guard with
    | none => a
    | some _ => guardR (cwant mask names ops o) a k

/-- the kinds of operations in a region that draws its order -/
inductive OK where
  | pure | reads | makes | eff
  deriving DecidableEq

noncomputable def okind (o : Oper) : OK :=
  match o.op with
  | .move _ | .pick .. | .build .. | .nilCheck _ | .unOp .. | .convert .. | .makeInterface .. | .makeFunc .. | .fieldAddr .. | .field .. | .indexAddr .. | .index .. | .typeAssert .. | .extract .. => .pure
  | .slice .. | .load .. | .lookup .. | .binOp .. => .reads
  | .alloc _ | .box .. | .buildSlice .. | .makeMap .. | .makeSlice .. => .makes
  | .call c => match c.callee with
    | .builtin .len => .reads
    | .builtin .min | .builtin .max => .pure
    | _ => .eff
  | _ => .eff

noncomputable def direct (m : Region.Mode) (x : Nat) (o : Oper) : Bool := o.after.toList.all fun e => !Region.binds m e || Nat.testBit x e.on

noncomputable def firstR (m : Region.Mode) (p : Oper → Bool) (x : Nat) : List Oper → Nat → Option (Nat × Oper)
  | [], _ => none
  | o :: os, i => bc (!Nat.testBit x i && direct m x o && p o) (some (i, o)) (firstR m p x os (Nat.succ i))

/-- can all operations be listed, each behind those that it waits for? -/
noncomputable def lcF (m : Region.Mode) (ops : Array Oper) : Nat → Nat → Bool
  | 0, x => (List.range ops.size).all (Nat.testBit x)
  | f + 1, x => match firstR m (fun _ => true) x ops.toList 0 with
    | some (i, _) => lcF m ops f (Nat.lor x (Nat.shiftLeft 1 i))
    | none => (List.range ops.size).all (Nat.testBit x)

noncomputable def countR (x : Nat) : List Oper → Nat → Nat
  | [], _ => 0
  | o :: os, i => Nat.add (bc (!Nat.testBit x i && direct .any x o) 1 0) (countR x os (Nat.succ i))

noncomputable def isT (t : Tmp) : Operand → Bool
  | .tmp u => Nat.beq u t
  | _ => false
noncomputable def isD (t : Tmp) : Option Tmp → Bool
  | some u => Nat.beq u t
  | none => false
/-- does the operation read the temporary (its guard with it)? -/
noncomputable def readsT (ops : Array Oper) (o : Oper) (t : Tmp) : Bool :=
  o.op.operands.toList.any (isT t) || (match o.guard with | some (j, _) => isD t ((ops[j]?).bind (·.dst)) | none => false)

/-- an operation beside those that may float: m: those that surely come before it -/
noncomputable def fits (ops : Array Oper) (m : Nat) (o : Oper) (eff : Bool) : List (Nat × Oper) → Bool
  | [] => true
  | (i, o') :: r =>
    (match o'.dst with | some t => !readsT ops o t || Nat.testBit m i | none => true) &&
    (match o.dst with | some t => !(readsT ops o' t || isD t o'.dst) || (eff && Nat.testBit m i) | none => true) && fits ops m o eff r

noncomputable def ownT (ops : Array Oper) (o : Oper) : Bool := match o.dst with | some t => !readsT ops o t | none => true

/-- the floating reads that an effect may have come before -/
noncomputable def readersR (m : Nat) : List (Nat × Oper) → List Oper
  | [] => []
  | (i, o) :: r => bc (!Nat.testBit m i && decide (okind o = .reads)) (o :: readersR m r) (readersR m r)

noncomputable def planF (ops : Array Oper) (before : Array Nat) : Nat → Nat → List (Nat × Oper) → Option (List PS)
  | 0, x, _ => bc ((List.range ops.size).all (Nat.testBit x)) (some []) none
  | f + 1, x, done =>
    match firstR .any (fun o => decide (okind o ≠ .eff)) x ops.toList 0 with
    | some (i, o) => bc (fits ops (before.getD i 0) o false done && ownT ops o)
        (ob (planF ops before f (Nat.lor x (Nat.shiftLeft 1 i)) ((i, o) :: done)) fun r => some (.fl i o :: r)) none
    | none => match firstR .any (fun _ => true) x ops.toList 0 with
      | some (i, o) => bc (Nat.beq (countR x ops.toList 0) 1 && fits ops (before.getD i 0) o true done)
          (ob (planF ops before f (Nat.lor x (Nat.shiftLeft 1 i)) done) fun r => some (.ef i o (readersR (before.getD i 0) done) :: r)) none
      | none => bc ((List.range ops.size).all (Nat.testBit x)) (some []) none

noncomputable def plan (ops : Array Oper) : Option (List PS) := bc (bc (Region.departs ops) (lcF .text ops ops.size 0 && lcF .gc ops ops.size 0) true) (planF ops (Region.before ops) ops.size 0 []) none

/-- do the floating reads still read the same? (names: those at hand now) -/
structure Chk where
  c : Tm → List AV → H → Nat → O → O
noncomputable def crecheck (P : Program) (mask : Nat) (ops : Array Oper) (names : List Tmp) : List Oper → Chk
  | [] => ⟨fun _ _ _ _ K => K⟩
  | o :: os => match o.dst with
    | some t => bc (o.op.operands.toList.all (okd mask names) && okd mask names (.tmp t))
       ⟨fun tm e h nx K => Option.rec none (fun w => bc w
        ((cop P mask names o).f tm e h nx fun v _ _ => bc (avEq v ((opd mask names (.tmp t)).g tm e)) ((crecheck P mask ops names os).c tm e h nx K) none)
        ((crecheck P mask ops names os).c tm e h nx K)) ((cwant mask names ops o).f tm e)⟩ ⟨fun _ _ _ _ _ => none⟩
    | none => ⟨fun _ _ _ _ _ => none⟩

/-- the rest behind an effect: the floating reads are looked at once more -/
noncomputable def checkR (P : Program) (mask : Nat) (ops : Array Oper) (names : List Tmp) (rc : List Oper) (k : Rop) : Rop :=
  match rc with
  | [] => k
  | rc => ⟨fun cx tm e h nx => (crecheck P mask ops names rc).c tm e h nx (k.r cx tm e h nx)⟩

noncomputable def cplan (P : Program) (D : Nat → Nat) (mask : Nat) (ops : Array Oper) : List Tmp → List PS → Rop
  | _, [] => doneR
  | names, .fl _ o :: ps =>
    let k := cput mask o.dst (cplan P D mask ops (names' mask o.dst names) ps)
    guardR (cwant mask names ops o) (bc (o.op.operands.toList.all (okd mask names)) (cval P mask names o k) failR) k
  | names, .ef i o rc :: ps =>
    let n' := names' mask o.dst names
    let k := cput mask o.dst (checkR P mask ops n' rc (cplan P D mask ops n' ps))
    guardR (cwant mask names ops o) (cone P D mask names o (.dreg ⟨ops, names, .ef i o rc :: ps⟩) k) (cput mask o.dst (cplan P D mask ops n' ps))

noncomputable def exitA (id : Nat) (k : List AI) : Option (List AI) :=
  List.rec none (fun i r ih => AI.rec (fun _ => ih) (fun id' => bc (Nat.beq id' id) (some r) ih) (fun _ => ih) (fun _ => ih) (fun _ _ => ih) (fun _ _ => ih) (fun _ => ih) (fun _ => ih) ih i) k

noncomputable def gotoA (l : Nat) : List AI → Option (List AI)
  | [] => none
  | i :: k => match i with
    | .scope body => (match findLabel body l with
      | some rest => some (.code rest :: .scope body :: k)
      | none => gotoA l k)
    | _ => gotoA l k

/-- the value of a call, into the frame that made it -/
structure Fin' where
  f : AV → SK → Tm → H → Nat → List AI → J → O

noncomputable def cregF (P : Program) (D : Nat → Nat) (f : Nat) (s : RS) : Put :=
  match s.os with
  | o :: os => cput (D f) o.dst (crun P D (D f) s.ops (names' (D f) o.dst s.names) os)
  | [] => failP
noncomputable def cdregF (P : Program) (D : Nat → Nat) (f : Nat) (s : DS) : Put :=
  match s.ps with
  | .ef _ o rc :: ps => cput (D f) o.dst (checkR P (D f) s.ops (names' (D f) o.dst s.names) rc (cplan P D (D f) s.ops (names' (D f) o.dst s.names) ps))
  | _ => failP

noncomputable def cfin (P : Program) (D : Nat → Nat) (f : Nat) (i : AI) : Fin' :=
  match i with
  | .reg s e => ⟨fun v sk tm h nx k j => (cregF P D f s).p v (.mk sk k j) tm e h nx⟩
  | .dreg s e => ⟨fun v sk tm h nx k j => (cdregF P D f s).p v (.mk sk k j) tm e h nx⟩
  | .rf l => ⟨fun _ sk tm h nx k j => j sk tm h nx (.erf l :: k) false⟩
  | _ => ⟨fun _ _ _ _ _ _ _ => none⟩

/-- back to the caller with a value -/
noncomputable def popA (P : Program) (D : Nat → Nat) (dk : Bool) (cs : List Fr) (v : AV) (h : H) (nx : Nat) (j : J) : O :=
  onList cs (bc dk none (some (.fin v h nx))) fun c rest => Fr.rec (fun fs tm todo df ret => bc dk (bc ret (j ⟨fs, df, rest⟩ tm h nx todo ret) none)
    (bc ret none (onList todo none fun i k => FS.rec (fun f n dk rd => (cfin P D f i).f v ⟨⟨f, n, dk, rd⟩, df, rest⟩ tm h nx k j) fs))) c

/-- a frame is left: by its end, a return, or a jump out of a round -/
noncomputable def leaveA (P : Program) (D : Nat → Nat) (jump : Option Code) (go : Bool) (sk : SK) (tm : Tm) (h : H) (nx : Nat) (j : J) : O :=
  Option.rec (bc go (j sk tm h nx [] true) none)
    (fun l => bc sk.fs.dk none (onList sk.cs none fun _ _ => onLoop (bget l h) none fun L => popA P D false sk.cs (.bool (bnot (isSome' jump))) (bput l (some (.loop { L with state := Option.rec .ready (fun _ => .done) jump, pending := jump })) h) nx j)) sk.fs.rd

structure Cop where
  s : SK → Tm → H → Nat → List AI → J → O

noncomputable def toA : Cop := ⟨fun sk tm h nx k j => j sk tm h nx k false⟩
noncomputable def failC : Cop := ⟨fun _ _ _ _ _ _ => none⟩
noncomputable def runC (r : Rop) : Cop := ⟨fun sk tm h nx k j => r.r (.mk sk k j) tm [] h nx⟩

noncomputable def mkLoop (fs : FS) (tm : Tm) (ps : Array Tmp) (a b : Code) (d : Nat) : AB :=
  .loop { state := .ready, pending := none, fn := fs.fn, tm := tm, n := fs.n, params := ps, assign := a, body := b, defers := d }

noncomputable def enterRF (P : Program) (D : Nat → Nat) (f : AV) (lb : Nat) (K : FS → Tm → List AI → O) : O :=
  onFn f none fun f first cap => Fn.rec (fun g => bc (isFn P g) ((center P D g).e (app first (.fn (.yield lb) [] [] :: cap)) false K) none) (fun _ => none) (fun _ _ => none) (fun _ _ _ _ => none) (fun _ => none) f

noncomputable def ccode (P : Program) (D : Nat → Nat) (f : Nat) : Code → Cop
  | .skip => toA
  | .label _ => toA
  | .seq a b => ⟨fun sk tm h nx k j => (ccode P D f a).s sk tm h nx (.code b :: k) j⟩
  | .cond c a b => bc (okd (D f) [] c) ⟨fun sk tm h nx k j => onBool ((opd (D f) [] c).g tm []) none fun t => bc t ((ccode P D f a).s sk tm h nx k j) ((ccode P D f b).s sk tm h nx k j)⟩ failC
  | .block id c => ⟨fun sk tm h nx k j => (ccode P D f c).s sk tm h nx (.blk id :: k) j⟩
  | .loop c => ⟨fun sk tm h nx k j => (ccode P D f c).s sk tm h nx (.loop c :: k) j⟩
  | .scope c => ⟨fun sk tm h nx k j => (ccode P D f c).s sk tm h nx (.scope c :: k) j⟩
  | .exit id => ⟨fun sk tm h nx k j => Option.rec (leaveA P D (some (.exit id)) false sk tm h nx j) (fun k' => j sk tm h nx k' false) (exitA id k)⟩
  | .goto l => ⟨fun sk tm h nx k j => Option.rec (leaveA P D (some (.goto l)) false sk tm h nx j) (fun k' => j sk tm h nx k' false) (gotoA l k)⟩
  | .ret => ⟨fun sk tm h nx _ j => leaveA P D (some .ret) true sk tm h nx j⟩
  | .region _ ops false => runC (crun P D (D f) ops [] ops.toList)
  | .region _ ops true => match plan ops with
    | some ps => runC (cplan P D (D f) ops [] ps)
    | none => failC
  | .rangeFunc g ps a b => bc (okd (D f) [] g) ⟨fun sk tm h nx k j => SK.rec (fun fs df cs => Option.rec
      (bc (Nat.blt (Nat.succ nx) 262142)
        (dig nx fun db => dig (Nat.succ db) fun lb => enterRF P D ((opd (D f) [] g).g tm []) lb fun fs' tm' td' =>
          j ⟨fs', [], ⟨fs, tm, .rf lb :: k, .coll db :: df, false⟩ :: cs⟩ tm' (bput lb (some (mkLoop fs tm ps a b db)) (bput db (some (.dfr (some []))) h)) (Nat.succ lb) td' false) none)
      (fun l => onLoop (bget l h) none fun L => bc (Nat.blt nx 262143)
        (dig nx fun lb => enterRF P D ((opd (D f) [] g).g tm []) lb fun fs' tm' td' =>
          j ⟨fs', [], ⟨fs, tm, .rf lb :: k, df, false⟩ :: cs⟩ tm' (bput lb (some (mkLoop fs tm ps a b L.defers)) h) (Nat.succ lb) td' false) none) fs.rd) sk⟩ failC
  | .refuse _ => failC

/-- the results of a function -/
structure Rs1 where
  g : Tm → H → Option AV
structure RsL where
  g : Tm → H → Option (List AV)
noncomputable def cres1 (P : Program) (mask : Nat) : ResultVar → Rs1
  | .tmp t => bc (okd mask [] (.tmp t)) ⟨fun tm _ => some ((gget (slot t) tm))⟩ ⟨fun _ _ => none⟩
  | .cell a t => match tinfo P t with
    | some i => bc (okd mask [] (.tmp a)) (bc i.agg ⟨fun tm h => onPtr ((gget (slot a) tm)) none fun b o => ob (loadB h b o i.size) fun l => some (.agg l)⟩
        ⟨fun tm h => onPtr ((gget (slot a) tm)) none fun b o => load1 h b o⟩) ⟨fun _ _ => none⟩
    | none => ⟨fun _ _ => none⟩
noncomputable def cresL (P : Program) (mask : Nat) : List ResultVar → RsL
  | [] => ⟨fun _ _ => some []⟩
  | x :: r => ⟨fun tm h => ob ((cres1 P mask x).g tm h) fun v => ob ((cresL P mask r).g tm h) fun l => some (v :: l)⟩
noncomputable def cres (P : Program) (D : Nat → Nat) (f : Nat) : Rs1 :=
  match P.funcs[f]? with
  | some fn => match fn.results.toList with
    | [x] => cres1 P (D f) x
    | l => ⟨fun tm h => ob ((cresL P (D f) l).g tm h) fun l => some (.tup l)⟩
  | none => ⟨fun _ _ => none⟩

noncomputable def appD (l r : List ADf) : List ADf := List.rec r (fun x _ ih => x :: ih) l

noncomputable def unwindA (P : Program) (D : Nat → Nat) (f : Nat) (fs : FS) (df : List ADf) (cs : List Fr) (tm : Tm) (h : H) (nx : Nat) (todo : List AI) (j : J) : O :=
  onList df (ob ((cres P D f).g tm h) fun v => popA P D fs.dk cs v h nx j) fun d ds =>
    ADf.rec
      (fun d => Fn.rec (fun g => bc (isFn P g) ((center P D g).e (app d.args d.cap) true fun fs' tm' td' => j ⟨fs', [], ⟨fs, tm, todo, ds, true⟩ :: cs⟩ tm' h nx td' false) none) (fun _ => none) (fun _ _ => none) (fun _ _ _ _ => none) (fun _ => none) d.fn)
      (fun b => Option.rec none (fun x => AB.rec (fun _ _ _ => none) (fun _ _ _ _ => none) (fun _ _ => none) (fun _ => none)
        (fun l => ob l fun l => j ⟨fs, appD l ds, cs⟩ tm (bput b (some (.dfr none)) h) nx todo true) x) (bget b h)) d

noncomputable def citem (P : Program) (D : Nat → Nat) (f : Nat) (i : AI) : Cop :=
  match i with
  | .code c => ccode P D f c
  | .blk _ => toA
  | .scope _ => toA
  | .loop c => ⟨fun sk tm h nx k j => (ccode P D f c).s sk tm h nx (.loop c :: k) j⟩
  | .reg _ _ => failC
  | .dreg _ _ => failC
  | .rf _ => failC
  | .erf l => ⟨fun sk tm h nx k j => onLoop (bget l h) none fun L =>
      match L.state with
      | .busy => none
      | _ => j sk tm (bput l (some (.loop { L with state := .exhausted })) h) nx (Option.rec k (fun c => .code c :: k) L.pending) false⟩
  | .br => ⟨fun sk tm h nx k j => Option.rec none (fun l => onLoop (bget l h) none fun L =>
      match L.state with
      | .ready => j sk tm (bput l (some (.loop { L with state := .busy })) h) nx k false
      | _ => none) sk.fs.rd⟩

noncomputable def stepA (P : Program) (D : Nat → Nat) (sk : SK) (tm : Tm) (h : H) (nx : Nat) (todo : List AI) (ret : Bool) (j : J) : O :=
  SK.rec (fun fs df cs => FS.rec (fun f n dk rd =>
    bc ret (unwindA P D f ⟨f, n, dk, rd⟩ df cs tm h nx todo j)
      (onList todo (leaveA P D none true ⟨⟨f, n, dk, rd⟩, df, cs⟩ tm h nx j) fun i k => (citem P D f i).s ⟨⟨f, n, dk, rd⟩, df, cs⟩ tm h nx k j)) fs) sk

noncomputable def runA (P : Program) (D : Nat → Nat) (n : Nat) : J :=
  Nat.rec (fun sk tm h nx todo ret => some (.go sk tm h nx todo ret)) (fun _ ih sk tm h nx todo ret => stepA P D sk tm h nx todo ret ih) n

/-- on from a state -/
noncomputable def runS (P : Program) (D : Nat → Nat) (n : Nat) (s : St) : O :=
  St.rec (fun sk tm h nx todo ret => runA P D n sk tm h nx todo ret) (fun v h nx => some (.fin v h nx)) s

end Go.Ax
