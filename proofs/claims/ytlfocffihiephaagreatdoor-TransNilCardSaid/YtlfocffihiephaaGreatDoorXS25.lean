/- Part of an abstract executor of the model's machine, and of its law (S25). -/
import Derived.Test.YtlfocffihiephaaGreatDoorXS24
namespace Go.Ax
variable {P : Program} {mask : Nat} {ns : List Tmp} {tm : Tm} {e : List AV} {o : Oper}

/-- F is one of the forms G, or nothing -/
def Fac {X Y : Type} (G : X → Y → O) (F : Y → O) : Prop := (∀ y, F y = none) ∨ ∃ x, ∀ y, F y = G x y

section
variable {X Y : Type} {G : X → Y → O}
theorem Fac.no : Fac G (fun _ => none) := .inl fun _ => rfl
theorem Fac.is (x : X) : Fac G (G x) := .inr ⟨x, fun _ => rfl⟩
theorem Fac.bc {c : Bool} {F1 F2 : Y → O} (h1 : Fac G F1) (h2 : Fac G F2) : Fac G (fun y => Ax.bc c (F1 y) (F2 y)) := by
  cases c
  · exact h2
  · exact h1
theorem Fac.ob {α : Type} {x : Option α} {F : α → Y → O} (h : ∀ a, Fac G (F a)) : Fac G (fun y => Ax.ob x fun a => F a y) := by
  cases x
  · exact .no
  · exact h _
theorem Fac.onInt {v : AV} {F : Nat → Int → Y → O} (h : ∀ a b, Fac G (F a b)) : Fac G (fun y => Ax.onInt v none fun a b => F a b y) := by
  cases v <;> first | exact h _ _ | exact .no
theorem Fac.onNat {v : AV} {F : Nat → Y → O} (h : ∀ a, Fac G (F a)) : Fac G (fun y => Ax.onNat v none fun a => F a y) := by
  cases v <;> first | exact .no | skip
  rename_i k n
  cases n
  · exact h _
  · exact .no
theorem Fac.onBool {v : AV} {F : Bool → Y → O} (h : ∀ a, Fac G (F a)) : Fac G (fun y => Ax.onBool v none fun a => F a y) := by
  cases v <;> first | exact h _ | exact .no
theorem Fac.onPtr {v : AV} {F : Nat → Nat → Y → O} (h : ∀ a b, Fac G (F a b)) : Fac G (fun y => Ax.onPtr v none fun a b => F a b y) := by
  cases v <;> first | exact h _ _ | exact .no
theorem Fac.onStr {v : AV} {F : Nat → Nat → Y → O} (h : ∀ a b, Fac G (F a b)) : Fac G (fun y => Ax.onStr v none fun a b => F a b y) := by
  cases v <;> first | exact h _ _ | exact .no
theorem Fac.onAgg {v : AV} {F : List AV → Y → O} (h : ∀ a, Fac G (F a)) : Fac G (fun y => Ax.onAgg v none fun a => F a y) := by
  cases v <;> first | exact h _ | exact .no
theorem Fac.onTup {v : AV} {F : List AV → Y → O} (h : ∀ a, Fac G (F a)) : Fac G (fun y => Ax.onTup v none fun a => F a y) := by
  cases v <;> first | exact h _ | exact .no
theorem Fac.onIface {v : AV} {F : TypeId → AV → Y → O} (h : ∀ a b, Fac G (F a b)) : Fac G (fun y => Ax.onIface v none fun a b => F a b y) := by
  cases v <;> first | exact h _ _ | exact .no
theorem Fac.onSl {v : AV} {F1 F2 : Nat → Nat → Nat → Nat → Y → O} {F3 : AM → Y → O} (h1 : ∀ a b c d, Fac G (F1 a b c d)) (h2 : ∀ a b c d, Fac G (F2 a b c d)) (h3 : ∀ a, Fac G (F3 a)) :
    Fac G (fun y => Ax.onSl v none (fun a b c d => F1 a b c d y) (fun a b c d => F2 a b c d y) (fun a => F3 a y)) := by
  cases v <;> first | exact h1 _ _ _ _ | exact h2 _ _ _ _ | exact h3 _ | exact .no
theorem Fac.onMap {v : AV} {F1 : Y → O} {F2 : Nat → Y → O} (h1 : Fac G F1) (h2 : ∀ a, Fac G (F2 a)) : Fac G (fun y => Ax.onMap v none (F1 y) fun a => F2 a y) := by
  cases v <;> first | exact .no | skip
  rename_i x
  cases x <;> first | exact h1 | exact h2 _ | exact .no
theorem Fac.onMapB {b : Option AB} {F : List (AV × AV × Nat) → Nat → Y → O} (h : ∀ a b, Fac G (F a b)) : Fac G (fun y => Ax.onMapB b none fun a b => F a b y) := by
  cases b with
  | none => exact .no
  | some b => cases b <;> first | exact h _ _ | exact .no
theorem Fac.nilChk {v : AV} {F : Y → O} (h : Fac G F) : Fac G (fun y => Ax.nilChk v (F y) none) := by
  cases v <;> first | exact h | exact .no | skip
  · rename_i f a c
    cases f <;> first | exact h | exact .no
  · rename_i x
    cases x <;> first | exact h | exact .no
end

structure Arg where
  h : H
  nx : Nat
  K : AV → H → Nat → O
def GP (v : AV) (y : Arg) : O := y.K v y.h y.nx
def GR (h : H) (v : AV) (y : Nat × (AV → H → Nat → O)) : O := y.2 v h y.1
noncomputable def GM (x : AB × (Nat → AV)) (y : Arg) : O := newB x.1 y.h y.nx (fun b h' nx' => y.K (x.2 b) h' nx')

theorem Fac.vresP {x : Option AV} : Fac GP (fun y => vres x y.h y.nx y.K) := by
  cases x
  · exact .no
  · exact .inr ⟨_, fun _ => rfl⟩
theorem Fac.vresR {h : H} {x : Option AV} : Fac (GR h) (fun y => vres x h y.1 y.2) := by
  cases x
  · exact .no
  · exact .inr ⟨_, fun _ => rfl⟩

theorem cfill_fac {place : Nat → Option (Nat × Nat)} {n : Nat} : ∀ (ps : List (Nat × Operand)) (cells : List AV),
    (∀ Kf, (cfill mask ns place n ps).f tm e cells Kf = none) ∨ ∃ l, ∀ Kf, (cfill mask ns place n ps).f tm e cells Kf = Kf l
  | [], cells => .inr ⟨cells, fun _ => rfl⟩
  | (i, x) :: ps, cells => by
    simp only [cfill]
    cases hp : place i with
    | none => exact .inl fun _ => rfl
    | some q =>
      obtain ⟨po, sz⟩ := q
      simp only
      cases Nat.ble (Nat.add po sz) n with
      | false => exact .inl fun _ => rfl
      | true =>
        cases Nat.beq sz 1 with
        | true =>
          simp only [bc_true]
          generalize (opd mask ns x).g tm e = v
          have one : ∀ w, (∀ Kf, (cfill mask ns place n ps).f tm e (lput po w cells) Kf = none) ∨ ∃ l, ∀ Kf, (cfill mask ns place n ps).f tm e (lput po w cells) Kf = Kf l := fun w => cfill_fac ps _
          cases v with
          | agg l =>
            show (∀ Kf, bc (Nat.beq (llen l) 1) _ none = none) ∨ ∃ l', ∀ Kf, bc (Nat.beq (llen l) 1) ((cfill mask ns place n ps).f tm e (lput po l cells) Kf) none = Kf l'
            cases Nat.beq (llen l) 1
            · exact .inl fun _ => rfl
            · exact one l
          | _ => exact one _
        | false =>
          simp only [bc_true, bc_false]
          generalize acells ((opd mask ns x).g tm e) = l
          cases Nat.beq (llen l) sz
          · exact .inl fun _ => rfl
          · exact cfill_fac ps _

theorem Fac.cfill {X Y : Type} {G : X → Y → O} {place : Nat → Option (Nat × Nat)} {n : Nat} {ps : List (Nat × Operand)} {cells : List AV} {F : List AV → Y → O} (h : ∀ l, Fac G (F l)) :
    Fac G (fun y => (Ax.cfill mask ns place n ps).f tm e cells fun l => F l y) := by
  rcases cfill_fac (mask := mask) (ns := ns) (tm := tm) (e := e) (place := place) (n := n) ps cells with h1 | ⟨l, h1⟩
  · exact .inl fun y => h1 _
  · have : (fun y => (Ax.cfill mask ns place n ps).f tm e cells fun l => F l y) = F l := funext fun y => h1 _
    rw [this]; exact h l

def PF (tm : Tm) (e : List AV) (f : Fop) : Prop := Fac GP (fun y => f.f tm e y.h y.nx y.K)
def RF (tm : Tm) (e : List AV) (h : H) (f : Fop) : Prop := Fac (GR h) (fun y => f.f tm e h y.1 y.2)
def MF (tm : Tm) (e : List AV) (f : Fop) : Prop := Fac GM (fun y => f.f tm e y.h y.nx y.K)
theorem PF.no : PF tm e failF := .inl fun _ => rfl
theorem RF.no {h : H} : RF tm e h failF := .inl fun _ => rfl
theorem MF.no : MF tm e failF := .inl fun _ => rfl
theorem PF.bc {c : Bool} {f g : Fop} (h1 : PF tm e f) (h2 : PF tm e g) : PF tm e (Ax.bc c f g) := by cases c <;> assumption
theorem RF.bc {h : H} {c : Bool} {f g : Fop} (h1 : RF tm e h f) (h2 : RF tm e h g) : RF tm e h (Ax.bc c f g) := by cases c <;> assumption
theorem MF.bc {c : Bool} {f g : Fop} (h1 : MF tm e f) (h2 : MF tm e g) : MF tm e (Ax.bc c f g) := by cases c <;> assumption

/-- operations that only reckon -/
theorem cop_pure (hk : okind o = .pure) : PF tm e (cop P mask ns o) := by
  cases hop : o.op with
  | move x => simp only [cop, hop]; exact .inr ⟨_, fun _ => rfl⟩
  | pick c a b =>
    simp only [cop, hop]
    exact Fac.onBool fun t => .inr ⟨_, fun _ => rfl⟩
  | build t ps =>
    simp only [cop, hop]
    repeat' split
    all_goals first
      | exact PF.no
      | (refine PF.bc ?_ .no; exact Fac.cfill fun l => .inr ⟨_, fun _ => rfl⟩)
      | exact Fac.cfill fun l => .inr ⟨_, fun _ => rfl⟩
  | nilCheck x =>
    simp only [cop, hop]
    exact Fac.nilChk (.inr ⟨_, fun _ => rfl⟩)
  | unOp op t x =>
    simp only [cop, hop]
    cases op <;> first
      | exact PF.no
      | exact Fac.onBool fun t => .inr ⟨_, fun _ => rfl⟩
      | exact Fac.onInt fun a b => .inr ⟨_, fun _ => rfl⟩
  | convert s d x =>
    simp only [cop, hop]
    split
    · exact Fac.onInt fun a b => .inr ⟨_, fun _ => rfl⟩
    · exact PF.no
  | makeInterface t x =>
    simp only [cop, hop]
    exact PF.bc .no (.inr ⟨_, fun _ => rfl⟩)
  | makeFunc fn a c =>
    simp only [cop, hop]
    cases fn <;> first | exact PF.no | exact .inr ⟨_, fun _ => rfl⟩
  | fieldAddr t x f =>
    simp only [cop, hop]
    repeat' split
    all_goals first
      | exact PF.no
      | (refine PF.bc .no ?_; exact Fac.onPtr fun a b => .inr ⟨_, fun _ => rfl⟩)
  | field t x f =>
    simp only [cop, hop]
    repeat' split
    all_goals first
      | exact PF.no
      | exact Fac.onAgg fun a => Fac.vresP
  | indexAddr t x i =>
    simp only [cop, hop]
    repeat' split
    all_goals first
      | exact PF.no
      | exact Fac.onPtr fun a b => Fac.onNat fun c => .bc (.inr ⟨_, fun _ => rfl⟩) .no
      | exact Fac.onNat fun k => Fac.onSl (fun a b c d => .bc (.inr ⟨_, fun _ => rfl⟩) .no) (fun a b c d => .bc (.inr ⟨_, fun _ => rfl⟩) .no) (fun a => .no)
  | index t x i =>
    simp only [cop, hop]
    repeat' split
    all_goals first
      | exact PF.no
      | exact PF.bc (Fac.onAgg fun a => Fac.onNat fun k => .bc (.ob fun x => .inr ⟨_, fun _ => rfl⟩) .no) (Fac.onAgg fun a => Fac.onNat fun k => .bc .vresP .no)
      | exact Fac.onStr fun a b => Fac.onNat fun k => .bc (.inr ⟨_, fun _ => rfl⟩) .no
  | typeAssert x t a ok =>
    simp only [cop, hop]
    repeat' split
    all_goals first
      | exact PF.no
      | exact Fac.bc (.bc (.inr ⟨_, fun _ => rfl⟩) .no) (Fac.onIface fun a b => .bc .no (.bc (.inr ⟨_, fun _ => rfl⟩) (.bc (.inr ⟨_, fun _ => rfl⟩) .no)))
  | extract x i =>
    simp only [cop, hop]
    exact Fac.onTup fun a => .vresP
  | call c =>
    cases hc : c.callee with
    | builtin b =>
      cases b with
      | min => simp only [cop, hop, hc]; exact Fac.vresP
      | max => simp only [cop, hop, hc]; exact Fac.vresP
      | _ => simp [okind, hop, hc] at hk
    | _ => simp [okind, hop, hc] at hk
  | _ => simp [okind, hop] at hk

/-- operations that only read -/
theorem cop_reads {h : H} (hk : okind o = .reads) : RF tm e h (cop P mask ns o) := by
  cases hop : o.op with
  | slice t x lo hi mx => simp only [cop, hop]; exact Fac.vresR
  | load t a =>
    simp only [cop, hop]
    split
    · exact RF.bc (Fac.onPtr fun a b => .ob fun l => .inr ⟨_, fun _ => rfl⟩) (Fac.onPtr fun a b => .ob fun l => .inr ⟨_, fun _ => rfl⟩)
    · exact RF.no
  | binOp op t x y q => simp only [cop, hop]; exact Fac.vresR
  | lookup t x i ok =>
    simp only [cop, hop]
    repeat' split
    all_goals first
      | exact RF.no
      | exact Fac.bc (Fac.onMap (.inr ⟨_, fun _ => rfl⟩) fun b => Fac.onMapB fun es cl => .ob fun q => .inr ⟨_, fun _ => rfl⟩) .no
  | call c =>
    cases hc : c.callee with
    | builtin b =>
      cases b with
      | len =>
        simp only [cop, hop, hc]
        split
        · exact Fac.ob fun n => .inr ⟨_, fun _ => rfl⟩
        · exact RF.no
      | _ => simp [okind, hop, hc] at hk
    | _ => simp [okind, hop, hc] at hk
  | _ => simp [okind, hop] at hk

/-- operations that make a block -/
theorem cop_makes (hk : okind o = .makes) : MF tm e (cop P mask ns o) := by
  cases hop : o.op with
  | alloc t =>
    simp only [cop, hop]
    repeat' split
    all_goals first
      | exact MF.no
      | exact .inr ⟨(_, fun b => .ptr b 0), fun _ => rfl⟩
  | box t x =>
    simp only [cop, hop]
    exact .inr ⟨(_, fun b => .ptr b 0), fun _ => rfl⟩
  | buildSlice t n ps =>
    simp only [cop, hop]
    repeat' split
    all_goals first
      | exact MF.no
      | exact MF.bc (Fac.cfill fun l => .inr ⟨(_, fun b => .sl b 0 n n), fun _ => rfl⟩) .no
  | makeMap t m =>
    simp only [cop, hop]
    repeat' split
    all_goals first
      | exact MF.no
      | exact .inr ⟨(_, fun b => .m (.map b)), fun _ => rfl⟩
      | exact Fac.onInt fun _ _ => .inr ⟨(_, fun b => .m (.map b)), fun _ => rfl⟩
  | makeSlice t l c =>
    simp only [cop, hop]
    repeat' split
    all_goals first
      | exact MF.no
      | exact MF.bc (Fac.onNat fun l => Fac.onNat fun c => .bc (.bc (.inr ⟨(_, fun b => .sl b 0 l c), fun _ => rfl⟩) .no) .no) .no
  | call c =>
    cases hc : c.callee with
    | builtin b => cases b <;> simp [okind, hop, hc] at hk
    | _ => simp [okind, hop, hc] at hk
  | _ => simp [okind, hop] at hk

end Go.Ax
