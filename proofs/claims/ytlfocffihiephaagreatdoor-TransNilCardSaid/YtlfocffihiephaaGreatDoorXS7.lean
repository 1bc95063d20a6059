/- Part of an abstract executor of the model's machine, and of its law (S7). -/
import Derived.Test.YtlfocffihiephaaGreatDoorXS6
import Derived.Laws.Cells
namespace Go.Ax
open Go.RowKit (Below)
variable {P : Program} {D : Nat → Nat} {base : Nat} {w0 : World} {E : En} {h : H} {nx : Nat} {w : World}

/-- what an operation's run says of the machine: it comes to a value that the abstract one stands for, and the rest goes on from there -/
def OpOk (P : Program) (D : Nat → Nat) (base : Nat) (w0 : World) (E : En) (h : H) (nx : Nat) (w : World) (s : Sem Next) (K : AV → H → Nat → O) (r : St) : Prop :=
  ∃ v V h' nx' E' w', K v h' nx' = some r ∧ En.le nx E E' ∧ nx ≤ nx' ∧ VR E' v V ∧ HR D base w0 E' h' nx' w' ∧ (∀ b, b < nx → E.m b = none → bget b h' = bget b h) ∧
    (s.run P w = .ok (.value V) w' ∨ (s.run P w = .ok .skip w' ∧ V = Go.undef))

variable {s : Sem Next} {K : AV → H → Nat → O} {r : St}
theorem OpOk.pure (R : HR D base w0 E h nx w) {v : AV} {V : Value} (hk : K v h nx = some r) (hv : VR E v V) (hs : s.run P w = .ok (.value V) w) : OpOk P D base w0 E h nx w s K r :=
  ⟨v, V, h, nx, E, w, hk, .refl _ _, Nat.le_refl _, hv, R, fun _ _ _ => rfl, .inl hs⟩
theorem OpOk.mem {h' : H} {w' : World} (R : HR D base w0 E h' nx w') {v : AV} {V : Value} (hk : K v h' nx = some r) (hv : VR E v V)
    (hf : ∀ b, b < nx → E.m b = none → bget b h' = bget b h) (hs : s.run P w = .ok (.value V) w' ∨ (s.run P w = .ok .skip w' ∧ V = Go.undef)) : OpOk P D base w0 E h nx w s K r :=
  ⟨v, V, h', nx, E, w', hk, .refl _ _, Nat.le_refl _, hv, R, hf, hs⟩
/-- a new block -/
theorem OpOk.new (R : HR D base w0 E h nx w) {ab : AB} {ob : Obj} {q : Nat} {kv : Nat → AV} {V : Value} (hn : newB ab h nx (fun b h' nx' => K (kv b) h' nx') = some r)
    (br : BR D E q ab ob) (hv : VR (E.put nx (w.heap.size, q)) (kv nx) V) (hs : s.run P w = .ok (.value V) (w.alloc ob)) : OpOk P D base w0 E h nx w s K r := by
  obtain ⟨hlt, hk⟩ := newB_some hn
  refine ⟨_, V, _, _, _, _, hk, E.put_le _ (R.fresh nx (Nat.le_refl _)), by omega, hv, R.alloc hlt br, ?_, .inl hs⟩
  intro b hb _
  rw [bget_put, if_neg (fun (z : b = nx ∧ b < 262144) => by omega)]

/-- a value that is read or reckoned: the memory stays -/
def PuOk (P : Program) (E : En) (h : H) (nx : Nat) (w : World) (s : Sem Next) (K : AV → H → Nat → O) (r : St) : Prop :=
  ∃ v V, K v h nx = some r ∧ VR E v V ∧ s.run P w = .ok (.value V) w
theorem PuOk.pure (_ : HR D base w0 E h nx w) {v : AV} {V : Value} (hk : K v h nx = some r) (hv : VR E v V) (hs : s.run P w = .ok (.value V) w) : PuOk P E h nx w s K r := ⟨v, V, hk, hv, hs⟩
theorem PuOk.op (R : HR D base w0 E h nx w) (hp : PuOk P E h nx w s K r) : OpOk P D base w0 E h nx w s K r := by
  obtain ⟨v, V, hk, hv, hs⟩ := hp
  exact .pure R hk hv hs
/-- a new block -/
def MkOk (P : Program) (D : Nat → Nat) (E : En) (h : H) (nx : Nat) (w : World) (s : Sem Next) (K : AV → H → Nat → O) (r : St) : Prop :=
  ∃ (ab : AB) (kv : Nat → AV) (q : Nat) (ob : Obj) (V : Value), newB ab h nx (fun b h' nx' => K (kv b) h' nx') = some r ∧ BR D E q ab ob ∧ (∀ (E' : En) b, E'.m b = some (w.heap.size, q) → VR E' (kv b) V) ∧ s.run P w = .ok (.value V) (w.alloc ob)
theorem MkOk.new {ab : AB} {ob : Obj} {q : Nat} {kv : Nat → AV} {V : Value} (hn : newB ab h nx (fun b h' nx' => K (kv b) h' nx') = some r)
    (br : BR D E q ab ob) (hv : ∀ (E' : En) b, E'.m b = some (w.heap.size, q) → VR E' (kv b) V) (hs : s.run P w = .ok (.value V) (w.alloc ob)) : MkOk P D E h nx w s K r :=
  ⟨ab, kv, q, ob, V, hn, br, hv, hs⟩
theorem MkOk.op (R : HR D base w0 E h nx w) (hp : MkOk P D E h nx w s K r) : OpOk P D base w0 E h nx w s K r := by
  obtain ⟨ab, kv, q, ob, V, hn, br, hv, hs⟩ := hp
  exact .new R hn br (hv _ _ (E.put_at nx _)) hs

variable {mask : Nat} {names : List Tmp} {tm : Tm} {e : List AV} {ρ : Operand → Value} {o : Oper}

theorem opds_sound : ∀ (l : List Operand), (∀ x ∈ l, VR E ((opd mask names x).g tm e) (ρ x)) → VRL E ((opds mask names l).g tm e) (l.map ρ)
  | [], _ => .nil
  | x :: l, hx => .cons (hx x (by simp)) (opds_sound l fun y hy => hx y (by simp [hy]))

abbrev Ops (E : En) (mask : Nat) (names : List Tmp) (tm : Tm) (e : List AV) (ρ : Operand → Value) (o : Oper) : Prop :=
  ∀ x ∈ o.op.operands.toList, VR E ((opd mask names x).g tm e) (ρ x)

section
variable (R : HR D base w0 E h nx w) (ho : Ops E mask names tm e ρ o) (hr : (cop P mask names o).f tm e h nx K = some r)
include R ho hr

theorem cop_move {x : Operand} (hop : o.op = .move x) : PuOk P E h nx w (execOp ρ o) K r := by
  simp only [cop, hop] at hr
  exact .pure R hr (ho x (by simp [hop, Op.operands])) (by simp [execOp, hop])
theorem cop_assign {x : Operand} (hop : o.op = .assign x) : OpOk P D base w0 E h nx w (execOp ρ o) K r := by
  simp only [cop, hop] at hr
  exact .pure R hr (ho x (by simp [hop, Op.operands])) (by simp [execOp, hop])
theorem cop_pick {c a b : Operand} (hop : o.op = .pick c a b) : PuOk P E h nx w (execOp ρ o) K r := by
  simp only [cop, hop] at hr
  obtain ⟨t, hc, hk⟩ := onBool_some hr
  have h1 := ho c (by simp [hop, Op.operands])
  have h2 := ho a (by simp [hop, Op.operands])
  have h3 := ho b (by simp [hop, Op.operands])
  rw [hc] at h1
  generalize hρ : ρ c = C at h1
  cases h1
  cases t
  · exact .pure R hk h3 (by simp [execOp, hop, hρ, asBool])
  · exact .pure R hk h2 (by simp [execOp, hop, hρ, asBool])

omit R ho in
theorem cop_alloc {t : TypeId} (hop : o.op = .alloc t) : MkOk P D E h nx w (execOp ρ o) K r := by
  simp only [cop, hop] at hr
  cases hi : tinfo P t with
  | none => rw [hi] at hr; cases hr
  | some i =>
    rw [hi] at hr
    obtain ⟨I, h1, h2, h3, h4, h5, h6⟩ := tinfo_some hi
    cases hz : i.zero with
    | none => simp only [hz] at hr; cases hr
    | some z =>
      simp only [hz] at hr
      obtain ⟨Z, hZ, rfl, hok⟩ := h6 z hz
      have hl := ofVs_sound E hok
      refine .new (q := 0) (ob := .cells Z.cells t (0, 0)) hr ?_ (fun _ _ hb => .ptr 0 hb) ?_
      · have := RowR.mk (n := llen (ofVs Z)) hl
        refine .cells t t (by rw [llen_eq, ← hl.len]; simp) ?_ (by simpa using this)
        intro xs hxs
        unfold rmk at hxs
        rw [bc_ite] at hxs
        split at hxs
        · cases hxs; rw [llen_eq]
        · cases hxs
      · simp [execOp, hop, Instr.alloc, zeroValue, run_info h1, hZ, newVar, newRow]

omit R in
theorem cop_box {t : TypeId} {x : Operand} (hop : o.op = .box t x) : MkOk P D E h nx w (execOp ρ o) K r := by
  simp only [cop, hop] at hr
  have h1 := ho x (by simp [hop, Op.operands])
  have hl := acells_sound h1
  refine .new (q := 0) (ob := .cells (ρ x).cells t (0, 0)) hr ?_ (fun _ _ hb => .ptr 0 hb) ?_
  · have := RowR.mk (n := llen (acells ((opd mask names x).g tm e))) hl
    refine .cells t t (by rw [llen_eq, ← hl.len]; simp) ?_ (by simpa using this)
    intro xs hxs
    unfold rmk at hxs
    rw [bc_ite] at hxs
    split at hxs
    · cases hxs; rw [llen_eq]
    · cases hxs
  · simp [execOp, hop, Instr.box, newVar, newRow]

theorem cop_load {t : TypeId} {x : Operand} (hop : o.op = .load t x) : PuOk P E h nx w (execOp ρ o) K r := by
  simp only [cop, hop] at hr
  have h1 := ho x (by simp [hop, Op.operands])
  cases hi : tinfo P t with
  | none => rw [hi] at hr; cases hr
  | some i =>
    rw [hi] at hr
    obtain ⟨I, hI, hU, hsz, hby, hag, hz⟩ := tinfo_some hi
    simp only at hr
    cases ha : i.agg with
    | true =>
      rw [ha] at hr
      obtain ⟨b, off, hp, hr⟩ := onPtr_some hr
      obtain ⟨l, hl, hk⟩ := ob_some' hr
      rw [hp] at h1
      generalize hρ : ρ x = C at h1
      cases h1 with
      | ptr _ he =>
        obtain ⟨L, hL, hlen, hlies⟩ := loadB_sound R he hl
        refine .pure R hk (.agg hL) ?_
        have hrun := run_loadCells_list (P := P) w ⟨_, off, none⟩ L hlies
        rw [hlen, hsz] at hrun
        simp [execOp, hop, Instr.loadAt, Instr.sureAddr, hρ, loadVar, run_agg hU, ← hag, ha, run_size hI, hrun]
    | false =>
      rw [ha] at hr
      obtain ⟨b, off, hp, hr⟩ := onPtr_some hr
      obtain ⟨v, hl, hk⟩ := ob_some' hr
      rw [hp] at h1
      generalize hρ : ρ x = C at h1
      cases h1 with
      | ptr _ he =>
        obtain ⟨V, hc, hv⟩ := load1_sound R he hl
        refine .pure R hk hv ?_
        simp [execOp, hop, Instr.loadAt, Instr.sureAddr, hρ, loadVar, run_agg hU, ← hag, ha, hc]
end
end Go.Ax
