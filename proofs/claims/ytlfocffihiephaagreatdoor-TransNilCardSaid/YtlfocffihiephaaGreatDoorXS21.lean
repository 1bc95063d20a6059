/- Part of an abstract executor of the model's machine, and of its law (S21). -/
import Derived.Test.YtlfocffihiephaaGreatDoorXS20
namespace Go.Ax
open Go.RowKit (Below)
variable {P : Program} {D : Nat → Nat} {base : Nat} {w0 : World} {E : En} {h : H} {nx : Nat} {w : World}
variable {K : AV → H → Nat → O} {r : St} {mask : Nat} {names : List Tmp} {tm : Tm} {e : List AV} {ρ : Operand → Value} {o : Oper}

theorem exec_builtin {c : Call} {b : Builtin} (hop : o.op = .call c) (hc : c.callee = .builtin b) :
    ∃ consts, execOp ρ o = builtin b c.argTypes o.type consts (c.args.map ρ) := by
  refine ⟨c.args.map fun | .const _ => true | _ => false, ?_⟩
  simp only [execOp, hop, resolve, hc]
  rfl

theorem lenA_sound {x : AV} {X : Value} {n : Nat} (hx : VR E x X) (hl : lenA x = some n) : ∃ a c, X = .slice a n c := by
  rcases onSl_some hl with ⟨b, o, k, c, rfl, hl⟩ | ⟨b, o, i, k, rfl, hl⟩ | ⟨m, rfl, hl⟩
  · cases hl; cases hx; exact ⟨_, _, rfl⟩
  · cases hl; cases hx; exact ⟨_, _, rfl⟩
  · obtain ⟨rfl, hl⟩ := onNils_some hl
    cases hl; cases hx; exact ⟨_, _, rfl⟩

theorem firstCells_sound (R : HR D base w0 E h nx w) {sz n m : Nat} {x : AV} {X : Value} {l : List AV} (hx : VR E x X) (hm : lenA x = some m) (hnm : n ≤ m) (hl : firstCellsA h sz n x = some l) :
    ∃ L, VRL E l L ∧ L.length = n * sz ∧ ∀ w', (∀ a, w'.cell? a = w.cell? a) → (Builtin.firstCells sz n X).run P w' = .ok L.toArray w' := by
  rcases onSl_some hl with ⟨b, o, k, c, rfl, hl⟩ | ⟨b, o, i, k, rfl, hl⟩ | ⟨y, rfl, hl⟩
  · cases hx with
    | sl _ _ _ he =>
      obtain ⟨L, hL, hlen, hlies⟩ := loadB_sound R he hl
      refine ⟨L, hL, hlen, fun w' hw => ?_⟩
      exact run_firstCells_some w' sz n _ k _ L hlen (fun j v hj => by rw [hw]; exact hlies j v hj)
  · cases hx with
    | slx _ _ _ he =>
      obtain ⟨L, hL, hlen, hlies⟩ := loadB_sound R he hl
      refine ⟨L, hL, hlen, fun w' hw => ?_⟩
      exact run_firstCells_some w' sz n _ k _ L hlen (fun j v hj => by rw [hw]; exact hlies j v hj)
  · obtain ⟨rfl, hl⟩ := onNils_some hl
    cases hl
    cases hm
    cases hx
    have : n = 0 := by omega
    subst this
    exact ⟨[], .nil, by simp, fun w' _ => run_firstCells_none w' sz 0 0 0⟩

theorem EsR.len {E : En} {es : List (AV × AV × Nat)} {Es : List MapEntry} (h : EsR E es Es) : Es.length = es.length := by
  induction h with
  | nil => rfl
  | cons _ _ _ _ ih => simp [ih]

/-! len, cap, min, max -/
theorem clen_sound (R : HR D base w0 E h nx w) {t ty : TypeId} {ts : Array TypeId} {x : AV} {X : Value} {n : Nat} (ht : ts[0]? = some t) (hx : VR E x X) (hl : (clen P t).f h x = some n) :
    (Builtin.len_ ts ty #[X]).run P w = .ok (.int .i64 (Int.ofNat n)) w := by
  unfold clen at hl
  cases hU : P.underlying t with
  | none => rw [hU] at hl; cases hl
  | some d =>
    rw [hU] at hl
    cases d with
    | string =>
      obtain ⟨k, l, rfl, hl⟩ := onStr_some hl
      cases hl; cases hx
      simp [Builtin.len_, ht, run_under hU, bytes_size, goInt]
    | array k e' =>
      cases hl
      simp [Builtin.len_, ht, run_under hU, goInt]
    | pointer arr =>
      simp only at hl
      split at hl
      · rename_i k e' hA
        cases hl
        simp [Builtin.len_, ht, run_under hU, run_under hA, goInt]
      · cases hl
    | slice e' =>
      rcases onSl_some hl with ⟨b, o, k, c, rfl, hl⟩ | ⟨b, o, i, k, rfl, hl⟩ | ⟨y, rfl, hl⟩
      · cases hl; cases hx; simp [Builtin.len_, ht, run_under hU, goInt]
      · cases hl; cases hx; simp [Builtin.len_, ht, run_under hU, goInt]
      · cases y <;> first | (cases hl; done) | skip
        · cases hl; cases hx; simp [Builtin.len_, ht, run_under hU, goInt]
        · cases hl; cases hx; simp [Builtin.len_, ht, run_under hU, goInt]
    | map kt vt =>
      rcases onMap_some hl with ⟨rfl, hl⟩ | ⟨b, rfl, hl⟩
      · cases hl; cases hx; simp [Builtin.len_, ht, run_under hU, goInt]
      · cases hx with
        | map he =>
          obtain ⟨es, cl, hb, hl⟩ := onMapB_some hl
          cases hl
          obtain ⟨Es, hes, hobj⟩ := R.map he hb
          have hlen : Es.length = es.length := hes.len
          simp [Builtin.len_, ht, run_under hU, getMap hobj, goInt, llen_eq, hlen]
    | _ => cases hl

theorem minmax_sound (P : Program) (w : World) (mx : Bool) : ∀ {l : List AV} {L : List Value} {x v : AV} {X : Value}, VRL E l L → VR E x X →
    (List.rec (motive := fun _ => AV → Option AV) (fun a => some a) (fun y _ ih a => onInt a none fun k p => onInt y none fun _ q => ih (.int k (bc (bc mx (intLt p q) (intLt q p)) q p))) l : AV → Option AV) x = some v →
    ∃ V, VR E v V ∧ (L.foldlM (if mx then Builtin.max2 else Builtin.min2) X).run P w = .ok V w
  | _, _, x, v, X, .nil, hx, hv => by cases hv; exact ⟨X, hx, by simp⟩
  | _, _, x, v, X, .cons hy t, hx, hv => by
    replace hv := onInt_some hv
    obtain ⟨k, p, rfl, hv⟩ := hv
    replace hv := onInt_some hv
    obtain ⟨k', q, rfl, hv⟩ := hv
    cases hx; cases hy
    obtain ⟨V, hV, hrun⟩ := minmax_sound P w mx t (.int k _) hv
    refine ⟨V, hV, ?_⟩
    cases mx with
    | true =>
      simp only [if_true] at hrun ⊢
      rw [List.foldlM_cons]
      simp only [Builtin.max2, Sem.run_bind, Sem.run_pure, Result.andThen_ok]
      have e1 : bc (bc true (intLt p q) (intLt q p)) q p = if q > p then q else p := by rw [bc_true, intLt_eq, bc_ite]; simp
      rw [e1] at hrun
      exact hrun
    | false =>
      simp only [Bool.false_eq_true, if_false] at hrun ⊢
      rw [List.foldlM_cons]
      simp only [Builtin.min2, Sem.run_bind, Sem.run_pure, Result.andThen_ok]
      have e1 : bc (bc false (intLt p q) (intLt q p)) q p = if q < p then q else p := by rw [bc_false, intLt_eq, bc_ite]; simp
      rw [e1] at hrun
      exact hrun

/-! append -/
theorem run_app_place {st xt ty t t' : TypeId} {I : TypeInfo} {a' : Option Addr} {bs : Option Addr} {n c m q : Nat} {N : List Value} {w' : World}
    (ht : P.underlying st = some (.slice t)) (hx : P.underlying xt = some (.slice t')) (hi : P.info? t = some I)
    (hnew : (Builtin.firstCells I.size m (.slice a' m q)).run P w = .ok N.toArray w) (hle : n + m ≤ c)
    (hst : ∀ a, bs = some a → (storeCells (a.add (n * I.size)) N).run P w = .ok () w') (hno : bs = none → w' = w) :
    (Builtin.append_ #[st, xt] ty #[.slice bs n c, .slice a' m q]).run P w = .ok (.slice bs (n + m) c) w' := by
  cases bs with
  | none =>
    have := hno rfl
    subst this
    simp [Builtin.append_, run_under ht, run_under hx, sizeOf, run_info hi, Builtin.lenOf, hle, hnew]
  | some a =>
    have := hst a rfl
    simp [Builtin.append_, run_under ht, run_under hx, sizeOf, run_info hi, Builtin.lenOf, hle, hnew, this]

theorem run_app_grow {st xt ty t t' : TypeId} {I : TypeInfo} {Z : Value} {a' : Option Addr} {bs : Option Addr} {n c m q : Nat} {N O : List Value}
    (ht : P.underlying st = some (.slice t)) (hx : P.underlying xt = some (.slice t')) (hi : P.info? t = some I) (hz : I.zero = some Z)
    (hold : (Builtin.firstCells I.size n (.slice bs n c)).run P w.drew = .ok O.toArray w.drew)
    (hnew : (Builtin.firstCells I.size m (.slice a' m q)).run P w.drew = .ok N.toArray w.drew) (hgt : c < n + m) (hb : I.bytes ≠ 0) (hby : (n + m) * I.bytes ≤ 1073741824) :
    (Builtin.append_ #[st, xt] ty #[.slice bs n c, .slice a' m q]).run P w = .ok (.slice (some ⟨w.heap.size, 0, none⟩) (n + m) (grownCap w (n + m) c t))
      (w.drew.alloc (.cells (O.toArray ++ N.toArray ++ Builtin.zeroCells Z.cells (grownCap w (n + m) c t - (n + m))) t)) := by
  have hn : ¬ (n + m ≤ c) := by omega
  have h1 : n + m ≤ 1073741824 := by
    have : (n + m) * 1 ≤ (n + m) * I.bytes := Nat.mul_le_mul_left _ (by omega)
    omega
  have h63 : ¬ (9223372036854775807 < ((n : Int) + (m : Int))) := by omega
  have h48 := growslice_fits (old := c) (bytes := I.bytes) (need := n + m) (by omega) (by omega)
  have h48' : ¬ (281474976710656 < Builtin.nextslicecap (n + m) c * I.bytes) := by omega
  simp [Builtin.append_, run_under ht, run_under hx, sizeOf, run_info hi, zeroValue, hz, Builtin.lenOf, hn, h63, h48', Question.forced, hold, hnew, newRow, grownCap]
  congr 2
  apply Array.ext'
  simp [List.append_assoc]

theorem run_app_place0 {st xt ty t : TypeId} {I : TypeInfo} {Z : Value} {ik k : IntKind} {bs : Option Addr} {n c m : Nat} {w' : World}
    (ht : P.underlying st = some (.slice t)) (hx : P.underlying xt = some (.int ik)) (hi : P.info? t = some I) (hz : I.zero = some Z) (hs : I.size ≠ 0)
    (hb : I.bytes ≠ 0) (hby : m * I.bytes ≤ 1073741824) (hle : n + m ≤ c)
    (hst : ∀ a, bs = some a → (storeCells (a.add (n * I.size)) (Builtin.zeroCells Z.cells m).toList).run P w = .ok () w') (hno : bs = none → w' = w) :
    (Builtin.append_ #[st, xt] ty #[.slice bs n c, .int k (Int.ofNat m)]).run P w = .ok (.slice bs (n + m) c) w' := by
  have h1 : m ≤ 1073741824 := by
    have : m * 1 ≤ m * I.bytes := Nat.mul_le_mul_left _ (by omega)
    omega
  have hw : IntKind.i64.wrap (m : Int) = m := IntWalk.i64_in _ (by omega)
  have h0 : ¬ ((m : Int) < 0) := by omega
  have h48 : ¬ (281474976710656 < (m : Int) * (I.bytes : Int)) := by
    have : ((m * I.bytes : Nat) : Int) ≤ 1073741824 := by omega
    rw [Int.natCast_mul] at this
    omega
  have hzc : Builtin.zeroCells Z.cells 0 = #[] := by simp [Builtin.zeroCells]
  cases bs with
  | none =>
    have := hno rfl
    subst this
    by_cases hm : m = 0
    · subst hm
      simp at hle
      simp [Builtin.append_, run_under ht, run_under hx, sizeOf, run_info hi, zeroValue, hz, asInt, asIntOf, hle, IntKind.wrap, IntKind.bits, IntKind.signed]
    · have hms : ¬ (m * I.size = 0) := by rw [Nat.mul_eq_zero]; omega
      simp [Builtin.append_, run_under ht, run_under hx, sizeOf, run_info hi, zeroValue, hz, asInt, asIntOf, hw, h0, h48, hle, hms]
  | some a =>
    have := hst a rfl
    by_cases hm : m = 0
    · subst hm
      rw [hzc] at this
      simp at this
      simp at hle
      simp [Builtin.append_, run_under ht, run_under hx, sizeOf, run_info hi, zeroValue, hz, asInt, asIntOf, hle, IntKind.wrap, IntKind.bits, IntKind.signed, this]
    · have hms : ¬ (m * I.size = 0) := by rw [Nat.mul_eq_zero]; omega
      simp [Builtin.append_, run_under ht, run_under hx, sizeOf, run_info hi, zeroValue, hz, asInt, asIntOf, hw, h0, h48, hle, hms, this]

theorem run_app_grow0 {st xt ty t : TypeId} {I : TypeInfo} {Z : Value} {ik k : IntKind} {bs : Option Addr} {n c m : Nat} {O : List Value}
    (ht : P.underlying st = some (.slice t)) (hx : P.underlying xt = some (.int ik)) (hi : P.info? t = some I) (hz : I.zero = some Z) (hs : I.size ≠ 0)
    (hold : (Builtin.firstCells I.size n (.slice bs n c)).run P w.drew = .ok O.toArray w.drew)
    (hgt : c < n + m) (hb : I.bytes ≠ 0) (hby : (n + m) * I.bytes ≤ 1073741824) :
    (Builtin.append_ #[st, xt] ty #[.slice bs n c, .int k (Int.ofNat m)]).run P w = .ok (.slice (some ⟨w.heap.size, 0, none⟩) (n + m) (grownCap w (n + m) c t))
      (w.drew.alloc (.cells (O.toArray ++ Builtin.zeroCells Z.cells m ++ Builtin.zeroCells Z.cells (grownCap w (n + m) c t - (n + m))) t)) := by
  have hn : ¬ (n + m ≤ c) := by omega
  have hmb : m * I.bytes ≤ (n + m) * I.bytes := Nat.mul_le_mul_right _ (by omega)
  have h1 : n + m ≤ 1073741824 := by
    have : (n + m) * 1 ≤ (n + m) * I.bytes := Nat.mul_le_mul_left _ (by omega)
    omega
  have hw : IntKind.i64.wrap (m : Int) = m := IntWalk.i64_in _ (by omega)
  have h0 : ¬ ((m : Int) < 0) := by omega
  have hq : ¬ (281474976710656 < (m : Int) * (I.bytes : Int)) := by
    have : ((m * I.bytes : Nat) : Int) ≤ 1073741824 := by omega
    rw [Int.natCast_mul] at this
    omega
  have h63 : ¬ (9223372036854775807 < ((n : Int) + (m : Int))) := by omega
  have h48 := growslice_fits (old := c) (bytes := I.bytes) (need := n + m) (by omega) (by omega)
  have h48' : ¬ (281474976710656 < Builtin.nextslicecap (n + m) c * I.bytes) := by omega
  have hzc : Builtin.zeroCells Z.cells 0 = #[] := by simp [Builtin.zeroCells]
  by_cases hm : m = 0
  · subst hm
    simp only [Nat.add_zero, Int.natCast_zero, Int.add_zero] at hn h63 h48'
    simp [Builtin.append_, run_under ht, run_under hx, sizeOf, run_info hi, zeroValue, hz, asInt, asIntOf, hn, h63, h48', Question.forced, hold, newRow, grownCap, IntKind.wrap, IntKind.bits, IntKind.signed, hzc]
  · have hms : ¬ (m * I.size = 0) := by rw [Nat.mul_eq_zero]; omega
    simp [Builtin.append_, run_under ht, run_under hx, sizeOf, run_info hi, zeroValue, hz, asInt, asIntOf, hw, h0, hq, hn, hms, h63, h48', Question.forced, hold, newRow, grownCap]
end Go.Ax
