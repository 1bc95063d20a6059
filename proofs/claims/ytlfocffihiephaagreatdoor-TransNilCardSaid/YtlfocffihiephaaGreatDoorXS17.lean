/- Part of an abstract executor of the model's machine, and of its law (S17). -/
import Derived.Test.YtlfocffihiephaaGreatDoorXS16
namespace Go.Ax
open Go.RowKit (Below)
variable {P : Program} {D : Nat → Nat} {base : Nat} {w0 : World} {E : En} {h : H} {nx : Nat} {w : World}
variable {K : AV → H → Nat → O} {r : St} {mask : Nat} {names : List Tmp} {tm : Tm} {e : List AV} {ρ : Operand → Value} {o : Oper}

/-- the answer of an operator -/
abbrev BinOk (P : Program) (E : En) (w : World) (s : Sem Value) (v : AV) : Prop := ∃ V, VR E v V ∧ s.run P w = .ok V w

theorem ar_some {f : Nat → Int → Int → Option AV} {x y v : AV} {h : H} (ha : (ar f).f h x y = some v) : ∃ k a b, x = .int k a ∧ y = .int k b ∧ f k a b = some v := by
  obtain ⟨k, a, hx, ha⟩ := onInt_some ha
  obtain ⟨k', b, hy, ha⟩ := onInt_some ha
  obtain ⟨hk, hf⟩ := bc_some ha
  have := Nat.eq_of_beq_eq_true hk
  subst this
  exact ⟨k, a, b, hx, hy, hf⟩

theorem wrap_modpow (k : IntKind) (n : Nat) : k.wrap (((n % 2 ^ k.bits : Nat) : Int)) = k.wrap (n : Int) := by
  cases k <;> simp [IntKind.wrap, IntKind.bits, IntKind.signed] <;> omega

theorem bvnat (w n : Nat) : (BitVec.ofInt w (n : Int)).toNat = n % 2 ^ w := by
  rw [show (n : Int) = Int.ofNat n from rfl]
  simp

theorem smallN_some {f : Nat → Nat → Nat} {k : Nat} {a b : Int} {v : AV} (hs : smallN f k a b = some v) : ∃ m n, a = .ofNat m ∧ b = .ofNat n ∧ v = .int k (wrapQ k (.ofNat (f m n))) := by
  cases a with
  | negSucc _ => cases hs
  | ofNat m =>
    cases b with
    | negSucc _ => cases hs
    | ofNat n =>
      obtain ⟨_, hs⟩ := bc_some hs
      obtain ⟨_, hs⟩ := bc_some hs
      cases hs
      exact ⟨m, n, rfl, rfl, rfl⟩


theorem shl_pow (k : Nat) (a : Int) (n : Nat) : Int.mul a (Int.ofNat (Nat.pow 2 (min n (kd k).bits))) = a * 2 ^ (min n (kd k).bits) := by
  show a * ((2 ^ (min n (kd k).bits) : Nat) : Int) = _
  rw [Int.natCast_pow]; rfl

theorem cbinI_sound {op : BinOp} {xt : TypeId} {x y v : AV} {X Y : Value} (hx : VR E x X) (hy : VR E y Y)
    (hc : (cbinI op).f h x y = some v) : BinOk P E w (Go.binOp op xt X Y) v := by
  have ar2 : ∀ {f : Nat → Int → Int → Option AV}, (ar f).f h x y = some v → ∃ k a b, X = .int (kd k) a ∧ Y = .int (kd k) b ∧ f k a b = some v := fun ha => by
    obtain ⟨k, a, b, rfl, rfl, hf⟩ := ar_some ha
    cases hx; cases hy
    exact ⟨k, a, b, rfl, rfl, hf⟩
  cases op with
  | shl =>
    obtain ⟨k, a, rfl, hc2⟩ := onInt_some hc
    obtain ⟨k', n, rfl, hc3⟩ := onNat_some hc2
    cases hc3; cases hx; cases hy
    refine ⟨_, .int k _, ?_⟩
    have : ¬ (Int.ofNat n < 0) := by simp
    rw [wrapQ_eq, shl_pow]
    simp only [Go.binOp, Op.shift, if_neg this, Sem.run_pure]
    rfl
  | shr =>
    obtain ⟨k, a, rfl, hc2⟩ := onInt_some hc
    obtain ⟨k', n, rfl, hc3⟩ := onNat_some hc2
    cases hc3; cases hx; cases hy
    refine ⟨_, .int k _, ?_⟩
    have : ¬ (Int.ofNat n < 0) := by simp
    simp only [Go.binOp, Op.shift, if_neg this, Sem.run_pure]
    simp
  | add | sub | mul =>
    obtain ⟨k, a, b, rfl, rfl, hf⟩ := ar2 hc
    cases hf
    refine ⟨_, .int k _, ?_⟩
    rw [wrapQ_eq]
    simp [Go.binOp, Op.intArith, iadd_eq, isub_eq]
  | quo | rem =>
    obtain ⟨k, a, b, rfl, rfl, hf⟩ := ar2 hc
    obtain ⟨h0, hf⟩ := bc_some' hf
    rw [intEq_eq] at h0
    have h0 : b ≠ 0 := fun hh => by rw [hh] at h0; cases h0
    cases hf
    refine ⟨_, .int k _, ?_⟩
    try rw [wrapQ_eq]
    simp [Go.binOp, Op.intDiv, h0]
  | and =>
    obtain ⟨k, a, b, rfl, rfl, hf⟩ := ar2 hc
    obtain ⟨m, n, rfl, rfl, rfl⟩ := smallN_some hf
    refine ⟨_, .int k _, ?_⟩
    rw [wrapQ_eq]
    have := wrap_modpow (kd k) (m &&& n)
    rw [Nat.and_mod_two_pow] at this
    simp only [Go.binOp, Op.intBits, BitVec.toNat_and, Int.ofNat_eq_natCast, bvnat, this]
    simp
  | or =>
    obtain ⟨k, a, b, rfl, rfl, hf⟩ := ar2 hc
    obtain ⟨m, n, rfl, rfl, rfl⟩ := smallN_some hf
    refine ⟨_, .int k _, ?_⟩
    rw [wrapQ_eq]
    have := wrap_modpow (kd k) (m ||| n)
    rw [Nat.or_mod_two_pow] at this
    simp only [Go.binOp, Op.intBits, BitVec.toNat_or, Int.ofNat_eq_natCast, bvnat, this]
    simp
  | xor =>
    obtain ⟨k, a, b, rfl, rfl, hf⟩ := ar2 hc
    obtain ⟨m, n, rfl, rfl, rfl⟩ := smallN_some hf
    refine ⟨_, .int k _, ?_⟩
    rw [wrapQ_eq]
    have := wrap_modpow (kd k) (m ^^^ n)
    rw [Nat.xor_mod_two_pow] at this
    simp only [Go.binOp, Op.intBits, BitVec.toNat_xor, Int.ofNat_eq_natCast, bvnat, this]
    simp
  | andNot => cases hc
  | neq =>
    obtain ⟨k, a, b, rfl, rfl, hf⟩ := ar2 hc
    cases hf
    refine ⟨_, .bool _, ?_⟩
    rw [intEq_eq]
    simp only [Go.binOp, Op.intCmp, bne]
    cases (a == b) <;> simp [bnot]
  | _ =>
    obtain ⟨k, a, b, rfl, rfl, hf⟩ := ar2 hc
    cases hf
    refine ⟨_, .bool _, ?_⟩
    simp [Go.binOp, Op.intCmp, intEq_eq, intLt_eq, intLe_eq, bnot, bc_ite, bne]

theorem strB_append (n l n' l' : Nat) : strB n l ++ strB n' l' = strB (n % 256 ^ l + 256 ^ l * n') (l + l') := by
  induction l generalizing n with
  | zero => simp [strB, Nat.mod_one]
  | succ l ih =>
    have e1 : 256 ^ (l + 1) * n' = 256 * (256 ^ l * n') := by rw [Nat.pow_succ, Nat.mul_comm (256 ^ l) 256, Nat.mul_assoc]
    have h1 : (n % 256 ^ (l + 1) + 256 ^ (l + 1) * n') / 256 = n / 256 % 256 ^ l + 256 ^ l * n' := by
      rw [e1, Nat.add_mul_div_left _ _ (by decide), Nat.pow_succ, Nat.mul_comm (256 ^ l) 256, Nat.mod_mul_right_div_self]
    have h2 : UInt8.ofNat (n % 256 ^ (l + 1) + 256 ^ (l + 1) * n') = UInt8.ofNat n := by
      apply UInt8.toNat_inj.1
      simp only [UInt8.toNat_ofNat']
      rw [e1, Nat.pow_succ, Nat.mul_comm (256 ^ l) 256, Nat.add_mul_mod_self_left]
      exact Nat.mod_mul_right_mod n 256 _
    rw [show l + 1 + l' = (l + l') + 1 by omega]
    simp only [strB, List.cons_append, h1, h2, ih]

theorem bytes_add (n l n' l' : Nat) : (⟨(strB n l).toArray⟩ : ByteArray) ++ ⟨(strB n' l').toArray⟩ = ⟨(strB (n % 256 ^ l + 256 ^ l * n') (l + l')).toArray⟩ := by
  apply ByteArray.ext
  rw [ByteArray.data_append, ← strB_append]
  simp

theorem bytes_eqL (n l n' l' : Nat) : ((⟨(strB n l).toArray⟩ : ByteArray).toList == (⟨(strB n' l').toArray⟩ : ByteArray).toList) = strEq n l n' l' := by
  rw [← beq_toListBytes, strs_beq]

theorem bytes_size (n l : Nat) : (⟨(strB n l).toArray⟩ : ByteArray).size = l := by show (strB n l).toArray.size = l; simp [strB_len]

theorem cbinS_sound {op : BinOp} {xt : TypeId} {x y v : AV} {X Y : Value} (hx : VR E x X) (hy : VR E y Y)
    (hc : (cbinS op).f h x y = some v) : BinOk P E w (Go.binOp op xt X Y) v := by
  cases op with
  | add =>
    obtain ⟨n, l, rfl, hc2⟩ := onStr_some hc
    obtain ⟨n', l', rfl, hc3⟩ := onStr_some hc2
    obtain ⟨hle, hc4⟩ := bc_some hc3
    have hle : l + l' ≤ 1073741824 := Nat.le_of_ble_eq_true hle
    cases hc4; cases hx; cases hy
    refine ⟨.string ⟨(strB (n % 256 ^ l + 256 ^ l * n') (l + l')).toArray⟩, .str _ _, ?_⟩
    have hm : ¬ (((l + l' : Nat) : Int) > IntKind.i64.max) := by
      have : IntKind.i64.max = 9223372036854775807 := by decide
      omega
    simp only [Go.binOp, Op.stringOp, bytes_size, if_neg hm, bytes_add, Sem.run_pure]
  | eql =>
    obtain ⟨n, l, rfl, hc2⟩ := onStr_some hc
    obtain ⟨n', l', rfl, hc3⟩ := onStr_some hc2
    cases hc3; cases hx; cases hy
    refine ⟨_, .bool _, ?_⟩
    simp only [Go.binOp, Op.stringOp, bytes_eqL, Sem.run_pure]
  | neq =>
    obtain ⟨n, l, rfl, hc2⟩ := onStr_some hc
    obtain ⟨n', l', rfl, hc3⟩ := onStr_some hc2
    cases hc3; cases hx; cases hy
    refine ⟨_, .bool _, ?_⟩
    simp only [Go.binOp, Op.stringOp, bytes_eqL, Sem.run_pure]
    cases strEq n l n' l' <;> rfl
  | _ => cases hc
end Go.Ax
