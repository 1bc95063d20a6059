/- Part of an abstract executor of the model's machine, and of its law (S6). -/
import Derived.Test.YtlfocffihiephaaGreatDoorXS5
namespace Go.Ax
open Go.RowKit (Below)
variable {D : Nat → Nat} {base : Nat} {w0 : World} {E : En} {h : H} {nx : Nat} {w : World}

theorem strB_strN (l : List UInt8) : strB (strN l) l.length = l := by
  induction l with
  | nil => rfl
  | cons c l ih =>
    show strB (c.toNat + 256 * strN l) (l.length + 1) = _
    have h1 : (c.toNat + 256 * strN l) / 256 = strN l := by have := c.toNat_lt; omega
    have h2 : UInt8.ofNat (c.toNat + 256 * strN l) = c := by
      apply UInt8.toNat_inj.1
      have := c.toNat_lt
      simp
    simp only [strB, h1, h2, ih]

theorem strB_len (n l : Nat) : (strB n l).length = l := by
  induction l generalizing n with
  | zero => rfl
  | succ l ih => simp [strB, ih]

theorem strB_get (n l i : Nat) (hi : i < l) : (strB n l)[i]? = some (UInt8.ofNat (n / 256 ^ i)) := by
  induction l generalizing n i with
  | zero => omega
  | succ l ih =>
    cases i with
    | zero => simp [strB]
    | succ i =>
      simp only [strB, List.getElem?_cons_succ]
      rw [ih (n / 256) i (by omega), Nat.div_div_eq_div_mul, Nat.pow_succ, Nat.mul_comm]

theorem strB_mod (n l : Nat) : strB (n % 256 ^ l) l = strB n l := by
  induction l generalizing n with
  | zero => rfl
  | succ l ih =>
    have h1 : n % 256 ^ (l + 1) / 256 = n / 256 % 256 ^ l := by
      rw [Nat.pow_succ, Nat.mul_comm, Nat.mod_mul_right_div_self]
    have h2 : UInt8.ofNat (n % 256 ^ (l + 1)) = UInt8.ofNat n := by
      apply UInt8.toNat_inj.1
      simp only [UInt8.toNat_ofNat']
      rw [Nat.pow_succ, Nat.mul_comm]
      exact Nat.mod_mul_right_mod n 256 _
    simp only [strB, h1, h2, ih]

theorem strB_inj (n m l : Nat) (hs : strB n l = strB m l) : n % 256 ^ l = m % 256 ^ l := by
  induction l generalizing n m with
  | zero => simp [Nat.mod_one]
  | succ l ih =>
    simp only [strB, List.cons.injEq] at hs
    have h1 := ih _ _ hs.2
    have h2 : n % 256 = m % 256 := by
      have := congrArg UInt8.toNat hs.1
      simpa [UInt8.toNat_ofNat'] using this
    rw [Nat.pow_succ, Nat.mul_comm, Nat.mod_mul, Nat.mod_mul, h1, h2]

theorem strEq_eq (n1 l1 n2 l2 : Nat) : strEq n1 l1 n2 l2 = decide (strB n1 l1 = strB n2 l2) := by
  unfold strEq
  rw [Bool.eq_iff_iff, decide_eq_true_iff, bc_ite]
  split
  · rename_i hl
    have hl := beq_eq hl
    subst hl
    rw [bc_ite]
    split
    · rename_i hn; have hn := beq_eq hn; subst hn; simp
    · constructor
      · intro he
        have he : n1 % 256 ^ l1 = n2 % 256 ^ l1 := beq_eq he
        rw [← strB_mod n1, ← strB_mod n2, he]
      · intro he
        have := strB_inj _ _ _ he
        show Nat.beq (n1 % 256 ^ l1) (n2 % 256 ^ l1) = true
        rw [this, Nat.beq_refl]
  · rename_i hl
    constructor
    · intro hc; cases hc
    · intro he
      have := congrArg List.length he
      rw [strB_len, strB_len] at this
      subst this
      exact absurd (Nat.beq_refl _) hl

theorem ofVL_sound {E : En} (f : Value → AV) : ∀ (l : List Value), (∀ v ∈ l, VR E (f v) v) → VRL E (ofVL f l) l
  | [], _ => .nil
  | v :: l, hv => .cons (hv v (by simp)) (ofVL_sound f l fun u hu => hv u (by simp [hu]))

theorem ofFn_sound {E : En} : ∀ f : Fn, (∀ l, f ≠ .yield l) → FnR E f f
  | .func f, _ => .func f
  | .method n, _ => .method n
  | .methodOf t n, _ => .methodOf t n
  | .via t p f b, _ => .via t p f b
  | .yield l, h => absurd rfl (h l)

theorem ofVF_sound {E : En} : ∀ (f : Nat) (v : Value), okVF f v = true → VR E (ofVF f v) v
  | 0, v, h => by cases h
  | f + 1, v, h => by
    unfold ofVF
    split
    · exact .bool _
    · rename_i k n
      have := VR.int (E := E) (kc k) n
      rwa [kd_kc] at this
    · rename_i s
      have := VR.str (E := E) (strN s.data.toList) s.data.toList.length
      rwa [strB_strN] at this
    · exact .nilp
    · exact .nils
    · exact .nilm
    · exact .nilf
    · exact .nili
    · rename_i fn a b
      split
      · exact .cst _ rfl
      · rename_i hny
        simp only [okVF, Bool.and_eq_true, List.all_eq_true] at h
        have h1 := ofVL_sound (E := E) (ofVF f) a.toList (fun v hv => ofVF_sound f v (h.1 v hv))
        have h2 := ofVL_sound (E := E) (ofVF f) b.toList (fun v hv => ofVF_sound f v (h.2 v hv))
        have := VR.fn (ofFn_sound (E := E) fn hny) h1 h2
        simpa using this
    · rename_i l
      simp only [okVF, List.all_eq_true] at h
      have := VR.agg (ofVL_sound (E := E) (ofVF f) l.toList (fun v hv => ofVF_sound f v (h v hv)))
      simpa using this
    · rename_i l
      simp only [okVF, List.all_eq_true] at h
      have := VR.tup (ofVL_sound (E := E) (ofVF f) l.toList (fun v hv => ofVF_sound f v (h v hv)))
      simpa using this
    · rename_i h1 h2 h3 h4 h5 h6 h7 h8 h9 h10 h11
      refine .cst _ ?_
      cases v <;> first | rfl | exact absurd rfl (h10 _) | exact absurd rfl (h11 _)
theorem ofV_sound (E : En) {v : Value} (h : okV v = true) : VR E (ofV v) v := ofVF_sound 8 v h
theorem ofVs_sound (E : En) {v : Value} (h : v.cells.toList.all okV = true) : VRL E (ofVs v) v.cells.toList :=
  ofVL_sound ofV _ fun _ hu => ofV_sound E (List.all_eq_true.1 h _ hu)

theorem undef_sound (E : En) : VR E undef Go.undef := .tup .nil

/-- the cells of a value -/
theorem acells_sound {v : AV} {V : Value} (hv : VR E v V) : VRL E (acells v) V.cells.toList := by
  have one : vone V = true → V.cells.toList = [V] := fun h => by cases V <;> first | rfl | cases h
  cases hv with
  | agg hl => simpa [acells, onAgg, Value.cells] using hl
  | cst _ h1 => rw [one h1]; exact .cons (.cst V h1) .nil
  | ext k => rw [one (E.hx k)]; exact .cons (.ext k) .nil
  | int k n => exact .cons (.int k n) .nil
  | bool b => exact .cons (.bool b) .nil
  | ptr o e => exact .cons (.ptr o e) .nil
  | str n l => exact .cons (.str n l) .nil
  | sl o n k e => exact .cons (.sl o n k e) .nil
  | slx o i n e => exact .cons (.slx o i n e) .nil
  | tup l => exact .cons (.tup l) .nil
  | fn f a c => exact .cons (.fn f a c) .nil
  | iface t x => exact .cons (.iface t x) .nil
  | nilp => exact .cons .nilp .nil
  | nils => exact .cons .nils .nil
  | nilm => exact .cons .nilm .nil
  | nilf => exact .cons .nilf .nil
  | nili => exact .cons .nili .nil
  | map e => exact .cons (.map e) .nil
  | slz o i l sz e => exact .cons (.slz o i l sz e) .nil
end Go.Ax
