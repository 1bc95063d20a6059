/- Part of an abstract executor of the model's machine, and of its law (S8). -/
import Derived.Test.YtlfocffihiephaaGreatDoorXS7
import Derived.Laws.Bits
import Derived.IntWalk
namespace Go.Ax
open Go.RowKit (Below)
variable {P : Program} {D : Nat → Nat} {base : Nat} {w0 : World} {E : En} {h : H} {nx : Nat} {w : World}
variable {K : AV → H → Nat → O} {r : St} {mask : Nat} {names : List Tmp} {tm : Tm} {e : List AV} {ρ : Operand → Value} {o : Oper}

theorem wrapQ_eq (k : Nat) (n : Int) : wrapQ k n = (kd k).wrap n := by
  have h3 : ∀ {k : Nat}, Nat.beq k 3 = true → kd k = .i64 := fun hk => by have := beq_eq hk; subst this; rfl
  cases n with
  | ofNat m =>
    show bc (Nat.ble m 127) (.ofNat m) (bc (Nat.beq k 3) (bc (Nat.ble m 9223372036854775807) (.ofNat m) ((kd k).wrap (.ofNat m))) ((kd k).wrap (.ofNat m))) = _
    rw [bc_ite, bc_ite, bc_ite]
    split
    · rename_i hm
      have hm := ble_le hm
      have : ∀ k : IntKind, k.wrap (Int.ofNat m) = Int.ofNat m := by
        intro k
        simp only [Int.ofNat_eq_natCast]
        cases k <;> simp [IntKind.wrap, IntKind.bits, IntKind.signed] <;> omega
      exact (this _).symm
    · split
      · rename_i hk
        rw [h3 hk]
        split
        · rename_i hm
          have hm := ble_le hm
          simp only [Int.ofNat_eq_natCast]
          simp [IntKind.wrap, IntKind.bits, IntKind.signed]
          omega
        · rfl
      · rfl
  | negSucc m =>
    show bc (Nat.beq k 3) (bc (Nat.ble m 9223372036854775807) (.negSucc m) ((kd k).wrap (.negSucc m))) ((kd k).wrap (.negSucc m)) = _
    rw [bc_ite, bc_ite]
    split
    · rename_i hk
      rw [h3 hk]
      split
      · rename_i hm
        have hm := ble_le hm
        exact (IntWalk.i64_in _ (by simp only [Int.negSucc_eq]; omega)).symm
      · rfl
    · rfl

theorem nilChk_some {v : AV} {k : O} (hr : nilChk v k none = some r) : k = some r ∧ ((∃ b o, v = .ptr b o) ∨ (∃ f a c, v = .fn f a c ∧ (∀ n, f ≠ .method n)) ∨ (∃ t x, v = .iface t x) ∨ ∃ b, v = .m (.map b)) := by
  cases v with
  | ptr b o => exact ⟨hr, .inl ⟨_, _, rfl⟩⟩
  | fn f a c => cases f <;> first | exact ⟨hr, .inr (.inl ⟨_, _, _, rfl, fun n hn => by cases hn⟩)⟩ | cases hr
  | iface t x => exact ⟨hr, .inr (.inr (.inl ⟨_, _, rfl⟩))⟩
  | m x => cases x <;> first | exact ⟨hr, .inr (.inr (.inr ⟨_, rfl⟩))⟩ | cases hr
  | _ => cases hr

theorem map_arr {α β : Type} (f : α → β) (a : Array α) : a.map f = (a.toList.map f).toArray := by rw [← Array.toList_map]

theorem natOf_ofNat (n : Nat) : (Int.ofNat n).toNat = n := rfl

theorem zerosN_len (z : List AV) (n : Nat) : (zerosN z n).length = n * z.length := by
  induction n with
  | zero => show ([] : List AV).length = _; simp
  | succ n ih => show (app z (zerosN z n)).length = _; rw [app_eq]; simp [ih, Nat.succ_mul]; omega
theorem zerosN_sound {E : En} {z : List AV} {Z : List Value} (hz : VRL E z Z) : ∀ n, VRL E (zerosN z n) ((List.replicate n Z).flatten)
  | 0 => .nil
  | n + 1 => by
    show VRL E (app z (zerosN z n)) _
    rw [app_eq, List.replicate_succ, List.flatten_cons]
    exact hz.append (zerosN_sound hz n)
/-- zeros as the model lays them -/
theorem zeros_model (Z : Array Value) (n : Nat) : (Array.range (n * Z.size)).map (fun i => Z[i % Z.size]!) = ((List.replicate n Z.toList).flatten).toArray := by
  apply Array.ext'
  simp only [Array.toList_map, Array.toList_range]
  induction n with
  | zero => simp
  | succ n ih =>
    rw [Nat.succ_mul, Nat.add_comm, List.range_add, List.map_append, List.replicate_succ, List.flatten_cons]
    congr 1
    · apply List.ext_getElem?
      intro i
      by_cases hi : i < Z.size
      · simp [hi, Nat.mod_eq_of_lt hi]
      · simp [hi]
    · rw [← ih]
      simp [List.map_map, Function.comp_def]

section
variable (R : HR D base w0 E h nx w) (ho : Ops E mask names tm e ρ o) (hr : (cop P mask names o).f tm e h nx K = some r)
include R ho hr

theorem cop_store {t : TypeId} {a x : Operand} (hop : o.op = .store t a x) : OpOk P D base w0 E h nx w (execOp ρ o) K r := by
  simp only [cop, hop] at hr
  have h1 := ho a (by simp [hop, Op.operands])
  have h2 := ho x (by simp [hop, Op.operands])
  cases hi : tinfo P t with
  | none => rw [hi] at hr; cases hr
  | some i =>
    rw [hi] at hr
    obtain ⟨I, hI, hU, hsz, hby, hag, hz⟩ := tinfo_some hi
    simp only at hr
    obtain ⟨b, off, hp, hr⟩ := onPtr_some hr
    obtain ⟨hlen, hr⟩ := bc_some hr
    obtain ⟨h', hs, hk⟩ := ob_some' hr
    rw [hp] at h1
    generalize hρ : ρ a = C at h1
    have hL := acells_sound h2
    cases h1 with
    | ptr _ he =>
      obtain ⟨w', hrun, hR, hother⟩ := storeB_sound R he hs hL
      refine .mem hR hk (undef_sound E) (fun k hk1 hk2 => hother k (fun hkb => by subst hkb; rw [he] at hk2; cases hk2)) (.inr ⟨?_, rfl⟩)
      have hlen := beq_eq hlen
      rw [llen_eq, ← hL.len] at hlen
      have hl2 : (ρ x).cells.size = I.size := by rw [← hsz, ← hlen]; simp
      simp [execOp, hop, Instr.storeAt, Instr.sureAddr, hρ, storeVar, run_size hI, hl2, hrun P]

theorem cop_nilCheck {x : Operand} (hop : o.op = .nilCheck x) : PuOk P E h nx w (execOp ρ o) K r := by
  simp only [cop, hop] at hr
  have h1 := ho x (by simp [hop, Op.operands])
  obtain ⟨hk, hv⟩ := nilChk_some hr
  refine .pure R hk h1 ?_
  generalize (opd mask names x).g tm e = v at *
  generalize hρ : ρ x = C at *
  rcases hv with ⟨b, off, rfl⟩ | ⟨f, a, c, rfl, hf⟩ | ⟨t, y, rfl⟩ | ⟨b, rfl⟩
  · cases h1; simp [execOp, hop, hρ]
  · cases h1 with
    | fn hf' _ _ =>
      cases hf' with
      | method n => exact absurd rfl (hf n)
      | _ => simp [execOp, hop, hρ]
  · cases h1; simp [execOp, hop, hρ]
  · cases h1; simp [execOp, hop, hρ]

theorem cop_unOp {op : UnOp} {t : TypeId} {x : Operand} (hop : o.op = .unOp op t x) : PuOk P E h nx w (execOp ρ o) K r := by
  have h1 := ho x (by simp [hop, Op.operands])
  simp only [cop, hop] at hr
  cases op with
  | not =>
    obtain ⟨b, hb, hk⟩ := onBool_some hr
    rw [hb] at h1
    generalize hρ : ρ x = C at *
    cases h1
    exact .pure R hk (.bool _) (by simp [execOp, hop, hρ, Op.unary, bnot, bc_ite])
  | neg =>
    obtain ⟨k, n, hb, hk⟩ := onInt_some hr
    rw [hb] at h1
    generalize hρ : ρ x = C at *
    cases h1
    refine .pure R hk (.int _ _) (by simp [execOp, hop, hρ, Op.unary, Op.intArith, wrapQ_eq, show Int.sub 0 n = -n from by show 0 - n = -n; omega])
  | _ => cases hr

theorem cop_makeInterface {t : TypeId} {x : Operand} (hop : o.op = .makeInterface t x) : PuOk P E h nx w (execOp ρ o) K r := by
  have h1 := ho x (by simp [hop, Op.operands])
  simp only [cop, hop] at hr
  cases hU : P.underlying t with
  | none => rw [hU] at hr; cases hr
  | some d =>
    rw [hU] at hr
    cases hI : isI (some d) with
    | true => rw [hI] at hr; cases hr
    | false =>
      rw [hI] at hr
      refine .pure R hr (.iface t h1) ?_
      have : ∀ ms, d ≠ .interface ms := fun ms hd => by subst hd; cases hI
      simp only [execOp, hop, Instr.makeInterface, Sem.run_bind, run_under hU, Result.andThen_ok]
      cases d <;> first | rfl | exact absurd rfl (this _)

theorem cop_makeFunc {fn : Fn} {a c : Array Operand} (hop : o.op = .makeFunc fn a c) : PuOk P E h nx w (execOp ρ o) K r := by
  have hny : ∀ l, fn ≠ .yield l := fun l hl => by subst hl; simp only [cop, hop] at hr; cases hr
  have hr : K (AV.fn fn ((opds mask names a.toList).g tm e) ((opds mask names c.toList).g tm e)) h nx = some r := by
    cases fn <;> first | exact absurd rfl (hny _) | simpa only [cop, hop] using hr
  have h1 := opds_sound (E := E) (mask := mask) (names := names) (tm := tm) (e := e) (ρ := ρ) a.toList (fun x hx => ho x (by rw [hop]; simp only [Op.operands, Array.toList_append, List.mem_append]; exact .inl hx))
  have h2 := opds_sound (E := E) (mask := mask) (names := names) (tm := tm) (e := e) (ρ := ρ) c.toList (fun x hx => ho x (by rw [hop]; simp only [Op.operands, Array.toList_append, List.mem_append]; exact .inr hx))
  refine .pure R hr (.fn (ofFn_sound fn hny) h1 h2) ?_
  simp [execOp, hop, Instr.makeFunc, map_arr]

theorem cop_extract {x : Operand} {i : Nat} (hop : o.op = .extract x i) : PuOk P E h nx w (execOp ρ o) K r := by
  have h1 := ho x (by simp [hop, Op.operands])
  simp only [cop, hop] at hr
  obtain ⟨l, hl, hr⟩ := onTup_some hr
  cases hv : lnth i l with
  | none => rw [hv] at hr; cases hr
  | some v =>
    rw [hv] at hr
    rw [hl] at h1
    generalize hρ : ρ x = C at *
    cases h1 with
    | tup hL =>
      obtain ⟨V, hV, hvr⟩ := hL.get i v (by rw [← lnth_eq]; exact hv)
      refine .pure R hr hvr ?_
      simp [execOp, hop, hρ, Instr.extract, hV]

theorem cop_fieldAddr {t : TypeId} {x : Operand} {f : Nat} (hop : o.op = .fieldAddr t x f) : PuOk P E h nx w (execOp ρ o) K r := by
  have h1 := ho x (by simp [hop, Op.operands])
  simp only [cop, hop] at hr
  cases hU : P.underlying t with
  | none => rw [hU] at hr; cases hr
  | some d =>
    rw [hU] at hr
    cases d with
    | struct fs =>
      simp only at hr
      cases hf : fs[f]? with
      | none => rw [hf] at hr; cases hr
      | some fd =>
        rw [hf] at hr
        simp only at hr
        cases hi : tinfo P fd.type with
        | none => rw [hi] at hr; cases hr
        | some i =>
          rw [hi] at hr
          obtain ⟨I, hI, _, hsz, _, _, _⟩ := tinfo_some hi
          simp only at hr
          cases hz : Nat.beq i.size 0 with
          | true => rw [hz] at hr; cases hr
          | false =>
            rw [hz] at hr
            obtain ⟨b, off, hp, hk⟩ := onPtr_some hr
            rw [hp] at h1
            generalize hρ : ρ x = C at *
            have hne : I.size ≠ 0 := by rw [← hsz]; exact beq_ne hz
            cases h1 with
            | ptr _ he =>
              refine .pure R hk (.ptr _ he) ?_
              simp [execOp, hop, hρ, Instr.fieldAt, run_under hU, hf, Instr.sureAddr, fieldPlace, run_size hI, hne, add_lit]
    | _ => cases hr
end
end Go.Ax
