/- Part of an abstract executor of the model's machine, and of its law (S11). -/
import Derived.Test.YtlfocffihiephaaGreatDoorXS10
namespace Go.Ax
open Go.RowKit (Below)
variable {P : Program} {D : Nat → Nat} {base : Nat} {w0 : World} {E : En} {h : H} {nx : Nat} {w : World}
variable {K : AV → H → Nat → O} {r : St} {mask : Nat} {names : List Tmp} {tm : Tm} {e : List AV} {ρ : Operand → Value} {o : Oper}

theorem boundsN_some {v : AV} {y n : Nat} (h : boundsN v y = some n) : ∃ k, v = .int k (.ofNat n) ∧ n ≤ y := by
  obtain ⟨k, n', rfl, h⟩ := onNat_some h
  obtain ⟨h1, h2⟩ := bc_some h
  cases h2
  exact ⟨k, rfl, Nat.le_of_ble_eq_true h1⟩

theorem run_bound {E : En} {v : AV} {V : Value} {y n : Nat} {c : BoundsCode} (hv : VR E v V) (h : boundsN v y = some n) (w : World) :
    (Instr.sliceBound V y c).run P w = .ok n w ∧ n ≤ y := by
  obtain ⟨k, rfl, hle⟩ := boundsN_some h
  cases hv
  refine ⟨?_, hle⟩
  simp [Instr.sliceBound, asIntOf, hle]

/-- a bound that may be left out -/
inductive OR (E : En) : Option AV → Option Value → Prop where
  | none : OR E none none
  | some {v : AV} {V : Value} (h : VR E v V) : OR E (some v) (some V)

theorem bounds_sound {E : En} {isS : Bool} {n c m hh l : Nat} {lo hi mx : Option AV} {LO HI MX : Option Value} (hl : OR E lo LO) (hH : OR E hi HI) (hm : OR E mx MX)
    (e1 : Option.rec (motive := fun _ => Option Nat) (some c) (fun v => boundsN v c) mx = some m)
    (e2 : Option.rec (motive := fun _ => Option Nat) (Option.rec (motive := fun _ => Option Nat) (some n) (fun _ => none) mx) (fun v => boundsN v m) hi = some hh)
    (e3 : Option.rec (motive := fun _ => Option Nat) (some 0) (fun v => boundsN v hh) lo = some l) (w : World) :
    (Instr.sliceBounds isS n c LO HI MX).run P w = .ok (l, hh, m) w := by
  cases hm with
  | none =>
    cases e1
    cases hH with
    | none =>
      cases e2
      cases hl with
      | none => cases e3; simp [Instr.sliceBounds]
      | some h3 => simp [Instr.sliceBounds, (run_bound h3 e3 w).1]
    | some h2 =>
      cases hl with
      | none => cases e3; simp [Instr.sliceBounds, (run_bound h2 e2 w).1]
      | some h3 => simp [Instr.sliceBounds, (run_bound h3 e3 w).1, (run_bound h2 e2 w).1]
  | some h1 =>
    cases hH with
    | none => cases e2
    | some h2 =>
      cases hl with
      | none => cases e3; simp [Instr.sliceBounds, (run_bound h1 e1 w).1, (run_bound h2 e2 w).1]
      | some h3 => simp [Instr.sliceBounds, (run_bound h1 e1 w).1, (run_bound h3 e3 w).1, (run_bound h2 e2 w).1]

theorem sliceEx_sound {b o n c sz q C : Nat} {isS : Bool} {lo hi mx : Option AV} {LO HI MX : Option Value} (hl : OR E lo LO) (hH : OR E hi HI) (hm : OR E mx MX) (hb : E.m b = some (C, q))
    {v : AV} (hs : sliceEx b o n c sz lo hi mx = some v) :
    ∃ l hh m, (∀ w, (Instr.sliceBounds isS n c LO HI MX).run P w = .ok (l, hh, m) w) ∧
      VR E v (.slice (some (if m = l then ⟨C, o, none⟩ else (⟨C, o, none⟩ : Addr).add (l * sz))) (hh - l) (m - l)) := by
  obtain ⟨m, e1, hs⟩ := ob_some' hs
  obtain ⟨hh, e2, hs⟩ := ob_some' hs
  obtain ⟨l, e3, hs⟩ := ob_some' hs
  cases hs
  refine ⟨l, hh, m, bounds_sound hl hH hm e1 e2 e3, ?_⟩
  rw [bc_ite]
  by_cases hml : m = l
  · rw [if_pos hml, if_pos (by rw [hml]; exact Nat.beq_refl l)]
    exact .sl _ _ _ hb
  · rw [if_neg hml, if_neg (fun hx => hml (Nat.eq_of_beq_eq_true hx)), add_lit]
    exact .sl _ _ _ hb

/-- a capacity is what it is: at least k -/
theorem kminOf_sound (R : HR D base w0 E h nx w) {b C q k : Nat} (hb : E.m b = some (C, q)) (hk : kminOf h b = some k) : k ≤ q := by
  rcases onCells_some hk with ⟨x, t, n, hx, hg⟩ | ⟨x, t, sz, k', hx, hg⟩
  · cases hg
  · cases hg
    obtain ⟨_, ob, ho, br⟩ := R.get hb hx
    cases br
    assumption

theorem boundsN_mono {v : AV} {k c n : Nat} (h : boundsN v k = some n) (hk : k ≤ c) : boundsN v c = some n := by
  obtain ⟨a, rfl, hle⟩ := boundsN_some h
  show bc (Nat.ble n c) (some n) none = some n
  rw [bc_ite, if_pos (Nat.ble_eq_true_of_le (Nat.le_trans hle hk))]

theorem sliceGr_sound {b o i n k sz q C : Nat} {lo hi mx : Option AV} {LO HI MX : Option Value} (hl : OR E lo LO) (hH : OR E hi HI) (hm : OR E mx MX) (hb : E.m b = some (C, q))
    (hkq : k ≤ q - i) {v : AV} (hs : sliceGr b o i n k sz lo hi mx = some v) :
    ∃ l hh m, (∀ w, (Instr.sliceBounds true n (q - i) LO HI MX).run P w = .ok (l, hh, m) w) ∧
      VR E v (.slice (some (if m = l then ⟨C, o, none⟩ else (⟨C, o, none⟩ : Addr).add (l * sz))) (hh - l) (m - l)) := by
  cases hm with
  | none =>
    have hs : ob (Option.rec (some n) (fun v => boundsN v k) hi) (fun hh => ob (Option.rec (some 0) (fun v => boundsN v hh) lo) fun l =>
       bc (Nat.beq l 0) (some (.slx b o i hh))
        (bc (Nat.blt l k) (some (.slx b (Nat.add o (Nat.mul l sz)) (Nat.add i l) (Nat.sub hh l)))
          (bc (Nat.beq l hh) (some (.m (.slz b o i l sz))) none))) = some v := hs
    obtain ⟨hh, e2, hs⟩ := ob_some' hs
    obtain ⟨l, e3, hs⟩ := ob_some' hs
    have e2' : Option.rec (motive := fun _ => Option Nat) (some n) (fun v => boundsN v (q - i)) hi = some hh := by
      cases hH with
      | none => exact e2
      | some _ => exact boundsN_mono e2 hkq
    refine ⟨l, hh, q - i, bounds_sound hl hH .none rfl e2' e3, ?_⟩
    rw [bc_ite] at hs
    split at hs
    · rename_i h0
      have h0 : l = 0 := Nat.eq_of_beq_eq_true h0
      cases hs
      subst h0
      have : (if q - i = 0 then (⟨C, o, none⟩ : Addr) else (⟨C, o, none⟩ : Addr).add (0 * sz)) = ⟨C, o, none⟩ := by split <;> simp [add_lit]
      rw [this]
      exact .slx _ _ _ hb
    · rw [bc_ite] at hs
      split at hs
      · rename_i hlt
        have hlt : l < k := blt_lt hlt
        cases hs
        rw [if_neg (by omega), add_lit, show q - i - l = q - (i + l) by omega]
        exact .slx _ _ _ hb
      · rw [bc_ite] at hs
        split at hs
        · rename_i heq
          have heq : l = hh := Nat.eq_of_beq_eq_true heq
          cases hs
          subst heq
          have := VR.slz (E := E) o i l sz hb
          rw [add_lit, Nat.sub_self]
          rwa [show (if q - i = l then (⟨C, o, none⟩ : Addr) else ⟨C, o + l * sz, none⟩) = ⟨C, if q - i = l then o else o + l * sz, none⟩ by split <;> rfl]
        · cases hs
  | @some mv MV h1 =>
    have hs : ob (boundsN mv k) (fun m => ob hi fun hv => ob (boundsN hv m) fun hh => ob (Option.rec (some 0) (fun v => boundsN v hh) lo) fun l =>
      some (.sl b (bc (Nat.beq m l) o (Nat.add o (Nat.mul l sz))) (Nat.sub hh l) (Nat.sub m l))) = some v := hs
    obtain ⟨m, e1, hs⟩ := ob_some' hs
    obtain ⟨hv, ehi, hs⟩ := ob_some' hs
    obtain ⟨hh, e2, hs⟩ := ob_some' hs
    obtain ⟨l, e3, hs⟩ := ob_some' hs
    cases hs
    subst ehi
    refine ⟨l, hh, m, bounds_sound hl hH (.some h1) (boundsN_mono e1 hkq) e2 e3, ?_⟩
    rw [bc_ite]
    by_cases hml : m = l
    · rw [if_pos hml, if_pos (by rw [hml]; exact Nat.beq_refl l)]
      exact .sl _ _ _ hb
    · rw [if_neg hml, if_neg (fun hx => hml (Nat.eq_of_beq_eq_true hx)), add_lit]
      exact .sl _ _ _ hb

theorem strB_slice (n l lo hh : Nat) (h1 : lo ≤ hh) (h2 : hh ≤ l) :
    ((strB n l).drop lo).take (hh - lo) = strB (n / 256 ^ lo % 256 ^ (hh - lo)) (hh - lo) := by
  rw [strB_mod]
  apply List.ext_getElem?
  intro i
  rw [List.getElem?_take]
  split
  · rename_i hi
    rw [List.getElem?_drop, strB_get n l (lo + i) (by omega), strB_get _ _ i hi, Nat.div_div_eq_div_mul, ← Nat.pow_add]
  · rename_i hi
    rw [List.getElem?_eq_none (by rw [strB_len]; omega)]

theorem vres_some {x : Option AV} {K : AV → H → Nat → O} (hk : vres x h nx K = some r) : ∃ v, x = some v ∧ K v h nx = some r := by
  cases x with
  | none => cases hk
  | some v => exact ⟨v, rfl, hk⟩

theorem zeroN_some {v : Option AV} (h : zeroN v = true) : v = none ∨ ∃ k, v = some (.int k (.ofNat 0)) := by
  cases v with
  | none => exact .inl rfl
  | some v =>
    right
    cases v <;> first | cases h | skip
    rename_i k n
    cases n <;> first | cases h | skip
    rename_i n
    have : n = 0 := Nat.eq_of_beq_eq_true h
    subst this
    exact ⟨k, rfl⟩

theorem zero_bounds {lo hi mx : Option AV} {LO HI MX : Option Value} (hl : OR E lo LO) (hH : OR E hi HI) (hm : OR E mx MX) (h1 : zeroN lo = true) (h2 : zeroN hi = true) (h3 : zeroN mx = true)
    (h4 : mx = none ∨ ∃ x, hi = some x) (w : World) : (Instr.sliceBounds true 0 0 LO HI MX).run P w = .ok (0, 0, 0) w := by
  have key : ∀ {v : Option AV} (y : Nat), zeroN v = true → ∀ x, v = some x → boundsN x y = some 0 := by
    intro v y hz x hx
    rcases zeroN_some hz with rfl | ⟨k, rfl⟩
    · cases hx
    · cases hx; show bc (Nat.ble 0 y) (some 0) none = some 0; rw [bc_ite, if_pos (Nat.ble_eq_true_of_le (Nat.zero_le y))]
  refine bounds_sound (m := 0) (hh := 0) (l := 0) hl hH hm ?_ ?_ ?_ w
  · cases mx with
    | none => rfl
    | some x => exact key 0 h3 x rfl
  · cases hi with
    | none => rcases h4 with rfl | ⟨x, hx⟩
              · rfl
              · cases hx
    | some x => exact key 0 h2 x rfl
  · cases lo with
    | none => rfl
    | some x => exact key 0 h1 x rfl

theorem opdo_sound (ho : Ops E mask names tm e ρ o) {v : Option Operand} (hv : ∀ x, v = some x → x ∈ o.op.operands.toList) : OR E ((opdo mask names v).g tm e) (v.map ρ) := by
  cases v with
  | none => exact .none
  | some x => exact .some (ho x (hv x rfl))

section
variable (R : HR D base w0 E h nx w) (ho : Ops E mask names tm e ρ o) (hr : (cop P mask names o).f tm e h nx K = some r)
include R ho hr

theorem cop_slice {t : TypeId} {x : Operand} {lo hi mx : Option Operand} (hop : o.op = .slice t x lo hi mx) : PuOk P E h nx w (execOp ρ o) K r := by
  have h1 := ho x (by simp [hop, Op.operands])
  have hl : OR E ((opdo mask names lo).g tm e) (lo.map ρ) := opdo_sound ho (fun y hy => by subst hy; simp [hop, Op.operands])
  have hH : OR E ((opdo mask names hi).g tm e) (hi.map ρ) := opdo_sound ho (fun y hy => by subst hy; simp [hop, Op.operands])
  have hm : OR E ((opdo mask names mx).g tm e) (mx.map ρ) := opdo_sound ho (fun y hy => by subst hy; simp [hop, Op.operands])
  simp only [cop, hop] at hr
  obtain ⟨v, hv, hk⟩ := vres_some hr
  clear hr
  have main : ∃ V, VR E v V ∧ (Instr.sliceAt t (ρ x) (lo.map ρ) (hi.map ρ) (mx.map ρ)).run P w = .ok V w := by
    generalize (opdo mask names lo).g tm e = alo at *
    generalize (opdo mask names hi).g tm e = ahi at *
    generalize (opdo mask names mx).g tm e = amx at *
    generalize lo.map ρ = LO at *
    generalize hi.map ρ = HI at *
    generalize mx.map ρ = MX at *
    generalize ρ x = C at *
    generalize (opd mask names x).g tm e = c at *
    unfold cslice at hv
    cases hU : P.underlying t with
    | none => rw [hU] at hv; cases hv
    | some d =>
      rw [hU] at hv
      cases d with
      | string =>
        simp only at hv
        obtain ⟨n, l, rfl, hv⟩ := onStr_some hv
        cases h1
        cases hm with
        | some h => cases hv
        | none =>
          have hv : ob (Option.rec (some l) (fun v => boundsN v l) ahi) (fun hh => ob (Option.rec (some 0) (fun v => boundsN v hh) alo) fun lw =>
            some (AV.str (Nat.mod (Nat.div n (Nat.pow 256 lw)) (Nat.pow 256 (Nat.sub hh lw))) (Nat.sub hh lw))) = some v := hv
          obtain ⟨hh, e2, hv⟩ := ob_some' hv
          obtain ⟨lw, e3, hv⟩ := ob_some' hv
          cases hv
          have hb : (Instr.sliceBounds false l l LO HI none).run P w = .ok (lw, hh, l) w := bounds_sound hl hH .none rfl e2 e3 w
          have hhl : hh ≤ l := by
            cases hH with
            | none => cases e2; exact Nat.le_refl _
            | some _ => exact (boundsN_some e2).choose_spec.2
          have hlh : lw ≤ hh := by
            cases hl with
            | none => cases e3; exact Nat.zero_le _
            | some _ => exact (boundsN_some e3).choose_spec.2
          refine ⟨.string ⟨(strB (n / 256 ^ lw % 256 ^ (hh - lw)) (hh - lw)).toArray⟩, .str _ _, ?_⟩
          have hsz : (⟨(strB n l).toArray⟩ : ByteArray).size = l := by show (strB n l).toArray.size = l; simp [strB_len]
          have hex : (⟨(strB n l).toArray⟩ : ByteArray).extract lw hh = ⟨(strB (n / 256 ^ lw % 256 ^ (hh - lw)) (hh - lw)).toArray⟩ := by
            apply ByteArray.ext
            rw [ByteArray.data_extract, ← strB_slice n l lw hh hlh hhl]
            apply Array.ext'
            simp [List.extract_eq_take_drop]
          simp [Instr.sliceAt, Instr.slice, run_under hU, hsz, hb, hex]
      | slice t' =>
        simp only at hv
        cases hi : tinfo P t' with
        | none => rw [hi] at hv; cases hv
        | some i =>
          rw [hi] at hv
          obtain ⟨I, hI, _, hsz, _, _, _⟩ := tinfo_some hi
          rcases onSl_some hv with ⟨b, off, n, c, rfl, hv⟩ | ⟨b, off, i', n, rfl, hv⟩ | ⟨m, rfl, hv⟩
          · cases h1 with
            | sl _ _ _ he =>
              obtain ⟨l, hh, m, hb, hvr⟩ := sliceEx_sound (P := P) (isS := true) hl hH hm he hv
              refine ⟨_, hvr, ?_⟩
              rw [hsz]
              by_cases hml : m = l <;> simp [Instr.sliceAt, Instr.slice, run_under hU, run_size hI, hb, hml]
          · cases h1 with
            | slx _ _ _ he =>
              obtain ⟨k, hk, hv⟩ := ob_some' hv
              have := kminOf_sound R he hk
              obtain ⟨l, hh, m, hb, hvr⟩ := sliceGr_sound (P := P) hl hH hm he (by show Nat.sub k i' ≤ _; have : Nat.sub k i' = k - i' := rfl; omega) hv
              refine ⟨_, hvr, ?_⟩
              rw [hsz]
              by_cases hml : m = l <;> simp [Instr.sliceAt, Instr.slice, run_under hU, run_size hI, hb, hml]
          · obtain ⟨rfl, hv⟩ := onNils_some hv
            cases h1
            obtain ⟨z1, hv⟩ := bc_some hv
            obtain ⟨z2, hv⟩ := bc_some hv
            obtain ⟨z3, hv⟩ := bc_some hv
            have h4 : (amx = none ∨ ∃ x, ahi = some x) ∧ v = .m .nils := by
              cases ahi with
              | none =>
                cases amx with
                | none => exact ⟨.inl rfl, (Option.some.inj hv).symm⟩
                | some _ => cases hv
              | some y => exact ⟨.inr ⟨y, rfl⟩, (Option.some.inj hv).symm⟩
            obtain ⟨h4, rfl⟩ := h4
            have hb := zero_bounds (P := P) hl hH hm z1 z2 z3 h4
            refine ⟨_, .nils, ?_⟩
            simp [Instr.sliceAt, Instr.slice, run_under hU, run_size hI, hb]
      | array n t' =>
        simp only at hv
        cases hi : tinfo P t' with
        | none => rw [hi] at hv; cases hv
        | some i =>
          rw [hi] at hv
          obtain ⟨I, hI, _, hsz, _, _, _⟩ := tinfo_some hi
          obtain ⟨b, off, rfl, hv⟩ := onPtr_some hv
          cases h1 with
          | ptr _ he =>
            obtain ⟨l, hh, m, hb, hvr⟩ := sliceEx_sound (P := P) (isS := false) hl hH hm he hv
            refine ⟨_, hvr, ?_⟩
            rw [hsz]
            simp [Instr.sliceAt, Instr.sureAddr, run_under hU, run_size hI, hb]
      | _ => cases hv
  obtain ⟨V, hvr, hrun⟩ := main
  exact .pure R hk hvr (by simp [execOp, hop, hrun])
end
end Go.Ax
