/- Part of an abstract executor of the model's machine, and of its law (S16). -/
import Derived.Test.YtlfocffihiephaaGreatDoorXS15
namespace Go.Ax
open Go.RowKit (Below)
variable {P : Program} {D : Nat → Nat} {base : Nat} {w0 : World} {E : En} {h : H} {nx : Nat} {w : World}
variable {K : AV → H → Nat → O} {r : St} {mask : Nat} {names : List Tmp} {tm : Tm} {e : List AV} {ρ : Operand → Value} {o : Oper}

theorem EsR.setKey {k v : AV} {K V0 K0 : Value} {b0 : Nat} (hk : VR E k K) (hv : VR E v V0) : ∀ {es : List (AV × AV × Nat)} {Es : List MapEntry} (i : Nat), EsR E es Es → Es[i]? = some ⟨K0, V0, b0⟩ →
    EsR E (Go.Ax.setVal es i k v) (Es.modify i fun e => { e with key := K })
  | [], _, i, .nil, h => by simp at h
  | _ :: _, _, 0, .cons b _ _ t, h => by
    show EsR E (_ :: _) _
    simp only [List.getElem?_cons_zero, Option.some.injEq] at h
    cases h
    simp only [List.modify_zero_cons]; exact .cons _ hk hv t
  | _ :: _, _, i + 1, .cons b h1 h2 t, h => by
    show EsR E (_ :: Go.Ax.setVal _ i k v) _
    simp only [List.modify_succ_cons]
    exact .cons b h1 h2 (t.setKey hk hv i (by simpa using h))

theorem EsR.setV {v : AV} {V : Value} (hv : VR E v V) : ∀ {es : List (AV × AV × Nat)} {Es : List MapEntry} (i : Nat) {en : AV × AV × Nat}, EsR E es Es → entryAt es i = some en →
    EsR E (Go.Ax.setVal es i en.1 v) (Es.modify i fun e => { e with val := V })
  | [], _, i, _, .nil, h => by cases h
  | _ :: _, _, 0, _, .cons b h1 _ t, h => by
    cases h
    show EsR E (_ :: _) _
    simp only [List.modify_zero_cons]; exact .cons b h1 hv t
  | _ :: _, _, i + 1, en, .cons b h1 h2 t, h => by
    show EsR E (_ :: Go.Ax.setVal _ i en.1 v) _
    simp only [List.modify_succ_cons]
    exact .cons b h1 h2 (t.setV hv i (en := en) h)

theorem bornAt_sound (born : Nat) : ∀ {es : List (AV × AV × Nat)} {Es : List MapEntry} (i j : Nat), EsR E es Es → bornAt born es i = some j →
    i ≤ j ∧ Es.findIdx? (fun e => (e.born : Int) == Int.ofNat born) = some (j - i)
  | [], _, _, _, .nil, h => by cases h
  | (_, _, b) :: es, _, i, j, .cons _ _ _ t, h => by
    have h : bc (Nat.beq b born) (some i) (bornAt born es (i + 1)) = some j := h
    cases hb : Nat.beq b born with
    | true =>
      rw [hb] at h
      cases h
      have hb := Nat.eq_of_beq_eq_true hb
      subst hb
      simp [List.findIdx?_cons]
    | false =>
      rw [hb] at h
      have hb : ¬ b = born := fun hh => by rw [hh, Nat.beq_refl] at hb; cases hb
      obtain ⟨h1, h2⟩ := bornAt_sound born (i + 1) j t h
      refine ⟨by omega, ?_⟩
      rw [List.findIdx?_cons, h2]
      have : ((b : Int) == Int.ofNat born) = false := by
        rw [Bool.eq_false_iff]; intro hh; have := eq_of_beq hh; simp at this; omega
      simp only [this]
      simp; omega

section
variable (R : HR D base w0 E h nx w) (ho : Ops E mask names tm e ρ o) (hr : (cop P mask names o).f tm e h nx K = some r)
include R ho hr

theorem cop_mapEntry {t : TypeId} {m k : Operand} (hop : o.op = .mapEntry t m k) : OpOk P D base w0 E h nx w (execOp ρ o) K r := by
  have h1 := ho m (by simp [hop, Op.operands])
  have h2 := ho k (by simp [hop, Op.operands])
  simp only [cop, hop] at hr
  cases hU : P.underlying t with
  | none => rw [hU] at hr; cases hr
  | some d =>
    rw [hU] at hr
    cases d with
    | map kt vt =>
      simp only at hr
      cases hi : tinfo P vt with
      | none => rw [hi] at hr; cases hr
      | some i =>
        rw [hi] at hr
        simp only at hr
        cases hz : zeroOf i with
        | none => rw [hz] at hr; cases hr
        | some z =>
          rw [hz] at hr
          obtain ⟨Z, hZ, hrun⟩ := zeroOf_sound E hi hz
          simp only at hr
          replace hr := onMap_some hr
          rcases hr with ⟨_, hx⟩ | ⟨b, hm, hr⟩
          · cases hx
          · rw [hm] at h1
            generalize hρ : ρ m = C at *
            cases h1 with
            | @map _ c q he =>
              obtain ⟨es, cl, hb, hr⟩ := onMapB_some hr
              obtain ⟨hck, hr⟩ := bc_some hr
              obtain ⟨res, hf, hr⟩ := ob_some' hr
              have hck' := ckey_sound w 6 kt _ _ false h2 hck 9994
              obtain ⟨dk, hkt⟩ := ckey_under hck
              obtain ⟨Es, hes, hobj⟩ := R.map he hb
              obtain ⟨Res, hFR, hfk⟩ := findKey_sound R hkt h2 res hes hf
              cases hFR with
              | none =>
                have R' := R.setMap he hb (cl' := cl + 1) (hes.push cl h2 hZ)
                rw [← app_eq] at R'
                refine .mem R' hr (V := .tuple #[Z, .int .i64 (Int.ofNat cl)]) (.tup (.cons hZ (.cons (.int 3 _) .nil))) (bput_other he) (.inl ?_)
                simp [execOp, hop, hρ, Instr.mapEntry, run_under hU, getMap hobj, hck', hfk, hrun, setMap hobj, goInt]
              | @some j v K' V' born' hj hE hv =>
                obtain ⟨en, hen, hr⟩ := ob_some' hr
                obtain ⟨hs, hr⟩ := bc_some hr
                obtain ⟨K1, V1, hE1, hK1, _⟩ := hes.at_ hen
                have hE : Es[j]? = some ⟨K', V', born'⟩ := by simpa using hE
                rw [hE1] at hE
                cases hE
                have hstay := keyStays (P := P) hK1 h2 hs w
                have R' := R.setMap he hb (cl' := cl) (hes.setKey h2 hv j hE1)
                refine .mem R' hr (V := .tuple #[V', .int .i64 (Int.ofNat en.2.2)]) (.tup (.cons hv (.cons (.int 3 _) .nil))) (bput_other he) (.inl ?_)
                simp [execOp, hop, hρ, Instr.mapEntry, run_under hU, getMap hobj, hck', hfk, hE1, hstay, setMap hobj, goInt]
    | _ => cases hr

theorem cop_entryStore {t : TypeId} {m s x : Operand} (hop : o.op = .entryStore t m s x) : OpOk P D base w0 E h nx w (execOp ρ o) K r := by
  have h1 := ho m (by simp [hop, Op.operands])
  have h2 := ho s (by simp [hop, Op.operands])
  have h3 := ho x (by simp [hop, Op.operands])
  simp only [cop, hop] at hr
  replace hr := onMap_some hr
  rcases hr with ⟨_, hx⟩ | ⟨b, hm, hr⟩
  · cases hx
  · rw [hm] at h1
    generalize hρ : ρ m = C at *
    cases h1 with
    | @map _ c q he =>
      obtain ⟨kk, born, hs, hr⟩ := onNat_some hr
      rw [hs] at h2
      generalize hρ2 : ρ s = C2 at *
      cases h2
      obtain ⟨es, cl, hb, hr⟩ := onMapB_some hr
      obtain ⟨i, hi, hr⟩ := ob_some' hr
      obtain ⟨en, hen, hk⟩ := ob_some' hr
      obtain ⟨Es, hes, hobj⟩ := R.map he hb
      obtain ⟨_, hfi⟩ := bornAt_sound born 0 i hes hi
      have R' := R.setMap he hb (cl' := cl) (hes.setV h3 i hen)
      refine .mem R' hk (undef_sound E) (bput_other he) (.inr ⟨?_, rfl⟩)
      simp only [Nat.sub_zero] at hfi
      have hfi' : Es.toArray.findIdx? (fun e => (e.born : Int) == Int.ofNat born) = some i := by simpa using hfi
      simp only [execOp, hop, hρ, hρ2, Instr.entryStore, Sem.run_bind, getMap hobj, Result.andThen_ok, asInt, asIntOf, Sem.run_pure, hfi', setMap hobj]
      simp
end
end Go.Ax
