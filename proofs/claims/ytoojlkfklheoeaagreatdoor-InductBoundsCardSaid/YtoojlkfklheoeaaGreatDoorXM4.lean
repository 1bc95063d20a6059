/- Part of an abstract executor of the model's machine, and of its law (S15, S16, S17, S18, S19, S20, S21, S22, S22b, S23). -/
import Derived.Test.YtoojlkfklheoeaaGreatDoorXM3
import Derived.Laws.NewFold
namespace Go.Ax
open Go.RowKit (Below)
variable {P : Program} {D : Nat → Nat} {base : Bas} {w0 : World} {E : En} {h : H} {nx : Nat} {w : World}
variable {K : AV → H → Nat → O} {r : St} {mask : Nat} {names : List Tmp} {tm : Tm} {e : List AV} {ρ : Operand → Value} {o : Oper}

theorem getMap {c : Nat} {es : Array MapEntry} {cl : Nat} (hg : w.heap[c]? = some (.map es cl)) : (getObj c).run P w = .ok (.map es cl) w := by
  simp [getObj, Sem.run, hg]
theorem setMap {c : Nat} {es : Array MapEntry} {cl : Nat} {ob : Obj} (hg : w.heap[c]? = some (.map es cl)) : (setObj c ob).run P w = .ok () { w with heap := w.heap.setIfInBounds c ob } := by
  simp [setObj, Sem.run, hg]
theorem setMap_upd {c : Nat} {o' ob : Obj} (hg : w.heap[c]? = some o') : Upd w c ob { w with heap := w.heap.setIfInBounds c ob } := by
  have hlt : c < w.heap.size := by
    rcases Nat.lt_or_ge c w.heap.size with h1 | h1
    · exact h1
    · rw [Array.getElem?_eq_none h1] at hg; cases hg
  refine ⟨rfl, rfl, rfl, by simp, by simp [hlt], ?_⟩
  intro k hk
  simp only [Array.getElem?_setIfInBounds_ne (fun hh => hk hh.symm)]

/-- the map behind a block -/
theorem HR.map (R : HR D base w0 E h nx w) {b c q : Nat} (e : E.m b = some (c, q)) {es : List (AV × AV × Nat)} {cl : Nat} (hb : bget b h = some (.map es cl)) :
    ∃ Es, EsR E es Es ∧ w.heap[c]? = some (.map Es.toArray cl) := by
  obtain ⟨_, ob, ho, br⟩ := R.get e hb
  cases br with
  | map _ hes => exact ⟨_, hes, ho⟩

/-- a map is set -/
theorem HR.setMap (R : HR D base w0 E h nx w) {b c q : Nat} (e : E.m b = some (c, q)) {es es' : List (AV × AV × Nat)} {Es' : List MapEntry} {cl cl' : Nat} (hb : bget b h = some (.map es cl))
    (hes : EsR E es' Es') : HR D base w0 E (bput b (some (.map es' cl')) h) nx { w with heap := w.heap.setIfInBounds c (.map Es'.toArray cl') } := by
  obtain ⟨Es, h1, ho⟩ := R.map e hb
  exact R.set e hb (.map cl' hes) (setMap_upd ho)

theorem bput_other {b : Nat} {x : Option AB} {b' c q : Nat} (e : E.m b = some (c, q)) : ∀ k, k < b' → E.m k = none → bget k (bput b x h) = bget k h := by
  intro k _ hk
  rw [bget_put, if_neg]
  rintro ⟨rfl, _⟩
  rw [e] at hk; cases hk

theorem ckey_under {d : Nat} {t : TypeId} {k : AV} (hk : (ckey P d t).f k = true) : ∃ D', P.underlying t = some D' := by
  cases d with
  | zero => cases hk
  | succ d =>
    unfold ckey at hk
    cases hU : P.underlying t with
    | none => rw [hU] at hk; cases hk
    | some d => exact ⟨d, rfl⟩

theorem same1_sound {x y : AV} {X Y : Value} (hx : VR E x X) (hy : VR E y Y) (hs : same1 x y = true) (n : Nat) : Instr.sameBits n X Y = true := by
  cases x <;> first | cases hs | skip
  · cases y <;> first | cases hs | skip
    rename_i k a k' b
    cases hx; cases hy
    have hs : band (Nat.beq k k') (intEq a b) = true := hs
    cases hk : Nat.beq k k' with
    | false => rw [hk] at hs; cases hs
    | true =>
      rw [hk] at hs
      have hk := Nat.eq_of_beq_eq_true hk
      have hq : intEq a b = true := hs
      rw [intEq_eq] at hq
      subst hk
      simp only [Instr.sameBits, beq_self_eq_true, Bool.true_and]
      exact hq
  · cases y <;> first | cases hs | skip
    rename_i a b
    cases hx; cases hy
    have hs : beqB a b = true := hs
    rw [beqB_eq] at hs
    simpa [Instr.sameBits] using hs
  · cases y <;> first | cases hs | skip
    rename_i n l n' l'
    cases hx; cases hy
    have hs : strEq n l n' l' = true := hs
    simp only [Instr.sameBits]
    rw [strs_beq]; exact hs

theorem sameL_sound : ∀ {l l' : List AV} {L L' : List Value}, VRL E l L → VRL E l' L' → sameL l l' = true → ∀ n, L.length = L'.length ∧ (L.zip L').all (fun (x, y) => Instr.sameBits n x y) = true
  | [], [], _, _, .nil, .nil, _, _ => ⟨rfl, rfl⟩
  | [], _ :: _, _, _, _, _, hs, _ => by cases hs
  | _ :: _, [], _, _, _, _, hs, _ => by cases hs
  | x :: l, y :: l', _, _, .cons hx tx, .cons hy ty, hs, n => by
    have hs : band (same1 x y) (sameL l l') = true := hs
    cases h1 : same1 x y with
    | false => rw [h1] at hs; cases hs
    | true =>
      rw [h1] at hs
      obtain ⟨h2, h3⟩ := sameL_sound tx ty hs n
      refine ⟨by simp [h2], ?_⟩
      simp only [List.zip_cons_cons, List.all_cons, same1_sound hx hy h1 n, Bool.true_and]
      exact h3

theorem sameK_sound {x y : AV} {X Y : Value} (hx : VR E x X) (hy : VR E y Y) (hs : sameK x y = true) : Instr.sameBits 10000 X Y = true := by
  cases x <;> first | exact same1_sound hx hy hs 10000 | skip
  rename_i l
  cases y <;> first | cases hs | skip
  rename_i l'
  cases hx with
  | agg hx =>
    cases hy with
    | agg hy =>
      obtain ⟨h1, h2⟩ := sameL_sound hx hy hs 9999
      simp only [Instr.sameBits, List.size_toArray, h1, beq_self_eq_true, Bool.true_and]
      exact h2

theorem keyStays {x y : AV} {X Y : Value} (hx : VR E x X) (hy : VR E y Y) (hs : sameK x y = true) (w : World) : (Instr.keyThatStays X Y).run P w = .ok Y w := by
  simp [Instr.keyThatStays, sameK_sound hx hy hs]

theorem EsR.setVal {k v : AV} {K V : Value} (hk : VR E k K) (hv : VR E v V) : ∀ {es : List (AV × AV × Nat)} {Es : List MapEntry} (i : Nat), EsR E es Es →
    EsR E (setVal es i k v) (Es.modify i fun e => { e with key := K, val := V })
  | [], _, i, .nil => by cases i <;> exact .nil
  | _ :: _, _, 0, .cons b _ _ t => by show EsR E (_ :: _) _; simp only [List.modify_zero_cons]; exact .cons b hk hv t
  | _ :: _, _, i + 1, .cons b h1 h2 t => by
    show EsR E (_ :: Go.Ax.setVal _ i k v) _
    simp only [List.modify_succ_cons]
    exact .cons b h1 h2 (t.setVal hk hv i)

theorem EsR.at_ : ∀ {es : List (AV × AV × Nat)} {Es : List MapEntry} {i : Nat} {a : AV × AV × Nat}, EsR E es Es → entryAt es i = some a →
    ∃ K V, Es[i]? = some ⟨K, V, a.2.2⟩ ∧ VR E a.1 K ∧ VR E a.2.1 V
  | [], _, _, _, .nil, h => by cases h
  | _ :: _, _, 0, _, .cons b h1 h2 t, h => by cases h; exact ⟨_, _, rfl, h1, h2⟩
  | _ :: _, _, i + 1, _, .cons b h1 h2 t, h => by
    obtain ⟨K, V, h3, h4⟩ := t.at_ (i := i) h
    exact ⟨K, V, by simpa using h3, h4⟩

theorem EsR.push {k v : AV} {K V : Value} (born : Nat) (hk : VR E k K) (hv : VR E v V) : ∀ {es : List (AV × AV × Nat)} {Es : List MapEntry}, EsR E es Es → EsR E (es ++ [(k, v, born)]) (Es ++ [⟨K, V, born⟩])
  | _, _, .nil => .cons born hk hv .nil
  | _, _, .cons b h1 h2 t => .cons b h1 h2 (t.push born hk hv)

section
variable (R : HR D base w0 E h nx w) (ho : Ops E mask names tm e ρ o) (hr : (cop P mask names o).f tm e h nx K = some r)
include R ho hr

theorem cop_lookup {t : TypeId} {x ix : Operand} {ok : Bool} (hop : o.op = .lookup t x ix ok) : PuOk P E h nx w (execOp ρ o) K r := by
  have h1 := ho x (by simp [hop, Op.operands])
  have h2 := ho ix (by simp [hop, Op.operands])
  simp only [cop, hop] at hr
  cases hU : P.underlying t with
  | none => rw [hU] at hr; cases hr
  | some d =>
    rw [hU] at hr
    cases d with
    | map kt vt =>
      simp only at hr
      cases hi : tinfo P vt with
      | none => rw [hi] at hr; cases hr
      | some i =>
        rw [hi] at hr
        simp only at hr
        cases hz : zeroOf i with
        | none => rw [hz] at hr; cases hr
        | some z =>
          rw [hz] at hr
          obtain ⟨Z, hZ, hrun⟩ := zeroOf_sound E hi hz
          simp only at hr
          replace hr := bc_some hr
          obtain ⟨hck, hr⟩ := hr
          have hck' : ∀ em, (Instr.checkKey em 10000 kt (ρ ix)).run P w = .ok () w := fun em => ckey_sound w 6 kt _ _ em h2 hck 9994
          obtain ⟨dk, hkt⟩ := ckey_under hck
          replace hr := onMap_some hr
          generalize hρ : ρ x = C at *
          have fin : ∀ {v : AV} {V : Value} (b : Bool), VR E v V → K (bc ok (.tup [v, .bool b]) v) h nx = some r →
              (Instr.lookup t C (ρ ix) ok).run P w = .ok (if ok then .tuple #[V, .bool b] else V) w → PuOk P E h nx w (execOp ρ o) K r := by
            intro v V b hv hk hrn
            cases ok with
            | true => exact .pure R hk (V := .tuple #[V, .bool b]) (.tup (.cons hv (.cons (.bool b) .nil))) (by simp only [if_true] at hrn; simp [execOp, hop, hρ, hrn])
            | false => exact .pure R hk hv (by simp only [Bool.false_eq_true, if_false] at hrn; simp [execOp, hop, hρ, hrn])
          rcases hr with ⟨hm, hk⟩ | ⟨b, hm, hr⟩
          · rw [hm] at h1
            cases h1
            refine fin false hZ hk ?_
            cases ok <;> simp [Instr.lookup, run_under hU, hck', Instr.findKey, Instr.findNow, run_under hkt, hrun]
          · rw [hm] at h1
            cases h1 with
            | map he =>
              obtain ⟨es, cl, hb, hr⟩ := onMapB_some hr
              replace hr := ob_some' hr
              obtain ⟨res, hf, hk⟩ := hr
              obtain ⟨Es, hes, hobj⟩ := R.map he hb
              obtain ⟨Res, hFR, hfk⟩ := findKey_sound R hkt h2 res hes hf
              cases hFR with
              | none =>
                refine fin false hZ hk ?_
                cases ok <;> simp [Instr.lookup, run_under hU, getMap hobj, hck', hfk, hrun]
              | some hj hE hv =>
                refine fin true hv hk ?_
                cases ok <;> simp [Instr.lookup, run_under hU, getMap hobj, hck', hfk]
    | _ => cases hr

theorem cop_mapUpdate {t : TypeId} {m k x : Operand} (hop : o.op = .mapUpdate t m k x ∨ o.op = .insert t m k x) : OpOk P D base w0 E h nx w (execOp ρ o) K r := by
  have hrun : execOp ρ o = (do Instr.mapUpdate t (ρ m) (ρ k) (ρ x); pure .skip) := by rcases hop with hop | hop <;> simp [execOp, hop]
  have hop3 : o.op.operands = #[m, k, x] := by rcases hop with hop | hop <;> simp [hop, Op.operands]
  have hr' : (match P.underlying t with
    | some (.map kt _) => (⟨fun tm e h nx K => onMap ((opd mask names m).g tm e) none none fun b =>
        ob (mapPut (ckey P 6 kt) (ceq P 6 kt) h b ((opd mask names k).g tm e) ((opd mask names x).g tm e)) fun h' => K undef h' nx⟩ : Fop)
    | _ => failF).f tm e h nx K = some r := by rcases hop with hop | hop <;> (simp only [cop, hop] at hr; exact hr)
  clear hr
  have h1 := ho m (by rw [hop3]; simp)
  have h2 := ho k (by rw [hop3]; simp)
  have h3 := ho x (by rw [hop3]; simp)
  rw [hrun]
  cases hU : P.underlying t with
  | none => rw [hU] at hr'; cases hr'
  | some d =>
    rw [hU] at hr'
    cases d with
    | map kt vt =>
      simp only at hr'
      rcases onMap_some hr' with ⟨_, hx⟩ | ⟨b, hm, hr⟩
      · cases hx
      · clear hr'
        rw [hm] at h1
        generalize hρ : ρ m = C at *
        cases h1 with
        | @map _ c q he =>
          obtain ⟨h', hput, hk⟩ := ob_some' hr
          obtain ⟨es, cl, hb, hput⟩ := onMapB_some hput
          obtain ⟨hck, hput⟩ := bc_some hput
          obtain ⟨res, hf, hput⟩ := ob_some' hput
          have hck' := ckey_sound w 6 kt _ _ false h2 hck 9994
          obtain ⟨dk, hkt⟩ := ckey_under hck
          obtain ⟨Es, hes, hobj⟩ := R.map he hb
          obtain ⟨Res, hFR, hfk⟩ := findKey_sound R hkt h2 res hes hf
          cases hFR with
          | none =>
            cases hput
            have R' := R.setMap he hb (cl' := cl + 1) (hes.push cl h2 h3)
            rw [← app_eq] at R'
            refine .mem R' hk (undef_sound E) (bput_other he) (.inr ⟨?_, rfl⟩)
            simp [Instr.mapUpdate, run_under hU, getMap hobj, hck', hfk, setMap hobj]
          | @some j v K' V' born' hj hE hv =>
            obtain ⟨en, hen, hput⟩ := ob_some' hput
            obtain ⟨hs, hput⟩ := bc_some hput
            cases hput
            obtain ⟨K1, V1, hE1, hK1, _⟩ := hes.at_ hen
            have hstay := keyStays (P := P) hK1 h2 hs w
            have R' := R.setMap he hb (cl' := cl) (hes.setVal h2 h3 j)
            refine .mem R' hk (undef_sound E) (bput_other he) (.inr ⟨?_, rfl⟩)
            simp [Instr.mapUpdate, run_under hU, getMap hobj, hck', hfk, hE1, hstay, setMap hobj]
    | _ => cases hr'
end
end Go.Ax
namespace Go.Ax
open Go.RowKit (Below)
variable {P : Program} {D : Nat → Nat} {base : Bas} {w0 : World} {E : En} {h : H} {nx : Nat} {w : World}
variable {K : AV → H → Nat → O} {r : St} {mask : Nat} {names : List Tmp} {tm : Tm} {e : List AV} {ρ : Operand → Value} {o : Oper}

theorem EsR.setKey {k v : AV} {K V0 K0 : Value} {b0 : Nat} (hk : VR E k K) (hv : VR E v V0) : ∀ {es : List (AV × AV × Nat)} {Es : List MapEntry} (i : Nat), EsR E es Es → Es[i]? = some ⟨K0, V0, b0⟩ →
    EsR E (Go.Ax.setVal es i k v) (Es.modify i fun e => { e with key := K })
  | [], _, i, .nil, h => by simp at h
  | _ :: _, _, 0, .cons b _ _ t, h => by
    show EsR E (_ :: _) _
    simp only [List.getElem?_cons_zero, Option.some.injEq] at h
    cases h
    simp only [List.modify_zero_cons]; exact .cons _ hk hv t
  | _ :: _, _, i + 1, .cons b h1 h2 t, h => by
    show EsR E (_ :: Go.Ax.setVal _ i k v) _
    simp only [List.modify_succ_cons]
    exact .cons b h1 h2 (t.setKey hk hv i (by simpa using h))

theorem EsR.setV {v : AV} {V : Value} (hv : VR E v V) : ∀ {es : List (AV × AV × Nat)} {Es : List MapEntry} (i : Nat) {en : AV × AV × Nat}, EsR E es Es → entryAt es i = some en →
    EsR E (Go.Ax.setVal es i en.1 v) (Es.modify i fun e => { e with val := V })
  | [], _, i, _, .nil, h => by cases h
  | _ :: _, _, 0, _, .cons b h1 _ t, h => by
    cases h
    show EsR E (_ :: _) _
    simp only [List.modify_zero_cons]; exact .cons b h1 hv t
  | _ :: _, _, i + 1, en, .cons b h1 h2 t, h => by
    show EsR E (_ :: Go.Ax.setVal _ i en.1 v) _
    simp only [List.modify_succ_cons]
    exact .cons b h1 h2 (t.setV hv i (en := en) h)

theorem bornAt_sound (born : Nat) : ∀ {es : List (AV × AV × Nat)} {Es : List MapEntry} (i j : Nat), EsR E es Es → bornAt born es i = some j →
    i ≤ j ∧ Es.findIdx? (fun e => (e.born : Int) == Int.ofNat born) = some (j - i)
  | [], _, _, _, .nil, h => by cases h
  | (_, _, b) :: es, _, i, j, .cons _ _ _ t, h => by
    have h : bc (Nat.beq b born) (some i) (bornAt born es (i + 1)) = some j := h
    cases hb : Nat.beq b born with
    | true =>
      rw [hb] at h
      cases h
      have hb := Nat.eq_of_beq_eq_true hb
      subst hb
      simp [List.findIdx?_cons]
    | false =>
      rw [hb] at h
      have hb : ¬ b = born := fun hh => by rw [hh, Nat.beq_refl] at hb; cases hb
      obtain ⟨h1, h2⟩ := bornAt_sound born (i + 1) j t h
      refine ⟨by omega, ?_⟩
      rw [List.findIdx?_cons, h2]
      have : ((b : Int) == Int.ofNat born) = false := by
        rw [Bool.eq_false_iff]; intro hh; have := eq_of_beq hh; simp at this; omega
      simp only [this]
      simp; omega

section
variable (R : HR D base w0 E h nx w) (ho : Ops E mask names tm e ρ o) (hr : (cop P mask names o).f tm e h nx K = some r)
include R ho hr

theorem cop_mapEntry {t : TypeId} {m k : Operand} (hop : o.op = .mapEntry t m k) : OpOk P D base w0 E h nx w (execOp ρ o) K r := by
  have h1 := ho m (by simp [hop, Op.operands])
  have h2 := ho k (by simp [hop, Op.operands])
  simp only [cop, hop] at hr
  cases hU : P.underlying t with
  | none => rw [hU] at hr; cases hr
  | some d =>
    rw [hU] at hr
    cases d with
    | map kt vt =>
      simp only at hr
      cases hi : tinfo P vt with
      | none => rw [hi] at hr; cases hr
      | some i =>
        rw [hi] at hr
        simp only at hr
        cases hz : zeroOf i with
        | none => rw [hz] at hr; cases hr
        | some z =>
          rw [hz] at hr
          obtain ⟨Z, hZ, hrun⟩ := zeroOf_sound E hi hz
          simp only at hr
          replace hr := onMap_some hr
          rcases hr with ⟨_, hx⟩ | ⟨b, hm, hr⟩
          · cases hx
          · rw [hm] at h1
            generalize hρ : ρ m = C at *
            cases h1 with
            | @map _ c q he =>
              obtain ⟨es, cl, hb, hr⟩ := onMapB_some hr
              obtain ⟨hck, hr⟩ := bc_some hr
              obtain ⟨res, hf, hr⟩ := ob_some' hr
              have hck' := ckey_sound w 6 kt _ _ false h2 hck 9994
              obtain ⟨dk, hkt⟩ := ckey_under hck
              obtain ⟨Es, hes, hobj⟩ := R.map he hb
              obtain ⟨Res, hFR, hfk⟩ := findKey_sound R hkt h2 res hes hf
              cases hFR with
              | none =>
                have R' := R.setMap he hb (cl' := cl + 1) (hes.push cl h2 hZ)
                rw [← app_eq] at R'
                refine .mem R' hr (V := .tuple #[Z, .int .i64 (Int.ofNat cl)]) (.tup (.cons hZ (.cons (.int 3 _) .nil))) (bput_other he) (.inl ?_)
                simp [execOp, hop, hρ, Instr.mapEntry, run_under hU, getMap hobj, hck', hfk, hrun, setMap hobj, goInt]
              | @some j v K' V' born' hj hE hv =>
                obtain ⟨en, hen, hr⟩ := ob_some' hr
                obtain ⟨hs, hr⟩ := bc_some hr
                obtain ⟨K1, V1, hE1, hK1, _⟩ := hes.at_ hen
                have hE : Es[j]? = some ⟨K', V', born'⟩ := by simpa using hE
                rw [hE1] at hE
                cases hE
                have hstay := keyStays (P := P) hK1 h2 hs w
                have R' := R.setMap he hb (cl' := cl) (hes.setKey h2 hv j hE1)
                refine .mem R' hr (V := .tuple #[V', .int .i64 (Int.ofNat en.2.2)]) (.tup (.cons hv (.cons (.int 3 _) .nil))) (bput_other he) (.inl ?_)
                simp [execOp, hop, hρ, Instr.mapEntry, run_under hU, getMap hobj, hck', hfk, hE1, hstay, setMap hobj, goInt]
    | _ => cases hr

theorem cop_entryStore {t : TypeId} {m s x : Operand} (hop : o.op = .entryStore t m s x) : OpOk P D base w0 E h nx w (execOp ρ o) K r := by
  have h1 := ho m (by simp [hop, Op.operands])
  have h2 := ho s (by simp [hop, Op.operands])
  have h3 := ho x (by simp [hop, Op.operands])
  simp only [cop, hop] at hr
  replace hr := onMap_some hr
  rcases hr with ⟨_, hx⟩ | ⟨b, hm, hr⟩
  · cases hx
  · rw [hm] at h1
    generalize hρ : ρ m = C at *
    cases h1 with
    | @map _ c q he =>
      obtain ⟨kk, born, hs, hr⟩ := onNat_some hr
      rw [hs] at h2
      generalize hρ2 : ρ s = C2 at *
      cases h2
      obtain ⟨es, cl, hb, hr⟩ := onMapB_some hr
      obtain ⟨i, hi, hr⟩ := ob_some' hr
      obtain ⟨en, hen, hk⟩ := ob_some' hr
      obtain ⟨Es, hes, hobj⟩ := R.map he hb
      obtain ⟨_, hfi⟩ := bornAt_sound born 0 i hes hi
      have R' := R.setMap he hb (cl' := cl) (hes.setV h3 i hen)
      refine .mem R' hk (undef_sound E) (bput_other he) (.inr ⟨?_, rfl⟩)
      simp only [Nat.sub_zero] at hfi
      have hfi' : Es.toArray.findIdx? (fun e => (e.born : Int) == Int.ofNat born) = some i := by simpa using hfi
      simp only [execOp, hop, hρ, hρ2, Instr.entryStore, Sem.run_bind, getMap hobj, Result.andThen_ok, asInt, asIntOf, Sem.run_pure, hfi', setMap hobj]
      simp
end
end Go.Ax
namespace Go.Ax
open Go.RowKit (Below)
variable {P : Program} {D : Nat → Nat} {base : Bas} {w0 : World} {E : En} {h : H} {nx : Nat} {w : World}
variable {K : AV → H → Nat → O} {r : St} {mask : Nat} {names : List Tmp} {tm : Tm} {e : List AV} {ρ : Operand → Value} {o : Oper}

/-- the answer of an operator -/
abbrev BinOk (P : Program) (E : En) (w : World) (s : Sem Value) (v : AV) : Prop := ∃ V, VR E v V ∧ s.run P w = .ok V w

theorem ar_some {f : Nat → Int → Int → Option AV} {x y v : AV} {h : H} (ha : (ar f).f h x y = some v) : ∃ k a b, x = .int k a ∧ y = .int k b ∧ f k a b = some v := by
  obtain ⟨k, a, hx, ha⟩ := onInt_some ha
  obtain ⟨k', b, hy, ha⟩ := onInt_some ha
  obtain ⟨hk, hf⟩ := bc_some ha
  have := Nat.eq_of_beq_eq_true hk
  subst this
  exact ⟨k, a, b, hx, hy, hf⟩

theorem wrap_modpow (k : IntKind) (n : Nat) : k.wrap (((n % 2 ^ k.bits : Nat) : Int)) = k.wrap (n : Int) := by
  cases k <;> simp [IntKind.wrap, IntKind.bits, IntKind.signed] <;> omega

theorem bvnat (w n : Nat) : (BitVec.ofInt w (n : Int)).toNat = n % 2 ^ w := by
  rw [show (n : Int) = Int.ofNat n from rfl]
  simp

theorem smallN_some {f : Nat → Nat → Nat} {k : Nat} {a b : Int} {v : AV} (hs : smallN f k a b = some v) : ∃ m n, a = .ofNat m ∧ b = .ofNat n ∧ v = .int k (wrapQ k (.ofNat (f m n))) := by
  cases a with
  | negSucc _ => cases hs
  | ofNat m =>
    cases b with
    | negSucc _ => cases hs
    | ofNat n =>
      obtain ⟨_, hs⟩ := bc_some hs
      obtain ⟨_, hs⟩ := bc_some hs
      cases hs
      exact ⟨m, n, rfl, rfl, rfl⟩


theorem shl_pow (k : Nat) (a : Int) (n : Nat) : Int.mul a (Int.ofNat (Nat.pow 2 (min n (kd k).bits))) = a * 2 ^ (min n (kd k).bits) := by
  show a * ((2 ^ (min n (kd k).bits) : Nat) : Int) = _
  rw [Int.natCast_pow]; rfl

theorem cbinI_sound {op : BinOp} {xt : TypeId} {x y v : AV} {X Y : Value} (hx : VR E x X) (hy : VR E y Y)
    (hc : (cbinI op).f h x y = some v) : BinOk P E w (Go.binOp op xt X Y) v := by
  have ar2 : ∀ {f : Nat → Int → Int → Option AV}, (ar f).f h x y = some v → ∃ k a b, X = .int (kd k) a ∧ Y = .int (kd k) b ∧ f k a b = some v := fun ha => by
    obtain ⟨k, a, b, rfl, rfl, hf⟩ := ar_some ha
    cases hx; cases hy
    exact ⟨k, a, b, rfl, rfl, hf⟩
  cases op with
  | shl =>
    obtain ⟨k, a, rfl, hc2⟩ := onInt_some hc
    obtain ⟨k', n, rfl, hc3⟩ := onNat_some hc2
    cases hc3; cases hx; cases hy
    refine ⟨_, .int k _, ?_⟩
    have : ¬ (Int.ofNat n < 0) := by simp
    rw [wrapQ_eq, shl_pow]
    simp only [Go.binOp, Op.shift, if_neg this, Sem.run_pure]
    rfl
  | shr =>
    obtain ⟨k, a, rfl, hc2⟩ := onInt_some hc
    obtain ⟨k', n, rfl, hc3⟩ := onNat_some hc2
    cases hc3; cases hx; cases hy
    refine ⟨_, .int k _, ?_⟩
    have : ¬ (Int.ofNat n < 0) := by simp
    simp only [Go.binOp, Op.shift, if_neg this, Sem.run_pure]
    simp
  | add | sub | mul =>
    obtain ⟨k, a, b, rfl, rfl, hf⟩ := ar2 hc
    cases hf
    refine ⟨_, .int k _, ?_⟩
    rw [wrapQ_eq]
    simp [Go.binOp, Op.intArith, iadd_eq, isub_eq]
  | quo | rem =>
    obtain ⟨k, a, b, rfl, rfl, hf⟩ := ar2 hc
    obtain ⟨h0, hf⟩ := bc_some' hf
    rw [intEq_eq] at h0
    have h0 : b ≠ 0 := fun hh => by rw [hh] at h0; cases h0
    cases hf
    refine ⟨_, .int k _, ?_⟩
    try rw [wrapQ_eq]
    simp [Go.binOp, Op.intDiv, h0]
  | and =>
    obtain ⟨k, a, b, rfl, rfl, hf⟩ := ar2 hc
    obtain ⟨m, n, rfl, rfl, rfl⟩ := smallN_some hf
    refine ⟨_, .int k _, ?_⟩
    rw [wrapQ_eq]
    have := wrap_modpow (kd k) (m &&& n)
    rw [Nat.and_mod_two_pow] at this
    simp only [Go.binOp, Op.intBits, BitVec.toNat_and, Int.ofNat_eq_natCast, bvnat, this]
    simp
  | or =>
    obtain ⟨k, a, b, rfl, rfl, hf⟩ := ar2 hc
    obtain ⟨m, n, rfl, rfl, rfl⟩ := smallN_some hf
    refine ⟨_, .int k _, ?_⟩
    rw [wrapQ_eq]
    have := wrap_modpow (kd k) (m ||| n)
    rw [Nat.or_mod_two_pow] at this
    simp only [Go.binOp, Op.intBits, BitVec.toNat_or, Int.ofNat_eq_natCast, bvnat, this]
    simp
  | xor =>
    obtain ⟨k, a, b, rfl, rfl, hf⟩ := ar2 hc
    obtain ⟨m, n, rfl, rfl, rfl⟩ := smallN_some hf
    refine ⟨_, .int k _, ?_⟩
    rw [wrapQ_eq]
    have := wrap_modpow (kd k) (m ^^^ n)
    rw [Nat.xor_mod_two_pow] at this
    simp only [Go.binOp, Op.intBits, BitVec.toNat_xor, Int.ofNat_eq_natCast, bvnat, this]
    simp
  | andNot => cases hc
  | neq =>
    obtain ⟨k, a, b, rfl, rfl, hf⟩ := ar2 hc
    cases hf
    refine ⟨_, .bool _, ?_⟩
    rw [intEq_eq]
    simp only [Go.binOp, Op.intCmp, bne]
    cases (a == b) <;> simp [bnot]
  | _ =>
    obtain ⟨k, a, b, rfl, rfl, hf⟩ := ar2 hc
    cases hf
    refine ⟨_, .bool _, ?_⟩
    simp [Go.binOp, Op.intCmp, intEq_eq, intLt_eq, intLe_eq]

theorem strB_append (n l n' l' : Nat) : strB n l ++ strB n' l' = strB (n % 256 ^ l + 256 ^ l * n') (l + l') := by
  induction l generalizing n with
  | zero => simp [strB, Nat.mod_one]
  | succ l ih =>
    have e1 : 256 ^ (l + 1) * n' = 256 * (256 ^ l * n') := by rw [Nat.pow_succ, Nat.mul_comm (256 ^ l) 256, Nat.mul_assoc]
    have h1 : (n % 256 ^ (l + 1) + 256 ^ (l + 1) * n') / 256 = n / 256 % 256 ^ l + 256 ^ l * n' := by
      rw [e1, Nat.add_mul_div_left _ _ (by decide), Nat.pow_succ, Nat.mul_comm (256 ^ l) 256, Nat.mod_mul_right_div_self]
    have h2 : UInt8.ofNat (n % 256 ^ (l + 1) + 256 ^ (l + 1) * n') = UInt8.ofNat n := by
      apply UInt8.toNat_inj.1
      simp only [UInt8.toNat_ofNat']
      rw [e1, Nat.pow_succ, Nat.mul_comm (256 ^ l) 256, Nat.add_mul_mod_self_left]
      exact Nat.mod_mul_right_mod n 256 _
    rw [show l + 1 + l' = (l + l') + 1 by omega]
    simp only [strB, List.cons_append, h1, h2, ih]

theorem bytes_add (n l n' l' : Nat) : (⟨(strB n l).toArray⟩ : ByteArray) ++ ⟨(strB n' l').toArray⟩ = ⟨(strB (n % 256 ^ l + 256 ^ l * n') (l + l')).toArray⟩ := by
  apply ByteArray.ext
  rw [ByteArray.data_append, ← strB_append]
  simp

theorem bytes_eqL (n l n' l' : Nat) : ((⟨(strB n l).toArray⟩ : ByteArray).toList == (⟨(strB n' l').toArray⟩ : ByteArray).toList) = strEq n l n' l' := by
  rw [← beq_toListBytes, strs_beq]

theorem bytes_size (n l : Nat) : (⟨(strB n l).toArray⟩ : ByteArray).size = l := by show (strB n l).toArray.size = l; simp [strB_len]

theorem cbinS_sound {op : BinOp} {xt : TypeId} {x y v : AV} {X Y : Value} (hx : VR E x X) (hy : VR E y Y)
    (hc : (cbinS op).f h x y = some v) : BinOk P E w (Go.binOp op xt X Y) v := by
  cases op with
  | add =>
    obtain ⟨n, l, rfl, hc2⟩ := onStr_some hc
    obtain ⟨n', l', rfl, hc3⟩ := onStr_some hc2
    obtain ⟨hle, hc4⟩ := bc_some hc3
    have hle : l + l' ≤ 1073741824 := Nat.le_of_ble_eq_true hle
    cases hc4; cases hx; cases hy
    refine ⟨.string ⟨(strB (n % 256 ^ l + 256 ^ l * n') (l + l')).toArray⟩, .str _ _, ?_⟩
    have hm : ¬ (((l + l' : Nat) : Int) > IntKind.i64.max) := by
      have : IntKind.i64.max = 9223372036854775807 := by decide
      omega
    simp only [Go.binOp, Op.stringOp, bytes_size, if_neg hm, bytes_add, Sem.run_pure]
  | eql =>
    obtain ⟨n, l, rfl, hc2⟩ := onStr_some hc
    obtain ⟨n', l', rfl, hc3⟩ := onStr_some hc2
    cases hc3; cases hx; cases hy
    refine ⟨_, .bool _, ?_⟩
    simp only [Go.binOp, Op.stringOp, bytes_eqL, Sem.run_pure]
  | neq =>
    obtain ⟨n, l, rfl, hc2⟩ := onStr_some hc
    obtain ⟨n', l', rfl, hc3⟩ := onStr_some hc2
    cases hc3; cases hx; cases hy
    refine ⟨_, .bool _, ?_⟩
    simp only [Go.binOp, Op.stringOp, bytes_eqL, Sem.run_pure]
    cases strEq n l n' l' <;> rfl
  | _ => cases hc
end Go.Ax
namespace Go.Ax
open Go.RowKit (Below)
variable {P : Program} {D : Nat → Nat} {base : Bas} {w0 : World} {E : En} {h : H} {nx : Nat} {w : World}
variable {K : AV → H → Nat → O} {r : St} {mask : Nat} {names : List Tmp} {tm : Tm} {e : List AV} {ρ : Operand → Value} {o : Oper}

/-- what the shapes of compared values are good for -/
structure EqShape (xt : TypeId) (x y : AV) (X Y : Value) : Prop where
  eql : Go.binOp .eql xt X Y = (do pure (.bool (← Op.equal xt X Y)))
  neq : Go.binOp .neq xt X Y = (do pure (.bool (!(← Op.equal xt X Y))))
  nil : X = .nilIface → Y = .nilIface → bothNil x y = true
  agg : ∀ A, X = .agg A → anAgg x = true

theorem eqShape {xt : TypeId} {x y : AV} {X Y : Value} {b : Bool} {d : Nat} (hx : VR E x X) (hy : VR E y Y) (hc : (ceq P (d + 1) xt).f h x y = some b)
    (h1 : ∀ k, P.underlying xt ≠ some (.int k)) (h2 : P.underlying xt ≠ some .string) : EqShape xt x y X Y := by
  unfold ceq at hc
  cases hU : P.underlying xt with
  | none => rw [hU] at hc; cases hc
  | some D' =>
    rw [hU] at hc
    cases D' with
    | int k => exact absurd hU (h1 k)
    | string => exact absurd hU h2
    | bool =>
      replace hc := onBool_some hc; obtain ⟨a, rfl, hc⟩ := hc
      replace hc := onBool_some hc; obtain ⟨a', rfl, hc⟩ := hc
      cases hx; cases hy
      exact ⟨rfl, rfl, fun h => (nomatch h), fun _ h => nomatch h⟩
    | struct fs =>
      simp only at hc
      rw [bc_ite] at hc
      split at hc
      · cases hc
      · replace hc := onAgg_some hc; obtain ⟨xs, rfl, hc⟩ := hc
        replace hc := onAgg_some hc; obtain ⟨ys, rfl, hc⟩ := hc
        cases hx; cases hy
        exact ⟨rfl, rfl, fun h => (nomatch h), fun _ _ => rfl⟩
    | pointer e =>
      simp only at hc
      rw [bc_ite] at hc
      split at hc
      · rename_i hn
        have hn := isNil_nilp hn; subst hn
        cases hx
        rw [bc_ite] at hc
        split at hc
        · rename_i hn2
          have hn2 := isNil_nilp hn2; subst hn2
          cases hy
          exact ⟨rfl, rfl, fun h => (nomatch h), fun _ h => nomatch h⟩
        · replace hc := onPtr_some hc; obtain ⟨_, _, rfl, hc⟩ := hc
          cases hy
          exact ⟨rfl, rfl, fun h => (nomatch h), fun _ h => nomatch h⟩
      · replace hc := onPtr_some hc; obtain ⟨_, _, rfl, hc⟩ := hc
        cases hx
        rw [bc_ite] at hc
        split at hc
        · rename_i hn2
          have hn2 := isNil_nilp hn2; subst hn2
          cases hy
          exact ⟨rfl, rfl, fun h => (nomatch h), fun _ h => nomatch h⟩
        · replace hc := onPtr_some hc; obtain ⟨_, _, rfl, hc⟩ := hc
          cases hy
          exact ⟨rfl, rfl, fun h => (nomatch h), fun _ h => nomatch h⟩
    | interface ms =>
      simp only at hc
      rw [bc_ite] at hc
      split at hc
      · rename_i hn
        have hn := isNil_nili hn; subst hn
        cases hx
        rw [bc_ite] at hc
        split at hc
        · rename_i hn2
          have hn2 := isNil_nili hn2; subst hn2
          cases hy
          exact ⟨rfl, rfl, fun _ _ => rfl, fun _ h => nomatch h⟩
        · replace hc := onIface_some hc; obtain ⟨_, _, rfl, hc⟩ := hc
          cases hy
          exact ⟨rfl, rfl, fun _ h => (nomatch h), fun _ h => nomatch h⟩
      · replace hc := onIface_some hc; obtain ⟨_, _, rfl, hc⟩ := hc
        cases hx
        rw [bc_ite] at hc
        split at hc
        · rename_i hn2
          have hn2 := isNil_nili hn2; subst hn2
          cases hy
          exact ⟨rfl, rfl, fun h => (nomatch h), fun _ h => nomatch h⟩
        · replace hc := onIface_some hc; obtain ⟨_, _, rfl, hc⟩ := hc
          cases hy
          exact ⟨rfl, rfl, fun h => (nomatch h), fun _ h => nomatch h⟩
    | slice e =>
      simp only at hc
      rw [bc_ite] at hc
      split at hc
      · rename_i hn
        have hn := isNil_nils hn; subst hn
        cases hx
        rw [bc_ite] at hc
        split at hc
        · rename_i hn2
          have hn2 := isNil_nils hn2; subst hn2
          cases hy
          exact ⟨rfl, rfl, fun h => (nomatch h), fun _ h => nomatch h⟩
        · replace hc := onSl_some hc
          rcases hc with ⟨_, _, _, _, rfl, hc⟩ | ⟨_, _, _, _, rfl, hc⟩ | ⟨_, rfl, hc⟩
          · cases hy; exact ⟨rfl, rfl, fun h => (nomatch h), fun _ h => nomatch h⟩
          · cases hy; exact ⟨rfl, rfl, fun h => (nomatch h), fun _ h => nomatch h⟩
          · cases hc
      · replace hc := bc_some hc; obtain ⟨hn2, hc⟩ := hc
        have hn2 := isNil_nils hn2; subst hn2
        cases hy
        replace hc := onSl_some hc
        rcases hc with ⟨_, _, _, _, rfl, hc⟩ | ⟨_, _, _, _, rfl, hc⟩ | ⟨_, rfl, hc⟩
        · cases hx; exact ⟨rfl, rfl, fun h => (nomatch h), fun _ h => nomatch h⟩
        · cases hx; exact ⟨rfl, rfl, fun h => (nomatch h), fun _ h => nomatch h⟩
        · cases hc
    | map kt vt =>
      simp only at hc
      rw [bc_ite] at hc
      split at hc
      · rename_i hn
        have hn := isNil_nilm hn; subst hn
        cases hx
        rw [bc_ite] at hc
        split at hc
        · rename_i hn2
          have hn2 := isNil_nilm hn2; subst hn2
          cases hy
          exact ⟨rfl, rfl, fun h => (nomatch h), fun _ h => nomatch h⟩
        · replace hc := onMap_some hc
          rcases hc with ⟨rfl, hc⟩ | ⟨_, rfl, hc⟩
          · cases hc
          · cases hy; exact ⟨rfl, rfl, fun h => (nomatch h), fun _ h => nomatch h⟩
      · replace hc := bc_some hc; obtain ⟨hn2, hc⟩ := hc
        have hn2 := isNil_nilm hn2; subst hn2
        cases hy
        replace hc := onMap_some hc
        rcases hc with ⟨rfl, hc⟩ | ⟨_, rfl, hc⟩
        · cases hc
        · cases hx; exact ⟨rfl, rfl, fun h => (nomatch h), fun _ h => nomatch h⟩
    | func a b' c =>
      simp only at hc
      rw [bc_ite] at hc
      split at hc
      · rename_i hn
        have hn := isNil_nilf hn; subst hn
        cases hx
        rw [bc_ite] at hc
        split at hc
        · rename_i hn2
          have hn2 := isNil_nilf hn2; subst hn2
          cases hy
          exact ⟨rfl, rfl, fun h => (nomatch h), fun _ h => nomatch h⟩
        · replace hc := onFn_some hc; obtain ⟨_, _, _, rfl, hc⟩ := hc
          cases hy; exact ⟨rfl, rfl, fun h => (nomatch h), fun _ h => nomatch h⟩
      · replace hc := bc_some hc; obtain ⟨hn2, hc⟩ := hc
        have hn2 := isNil_nilf hn2; subst hn2
        cases hy
        replace hc := onFn_some hc; obtain ⟨_, _, _, rfl, hc⟩ := hc
        cases hx; exact ⟨rfl, rfl, fun h => (nomatch h), fun _ h => nomatch h⟩
    | _ => cases hc
end Go.Ax
namespace Go.Ax
open Go.RowKit (Below)
variable {P : Program} {D : Nat → Nat} {base : Bas} {w0 : World} {E : En} {h : H} {nx : Nat} {w : World}
variable {K : AV → H → Nat → O} {r : St} {mask : Nat} {names : List Tmp} {tm : Tm} {e : List AV} {ρ : Operand → Value} {o : Oper}

theorem isC_eq (x : Operand) : isC x = (x matches .const _) := by cases x <;> rfl

/-- the guard lets integers and strings pass -/
theorem guard_pass (op : BinOp) (t : TypeId) (x y : Operand) {X Y : Value} (h1 : X = .nilIface → Y ≠ .nilIface) (h2 : ∀ A, X ≠ .agg A) : (eqGuard op t x y X Y).run P w = .ok () w := by
  unfold eqGuard
  cases X <;> first | (exact absurd rfl (h2 _)) | skip
  all_goals first
  | (cases op <;> rfl)
  | (cases Y <;> first | (exact absurd rfl (h1 rfl)) | (cases op <;> rfl))

theorem cbinE_sound (R : HR D base w0 E h nx w) {op : BinOp} {xt : TypeId} {x y v : AV} {X Y : Value} {a b : Operand} (hx : VR E x X) (hy : VR E y Y)
    (h1 : ∀ k, P.underlying xt ≠ some (.int k)) (h2 : P.underlying xt ≠ some .string)
    (hc : (cbinE P op xt (isC a || isC b)).f h x y = some v) : BinOk P E w (do eqGuard op xt a b X Y; Go.binOp op xt X Y) v := by
  have main : ∀ (bb : Bool), bc (bc (isC a || isC b) false (bothNil x y)) true (bc (P.eqGuardType P.depth xt) (anAgg x) false) = false → (ceq P 6 xt).f h x y = some bb → (op = .eql ∨ op = .neq) →
      (eqGuard op xt a b X Y).run P w = .ok () w ∧ (Op.equal xt X Y).run P w = .ok bb w ∧ EqShape xt x y X Y := by
    intro bb hg hceq hop
    have hs := eqShape hx hy hceq h1 h2
    refine ⟨?_, ceq_sound R 6 xt x y X Y bb hx hy hceq 9994, hs⟩
    have hbn : bc (isC a || isC b) false (bothNil x y) = false := by
      cases hq : bc (isC a || isC b) false (bothNil x y) with
      | false => rfl
      | true => rw [hq] at hg; cases hg
    rw [hbn] at hg
    have hga : bc (P.eqGuardType P.depth xt) (anAgg x) false = false := hg
    by_cases hA : ∃ A, X = .agg A
    · obtain ⟨A, rfl⟩ := hA
      have := hs.agg A rfl
      rw [this] at hga
      have hgt : P.eqGuardType P.depth xt = false := by
        cases hq : P.eqGuardType P.depth xt with
        | false => rfl
        | true => rw [hq] at hga; cases hga
      unfold eqGuard
      rcases hop with rfl | rfl <;> cases Y <;> simp [run_program, hgt]
    · by_cases hN : X = .nilIface ∧ Y = .nilIface
      · obtain ⟨rfl, rfl⟩ := hN
        have hb := hs.nil rfl rfl
        rw [hb] at hbn
        have hl : (isC a || isC b) = true := by
          cases hq : (isC a || isC b) with
          | true => rfl
          | false => rw [hq] at hbn; cases hbn
        cases a <;> cases b <;> first | (cases hl; done) | (rcases hop with rfl | rfl <;> rfl)
      · exact guard_pass op xt a b (fun h h' => hN ⟨h, h'⟩) (fun A h => hA ⟨A, h⟩)
  cases op with
  | eql =>
    replace hc := bc_some' (c := bc (isC a || isC b) false (bothNil x y)) hc
    obtain ⟨g1, hc⟩ := hc
    replace hc := bc_some' (c := bc (P.eqGuardType P.depth xt) (anAgg x) false) hc
    obtain ⟨g2, hc⟩ := hc
    obtain ⟨bb, hb, hv⟩ := ob_some' hc
    cases hv
    obtain ⟨m1, m2, m3⟩ := main bb (by rw [g1]; exact g2) hb (.inl rfl)
    refine ⟨_, .bool bb, ?_⟩
    rw [m3.eql]
    simp [m1, m2]
  | neq =>
    replace hc := bc_some' (c := bc (isC a || isC b) false (bothNil x y)) hc
    obtain ⟨g1, hc⟩ := hc
    replace hc := bc_some' (c := bc (P.eqGuardType P.depth xt) (anAgg x) false) hc
    obtain ⟨g2, hc⟩ := hc
    obtain ⟨bb, hb, hv⟩ := ob_some' hc
    cases hv
    obtain ⟨m1, m2, m3⟩ := main bb (by rw [g1]; exact g2) hb (.inr rfl)
    refine ⟨_, .bool (bnot bb), ?_⟩
    rw [m3.neq]
    cases bb <;> simp [m1, m2, bnot]
  | _ => cases hc
end Go.Ax
namespace Go.Ax
open Go.RowKit (Below)
variable {P : Program} {D : Nat → Nat} {base : Bas} {w0 : World} {E : En} {h : H} {nx : Nat} {w : World}
variable {K : AV → H → Nat → O} {r : St} {mask : Nat} {names : List Tmp} {tm : Tm} {e : List AV} {ρ : Operand → Value} {o : Oper}

theorem cbinI_shape {op : BinOp} {x y v : AV} {X Y : Value} (hx : VR E x X) (_hy : VR E y Y) (hc : (cbinI op).f h x y = some v) : ∃ k a, X = .int k a := by
  have : ∃ k a, x = .int k a := by
    cases op with
    | shl | shr => obtain ⟨k, a, h1, _⟩ := onInt_some hc; exact ⟨k, a, h1⟩
    | andNot => cases hc
    | _ => obtain ⟨k, a, b, h1, _⟩ := ar_some hc; exact ⟨k, a, h1⟩
  obtain ⟨k, a, rfl⟩ := this
  cases hx
  exact ⟨_, _, rfl⟩
theorem cbinS_shape {op : BinOp} {x y v : AV} {X Y : Value} (hx : VR E x X) (_hy : VR E y Y) (hc : (cbinS op).f h x y = some v) : ∃ s, X = .string s := by
  have : ∃ n l, x = .str n l := by
    cases op with
    | add | eql | neq => obtain ⟨k, a, h1, _⟩ := onStr_some hc; exact ⟨k, a, h1⟩
    | _ => cases hc
  obtain ⟨k, a, rfl⟩ := this
  cases hx
  exact ⟨_, rfl⟩

section
variable (R : HR D base w0 E h nx w) (ho : Ops E mask names tm e ρ o) (hr : (cop P mask names o).f tm e h nx K = some r)
include R ho hr
theorem cop_binOp {op : BinOp} {t : TypeId} {x y : Operand} {q : _} (hop : o.op = .binOp op t x y q) : PuOk P E h nx w (execOp ρ o) K r := by
  have h1 := ho x (by simp [hop, Op.operands])
  have h2 := ho y (by simp [hop, Op.operands])
  simp only [cop, hop] at hr
  obtain ⟨v, hv, hk⟩ := vres_some hr
  have main : BinOk P E w (do eqGuard op t x y (ρ x) (ρ y); Go.binOp op t (ρ x) (ρ y)) v := by
    unfold cbin at hv
    split at hv
    · obtain ⟨k, a, hX⟩ := cbinI_shape h1 h2 hv
      obtain ⟨V, hV, hrun⟩ := cbinI_sound (P := P) (w := w) (xt := t) h1 h2 hv
      refine ⟨V, hV, ?_⟩
      rw [hX] at hrun ⊢
      simp only [Sem.run_bind, guard_pass op t x y (X := .int k a) (Y := ρ y) (fun h => nomatch h) (fun _ h => nomatch h), Result.andThen_ok, hrun]
    · obtain ⟨s, hX⟩ := cbinS_shape h1 h2 hv
      obtain ⟨V, hV, hrun⟩ := cbinS_sound (P := P) (w := w) (xt := t) h1 h2 hv
      refine ⟨V, hV, ?_⟩
      rw [hX] at hrun ⊢
      simp only [Sem.run_bind, guard_pass op t x y (X := .string s) (Y := ρ y) (fun h => nomatch h) (fun _ h => nomatch h), Result.andThen_ok, hrun]
    · rename_i n1 n2
      exact cbinE_sound R h1 h2 (fun k hk => n1 k hk) (fun hk => n2 hk) hv
  obtain ⟨V, hV, hrun⟩ := main
  refine .pure R hk hV ?_
  have : execOp ρ o = (do pure (.value (← (do eqGuard op t x y (ρ x) (ρ y); Go.binOp op t (ρ x) (ρ y))))) := by simp only [execOp, hop]
  rw [this, Sem.run_bind, hrun]
  simp
end
end Go.Ax
namespace Go.Ax
open Go.RowKit (Below)
variable {P : Program} {D : Nat → Nat} {base : Bas} {w0 : World} {E : En} {h : H} {nx : Nat} {w : World}
variable {K : AV → H → Nat → O} {r : St} {mask : Nat} {names : List Tmp} {tm : Tm} {e : List AV} {ρ : Operand → Value} {o : Oper}

theorem exec_builtin {c : Call} {b : Builtin} (hop : o.op = .call c) (hc : c.callee = .builtin b) :
    ∃ consts, execOp ρ o = builtin b c.argTypes o.type consts (c.args.map ρ) := by
  refine ⟨c.args.map fun | .const _ => true | _ => false, ?_⟩
  simp only [execOp, hop, resolve, hc]
  rfl

theorem lenA_sound {x : AV} {X : Value} {n : Nat} (hx : VR E x X) (hl : lenA x = some n) : ∃ a c, X = .slice a n c := by
  rcases onSl_some hl with ⟨b, o, k, c, rfl, hl⟩ | ⟨b, o, i, k, rfl, hl⟩ | ⟨m, rfl, hl⟩
  · cases hl; cases hx; exact ⟨_, _, rfl⟩
  · cases hl; cases hx; exact ⟨_, _, rfl⟩
  · obtain ⟨rfl, hl⟩ := onNils_some hl
    cases hl; cases hx; exact ⟨_, _, rfl⟩

theorem firstCells_sound (R : HR D base w0 E h nx w) {sz n m : Nat} {x : AV} {X : Value} {l : List AV} (hx : VR E x X) (hm : lenA x = some m) (hnm : n ≤ m) (hl : firstCellsA h sz n x = some l) :
    ∃ L, VRL E l L ∧ L.length = n * sz ∧ ∀ w', (∀ a, w'.cell? a = w.cell? a) → (Builtin.firstCells sz n X).run P w' = .ok L.toArray w' := by
  rcases onSl_some hl with ⟨b, o, k, c, rfl, hl⟩ | ⟨b, o, i, k, rfl, hl⟩ | ⟨y, rfl, hl⟩
  · cases hx with
    | sl _ _ _ he =>
      obtain ⟨L, hL, hlen, hlies⟩ := loadB_sound R he hl
      refine ⟨L, hL, hlen, fun w' hw => ?_⟩
      exact run_firstCells_some w' sz n _ k _ L hlen (fun j v hj => by rw [hw]; exact hlies j v hj)
  · cases hx with
    | slx _ _ _ he =>
      obtain ⟨L, hL, hlen, hlies⟩ := loadB_sound R he hl
      refine ⟨L, hL, hlen, fun w' hw => ?_⟩
      exact run_firstCells_some w' sz n _ k _ L hlen (fun j v hj => by rw [hw]; exact hlies j v hj)
  · obtain ⟨rfl, hl⟩ := onNils_some hl
    cases hl
    cases hm
    cases hx
    have : n = 0 := by omega
    subst this
    exact ⟨[], .nil, by simp, fun w' _ => run_firstCells_none w' sz 0 0 0⟩

theorem EsR.len {E : En} {es : List (AV × AV × Nat)} {Es : List MapEntry} (h : EsR E es Es) : Es.length = es.length := by
  induction h with
  | nil => rfl
  | cons _ _ _ _ ih => simp [ih]

/-! len, cap, min, max -/
theorem clen_sound (R : HR D base w0 E h nx w) {t ty : TypeId} {ts : Array TypeId} {x : AV} {X : Value} {n : Nat} (ht : ts[0]? = some t) (hx : VR E x X) (hl : (clen P t).f h x = some n) :
    (Builtin.len_ ts ty #[X]).run P w = .ok (.int .i64 (Int.ofNat n)) w := by
  unfold clen at hl
  cases hU : P.underlying t with
  | none => rw [hU] at hl; cases hl
  | some d =>
    rw [hU] at hl
    cases d with
    | string =>
      obtain ⟨k, l, rfl, hl⟩ := onStr_some hl
      cases hl; cases hx
      simp [Builtin.len_, ht, run_under hU, bytes_size, goInt]
    | array k e' =>
      cases hl
      simp [Builtin.len_, ht, run_under hU, goInt]
    | pointer arr =>
      simp only at hl
      split at hl
      · rename_i k e' hA
        cases hl
        simp [Builtin.len_, ht, run_under hU, run_under hA, goInt]
      · cases hl
    | slice e' =>
      rcases onSl_some hl with ⟨b, o, k, c, rfl, hl⟩ | ⟨b, o, i, k, rfl, hl⟩ | ⟨y, rfl, hl⟩
      · cases hl; cases hx; simp [Builtin.len_, ht, run_under hU, goInt]
      · cases hl; cases hx; simp [Builtin.len_, ht, run_under hU, goInt]
      · cases y <;> first | (cases hl; done) | skip
        · cases hl; cases hx; simp [Builtin.len_, ht, run_under hU, goInt]
        · cases hl; cases hx; simp [Builtin.len_, ht, run_under hU, goInt]
    | map kt vt =>
      rcases onMap_some hl with ⟨rfl, hl⟩ | ⟨b, rfl, hl⟩
      · cases hl; cases hx; simp [Builtin.len_, ht, run_under hU, goInt]
      · cases hx with
        | map he =>
          obtain ⟨es, cl, hb, hl⟩ := onMapB_some hl
          cases hl
          obtain ⟨Es, hes, hobj⟩ := R.map he hb
          have hlen : Es.length = es.length := hes.len
          simp [Builtin.len_, ht, run_under hU, getMap hobj, goInt, llen_eq, hlen]
    | _ => cases hl

theorem minmax_sound (P : Program) (w : World) (mx : Bool) : ∀ {l : List AV} {L : List Value} {x v : AV} {X : Value}, VRL E l L → VR E x X →
    (List.rec (motive := fun _ => AV → Option AV) (fun a => some a) (fun y _ ih a => onInt a none fun k p => onInt y none fun _ q => ih (.int k (bc (bc mx (intLt p q) (intLt q p)) q p))) l : AV → Option AV) x = some v →
    ∃ V, VR E v V ∧ (L.foldlM (if mx then Builtin.max2 else Builtin.min2) X).run P w = .ok V w
  | _, _, x, v, X, .nil, hx, hv => by cases hv; exact ⟨X, hx, by simp⟩
  | _, _, x, v, X, .cons hy t, hx, hv => by
    replace hv := onInt_some hv
    obtain ⟨k, p, rfl, hv⟩ := hv
    replace hv := onInt_some hv
    obtain ⟨k', q, rfl, hv⟩ := hv
    cases hx; cases hy
    obtain ⟨V, hV, hrun⟩ := minmax_sound P w mx t (.int k _) hv
    refine ⟨V, hV, ?_⟩
    cases mx with
    | true =>
      simp only [if_true] at hrun ⊢
      rw [List.foldlM_cons]
      simp only [Builtin.max2, Sem.run_bind, Sem.run_pure, Result.andThen_ok]
      have e1 : bc (bc true (intLt p q) (intLt q p)) q p = if q > p then q else p := by rw [bc_true, intLt_eq, bc_ite]; simp
      rw [e1] at hrun
      exact hrun
    | false =>
      simp only [Bool.false_eq_true, if_false] at hrun ⊢
      rw [List.foldlM_cons]
      simp only [Builtin.min2, Sem.run_bind, Sem.run_pure, Result.andThen_ok]
      have e1 : bc (bc false (intLt p q) (intLt q p)) q p = if q < p then q else p := by rw [bc_false, intLt_eq, bc_ite]; simp
      rw [e1] at hrun
      exact hrun

/-! append -/
theorem run_app_place {st xt ty t t' : TypeId} {I : TypeInfo} {a' : Option Addr} {bs : Option Addr} {n c m q : Nat} {N : List Value} {w' : World}
    (ht : P.underlying st = some (.slice t)) (hx : P.underlying xt = some (.slice t')) (hi : P.info? t = some I)
    (hnew : (Builtin.firstCells I.size m (.slice a' m q)).run P w = .ok N.toArray w) (hle : n + m ≤ c)
    (hst : ∀ a, bs = some a → (storeCells (a.add (n * I.size)) N).run P w = .ok () w') (hno : bs = none → w' = w) :
    (Builtin.append_ #[st, xt] ty #[.slice bs n c, .slice a' m q]).run P w = .ok (.slice bs (n + m) c) w' := by
  cases bs with
  | none =>
    have := hno rfl
    subst this
    simp [Builtin.append_, run_under ht, run_under hx, sizeOf, run_info hi, Builtin.lenOf, hle, hnew]
  | some a =>
    have := hst a rfl
    simp [Builtin.append_, run_under ht, run_under hx, sizeOf, run_info hi, Builtin.lenOf, hle, hnew, this]

theorem run_app_grow {st xt ty t t' : TypeId} {I : TypeInfo} {Z : Value} {a' : Option Addr} {bs : Option Addr} {n c m q : Nat} {N O : List Value}
    (ht : P.underlying st = some (.slice t)) (hx : P.underlying xt = some (.slice t')) (hi : P.info? t = some I) (hz : I.zero = some Z)
    (hold : (Builtin.firstCells I.size n (.slice bs n c)).run P w.drew = .ok O.toArray w.drew)
    (hnew : (Builtin.firstCells I.size m (.slice a' m q)).run P w.drew = .ok N.toArray w.drew) (hgt : c < n + m) (hb : I.bytes ≠ 0) (hby : (n + m) * I.bytes ≤ 1073741824) :
    (Builtin.append_ #[st, xt] ty #[.slice bs n c, .slice a' m q]).run P w = .ok (.slice (some ⟨w.heap.size, 0, none⟩) (n + m) (grownCap w (n + m) c t))
      (w.drew.alloc (.cells (O.toArray ++ N.toArray ++ Builtin.zeroCells Z.cells (grownCap w (n + m) c t - (n + m))) t)) := by
  have hn : ¬ (n + m ≤ c) := by omega
  have h1 : n + m ≤ 1073741824 := by
    have : (n + m) * 1 ≤ (n + m) * I.bytes := Nat.mul_le_mul_left _ (by omega)
    omega
  have h63 : ¬ (9223372036854775807 < ((n : Int) + (m : Int))) := by omega
  have h48 := growslice_fits (old := c) (bytes := I.bytes) (need := n + m) (by omega) (by omega)
  have h48' : ¬ (281474976710656 < Builtin.nextslicecap (n + m) c * I.bytes) := by omega
  simp [Builtin.append_, run_under ht, run_under hx, sizeOf, run_info hi, zeroValue, hz, Builtin.lenOf, hn, h63, h48', Question.forced, hold, hnew, newRow, grownCap]
  congr 2
  apply Array.ext'
  simp [List.append_assoc]

theorem run_app_place0 {st xt ty t : TypeId} {I : TypeInfo} {Z : Value} {ik k : IntKind} {bs : Option Addr} {n c m : Nat} {w' : World}
    (ht : P.underlying st = some (.slice t)) (hx : P.underlying xt = some (.int ik)) (hi : P.info? t = some I) (hz : I.zero = some Z) (hs : I.size ≠ 0)
    (hb : I.bytes ≠ 0) (hby : m * I.bytes ≤ 1073741824) (hle : n + m ≤ c)
    (hst : ∀ a, bs = some a → (storeCells (a.add (n * I.size)) (Builtin.zeroCells Z.cells m).toList).run P w = .ok () w') (hno : bs = none → w' = w) :
    (Builtin.append_ #[st, xt] ty #[.slice bs n c, .int k (Int.ofNat m)]).run P w = .ok (.slice bs (n + m) c) w' := by
  have h1 : m ≤ 1073741824 := by
    have : m * 1 ≤ m * I.bytes := Nat.mul_le_mul_left _ (by omega)
    omega
  have hw : IntKind.i64.wrap (m : Int) = m := IntWalk.i64_in _ (by omega)
  have h0 : ¬ ((m : Int) < 0) := by omega
  have h48 : ¬ (281474976710656 < (m : Int) * (I.bytes : Int)) := by
    have : ((m * I.bytes : Nat) : Int) ≤ 1073741824 := by omega
    rw [Int.natCast_mul] at this
    omega
  have hzc : Builtin.zeroCells Z.cells 0 = #[] := by simp [Builtin.zeroCells]
  cases bs with
  | none =>
    have := hno rfl
    subst this
    by_cases hm : m = 0
    · subst hm
      simp at hle
      simp [Builtin.append_, run_under ht, run_under hx, sizeOf, run_info hi, zeroValue, hz, asInt, asIntOf, hle, IntKind.wrap, IntKind.bits, IntKind.signed]
    · have hms : ¬ (m * I.size = 0) := by rw [Nat.mul_eq_zero]; omega
      simp [Builtin.append_, run_under ht, run_under hx, sizeOf, run_info hi, zeroValue, hz, asInt, asIntOf, hw, h0, h48, hle]
  | some a =>
    have := hst a rfl
    by_cases hm : m = 0
    · subst hm
      rw [hzc] at this
      simp at this
      simp at hle
      simp [Builtin.append_, run_under ht, run_under hx, sizeOf, run_info hi, zeroValue, hz, asInt, asIntOf, hle, IntKind.wrap, IntKind.bits, IntKind.signed, this]
    · have hms : ¬ (m * I.size = 0) := by rw [Nat.mul_eq_zero]; omega
      simp [Builtin.append_, run_under ht, run_under hx, sizeOf, run_info hi, zeroValue, hz, asInt, asIntOf, hw, h0, h48, hle, hms, this]

theorem run_app_grow0 {st xt ty t : TypeId} {I : TypeInfo} {Z : Value} {ik k : IntKind} {bs : Option Addr} {n c m : Nat} {O : List Value}
    (ht : P.underlying st = some (.slice t)) (hx : P.underlying xt = some (.int ik)) (hi : P.info? t = some I) (hz : I.zero = some Z) (hs : I.size ≠ 0)
    (hold : (Builtin.firstCells I.size n (.slice bs n c)).run P w.drew = .ok O.toArray w.drew)
    (hgt : c < n + m) (hb : I.bytes ≠ 0) (hby : (n + m) * I.bytes ≤ 1073741824) :
    (Builtin.append_ #[st, xt] ty #[.slice bs n c, .int k (Int.ofNat m)]).run P w = .ok (.slice (some ⟨w.heap.size, 0, none⟩) (n + m) (grownCap w (n + m) c t))
      (w.drew.alloc (.cells (O.toArray ++ Builtin.zeroCells Z.cells m ++ Builtin.zeroCells Z.cells (grownCap w (n + m) c t - (n + m))) t)) := by
  have hn : ¬ (n + m ≤ c) := by omega
  have hmb : m * I.bytes ≤ (n + m) * I.bytes := Nat.mul_le_mul_right _ (by omega)
  have h1 : n + m ≤ 1073741824 := by
    have : (n + m) * 1 ≤ (n + m) * I.bytes := Nat.mul_le_mul_left _ (by omega)
    omega
  have hw : IntKind.i64.wrap (m : Int) = m := IntWalk.i64_in _ (by omega)
  have h0 : ¬ ((m : Int) < 0) := by omega
  have hq : ¬ (281474976710656 < (m : Int) * (I.bytes : Int)) := by
    have : ((m * I.bytes : Nat) : Int) ≤ 1073741824 := by omega
    rw [Int.natCast_mul] at this
    omega
  have h63 : ¬ (9223372036854775807 < ((n : Int) + (m : Int))) := by omega
  have h48 := growslice_fits (old := c) (bytes := I.bytes) (need := n + m) (by omega) (by omega)
  have h48' : ¬ (281474976710656 < Builtin.nextslicecap (n + m) c * I.bytes) := by omega
  have hzc : Builtin.zeroCells Z.cells 0 = #[] := by simp [Builtin.zeroCells]
  by_cases hm : m = 0
  · subst hm
    simp only [Nat.add_zero, Int.natCast_zero, Int.add_zero] at hn h63 h48'
    simp [Builtin.append_, run_under ht, run_under hx, sizeOf, run_info hi, zeroValue, hz, asInt, asIntOf, hn, h63, h48', Question.forced, hold, newRow, grownCap, IntKind.wrap, IntKind.bits, IntKind.signed, hzc]
  · have hms : ¬ (m * I.size = 0) := by rw [Nat.mul_eq_zero]; omega
    simp [Builtin.append_, run_under ht, run_under hx, sizeOf, run_info hi, zeroValue, hz, asInt, asIntOf, hw, h0, hq, hn, hms, h63, h48', Question.forced, hold, newRow, grownCap]
end Go.Ax
namespace Go.Ax
open Go.RowKit (Below)
variable {P : Program} {D : Nat → Nat} {base : Bas} {w0 : World} {E : En} {h : H} {nx : Nat} {w : World}
variable {K : AV → H → Nat → O} {r : St} {mask : Nat} {names : List Tmp} {tm : Tm} {e : List AV} {ρ : Operand → Value} {o : Oper}

/-- a block goes on under a new name -/
theorem HR.alias (R : HR D base w0 E h nx w) {b c q : Nat} {ab ab' : AB} {O : Obj} {w' : World} (hn : nx < 262143) (e : E.m b = some (c, q)) (hb : bget b h = some ab)
    (br : BR D E q ab' O) (u : Upd w c O w') : HR D base w0 (E.put nx (c, q)) (bput nx (some ab') (bput b none h)) (nx + 1) w' := by
  have hf := R.fresh nx (Nat.le_refl _)
  have hle := E.put_le (c, q) hf
  have hlt := R.lt e
  have hc := (R.get e hb).1
  have hold : ∀ k, k ≠ nx → (E.put nx (c, q)).m k = E.m k := fun k hk => by show (if k = nx then _ else E.m k) = _; rw [if_neg hk]
  have hget : ∀ k, bget k (bput nx (some ab') (bput b none h)) = if k = nx then some ab' else if k = b then none else bget k h := fun k => by
    rw [bget_put]
    by_cases hk : k = nx
    · subst hk; rw [if_pos ⟨rfl, by omega⟩, if_pos rfl]
    · rw [if_neg (fun (x : k = nx ∧ k < 262144) => hk x.1), if_neg hk, bget_put]
      by_cases hkb : k = b
      · subst hkb; rw [if_pos ⟨rfl, by omega⟩, if_pos rfl]
      · rw [if_neg (fun (x : k = b ∧ k < 262144) => hkb x.1), if_neg hkb]
  refine ⟨by omega, ?_, ?_, ?_, ?_, ?_, fun k hk => by rw [u.size]; exact R.bsz k hk, fun k hk => by rw [hget, if_neg (by omega), if_neg (by omega)]; exact R.top k (by omega), fun b p hb => hle.up b p (R.ext b p hb), by have := R.n0le; omega, fun k hk hE hK => by
    have hq := R.old k hk hE hK
    have := R.n0le
    exact ⟨by rw [hget, if_neg (by omega)]; split <;> first | rfl | exact hq.1, by rw [hold k (by omega)]; exact hq.2⟩⟩
  · intro b' hb'; rw [hold b' (by omega)]; exact R.fresh b' (by omega)
  · intro b' c' q' hb'
    rw [u.size]
    by_cases hk : b' = nx
    · subst hk; rw [En.put_at] at hb'; cases hb'; exact R.size b c q e
    · rw [hold b' hk] at hb'; exact R.size b' c' q' hb'
  · intro b' xb c' q' hb' hx hE
    rw [hget] at hx
    split at hx
    · rename_i hk; subst hk
      rw [En.put_at] at hE
      cases hE; cases hx
      exact ⟨hc, O, u.at_, br.mono hle⟩
    · rename_i hk
      split at hx
      · cases hx
      · rename_i hkb
        rw [hold b' hk] at hE
        obtain ⟨h1, o, ho, hbr⟩ := R.live b' xb c' q' (by omega) hx hE
        have hne : c' ≠ c := fun hcc => hkb (R.inj b' b c q' q (by omega) hlt (by rw [hx]; rfl) (by rw [hb]; rfl) (hcc ▸ hE) e)
        exact ⟨h1, o, by rw [u.else_ c' hne]; exact ho, hbr.mono hle⟩
  · have key : ∀ b1 c1 q1, b1 ≠ nx → b1 < nx + 1 → (bget b1 (bput nx (some ab') (bput b none h))).isSome → E.m b1 = some (c1, q1) → c1 ≠ c := by
      intro b1 c1 q1 hk h1 hs e1 hcc
      rw [hget, if_neg hk] at hs
      split at hs
      · cases hs
      · rename_i hkb
        exact hkb (R.inj b1 b c q1 q (by omega) hlt hs (by rw [hb]; rfl) (hcc ▸ e1) e)
    intro b1 b2 c' q1 q2 h1 h2 s1 s2 e1 e2
    by_cases hk1 : b1 = nx
    · by_cases hk2 : b2 = nx
      · omega
      · rw [hk1, En.put_at] at e1; cases e1
        rw [hold b2 hk2] at e2
        exact absurd rfl (key b2 _ _ hk2 h2 s2 e2)
    · by_cases hk2 : b2 = nx
      · rw [hk2, En.put_at] at e2; cases e2
        rw [hold b1 hk1] at e1
        exact absurd rfl (key b1 _ _ hk1 h1 s1 e1)
      · rw [hold b1 hk1] at e1; rw [hold b2 hk2] at e2
        rw [hget, if_neg hk1] at s1; rw [hget, if_neg hk2] at s2
        split at s1
        · cases s1
        · split at s2
          · cases s2
          · exact R.inj b1 b2 c' q1 q2 (by omega) (by omega) s1 s2 e1 e2
  · exact R.below.trans ⟨u.os, u.tape, u.output, Nat.le_of_eq u.size.symm, fun k hk => u.else_ k (fun hh => hc (hh ▸ hk))⟩

/-- a value is come to -/
def VOk (P : Program) (D : Nat → Nat) (base : Bas) (w0 : World) (E : En) (h : H) (nx : Nat) (w : World) (s : Sem Value) (K : AV → H → Nat → O) (r : St) : Prop :=
  ∃ v V h' nx' E' w', K v h' nx' = some r ∧ En.le nx E E' ∧ nx ≤ nx' ∧ VR E' v V ∧ HR D base w0 E' h' nx' w' ∧ (∀ b, b < nx → E.m b = none → bget b h' = bget b h) ∧
    s.run P w = .ok V w'
theorem VOk.op {s : Sem Value} {s' : Sem Next} (hv : VOk P D base w0 E h nx w s K r) (hs : s' = (do pure (.value (← s)))) : OpOk P D base w0 E h nx w s' K r := by
  obtain ⟨v, V, h', nx', E', w', h1, h2, h3, h4, h5, h6, h7⟩ := hv
  refine ⟨v, V, h', nx', E', w', h1, h2, h3, h4, h5, h6, .inl ?_⟩
  subst hs
  simp [h7]

theorem grownCap_le (w : World) {need old : Nat} {e : TypeId} : need ≤ grownCap w need old e := by
  simp only [grownCap, Question.cut]; omega

theorem zeroCells_size (Z : Array Value) (n : Nat) : (Builtin.zeroCells Z n).size = n * Z.size := by simp [Builtin.zeroCells]

/-- the row that a growing append makes -/
theorem grow_row {q n m sz k : Nat} {x : Row} {t t' : TypeId} {O N : List Value} {Z : Array Value} (hO : O.length = n * sz) (hN : N.length = m * sz) (hZ : Z.size = sz) (hq : n + m ≤ q) (hk : k = n + m)
    (hx : ∀ i v, rget x i = some v → i < (n + m) * sz ∧ ∃ V, (O ++ N)[i]? = some V ∧ VR E v V) :
    BR D E q (.grow x t sz k) (.cells (O.toArray ++ N.toArray ++ Builtin.zeroCells Z (q - (n + m))) t' (0, 0)) := by
  subst hk
  refine .grow t t' ?_ hq ?_ (fun i v hv => (hx i v hv).1)
  · simp only [Array.size_append, List.size_toArray, zeroCells_size, hO, hN, hZ]
    rw [← Nat.add_mul, ← Nat.add_mul, Nat.add_sub_cancel' hq]
  · intro i v hv
    obtain ⟨hi, V, hV, hr⟩ := hx i v hv
    refine ⟨V, ?_, hr⟩
    have hi2 : i < (O ++ N).length := by rw [List.length_append, hO, hN, ← Nat.add_mul]; exact hi
    have h1 : (O.toArray ++ N.toArray)[i]? = some V := by simpa using hV
    have h2 : i < (O.toArray ++ N.toArray).size := by simpa using hi2
    rw [Array.getElem?_append_left h2]
    exact h1

theorem appendA_sound (R : HR D base w0 E h nx w) {ty t : TypeId} {ts : Array TypeId} {sz bytes m : Nat} {s : AV} {S X : Value} {new : List AV} {N : List Value} {Z : Array Value}
    (hs : VR E s S) (hnew : VRL E new N) (hN : N.length = m * sz) (hZ : Z.size = sz)
    (hplace : ∀ bs n c w', n + m ≤ c → (∀ a, bs = some a → (storeCells (a.add (n * sz)) N).run P w = .ok () w') → (bs = none → w' = w) →
      (Builtin.append_ ts ty #[.slice bs n c, X]).run P w = .ok (.slice bs (n + m) c) w')
    (hgrow : ∀ bs n c O, (Builtin.firstCells sz n (.slice bs n c)).run P w.drew = .ok (List.toArray O) w.drew → c < n + m → (n + m) * bytes ≤ 1073741824 →
      (Builtin.append_ ts ty #[.slice bs n c, X]).run P w = .ok (.slice (some ⟨w.heap.size, 0, none⟩) (n + m) (grownCap w (n + m) c t))
        (w.drew.alloc (.cells (O.toArray ++ N.toArray ++ Builtin.zeroCells Z (grownCap w (n + m) c t - (n + m))) t)))
    (hr : appendA h nx t sz bytes s m new K = some r) : VOk P D base w0 E h nx w (Builtin.append_ ts ty #[S, X]) K r := by
  have hnl := hnew.len
  replace hr := onSl_some hr
  rcases hr with ⟨b, o, n, c, rfl, hr⟩ | ⟨b, o, i, n, rfl, hr⟩ | ⟨y, rfl, hr⟩
  · cases hs with
    | @sl _ C q _ _ _ he =>
      rw [bc_ite] at hr
      split at hr
      · rename_i hle
        have hle : n + m ≤ c := ble_le hle
        obtain ⟨h', hst, hk⟩ := ob_some' hr
        obtain ⟨w', hrun, hR, hother⟩ := storeB_sound R he hst hnew
        refine ⟨_, _, h', nx, E, w', hk, .refl _ _, Nat.le_refl _, .sl _ _ _ he, hR, fun k hk1 hk2 => hother k (fun hkb => by subst hkb; rw [he] at hk2; cases hk2), ?_⟩
        refine hplace _ _ _ _ hle (fun a ha => ?_) (fun ha => nomatch ha)
        cases ha
        rw [add_lit]
        exact hrun P
      · rename_i hle
        have hle : c < n + m := by
          rcases Nat.lt_or_ge c (n + m) with h1 | h1
          · exact h1
          · exact absurd (Nat.ble_eq_true_of_le h1) hle
        obtain ⟨hby, hr⟩ := bc_some hr
        have hby : (n + m) * bytes ≤ 1073741824 := ble_le hby
        obtain ⟨old, hold, hr⟩ := ob_some' hr
        obtain ⟨hlt, hk⟩ := newB_some hr
        obtain ⟨L, hL, hlen, hlies⟩ := loadB_sound R he hold
        have hq := grownCap_le w (need := n + m) (old := c) (e := t)
        have hrun := hgrow (some ⟨C, o, none⟩) n c L (run_firstCells_some w.drew sz n _ n c L hlen (fun j v hj => hlies j v hj)) hle hby
        refine ⟨_, _, _, _, _, _, hk, E.put_le _ (R.fresh nx (Nat.le_refl _)), by omega, .slx 0 0 _ (E.put_at nx _),
          R.drew.alloc (q := grownCap w (n + m) c t) hlt (grow_row (t := t) hlen hN hZ hq rfl ?_), ?_, hrun⟩
        · intro i v hv
          have hv := rmk_get i v hv
          rw [app_eq] at hv
          obtain ⟨V, hV, hr⟩ := (hL.append hnew).get i v hv
          refine ⟨?_, V, hV, hr⟩
          have : i < (L ++ N).length := by
            rcases Nat.lt_or_ge i (L ++ N).length with h1 | h1
            · exact h1
            · rw [List.getElem?_eq_none h1] at hV; cases hV
          rw [List.length_append, hlen, hN] at this
          rw [Nat.add_mul]
          exact this
        · intro b' hb' _
          rw [bget_put, if_neg (fun (z : b' = nx ∧ b' < 262144) => by omega)]
  · cases hs with
    | @slx _ C q _ _ _ he =>
      rcases onCells_some hr with ⟨x, e', k, hb, hg⟩ | ⟨x, e', sz', k, hb, hg⟩
      · cases hg
      · clear hr
        replace hg := bc_some hg
        obtain ⟨hsz, hg⟩ := hg
        replace hsz := beq_eq hsz
        subst hsz
        obtain ⟨hbase, ob, ho, br⟩ := R.get he hb
        cases br with
        | grow _ e'' hsize hkq hrow hbd =>
          rename_i cur
          rw [bc_ite] at hg
          split at hg
          · rename_i hle
            have hle : i + (n + m) ≤ k := ble_le hle
            obtain ⟨h', hst, hk⟩ := ob_some' hg
            obtain ⟨w', hrun, hR, hother⟩ := storeB_sound R he hst hnew
            refine ⟨_, _, h', nx, E, w', hk, .refl _ _, Nat.le_refl _, .slx _ _ _ he, hR, fun k hk1 hk2 => hother k (fun hkb => by subst hkb; rw [he] at hk2; cases hk2), ?_⟩
            refine hplace _ _ _ _ (by omega) (fun a ha => ?_) (fun ha => nomatch ha)
            cases ha
            rw [add_lit]
            exact hrun P
          · rename_i hle
            have hle : k < i + (n + m) := by
              rcases Nat.lt_or_ge k (i + (n + m)) with h1 | h1
              · exact h1
              · exact absurd (Nat.ble_eq_true_of_le h1) hle
            replace hg := bc_some hg
            obtain ⟨hz, hg⟩ := hg
            replace hg := bc_some hg
            obtain ⟨hby, hg⟩ := hg
            have hby : (n + m) * bytes ≤ 1073741824 := ble_le hby
            replace hg := bc_some hg
            obtain ⟨hone, hg⟩ := hg
            obtain ⟨hlt, hk⟩ := newB_some hg
            clear hg
            have hz' : band (band (Nat.beq i 0) (Nat.beq o 0)) (Nat.ble n k) = true := hz
            have hi0 : i = 0 ∧ o = 0 ∧ n ≤ k := by
              cases h1 : Nat.beq i 0 with
              | false => rw [h1] at hz'; cases hz'
              | true =>
                cases h2 : Nat.beq o 0 with
                | false => rw [h1, h2] at hz'; cases hz'
                | true => rw [h1, h2] at hz'; exact ⟨beq_eq h1, beq_eq h2, ble_le hz'⟩
            obtain ⟨rfl, rfl, hnk⟩ := hi0
            have hone := allOne_sound hone hnew
            have hnks : n * sz ≤ q * sz := Nat.mul_le_mul_right _ (by omega)
            have hkle : k * sz ≤ (n + m) * sz := Nat.mul_le_mul_right _ (by omega)
            have hsum : (n + m) * sz = n * sz + m * sz := Nat.add_mul _ _ _
            -- what the new row holds
            have hcells : ∀ i v, rget (rput (rgrow x (Nat.mul (Nat.add n m) sz)) (Nat.mul n sz) new) i = some v →
                (n * sz ≤ i ∧ i < (n + m) * sz ∧ ∃ V, N[i - n * sz]? = some V ∧ VR E v V) ∨ (i < n * sz ∧ ∃ V, cur[i]? = some V ∧ VR E v V) := by
              intro i v hv
              rcases rput_get i v hv with ⟨h1, h2, h3⟩ | ⟨h1, h2⟩
              · refine .inl ⟨h1, ?_, ?_⟩
                · have : Nat.mul n sz = n * sz := rfl
                  omega
                · obtain ⟨V, hV, hvr⟩ := hnew.get _ _ h3
                  exact ⟨V, hV, hvr⟩
              · have h2 := rgrow_get i v h2
                have h3 := hbd i v h2
                have : Nat.mul n sz = n * sz := rfl
                exact .inr ⟨by omega, hrow i v h2⟩
            by_cases hcap : n + m ≤ q
            · -- in place
              have hcs : (n + m) * sz ≤ q * sz := Nat.mul_le_mul_right _ hcap
              have hfit : n * sz + N.length ≤ cur.size := by omega
              have u := setRow_upd (cs := over cur (n * sz) N) ho
              have br' : BR D E q (.grow (rput (rgrow x (Nat.mul (Nat.add n m) sz)) (Nat.mul n sz) new) e' sz (n + m)) (.cells (over cur (n * sz) N) e'' (0, 0)) := by
                refine .grow _ _ (by rw [over_size hfit]; exact hsize) hcap ?_ ?_
                · intro i v hv
                  rw [over_get hfit]
                  rcases hcells i v hv with ⟨h1, h2, V, hV, hvr⟩ | ⟨h1, V, hV, hvr⟩
                  · rw [if_pos ⟨h1, by omega⟩]; exact ⟨V, hV, hvr⟩
                  · rw [if_neg (by omega)]; exact ⟨V, hV, hvr⟩
                · intro i v hv
                  rcases hcells i v hv with ⟨h1, h2, _⟩ | ⟨h1, _⟩ <;> omega
              refine ⟨_, _, _, _, _, _, hk, E.put_le _ (R.fresh nx (Nat.le_refl _)), by omega, .slx 0 0 _ (E.put_at nx _), R.alias hlt he hb br' u, ?_, ?_⟩
              · intro b' hb' hn'
                rw [bget_put, if_neg (fun (z : b' = nx ∧ b' < 262144) => by omega), bget_put, if_neg]
                rintro ⟨rfl, _⟩
                rw [he] at hn'; cases hn'
              · refine hplace _ _ _ _ (by omega) (fun a ha => ?_) (fun ha => nomatch ha)
                cases ha
                rw [add_lit]
                simpa [over] using run_storeCells_at P C (0 + n * sz) e'' N 0 cur w ho (by simpa using hfit) hone
            · -- a new row
              have hq := grownCap_le w (need := n + m) (old := q) (e := t)
              have hOl : (cur.toList.take (n * sz)).length = n * sz := by simp; omega
              have hrun := hgrow (some ⟨C, 0, none⟩) n (q - 0) (cur.toList.take (n * sz)) (run_firstCells_some w.drew sz n _ n (q - 0) _ hOl (fun j v hj => by
                rw [add_lit]
                have hj : cur[j]? = some v := by
                  rw [List.getElem?_take] at hj
                  split at hj
                  · simpa using hj
                  · cases hj
                rw [World.cell?_drew, Nat.zero_add]
                simp [World.cell?, ho, hj])) (by omega) hby
              have R' := (R.drew.drop b).alloc (q := grownCap w (n + m) q t) hlt (grow_row (D := D) (E := E) (t := e') (t' := t) (x := rput (rgrow x (Nat.mul (Nat.add n m) sz)) (Nat.mul n sz) new) hOl hN hZ hq rfl (by
                intro i v hv
                rcases hcells i v hv with ⟨h1, h2, V, hV, hvr⟩ | ⟨h1, V, hV, hvr⟩
                · refine ⟨h2, V, ?_, hvr⟩
                  rw [List.getElem?_append_right (by omega), hOl]; exact hV
                · refine ⟨by omega, V, ?_, hvr⟩
                  rw [List.getElem?_append_left (by omega), List.getElem?_take_of_lt h1]; simpa using hV))
              refine ⟨_, _, _, _, _, _, hk, E.put_le _ (R.fresh nx (Nat.le_refl _)), by omega, .slx 0 0 _ (E.put_at nx _), R', ?_, hrun⟩
              intro b' hb' hn'
              rw [bget_put, if_neg (fun (z : b' = nx ∧ b' < 262144) => by omega), bget_put, if_neg]
              rintro ⟨rfl, _⟩
              rw [he] at hn'; cases hn'
  · replace hr := onNils_some hr
    obtain ⟨rfl, hr⟩ := hr
    cases hs
    rw [bc_ite] at hr
    split at hr
    · rename_i hm
      have hm := beq_eq hm
      subst hm
      refine ⟨_, _, h, nx, E, w, hr, .refl _ _, Nat.le_refl _, .nils, R, fun _ _ _ => rfl, ?_⟩
      exact hplace none 0 0 w (by omega) (fun a ha => nomatch ha) (fun _ => rfl)
    · rename_i hm
      have hm : m ≠ 0 := fun hh => hm (by subst hh; exact Nat.beq_refl 0)
      obtain ⟨hby, hr⟩ := bc_some hr
      have hby : m * bytes ≤ 1073741824 := ble_le hby
      obtain ⟨hlt, hk⟩ := newB_some hr
      have hq := grownCap_le w (need := 0 + m) (old := 0) (e := t)
      have hrun := hgrow none 0 0 [] (run_firstCells_none w.drew sz 0 0 0) (by omega) (by simpa using hby)
      have R' := R.drew.alloc (q := grownCap w (0 + m) 0 t) hlt (grow_row (D := D) (E := E) (t := t) (t' := t) (n := 0) (k := m) (O := []) (x := rmk new (Nat.mul m sz)) (by simp) hN hZ hq (by omega) (by
        intro i v hv
        have hv := rmk_get i v hv
        obtain ⟨V, hV, hvr⟩ := hnew.get i v hv
        refine ⟨?_, V, by simpa using hV, hvr⟩
        rcases Nat.lt_or_ge i N.length with h1 | h1
        · rw [hN] at h1; simpa using h1
        · rw [List.getElem?_eq_none h1] at hV; cases hV))
      have hv := VR.slx (E := E.put nx (w.drew.heap.size, grownCap w (0 + m) 0 t)) 0 0 m (E.put_at nx _)
      refine ⟨_, _, _, _, _, _, hk, E.put_le _ (R.fresh nx (Nat.le_refl _)), by omega, hv, R', ?_, ?_⟩
      · intro b' hb' hn'
        rw [bget_put, if_neg (fun (z : b' = nx ∧ b' < 262144) => by omega)]
      · have e0 : 0 + m = m := by omega
        rw [e0] at hrun ⊢
        exact hrun
end Go.Ax
namespace Go.Ax
open Go.RowKit (Below)
variable {P : Program} {D : Nat → Nat} {base : Bas} {w0 : World} {E : En} {h : H} {nx : Nat} {w : World}
variable {K : AV → H → Nat → O} {r : St} {mask : Nat} {names : List Tmp} {tm : Tm} {e : List AV} {ρ : Operand → Value} {o : Oper}

/-! a range over a map -/
theorem onIterB_some {γ : Type} {x : γ} {b : Option AB} {k : Nat → Nat → List Nat → Nat → Option γ} (hr : onIterB b none k = some x) : ∃ m s l t, b = some (.iter m s l t) ∧ k m s l t = some x := by
  cases b with
  | none => cases hr
  | some b => cases b <;> first | (cases hr; done) | exact ⟨_, _, _, _, rfl, hr⟩

theorem EsR.filter (p : Nat → Bool) : ∀ {es : List (AV × AV × Nat)} {Es : List MapEntry}, EsR E es Es → EsR E (es.filter fun e => p e.2.2) (Es.filter fun e => p e.born)
  | _, _, .nil => .nil
  | _, _, .cons b hk hv t => by
    simp only [List.filter_cons]
    cases hp : p b with
    | true => simpa using EsR.cons b hk hv (t.filter p)
    | false => simpa using t.filter p
theorem EsR.isEmpty {es : List (AV × AV × Nat)} {Es : List MapEntry} (t : EsR E es Es) : es.isEmpty = Es.isEmpty := by cases t <;> rfl
theorem EsR.all (p : Nat → Bool) : ∀ {es : List (AV × AV × Nat)} {Es : List MapEntry}, EsR E es Es → (es.all fun e => p e.2.2) = (Es.all fun e => p e.born)
  | _, _, .nil => rfl
  | _, _, .cons b _ _ t => by simp only [List.all_cons, t.all p]
theorem EsR.append : ∀ {es es' : List (AV × AV × Nat)} {Es Es' : List MapEntry}, EsR E es Es → EsR E es' Es' → EsR E (es ++ es') (Es ++ Es')
  | _, _, _, _, .nil, t => t
  | _, _, _, _, .cons b hk hv t, u => .cons b hk hv (t.append u)
theorem EsR.find (p : Nat → Bool) : ∀ {es : List (AV × AV × Nat)} {Es : List MapEntry} {en : AV × AV × Nat}, EsR E es Es → (es.find? fun e => p e.2.2) = some en →
    ∃ K V, (Es.find? fun e => p e.born) = some ⟨K, V, en.2.2⟩ ∧ VR E en.1 K ∧ VR E en.2.1 V
  | _, _, _, .nil, h => by cases h
  | _, _, _, .cons b hk hv t, h => by
    simp only [List.find?_cons] at h ⊢
    cases hp : p b with
    | true => simp only [hp] at h; cases h; exact ⟨_, _, rfl, hk, hv⟩
    | false => simp only [hp] at h; exact t.find p h

inductive CdR (E : En) : List (Option (AV × AV × Nat)) → List (Option MapEntry) → Prop where
  | nil : CdR E [] []
  | over {l L} (t : CdR E l L) : CdR E (none :: l) (none :: L)
  | cons (b : Nat) {k v : AV} {K V : Value} {l L} (hk : VR E k K) (hv : VR E v V) (t : CdR E l L) : CdR E (some (k, v, b) :: l) (some ⟨K, V, b⟩ :: L)
theorem CdR.of : ∀ {es : List (AV × AV × Nat)} {Es : List MapEntry}, EsR E es Es → CdR E (es.map some) (Es.map some)
  | _, _, .nil => .nil
  | _, _, .cons b hk hv t => .cons b hk hv (CdR.of t)
theorem CdR.length : ∀ {l L}, CdR E l L → l.length = L.length
  | _, _, .nil => rfl
  | _, _, .over t => by simp [t.length]
  | _, _, .cons _ _ _ t => by simp [t.length]
theorem CdR.at_ : ∀ {l L} {i : Nat} {c : Option (AV × AV × Nat)}, CdR E l L → l[i]? = some c →
    (c = none ∧ L[i]? = some none) ∨ (∃ en K V, c = some en ∧ L[i]? = some (some ⟨K, V, en.2.2⟩) ∧ VR E en.1 K ∧ VR E en.2.1 V)
  | _, _, i, _, .nil, h => by simp at h
  | _, _, 0, _, .over _, h => by cases h; exact .inl ⟨rfl, rfl⟩
  | _, _, 0, _, .cons _ hk hv _, h => by cases h; exact .inr ⟨_, _, _, rfl, rfl, hk, hv⟩
  | _, _, i + 1, _, .over t, h => by simpa using t.at_ (i := i) (by simpa using h)
  | _, _, i + 1, _, .cons _ _ _ t, h => by simpa using t.at_ (i := i) (by simpa using h)

/-- the candidates, in the machine -/
def candsC (Es : List MapEntry) (since : Nat) (seen : List Nat) : List (Option MapEntry) :=
  (if ((Es.filter fun e => !seen.contains e.born).filter fun e => decide (e.born < since)).isEmpty then [none] else []) ++
    (((Es.filter fun e => !seen.contains e.born).filter fun e => decide (e.born < since)) ++ ((Es.filter fun e => !seen.contains e.born).filter fun e => decide (e.born ≥ since))).map some

theorem cands_sound {es : List (AV × AV × Nat)} {Es : List MapEntry} (t : EsR E es Es) (since : Nat) (seen : List Nat) : CdR E (candsA es since seen) (candsC Es since seen) := by
  have hl := t.filter fun b => !seen.contains b
  have ho := hl.filter fun b => decide (b < since)
  have hn := hl.filter fun b => decide (b ≥ since)
  have hb := CdR.of (ho.append hn)
  have e1 : candsA es since seen = (if ((es.filter fun e => !seen.contains e.2.2).filter fun e => decide (e.2.2 < since)).isEmpty then [none] else []) ++
    (((es.filter fun e => !seen.contains e.2.2).filter fun e => decide (e.2.2 < since)) ++ ((es.filter fun e => !seen.contains e.2.2).filter fun e => decide (e.2.2 ≥ since))).map some := by
    unfold candsA
    have a1 : (fun e : AV × AV × Nat => bnot (seen.contains e.2.2)) = fun e => !seen.contains e.2.2 := by funext e; cases seen.contains e.2.2 <;> rfl
    have a2 : (fun e : AV × AV × Nat => Nat.blt e.2.2 since) = fun e => decide (e.2.2 < since) := by funext e; exact Bool.eq_iff_iff.2 (by simp [Nat.blt, Nat.ble_eq, Nat.succ_le_iff])
    have a3 : (fun e : AV × AV × Nat => Nat.ble since e.2.2) = fun e => decide (e.2.2 ≥ since) := by funext e; exact Bool.eq_iff_iff.2 (by simp [Nat.ble_eq])
    simp only [a1, a2, a3]
    generalize (List.filter (fun e : AV × AV × Nat => decide (e.2.2 < since)) _).isEmpty = q
    cases q <;> rfl
  rw [e1, ho.isEmpty]
  unfold candsC
  split
  · exact .over hb
  · exact hb

theorem getIter {c : Nat} {m : Option Nat} {a : Nat} {l : Array Nat} {t : Nat} (hg : w.heap[c]? = some (.mapIter m a l t)) : (getObj c).run P w = .ok (.mapIter m a l t) w := by
  simp [getObj, Sem.run, hg]
theorem setIter {c : Nat} {m : Option Nat} {a : Nat} {l : Array Nat} {t : Nat} {ob : Obj} (hg : w.heap[c]? = some (.mapIter m a l t)) : (setObj c ob).run P w = .ok () { w with heap := w.heap.setIfInBounds c ob } := by
  simp [setObj, Sem.run, hg]

theorem goneA_false {es : List (AV × AV × Nat)} {Es : List MapEntry} (t : EsR E es Es) {seen : List Nat} {last : Nat} (hg : goneA es seen last = false) :
    (!seen.toArray.isEmpty && !Es.toArray.isEmpty && Es.toArray.all fun e => decide (e.born ≥ last)) = false := by
  have h1 := t.isEmpty
  have h2 := t.all fun b => Nat.ble last b
  have h3 : (Es.all fun e => Nat.ble last e.born) = (Es.all fun e => decide (e.born ≥ last)) := by
    congr 1; funext e; exact Bool.eq_iff_iff.2 (by simp [Nat.ble_eq])
  have hg : bc seen.isEmpty false (bc es.isEmpty false (es.all fun e => Nat.ble last e.2.2)) = false := hg
  rw [h1, h2, h3] at hg
  simp only [List.isEmpty_toArray, List.all_toArray]
  cases hs : seen.isEmpty <;> cases hE : Es.isEmpty <;> rw [hs, hE] at hg <;> first | rfl | (simpa using hg)

theorem next_run {rb c since last cl : Nat} {seen : List Nat} {Es : List MapEntry} (hi : w.heap[rb]? = some (.mapIter (some c) since seen.toArray last)) (hm : w.heap[c]? = some (.map Es.toArray cl))
    (hg : (!seen.toArray.isEmpty && !Es.toArray.isEmpty && Es.toArray.all fun e => decide (e.born ≥ last)) = false) (ty : TypeId) :
    ∃ i w1, ((candsC Es since seen).length ≤ 1 ∧ i = 0 ∧ w1 = w ∨ i < (candsC Es since seen).length ∧ w1 = w.drew) ∧
      ∀ c', (candsC Es since seen)[i]? = some c' → (Instr.next (.pointer (some ⟨rb, 0, none⟩)) false ty).run P w =
        (match c' with
        | some e => .ok (.tuple #[.bool true, e.key, e.val]) { w1 with heap := w1.heap.setIfInBounds rb (.mapIter (some c) since (seen ++ [e.born]).toArray cl) }
        | none => .ok (.tuple #[.bool false]) w1) := by
  have key : ∀ i w1, (choose (.mapNext (candsC Es since seen).length)).run P w = .ok i w1 → w1.heap = w.heap → ∀ c', (candsC Es since seen)[i]? = some c' → (Instr.next (.pointer (some ⟨rb, 0, none⟩)) false ty).run P w =
        (match c' with
        | some e => .ok (.tuple #[.bool true, e.key, e.val]) { w1 with heap := w1.heap.setIfInBounds rb (.mapIter (some c) since (seen ++ [e.born]).toArray cl) }
        | none => .ok (.tuple #[.bool false]) w1) := by
    intro i w1 hc hw c' hcd
    have hset : ∀ ob, (setObj rb ob).run P w1 = .ok () { w1 with heap := w1.heap.setIfInBounds rb ob } := fun ob => setIter (by rw [hw]; exact hi)
    have f : ∀ (l : List MapEntry) (p : MapEntry → Bool), l.toArray.filter p = (l.filter p).toArray := by intro l p; simp
    have harr : ((if ((Es.toArray.filter fun e => !seen.toArray.contains e.born).filter fun e => decide (e.born < since)).isEmpty = true then #[none] else #[]) ++
      Array.map some (((Es.toArray.filter fun e => !seen.toArray.contains e.born).filter fun e => decide (e.born < since)) ++ ((Es.toArray.filter fun e => !seen.toArray.contains e.born).filter fun e => decide (e.born ≥ since)))) = (candsC Es since seen).toArray := by
      unfold candsC
      simp only [f, List.contains_toArray, List.isEmpty_toArray, List.append_toArray, List.map_toArray]
      split <;> simp only [List.append_toArray]
    unfold Instr.next
    simp only [Sem.run_bind, getIter hi, getMap hm, Result.andThen_ok, hg, Bool.false_eq_true, if_false]
    rw [harr]
    simp only [List.size_toArray, hc, Result.andThen_ok, List.getElem?_toArray, hcd]
    cases c' with
    | none => rfl
    | some e => simp [hset]
  by_cases hf : (candsC Es since seen).length ≤ 1
  · exact ⟨0, w, .inl ⟨hf, rfl, rfl⟩, key 0 w (by simp [choose, Sem.run, Question.forced, hf]) rfl⟩
  · refine ⟨_, w.drew, .inr ⟨?_, rfl⟩, key ((w.tape w.drawn (.mapNext (candsC Es since seen).length)) % (candsC Es since seen).length) w.drew (by rw [run_choose_drew]; simp [Question.forced, hf, Question.cut]) rfl⟩
    exact Nat.mod_lt _ (by omega)

theorem HR.iter (R : HR D base w0 E h nx w) {b c q : Nat} (e : E.m b = some (c, q)) {m since last : Nat} {seen : List Nat} (hb : bget b h = some (.iter m since seen last)) :
    ∃ c' p, E.m m = some (c', p) ∧ w.heap[c]? = some (.mapIter (some c') since seen.toArray last) := by
  obtain ⟨_, ob, ho, br⟩ := R.get e hb
  cases br with
  | iter _ _ _ hm => exact ⟨_, _, hm, ho⟩

theorem onNext_some {β : Type} {r : β} {v : AV} {k : Nat → Nat → Nat → List Nat → Nat → List (Option (AV × AV × Nat)) → Option β} (hr : onNext h v k = some r) :
    ∃ b m since seen last es cl, v = .ptr b 0 ∧ bget b h = some (.iter m since seen last) ∧ bget m h = some (.map es cl) ∧ goneA es seen last = false ∧ k b m since seen cl (candsA es since seen) = some r := by
  obtain ⟨b, o', hv, hr⟩ := onPtr_some hr
  obtain ⟨ho, hr⟩ := bc_some hr
  obtain rfl := Nat.eq_of_beq_eq_true ho
  obtain ⟨m, since, seen, last, hb, hr⟩ := onIterB_some hr
  obtain ⟨es, cl, hm, hr⟩ := onMapB_some hr
  cases hg : goneA es seen last with
  | true => rw [hg] at hr; cases hr
  | false => rw [hg] at hr; exact ⟨b, m, since, seen, last, es, cl, hv, hb, hm, hg, hr⟩

/-- a step of an iterator: to one of the candidates, whichever the machine draws -/
theorem next_any (R : HR D base w0 E h nx w) {it : Operand} (hop : o.op = .next it false) {b m since last cl : Nat} {seen : List Nat} {es : List (AV × AV × Nat)} (h1 : VR E (.ptr b 0) (ρ it))
    (hb : bget b h = some (.iter m since seen last)) (hm : bget m h = some (.map es cl)) (hg : goneA es seen last = false) :
    ∃ i, ((candsA es since seen).length ≤ 1 ∧ i = 0 ∨ i < (candsA es since seen).length) ∧ ∀ c, (candsA es since seen)[i]? = some c → ∀ K r, nextTo b m since seen cl c h nx K = some r → OpOk P D base w0 E h nx w (execOp ρ o) K r := by
  generalize hρ : ρ it = C at h1
  cases h1 with
  | @ptr _ rb q _ he =>
    obtain ⟨c, p, hmc, hi⟩ := R.iter he hb
    obtain ⟨Es, hes, hobj⟩ := R.map hmc hm
    have hc := cands_sound hes since seen
    obtain ⟨i, w1, hiw, hrun⟩ := next_run (P := P) hi hobj (goneA_false hes hg) o.type
    refine ⟨i, ?_, ?_⟩
    · rw [hc.length]
      rcases hiw with ⟨h1, h2, _⟩ | ⟨h1, _⟩
      · exact .inl ⟨h1, h2⟩
      · exact .inr h1
    · intro cd hcd K r hr
      have R1 : HR D base w0 E h nx w1 ∧ w1.heap = w.heap := by
        rcases hiw with ⟨_, _, rfl⟩ | ⟨_, rfl⟩
        · exact ⟨R, rfl⟩
        · exact ⟨R.drew, rfl⟩
      rcases hc.at_ hcd with ⟨rfl, hC⟩ | ⟨en, K', V', rfl, hC, hk, hv⟩
      · have hr : K (.tup [.bool false]) h nx = some r := hr
        refine .mem R1.1 hr (.tup (.cons (.bool false) .nil)) (fun _ _ _ => rfl) (.inl ?_)
        have := hrun _ hC
        simp [execOp, hop, hρ, this]
      · have hr : K (.tup [.bool true, en.1, en.2.1]) (bput b (some (.iter m since (seen ++ [en.2.2]) cl)) h) nx = some r := hr
        have R2 := R1.1.set he hb (.iter since (seen ++ [en.2.2]) cl hmc) (setMap_upd (ob := .mapIter (some c) since (seen ++ [en.2.2]).toArray cl) (by rw [R1.2]; exact hi))
        refine .mem R2 hr (.tup (.cons (.bool true) (.cons hk (.cons hv .nil)))) (bput_other he) (.inl ?_)
        have := hrun _ hC
        simp [execOp, hop, hρ, this]

section
variable (R : HR D base w0 E h nx w) (ho : Ops E mask names tm e ρ o) (hr : (cop P mask names o).f tm e h nx K = some r)
include R ho hr

theorem cop_range {t : TypeId} {x : Operand} (hop : o.op = .range t x) : MkOk P D E h nx w (execOp ρ o) K r := by
  have h1 := ho x (by simp [hop, Op.operands])
  simp only [cop, hop] at hr
  cases hU : P.underlying t with
  | none => rw [hU] at hr; cases hr
  | some d =>
    rw [hU] at hr
    cases d with
    | map kt vt =>
      simp only at hr
      rcases onMap_some hr with ⟨_, hx⟩ | ⟨b, hm, hr⟩
      · cases hx
      · rw [hm] at h1
        generalize hρ : ρ x = C at *
        cases h1 with
        | @map _ c q he =>
          obtain ⟨es, cl, hb, hr⟩ := onMapB_some hr
          obtain ⟨Es, hes, hobj⟩ := R.map he hb
          refine .new (q := 0) (ob := .mapIter (some c) cl #[] cl) hr (.iter cl [] cl he) (fun _ _ hb => .ptr 0 hb) ?_
          simp [execOp, hop, hρ, Instr.range, run_under hU, getMap hobj]
    | _ => cases hr

theorem cop_next {it : Operand} {str : Bool} (hop : o.op = .next it str) : OpOk P D base w0 E h nx w (execOp ρ o) K r := by
  have h1 := ho it (by simp [hop, Op.operands])
  simp only [cop, hop] at hr
  cases str with
  | true => cases hr
  | false =>
    simp only at hr
    obtain ⟨b, m, since, seen, last, es, cl, hv, hb, hm, hg, hr⟩ := onNext_some hr
    rw [hv] at h1
    obtain ⟨i, hi, hall⟩ := next_any (P := P) R hop h1 hb hm hg
    obtain ⟨c, rest, hc, hr⟩ := onList_some hr
    cases rest with
    | cons _ _ => cases hr
    | nil =>
      rw [hc] at hi hall
      have hi : i = 0 := by
        rcases hi with ⟨_, h2⟩ | h2
        · exact h2
        · have : i < 1 := h2
          omega
      subst hi
      exact hall c rfl K r hr

theorem cop_entry {it : Operand} (hop : o.op = .entry it) : PuOk P E h nx w (execOp ρ o) K r := by
  have h1 := ho it (by simp [hop, Op.operands])
  simp only [cop, hop] at hr
  obtain ⟨b, o', hv, hr⟩ := onPtr_some hr
  obtain ⟨ho', hr⟩ := bc_some hr
  obtain rfl := Nat.eq_of_beq_eq_true ho'
  obtain ⟨m, since, seen, last, hb, hr⟩ := onIterB_some hr
  obtain ⟨es, cl, hm, hr⟩ := onMapB_some hr
  replace hr := bc_some hr
  obtain ⟨hcl, hr⟩ := hr
  have hcl := Nat.eq_of_beq_eq_true hcl
  obtain ⟨st, hst, hr⟩ := ob_some' hr
  obtain ⟨en, hen, hk⟩ := ob_some' hr
  rw [hv] at h1
  generalize hρ : ρ it = C at h1
  cases h1 with
  | @ptr _ rb q _ he =>
    obtain ⟨c, p, hmc, hi⟩ := R.iter he hb
    obtain ⟨Es, hes, hobj⟩ := R.map hmc hm
    obtain ⟨K', V', hf, hK, hV⟩ := hes.find (fun b => Nat.beq b st) hen
    refine .pure R hk (.tup (.cons hK (.cons hV .nil))) ?_
    have hback : seen.toArray.back? = some st := by simpa using hst
    have hf' : Es.toArray.find? (fun e => e.born == st) = some ⟨K', V', en.2.2⟩ := by
      have hb : (fun e : MapEntry => e.born == st) = fun e => Nat.beq e.born st := by funext e; exact Bool.eq_iff_iff.2 (by simp [Nat.beq_eq])
      rw [List.find?_toArray, hb]; exact hf
    simp [execOp, hop, hρ, Instr.entry, getIter hi, getMap hobj, hback, hf', hcl]
end
end Go.Ax
namespace Go.Ax
open Go.RowKit (Below)
variable {P : Program} {D : Nat → Nat} {base : Bas} {w0 : World} {E : En} {h : H} {nx : Nat} {w : World}
variable {K : AV → H → Nat → O} {r : St} {mask : Nat} {names : List Tmp} {tm : Tm} {e : List AV} {ρ : Operand → Value} {o : Oper}

theorem args1 {c : Call} {x : Operand} (hc : c.args.toList = [x]) : c.args.map ρ = #[ρ x] := by
  rw [map_arr, hc]; rfl
theorem args2 {c : Call} {x y : Operand} (hc : c.args.toList = [x, y]) : c.args.map ρ = #[ρ x, ρ y] := by
  rw [map_arr, hc]; rfl
theorem mem_args {c : Call} {x : Operand} (hop : o.op = .call c) (hx : x ∈ c.args.toList) : x ∈ o.op.operands.toList := by
  rw [hop]
  simp only [Op.operands, Call.operands, Array.toList_append, List.mem_append]
  exact .inr hx

section
variable (R : HR D base w0 E h nx w) (ho : Ops E mask names tm e ρ o) (hr : (cop P mask names o).f tm e h nx K = some r)
include R ho hr

theorem cop_len {c : Call} (hop : o.op = .call c) (hc : c.callee = .builtin .len) : PuOk P E h nx w (execOp ρ o) K r := by
  simp only [cop, hop, hc] at hr
  split at hr
  · rename_i t x ht hx
    obtain ⟨n, hn, hk⟩ := ob_some' hr
    obtain ⟨cs, hex⟩ := exec_builtin (ρ := ρ) hop hc
    have h1 := ho x (mem_args hop (by rw [hx]; simp))
    refine .pure R hk (.int 3 _) ?_
    rw [hex, args1 hx]
    simp only [builtin, Sem.run_bind, clen_sound R ht h1 hn, Result.andThen_ok, Sem.run_pure]
    rfl
  · cases hr

theorem cop_cap {c : Call} (hop : o.op = .call c) (hc : c.callee = .builtin .cap) : OpOk P D base w0 E h nx w (execOp ρ o) K r := by
  simp only [cop, hop, hc] at hr
  split at hr
  · rename_i e' x ht hx
    obtain ⟨t, ht1, ht2⟩ := Option.bind_eq_some_iff.1 ht
    obtain ⟨cs, hex⟩ := exec_builtin (ρ := ρ) hop hc
    have h1 := ho x (mem_args hop (by rw [hx]; simp))
    generalize hρ : ρ x = C at h1
    rcases onSl_some hr with ⟨b, o', n, c', hv, hk⟩ | ⟨b, o', i, n, hv, hk⟩ | ⟨y, hv, hk⟩
    · rw [hv] at h1
      cases h1
      refine .pure R hk (.int 3 _) ?_
      rw [hex, args1 hx, hρ]
      simp [builtin, Builtin.cap_, ht1, run_under ht2, goInt, kd]
    · cases hk
    · replace hk := onNils_some hk
      obtain ⟨rfl, hk⟩ := hk
      rw [hv] at h1
      cases h1
      refine .pure R hk (.int 3 _) ?_
      rw [hex, args1 hx, hρ]
      simp [builtin, Builtin.cap_, ht1, run_under ht2, goInt, kd]
  · cases hr

theorem cop_minmax {c : Call} (mx : Bool) (hop : o.op = .call c) (hc : c.callee = .builtin (if mx then .max else .min)) : PuOk P E h nx w (execOp ρ o) K r := by
  have hr' : vres (minmax mx ((opds mask names c.args.toList).g tm e)) h nx K = some r := by
    cases mx <;> (simp only [Bool.false_eq_true, if_false, if_true] at hc; simp only [cop, hop, hc] at hr; exact hr)
  clear hr
  obtain ⟨v, hv, hk⟩ := vres_some hr'
  obtain ⟨cs, hex⟩ := exec_builtin (ρ := ρ) hop hc
  have hl := opds_sound (E := E) (mask := mask) (names := names) (tm := tm) (e := e) (ρ := ρ) c.args.toList (fun x hx => ho x (mem_args hop hx))
  generalize hL : (opds mask names c.args.toList).g tm e = l at *
  obtain ⟨x, t, rfl, hv⟩ := onList_some hv
  cases hargs : c.args.toList.map ρ with
  | nil => rw [hargs] at hl; cases hl
  | cons X T =>
    rw [hargs] at hl
    cases hl with
    | cons hx ht =>
      obtain ⟨V, hV, hrun⟩ := minmax_sound P w mx ht hx hv
      refine .pure R hk hV ?_
      rw [hex, map_arr, hargs]
      cases mx with
      | true => simp only [if_true] at hrun ⊢; simp only [builtin, Builtin.max_, Sem.run_bind, hrun, Result.andThen_ok, Sem.run_pure]
      | false => simp only [Bool.false_eq_true, if_false] at hrun ⊢; simp only [builtin, Builtin.min_, Sem.run_bind, hrun, Result.andThen_ok, Sem.run_pure]

theorem cop_append {c : Call} (hop : o.op = .call c) (hc : c.callee = .builtin .append) : OpOk P D base w0 E h nx w (execOp ρ o) K r := by
  obtain ⟨cs, hex⟩ := exec_builtin (ρ := ρ) hop hc
  simp only [cop, hop, hc] at hr
  split at hr
  · rename_i st xt s x hst hxt hargs
    have h1 := ho s (mem_args hop (by rw [hargs]; simp))
    have h2 := ho x (mem_args hop (by rw [hargs]; simp))
    have fin : ∀ {r : St}, VOk P D base w0 E h nx w (Builtin.append_ c.argTypes o.type #[ρ s, ρ x]) K r → OpOk P D base w0 E h nx w (execOp ρ o) K r := by
      intro r hv
      refine hv.op ?_
      rw [hex, args2 hargs]
      rfl
    have hts : ∀ args, Builtin.append_ c.argTypes o.type args = Builtin.append_ #[st, xt] o.type args := by
      intro args
      simp only [Builtin.append_, hst, hxt]
      rfl
    split at hr
    · rename_i t t' hU1 hU2
      cases hi : tinfo P t with
      | none => rw [hi] at hr; cases hr
      | some i =>
        rw [hi] at hr
        obtain ⟨I, hI, _, hsz, hby, _, hzz⟩ := tinfo_some hi
        simp only at hr
        cases hz : i.zero with
        | none => rw [hz] at hr; cases hr
        | some z =>
          rw [hz] at hr
          obtain ⟨Z, hZ, rfl, hok⟩ := hzz z hz
          simp only at hr
          rw [bc_ite] at hr
          split at hr
          · cases hr
          · rename_i hcond
            simp only [Bool.or_eq_true, Bool.not_eq_true', not_or, Bool.not_eq_true, Bool.not_eq_false] at hcond
            obtain ⟨⟨hb0, hs0⟩, hzl⟩ := hcond
            have hb0 := beq_ne hb0
            have hs0 := beq_ne hs0
            have hzl := beq_eq hzl
            rw [llen_eq, ← (ofVs_sound E hok).len] at hzl
            obtain ⟨m, hm, hr⟩ := ob_some' hr
            obtain ⟨new, hnew, hr⟩ := ob_some' hr
            obtain ⟨N, hN, hlen, hrunN⟩ := firstCells_sound (P := P) R h2 hm (Nat.le_refl _) hnew
            obtain ⟨a', q, hX⟩ := lenA_sound h2 hm
            refine fin ?_
            rw [hts, hX]
            rw [hX] at hrunN
            refine appendA_sound (Z := Z.cells) R h1 hN hlen (by rw [← hzl]; simp) ?_ ?_ hr
            · intro bs n c' w' hle hs hno
              exact run_app_place hU1 hU2 hI (by rw [← hsz]; exact hrunN w fun _ => rfl) hle (by rw [← hsz]; exact hs) hno
            · intro bs n c' O hO hgt hb
              exact run_app_grow hU1 hU2 hI hZ (by rw [← hsz]; exact hO) (by rw [← hsz]; exact hrunN w.drew fun _ => rfl) hgt (by rw [← hby]; exact hb0) (by rw [← hby]; exact hb)
    · rename_i t ik hU1 hU2
      cases hi : tinfo P t with
      | none => rw [hi] at hr; cases hr
      | some i =>
        rw [hi] at hr
        obtain ⟨I, hI, _, hsz, hby, _, hzz⟩ := tinfo_some hi
        simp only at hr
        cases hz : i.zero with
        | none => rw [hz] at hr; cases hr
        | some z =>
          rw [hz] at hr
          obtain ⟨Z, hZ, rfl, hok⟩ := hzz z hz
          simp only at hr
          rw [bc_ite] at hr
          split at hr
          · cases hr
          · rename_i hcond
            simp only [Bool.or_eq_true, Bool.not_eq_true', not_or, Bool.not_eq_true, Bool.not_eq_false] at hcond
            obtain ⟨⟨hb0, hs0⟩, hzl⟩ := hcond
            have hb0 := beq_ne hb0
            have hs0 := beq_ne hs0
            have hzl := beq_eq hzl
            rw [llen_eq, ← (ofVs_sound E hok).len] at hzl
            obtain ⟨k, m, hm, hr⟩ := onNat_some hr
            obtain ⟨hmb, hr⟩ := bc_some hr
            have hmb : m * i.bytes ≤ 1073741824 := ble_le hmb
            rw [hm] at h2
            generalize hX : ρ x = X at *
            cases h2
            have hN := zerosN_sound (ofVs_sound E hok) m
            have hzm := zeros_model Z.cells m
            have hZc : (Builtin.zeroCells Z.cells m).toList = (List.replicate m Z.cells.toList).flatten := by
              unfold Builtin.zeroCells; rw [hzm]
            have hZa : Builtin.zeroCells Z.cells m = ((List.replicate m Z.cells.toList).flatten).toArray := hzm
            refine fin ?_
            rw [hts]
            refine appendA_sound (Z := Z.cells) R h1 hN (by rw [← hZc, Array.length_toList, zeroCells_size, ← hzl]; simp) (by rw [← hzl]; simp) ?_ ?_ hr
            · intro bs n c' w' hle hs hno
              refine run_app_place0 hU1 hU2 hI hZ (by rw [← hsz]; exact hs0) (by rw [← hby]; exact hb0) (by rw [← hby]; exact hmb) hle ?_ hno
              rw [← hsz, hZc]; exact hs
            · intro bs n c' O hO hgt hb
              rw [← hZa]
              exact run_app_grow0 hU1 hU2 hI hZ (by rw [← hsz]; exact hs0) (by rw [← hsz]; exact hO) hgt (by rw [← hby]; exact hb0) (by rw [← hby]; exact hb)
    · cases hr
  · cases hr

theorem cop_copy {c : Call} (hop : o.op = .call c) (hc : c.callee = .builtin .copy) : OpOk P D base w0 E h nx w (execOp ρ o) K r := by
  obtain ⟨cs, hex⟩ := exec_builtin (ρ := ρ) hop hc
  simp only [cop, hop, hc] at hr
  split at hr
  · rename_i t d s ht hargs
    obtain ⟨dt, hdt, hU⟩ := Option.bind_eq_some_iff.1 ht
    have h1 := ho d (mem_args hop (by rw [hargs]; simp))
    have h2 := ho s (mem_args hop (by rw [hargs]; simp))
    cases hi : tinfo P t with
    | none => rw [hi] at hr; cases hr
    | some i =>
      rw [hi] at hr
      obtain ⟨I, hI, _, hsz, _, _, _⟩ := tinfo_some hi
      obtain ⟨n, hn, hr⟩ := ob_some' hr
      obtain ⟨m, hm, hr⟩ := ob_some' hr
      obtain ⟨l, hl, hr⟩ := ob_some' hr
      obtain ⟨a1, c1, hD⟩ := lenA_sound h1 hn
      obtain ⟨a2, c2, hS⟩ := lenA_sound h2 hm
      have hmin : bc (Nat.ble n m) n m = Nat.min m n := by
        rw [bc_ite]
        split
        · rename_i h; have := ble_le h; exact (Nat.min_eq_right this).symm
        · rename_i h
          have : m ≤ n := by
            rcases Nat.lt_or_ge n m with h1 | h1
            · exact absurd (Nat.ble_eq_true_of_le (Nat.le_of_lt h1)) h
            · exact h1
          exact (Nat.min_eq_left this).symm
      rw [hmin] at hl hr
      obtain ⟨L, hL, hlen, hrunL⟩ := firstCells_sound (P := P) R h2 hm (Nat.min_le_left _ _) hl
      have hrunL := hrunL w fun _ => rfl
      rw [hS] at hrunL
      rw [hD] at h1
      have fin : ∀ {w' : World}, (∀ a, a1 = some a → (storeCells a L).run P w = .ok () w') → (a1 = none → w' = w) → (execOp ρ o).run P w = .ok (.value (.int .i64 (Int.ofNat (Nat.min m n)))) w' := by
        intro w' hst hno
        rw [hex, args2 hargs, hD, hS]
        cases a1 with
        | none =>
          have := hno rfl
          subst this
          simp [builtin, Builtin.copy_, hdt, run_under hU, Builtin.lenOf, run_size hI, ← hsz, hrunL, goInt]
        | some a =>
          have := hst a rfl
          simp [builtin, Builtin.copy_, hdt, run_under hU, Builtin.lenOf, run_size hI, ← hsz, hrunL, goInt, this]
      rcases onSl_some hr with ⟨b, o', n', c', hv, hr⟩ | ⟨b, o', i', n', hv, hr⟩ | ⟨y, hv, hr⟩
      · obtain ⟨h', hst, hk⟩ := ob_some' hr
        rw [hv] at h1
        cases h1 with
        | sl _ _ _ he =>
          obtain ⟨w', hrun, hR, hother⟩ := storeB_sound R he hst hL
          refine .mem hR hk (.int 3 _) (fun k hk1 hk2 => hother k (fun hkb => by subst hkb; rw [he] at hk2; cases hk2)) (.inl ?_)
          exact fin (fun a ha => by cases ha; exact hrun P) (fun ha => nomatch ha)
      · obtain ⟨h', hst, hk⟩ := ob_some' hr
        rw [hv] at h1
        cases h1 with
        | slx _ _ _ he =>
          obtain ⟨w', hrun, hR, hother⟩ := storeB_sound R he hst hL
          refine .mem hR hk (.int 3 _) (fun k hk1 hk2 => hother k (fun hkb => by subst hkb; rw [he] at hk2; cases hk2)) (.inl ?_)
          exact fin (fun a ha => by cases ha; exact hrun P) (fun ha => nomatch ha)
      · replace hr := onNils_some hr
        obtain ⟨rfl, hk⟩ := hr
        rw [hv] at h1
        cases h1
        exact .pure R hk (.int 3 _) (fin (fun a ha => nomatch ha) (fun _ => rfl))
  · cases hr

omit R ho hr in
theorem EsR.del : ∀ {es : List (AV × AV × Nat)} {Es : List MapEntry} (j : Nat), EsR E es Es → EsR E (delAt es j) (Es.eraseIdx j)
  | _, _, j, .nil => by cases j <;> exact .nil
  | _, _, 0, .cons _ _ _ t => t
  | _, _, j + 1, .cons b h1 h2 t => by
    simp only [List.eraseIdx_cons_succ]
    exact .cons b h1 h2 (t.del j)

theorem cop_delete {c : Call} (hop : o.op = .call c) (hc : c.callee = .builtin .delete) : OpOk P D base w0 E h nx w (execOp ρ o) K r := by
  obtain ⟨cs, hex⟩ := exec_builtin (ρ := ρ) hop hc
  simp only [cop, hop, hc] at hr
  split at hr
  · rename_i kt vt m x ht hargs
    obtain ⟨mt, hmt, hU⟩ := Option.bind_eq_some_iff.1 ht
    have h1 := ho m (mem_args hop (by rw [hargs]; simp))
    have h2 := ho x (mem_args hop (by rw [hargs]; simp))
    replace hr := bc_some hr
    obtain ⟨hck, hr⟩ := hr
    have hck' : ∀ em, (Instr.checkKey em 10000 kt (ρ x)).run P w = .ok () w := fun em => ckey_sound w 6 kt _ _ em h2 hck 9994
    obtain ⟨dk, hkt⟩ := ckey_under hck
    generalize hρ : ρ m = C at *
    rcases onMap_some hr with ⟨hm, hk⟩ | ⟨b, hm, hr⟩
    · rw [hm] at h1
      cases h1
      refine .pure R hk (undef_sound E) ?_
      rw [hex, args2 hargs, hρ]
      simp [builtin, Builtin.delete_, hmt, run_under hU, hck', Go.undef]
    · rw [hm] at h1
      cases h1 with
      | map he =>
        obtain ⟨es, cl, hb, hr⟩ := onMapB_some hr
        obtain ⟨res, hf, hk⟩ := ob_some' hr
        obtain ⟨Es, hes, hobj⟩ := R.map he hb
        obtain ⟨Res, hFR, hfk⟩ := findKey_sound R hkt h2 res hes hf
        cases hFR with
        | none =>
          have R' := R.setMap he hb (cl' := cl) hes
          refine .mem R' hk (undef_sound E) (bput_other he) (.inl ?_)
          rw [hex, args2 hargs, hρ]
          simp [builtin, Builtin.delete_, hmt, run_under hU, getMap hobj, hck', hfk, setMap hobj, Go.undef]
        | @some j v K' V' born' hj hE hv =>
          have hdel := hes.del j
          have R' := R.setMap he hb (cl' := cl) hdel
          refine .mem R' hk (undef_sound E) (bput_other he) (.inl ?_)
          rw [hex, args2 hargs, hρ]
          have hlt : j < Es.length := by
            rcases Nat.lt_or_ge j Es.length with h1 | h1
            · exact h1
            · rw [List.getElem?_eq_none (by simpa using h1)] at hE; cases hE
          simp [builtin, Builtin.delete_, hmt, run_under hU, getMap hobj, hck', hfk, setMap hobj, Go.undef, Array.eraseIdxIfInBounds, hlt]
  · cases hr

/-- every operation -/
theorem cop_sound : OpOk P D base w0 E h nx w (execOp ρ o) K r := by
  cases hop : o.op with
  | move x => exact (cop_move R ho hr hop).op R
  | assign x => exact cop_assign R ho hr hop
  | pick c a b => exact (cop_pick R ho hr hop).op R
  | alloc t => exact (cop_alloc hr hop).op R
  | box t x => exact (cop_box ho hr hop).op R
  | build t ps => exact (cop_build R ho hr hop).op R
  | buildSlice t n ps => exact (cop_buildSlice ho hr hop).op R
  | load t x => exact (cop_load R ho hr hop).op R
  | store t a x => exact cop_store R ho hr hop
  | nilCheck x => exact (cop_nilCheck R ho hr hop).op R
  | binOp op t x y q => exact (cop_binOp R ho hr hop).op R
  | unOp op t x => exact (cop_unOp R ho hr hop).op R
  | convert s d x => exact (cop_convert R ho hr hop).op R
  | makeInterface t x => exact (cop_makeInterface R ho hr hop).op R
  | makeFunc f a c => exact (cop_makeFunc R ho hr hop).op R
  | makeMap t m => exact (cop_makeMap hr hop ho).op R
  | makeSlice t l c => exact (cop_makeSlice ho hr hop).op R
  | slice t x l hh m => exact (cop_slice R ho hr hop).op R
  | fieldAddr t x f => exact (cop_fieldAddr R ho hr hop).op R
  | field t x f => exact (cop_field R ho hr hop).op R
  | indexAddr t x i => exact (cop_indexAddr R ho hr hop).op R
  | index t x i => exact (cop_index R ho hr hop).op R
  | lookup t x i ok => exact (cop_lookup R ho hr hop).op R
  | mapUpdate t m k x => exact cop_mapUpdate R ho hr (.inl hop)
  | insert t m k x => exact cop_mapUpdate R ho hr (.inr hop)
  | mapEntry t m k => exact cop_mapEntry R ho hr hop
  | entryStore t m s x => exact cop_entryStore R ho hr hop
  | range t x => exact (cop_range R ho hr hop).op R
  | next it s => exact cop_next R ho hr hop
  | entry it => exact (cop_entry R ho hr hop).op R
  | typeAssert x t a ok => exact (cop_typeAssert R ho hr hop).op R
  | extract x i => exact (cop_extract R ho hr hop).op R
  | call c =>
    cases hc : c.callee with
    | builtin b =>
      cases b with
      | len => exact (cop_len R ho hr hop hc).op R
      | cap => exact cop_cap R ho hr hop hc
      | min => exact (cop_minmax R ho hr false hop hc).op R
      | max => exact (cop_minmax R ho hr true hop hc).op R
      | append => exact cop_append R ho hr hop hc
      | copy => exact cop_copy R ho hr hop hc
      | delete => exact cop_delete R ho hr hop hc
      | _ => simp only [cop, hop, hc] at hr; cases hr
    | _ => simp only [cop, hop, hc] at hr; cases hr
  | _ => simp only [cop, hop] at hr; cases hr
end
end Go.Ax
