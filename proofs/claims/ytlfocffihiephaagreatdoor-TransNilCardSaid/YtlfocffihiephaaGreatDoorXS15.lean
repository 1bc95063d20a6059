/- Part of an abstract executor of the model's machine, and of its law (S15). -/
import Derived.Test.YtlfocffihiephaaGreatDoorXS14
namespace Go.Ax
open Go.RowKit (Below)
variable {P : Program} {D : Nat → Nat} {base : Nat} {w0 : World} {E : En} {h : H} {nx : Nat} {w : World}
variable {K : AV → H → Nat → O} {r : St} {mask : Nat} {names : List Tmp} {tm : Tm} {e : List AV} {ρ : Operand → Value} {o : Oper}

theorem getMap {c : Nat} {es : Array MapEntry} {cl : Nat} (hg : w.heap[c]? = some (.map es cl)) : (getObj c).run P w = .ok (.map es cl) w := by
  simp [getObj, Sem.run, hg]
theorem setMap {c : Nat} {es : Array MapEntry} {cl : Nat} {ob : Obj} (hg : w.heap[c]? = some (.map es cl)) : (setObj c ob).run P w = .ok () { w with heap := w.heap.setIfInBounds c ob } := by
  simp [setObj, Sem.run, hg]
theorem setMap_upd {c : Nat} {o' ob : Obj} (hg : w.heap[c]? = some o') : Upd w c ob { w with heap := w.heap.setIfInBounds c ob } := by
  have hlt : c < w.heap.size := by
    rcases Nat.lt_or_ge c w.heap.size with h1 | h1
    · exact h1
    · rw [Array.getElem?_eq_none h1] at hg; cases hg
  refine ⟨rfl, rfl, rfl, by simp, by simp [hlt], ?_⟩
  intro k hk
  simp only [Array.getElem?_setIfInBounds_ne (fun hh => hk hh.symm)]

/-- the map behind a block -/
theorem HR.map (R : HR D base w0 E h nx w) {b c q : Nat} (e : E.m b = some (c, q)) {es : List (AV × AV × Nat)} {cl : Nat} (hb : bget b h = some (.map es cl)) :
    ∃ Es, EsR E es Es ∧ w.heap[c]? = some (.map Es.toArray cl) := by
  obtain ⟨_, ob, ho, br⟩ := R.get e hb
  cases br with
  | map _ hes => exact ⟨_, hes, ho⟩

/-- a map is set -/
theorem HR.setMap (R : HR D base w0 E h nx w) {b c q : Nat} (e : E.m b = some (c, q)) {es es' : List (AV × AV × Nat)} {Es' : List MapEntry} {cl cl' : Nat} (hb : bget b h = some (.map es cl))
    (hes : EsR E es' Es') : HR D base w0 E (bput b (some (.map es' cl')) h) nx { w with heap := w.heap.setIfInBounds c (.map Es'.toArray cl') } := by
  obtain ⟨Es, h1, ho⟩ := R.map e hb
  exact R.set e hb (.map cl' hes) (setMap_upd ho)

theorem bput_other {b : Nat} {x : Option AB} {b' c q : Nat} (e : E.m b = some (c, q)) : ∀ k, k < b' → E.m k = none → bget k (bput b x h) = bget k h := by
  intro k _ hk
  rw [bget_put, if_neg]
  rintro ⟨rfl, _⟩
  rw [e] at hk; cases hk

theorem ckey_under {d : Nat} {t : TypeId} {k : AV} (hk : (ckey P d t).f k = true) : ∃ D', P.underlying t = some D' := by
  cases d with
  | zero => cases hk
  | succ d =>
    unfold ckey at hk
    cases hU : P.underlying t with
    | none => rw [hU] at hk; cases hk
    | some d => exact ⟨d, rfl⟩

theorem same1_sound {x y : AV} {X Y : Value} (hx : VR E x X) (hy : VR E y Y) (hs : same1 x y = true) (n : Nat) : Instr.sameBits n X Y = true := by
  cases x <;> first | cases hs | skip
  · cases y <;> first | cases hs | skip
    rename_i k a k' b
    cases hx; cases hy
    have hs : band (Nat.beq k k') (intEq a b) = true := hs
    cases hk : Nat.beq k k' with
    | false => rw [hk] at hs; cases hs
    | true =>
      rw [hk] at hs
      have hk := Nat.eq_of_beq_eq_true hk
      have hq : intEq a b = true := hs
      rw [intEq_eq] at hq
      subst hk
      simp only [Instr.sameBits, beq_self_eq_true, Bool.true_and]
      exact hq
  · cases y <;> first | cases hs | skip
    rename_i a b
    cases hx; cases hy
    have hs : beqB a b = true := hs
    rw [beqB_eq] at hs
    simpa [Instr.sameBits] using hs
  · cases y <;> first | cases hs | skip
    rename_i n l n' l'
    cases hx; cases hy
    have hs : strEq n l n' l' = true := hs
    simp only [Instr.sameBits]
    rw [strs_beq]; exact hs

theorem sameL_sound : ∀ {l l' : List AV} {L L' : List Value}, VRL E l L → VRL E l' L' → sameL l l' = true → ∀ n, L.length = L'.length ∧ (L.zip L').all (fun (x, y) => Instr.sameBits n x y) = true
  | [], [], _, _, .nil, .nil, _, _ => ⟨rfl, rfl⟩
  | [], _ :: _, _, _, _, _, hs, _ => by cases hs
  | _ :: _, [], _, _, _, _, hs, _ => by cases hs
  | x :: l, y :: l', _, _, .cons hx tx, .cons hy ty, hs, n => by
    have hs : band (same1 x y) (sameL l l') = true := hs
    cases h1 : same1 x y with
    | false => rw [h1] at hs; cases hs
    | true =>
      rw [h1] at hs
      obtain ⟨h2, h3⟩ := sameL_sound tx ty hs n
      refine ⟨by simp [h2], ?_⟩
      simp only [List.zip_cons_cons, List.all_cons, same1_sound hx hy h1 n, Bool.true_and]
      exact h3

theorem sameK_sound {x y : AV} {X Y : Value} (hx : VR E x X) (hy : VR E y Y) (hs : sameK x y = true) : Instr.sameBits 10000 X Y = true := by
  cases x <;> first | exact same1_sound hx hy hs 10000 | skip
  rename_i l
  cases y <;> first | cases hs | skip
  rename_i l'
  cases hx with
  | agg hx =>
    cases hy with
    | agg hy =>
      obtain ⟨h1, h2⟩ := sameL_sound hx hy hs 9999
      simp only [Instr.sameBits, List.size_toArray, h1, beq_self_eq_true, Bool.true_and]
      exact h2

theorem keyStays {x y : AV} {X Y : Value} (hx : VR E x X) (hy : VR E y Y) (hs : sameK x y = true) (w : World) : (Instr.keyThatStays X Y).run P w = .ok Y w := by
  simp [Instr.keyThatStays, sameK_sound hx hy hs]

theorem EsR.setVal {k v : AV} {K V : Value} (hk : VR E k K) (hv : VR E v V) : ∀ {es : List (AV × AV × Nat)} {Es : List MapEntry} (i : Nat), EsR E es Es →
    EsR E (setVal es i k v) (Es.modify i fun e => { e with key := K, val := V })
  | [], _, i, .nil => by cases i <;> exact .nil
  | _ :: _, _, 0, .cons b _ _ t => by show EsR E (_ :: _) _; simp only [List.modify_zero_cons]; exact .cons b hk hv t
  | _ :: _, _, i + 1, .cons b h1 h2 t => by
    show EsR E (_ :: Go.Ax.setVal _ i k v) _
    simp only [List.modify_succ_cons]
    exact .cons b h1 h2 (t.setVal hk hv i)

theorem EsR.at_ : ∀ {es : List (AV × AV × Nat)} {Es : List MapEntry} {i : Nat} {a : AV × AV × Nat}, EsR E es Es → entryAt es i = some a →
    ∃ K V, Es[i]? = some ⟨K, V, a.2.2⟩ ∧ VR E a.1 K ∧ VR E a.2.1 V
  | [], _, _, _, .nil, h => by cases h
  | _ :: _, _, 0, _, .cons b h1 h2 t, h => by cases h; exact ⟨_, _, rfl, h1, h2⟩
  | _ :: _, _, i + 1, _, .cons b h1 h2 t, h => by
    obtain ⟨K, V, h3, h4⟩ := t.at_ (i := i) h
    exact ⟨K, V, by simpa using h3, h4⟩

theorem EsR.push {k v : AV} {K V : Value} (born : Nat) (hk : VR E k K) (hv : VR E v V) : ∀ {es : List (AV × AV × Nat)} {Es : List MapEntry}, EsR E es Es → EsR E (es ++ [(k, v, born)]) (Es ++ [⟨K, V, born⟩])
  | _, _, .nil => .cons born hk hv .nil
  | _, _, .cons b h1 h2 t => .cons b h1 h2 (t.push born hk hv)

section
variable (R : HR D base w0 E h nx w) (ho : Ops E mask names tm e ρ o) (hr : (cop P mask names o).f tm e h nx K = some r)
include R ho hr

theorem cop_lookup {t : TypeId} {x ix : Operand} {ok : Bool} (hop : o.op = .lookup t x ix ok) : PuOk P E h nx w (execOp ρ o) K r := by
  have h1 := ho x (by simp [hop, Op.operands])
  have h2 := ho ix (by simp [hop, Op.operands])
  simp only [cop, hop] at hr
  cases hU : P.underlying t with
  | none => rw [hU] at hr; cases hr
  | some d =>
    rw [hU] at hr
    cases d with
    | map kt vt =>
      simp only at hr
      cases hi : tinfo P vt with
      | none => rw [hi] at hr; cases hr
      | some i =>
        rw [hi] at hr
        simp only at hr
        cases hz : zeroOf i with
        | none => rw [hz] at hr; cases hr
        | some z =>
          rw [hz] at hr
          obtain ⟨Z, hZ, hrun⟩ := zeroOf_sound E hi hz
          simp only at hr
          replace hr := bc_some hr
          obtain ⟨hck, hr⟩ := hr
          have hck' : ∀ em, (Instr.checkKey em 10000 kt (ρ ix)).run P w = .ok () w := fun em => ckey_sound w 6 kt _ _ em h2 hck 9994
          obtain ⟨dk, hkt⟩ := ckey_under hck
          replace hr := onMap_some hr
          generalize hρ : ρ x = C at *
          have fin : ∀ {v : AV} {V : Value} (b : Bool), VR E v V → K (bc ok (.tup [v, .bool b]) v) h nx = some r →
              (Instr.lookup t C (ρ ix) ok).run P w = .ok (if ok then .tuple #[V, .bool b] else V) w → PuOk P E h nx w (execOp ρ o) K r := by
            intro v V b hv hk hrn
            cases ok with
            | true => exact .pure R hk (V := .tuple #[V, .bool b]) (.tup (.cons hv (.cons (.bool b) .nil))) (by simp only [if_true] at hrn; simp [execOp, hop, hρ, hrn])
            | false => exact .pure R hk hv (by simp only [Bool.false_eq_true, if_false] at hrn; simp [execOp, hop, hρ, hrn])
          rcases hr with ⟨hm, hk⟩ | ⟨b, hm, hr⟩
          · rw [hm] at h1
            cases h1
            refine fin false hZ hk ?_
            cases ok <;> simp [Instr.lookup, run_under hU, hck', Instr.findKey, Instr.findNow, run_under hkt, hrun]
          · rw [hm] at h1
            cases h1 with
            | map he =>
              obtain ⟨es, cl, hb, hr⟩ := onMapB_some hr
              replace hr := ob_some' hr
              obtain ⟨res, hf, hk⟩ := hr
              obtain ⟨Es, hes, hobj⟩ := R.map he hb
              obtain ⟨Res, hFR, hfk⟩ := findKey_sound R hkt h2 res hes hf
              cases hFR with
              | none =>
                refine fin false hZ hk ?_
                cases ok <;> simp [Instr.lookup, run_under hU, getMap hobj, hck', hfk, hrun]
              | some hj hE hv =>
                refine fin true hv hk ?_
                cases ok <;> simp [Instr.lookup, run_under hU, getMap hobj, hck', hfk]
    | _ => cases hr

theorem cop_mapUpdate {t : TypeId} {m k x : Operand} (hop : o.op = .mapUpdate t m k x ∨ o.op = .insert t m k x) : OpOk P D base w0 E h nx w (execOp ρ o) K r := by
  have hrun : execOp ρ o = (do Instr.mapUpdate t (ρ m) (ρ k) (ρ x); pure .skip) := by rcases hop with hop | hop <;> simp [execOp, hop]
  have hop3 : o.op.operands = #[m, k, x] := by rcases hop with hop | hop <;> simp [hop, Op.operands]
  have hr' : (match P.underlying t with
    | some (.map kt _) => (⟨fun tm e h nx K => onMap ((opd mask names m).g tm e) none none fun b =>
        ob (mapPut (ckey P 6 kt) (ceq P 6 kt) h b ((opd mask names k).g tm e) ((opd mask names x).g tm e)) fun h' => K undef h' nx⟩ : Fop)
    | _ => failF).f tm e h nx K = some r := by rcases hop with hop | hop <;> (simp only [cop, hop] at hr; exact hr)
  clear hr
  have h1 := ho m (by rw [hop3]; simp)
  have h2 := ho k (by rw [hop3]; simp)
  have h3 := ho x (by rw [hop3]; simp)
  rw [hrun]
  cases hU : P.underlying t with
  | none => rw [hU] at hr'; cases hr'
  | some d =>
    rw [hU] at hr'
    cases d with
    | map kt vt =>
      simp only at hr'
      rcases onMap_some hr' with ⟨_, hx⟩ | ⟨b, hm, hr⟩
      · cases hx
      · clear hr'
        rw [hm] at h1
        generalize hρ : ρ m = C at *
        cases h1 with
        | @map _ c q he =>
          obtain ⟨h', hput, hk⟩ := ob_some' hr
          obtain ⟨es, cl, hb, hput⟩ := onMapB_some hput
          obtain ⟨hck, hput⟩ := bc_some hput
          obtain ⟨res, hf, hput⟩ := ob_some' hput
          have hck' := ckey_sound w 6 kt _ _ false h2 hck 9994
          obtain ⟨dk, hkt⟩ := ckey_under hck
          obtain ⟨Es, hes, hobj⟩ := R.map he hb
          obtain ⟨Res, hFR, hfk⟩ := findKey_sound R hkt h2 res hes hf
          cases hFR with
          | none =>
            cases hput
            have R' := R.setMap he hb (cl' := cl + 1) (hes.push cl h2 h3)
            rw [← app_eq] at R'
            refine .mem R' hk (undef_sound E) (bput_other he) (.inr ⟨?_, rfl⟩)
            simp [Instr.mapUpdate, run_under hU, getMap hobj, hck', hfk, setMap hobj]
          | @some j v K' V' born' hj hE hv =>
            obtain ⟨en, hen, hput⟩ := ob_some' hput
            obtain ⟨hs, hput⟩ := bc_some hput
            cases hput
            obtain ⟨K1, V1, hE1, hK1, _⟩ := hes.at_ hen
            have hstay := keyStays (P := P) hK1 h2 hs w
            have R' := R.setMap he hb (cl' := cl) (hes.setVal h2 h3 j)
            refine .mem R' hk (undef_sound E) (bput_other he) (.inr ⟨?_, rfl⟩)
            simp [Instr.mapUpdate, run_under hU, getMap hobj, hck', hfk, hE1, hstay, setMap hobj]
    | _ => cases hr'
end
end Go.Ax
