/- Part of an abstract executor of the model's machine, and of its law (S38). -/
import Derived.Test.YtlfocffihiephaaGreatDoorXS37
namespace Go.Ax
open Go.RowKit (Below)
variable {P : Program} {D : Nat → Nat} {base : Nat} {w0 : World} {f0 : Nat} {cs0 : List Frame}

/-! a state between two runs: the blocks that are named go on, the others are forgotten -/
noncomputable def mkRow : List Nat → List (Option AB) → H → H
  | b :: bs, x :: xs, h => bput b x (mkRow bs xs h)
  | _, _, h => h
noncomputable def mkH : List (List Nat) → List (List (Option AB)) → H
  | k :: ks, l :: ls => mkRow k l (mkH ks ls)
  | _, _ => bnil
noncomputable def dumpRow (h : H) : List Nat → List (Option AB)
  | [] => []
  | b :: bs => bget b h :: dumpRow h bs
noncomputable def dumpH (h : H) : List (List Nat) → List (List (Option AB))
  | [] => []
  | k :: ks => dumpRow h k :: dumpH h ks
noncomputable def quietL : List Fr → Bool
  | [] => true
  | c :: cs => (match c.todo with | .dreg _ _ :: _ => false | _ => true) && quietL cs
noncomputable def nextS (ks : List (List Nat)) (o : O) : O :=
  Option.rec none (fun s => St.rec (fun sk tm h nx todo ret => bc (quietL sk.cs) (some (.go sk tm (mkH ks (dumpH h ks)) nx todo ret)) none) (fun v h nx => some (.fin v h nx)) s) o
noncomputable def finTrue (o : O) : Bool :=
  Option.rec false (fun s => St.rec (fun _ _ _ _ _ _ => false) (fun v _ _ => onBool v false fun b => b) s) o

/-- temporaries, from a list -/
noncomputable def mkT : List (Nat × AV) → Tm
  | [] => tnil
  | p :: r => gset (slot p.1) p.2 (mkT r)

/-! places in the program -/
noncomputable def subC : List Nat → Code → Code
  | [], c => c
  | k :: p, c => match c with
    | .seq a b => bc (Nat.beq k 0) (subC p a) (subC p b)
    | .cond _ a b => bc (Nat.beq k 0) (subC p a) (subC p b)
    | .block _ a => subC p a
    | .loop a => subC p a
    | .scope a => subC p a
    | .rangeFunc _ _ a b => bc (Nat.beq k 0) (subC p a) (subC p b)
    | c => c
noncomputable def codeAt (P : Program) (f : Nat) (p : List Nat) : Code :=
  match P.funcs[f]? with
  | some fn => (match fn.body with | some c => subC p c | none => .skip)
  | none => .skip
noncomputable def opsAt (P : Program) (f : Nat) (p : List Nat) : Array Oper := match codeAt P f p with | .region _ ops _ => ops | _ => #[]
noncomputable def dropO : Nat → List Oper → List Oper
  | 0, l => l
  | n + 1, _ :: l => dropO n l
  | _ + 1, [] => []
noncomputable def regAt (P : Program) (f : Nat) (p : List Nat) (ns : List Tmp) (k : Nat) (e : List AV) : AI := .reg ⟨opsAt P f p, ns, dropO k (opsAt P f p).toList⟩ e

theorem mkRow_sub {h g : H} (hg : Sub g h) : ∀ k, Sub (mkRow k (dumpRow h k) g) h
  | [] => hg
  | b :: bs => by
    intro c ab hc
    have hc : bget c (bput b (bget b h) (mkRow bs (dumpRow h bs) g)) = some ab := hc
    rw [bget_put] at hc
    split at hc
    · rename_i hh
      rw [hh.1]; exact hc
    · exact mkRow_sub hg bs c ab hc
theorem mkH_sub {h : H} : ∀ ks, Sub (mkH ks (dumpH h ks)) h
  | [] => by intro c ab hc; have hc : bget c bnil = some ab := hc; rw [bget_nil] at hc; cases hc
  | k :: ks => mkRow_sub (mkH_sub ks) k

theorem CsR.quiet {E : En} {h h' : H} : ∀ {fl fn : Nat} {dk : Bool} {cs : List Fr} {fcs : List Frame}, quietL cs = true → CsR P D f0 cs0 E h fl fn dk cs fcs → CsR P D f0 cs0 E h' fl fn dk cs fcs
  | _, _, _, _, _, _, .nil => .nil
  | _, _, _, _, _, hq, .cons hle s t => by
    simp only [quietL, Bool.and_eq_true] at hq
    refine .cons hle ?_ (t.quiet hq.2)
    cases s with
    | ret hb hm ht => exact .ret hb hm ht
    | reg hb hm hi hx ht hk => exact .reg hb hm hi hx ht hk
    | dreg hb hm hi hp hd hk => have := hq.1; cases this
    | rf hb hm hi hl ht hk => exact .rf hb hm hi hl ht hk

theorem next_reach {m0 : Machine} {n : Nat} {s r : St} {ks : List (List Nat)} (hs : Reach P D base w0 f0 cs0 m0 s) (hk : nextS ks (runS P D n s) = some r) : Reach P D base w0 f0 cs0 m0 r := by
  cases hq : runS P D n s with
  | none => rw [hq] at hk; cases hk
  | some s' =>
    have hs' := runS_reach hs hq
    rw [hq] at hk
    cases s' with
    | fin v h nx =>
      have hk : (some (St.fin v h nx) : O) = some r := hk
      cases hk
      exact hs'
    | go sk tm h nx todo ret =>
      have hk : bc (quietL sk.cs) (some (St.go sk tm (mkH ks (dumpH h ks)) nx todo ret)) none = some r := hk
      obtain ⟨hql, hk⟩ := bc_some hk
      cases hk
      obtain ⟨E, fl, fr, fcs, w, h1, S⟩ := hs'
      exact ⟨E, fl, fr, fcs, w, h1, ⟨S.fb, S.mode, S.items, S.tm, S.cs.quiet hql, S.fl, S.hr.sub (mkH_sub ks)⟩⟩

/-- the last run: the call comes back, true -/
theorem fin_calls {w : World} {f n : Nat} {ARGS : Array Value} {s : St} (hs : ∀ cs0, Reach P D w.heap.size w f cs0 (lone (Frame.enter P f ARGS .normal) cs0 w) s) (hk : finTrue (runS P D n s) = true) :
    Calls P f ARGS w fun e W' => e = .returned (.bool true) ∧ Below w.heap.size w W' := by
  intro cs0
  cases hq : runS P D n s with
  | none => rw [hq] at hk; cases hk
  | some s' =>
    have hs' := runS_reach (hs cs0) hq
    rw [hq] at hk
    cases s' with
    | go sk tm h nx todo ret => cases hk
    | fin v h nx =>
      obtain ⟨b, rfl, rfl⟩ : ∃ b, v = .bool b ∧ b = true := by
        replace hk : onBool v false (fun b => b) = true := hk
        cases v <;> first | exact ⟨_, rfl, hk⟩ | cases hk
      obtain ⟨v, h, nx, E, V, w', fr, h1, h2, h3, h4, h5, h6⟩ := hs'
      cases h1
      cases h5
      exact ⟨.returned (.bool true), w', fr, ⟨rfl, h6.below⟩, h2, h3, h4⟩
end Go.Ax
