/- Part of an abstract executor of the model's machine, and of its law (S4). -/
import Derived.Test.YtlfocffihiephaaGreatDoorXS3
import Derived.Laws.CopyRow
import Derived.Laws.Append
namespace Go.Ax
open Go.RowKit (Below)

section
variable {γ : Type} {r : γ}
theorem onInt_some {v : AV} {k : Nat → Int → Option γ} (h : onInt v none k = some r) : ∃ a n, v = .int a n ∧ k a n = some r := by cases v <;> first | exact ⟨_, _, rfl, h⟩ | cases h
theorem onBool_some {v : AV} {k : Bool → Option γ} (h : onBool v none k = some r) : ∃ b, v = .bool b ∧ k b = some r := by cases v <;> first | exact ⟨_, rfl, h⟩ | cases h
theorem onPtr_some {v : AV} {k : Nat → Nat → Option γ} (h : onPtr v none k = some r) : ∃ b o, v = .ptr b o ∧ k b o = some r := by cases v <;> first | exact ⟨_, _, rfl, h⟩ | cases h
theorem onStr_some {v : AV} {k : Nat → Nat → Option γ} (h : onStr v none k = some r) : ∃ b o, v = .str b o ∧ k b o = some r := by cases v <;> first | exact ⟨_, _, rfl, h⟩ | cases h
theorem onAgg_some {v : AV} {k : List AV → Option γ} (h : onAgg v none k = some r) : ∃ l, v = .agg l ∧ k l = some r := by cases v <;> first | exact ⟨_, rfl, h⟩ | cases h
theorem onTup_some {v : AV} {k : List AV → Option γ} (h : onTup v none k = some r) : ∃ l, v = .tup l ∧ k l = some r := by cases v <;> first | exact ⟨_, rfl, h⟩ | cases h
theorem onFn_some {v : AV} {k : Fn → List AV → List AV → Option γ} (h : onFn v none k = some r) : ∃ f a c, v = .fn f a c ∧ k f a c = some r := by cases v <;> first | exact ⟨_, _, _, rfl, h⟩ | cases h
theorem onIface_some {v : AV} {k : TypeId → AV → Option γ} (h : onIface v none k = some r) : ∃ t x, v = .iface t x ∧ k t x = some r := by cases v <;> first | exact ⟨_, _, rfl, h⟩ | cases h
theorem onM_some {v : AV} {k : AM → Option γ} (h : onM v none k = some r) : ∃ x, v = .m x ∧ k x = some r := by cases v <;> first | exact ⟨_, rfl, h⟩ | cases h
theorem onMap_some {v : AV} {n : Option γ} {k : Nat → Option γ} (h : onMap v none n k = some r) : (v = .m .nilm ∧ n = some r) ∨ ∃ b, v = .m (.map b) ∧ k b = some r := by
  obtain ⟨x, rfl, h⟩ := onM_some h
  cases x <;> first | exact .inl ⟨rfl, h⟩ | exact .inr ⟨_, rfl, h⟩ | cases h
theorem onNat_some {v : AV} {k : Nat → Option γ} (h : onNat v none k = some r) : ∃ a n, v = .int a (.ofNat n) ∧ k n = some r := by
  obtain ⟨a, n, rfl, h⟩ := onInt_some h
  cases n <;> first | exact ⟨_, _, rfl, h⟩ | cases h
theorem onSl_some {v : AV} {s x : Nat → Nat → Nat → Nat → Option γ} {k : AM → Option γ} (h : onSl v none s x k = some r) :
    (∃ b o n c, v = .sl b o n c ∧ s b o n c = some r) ∨ (∃ b o i n, v = .slx b o i n ∧ x b o i n = some r) ∨ (∃ m, v = .m m ∧ k m = some r) := by
  cases v <;> first | exact .inl ⟨_, _, _, _, rfl, h⟩ | exact .inr (.inl ⟨_, _, _, _, rfl, h⟩) | exact .inr (.inr ⟨_, rfl, h⟩) | cases h
theorem onNils_some {x : AM} {k : Option γ} (h : onNils x none k = some r) : x = .nils ∧ k = some r := by cases x <;> first | exact ⟨rfl, h⟩ | cases h
theorem onList_some {α : Type} {l : List α} {k : α → List α → Option γ} (h : onList l none k = some r) : ∃ x t, l = x :: t ∧ k x t = some r := by cases l <;> first | exact ⟨_, _, rfl, h⟩ | cases h
theorem ob_some' {α : Type} {x : Option α} {f : α → Option γ} (h : ob x f = some r) : ∃ a, x = some a ∧ f a = some r := by cases x <;> first | exact ⟨_, rfl, h⟩ | cases h
theorem bc_some {c : Bool} {x : Option γ} (h : bc c x none = some r) : c = true ∧ x = some r := by cases c <;> first | exact ⟨rfl, h⟩ | cases h
theorem bc_some' {c : Bool} {x : Option γ} (h : bc c none x = some r) : c = false ∧ x = some r := by cases c <;> first | exact ⟨rfl, h⟩ | cases h
theorem onCells_some {b : Option AB} {c : Row → TypeId → Nat → Option γ} {g : Row → TypeId → Nat → Nat → Option γ} (h : onCells b none c g = some r) :
    (∃ x e n, b = some (.cells x e n) ∧ c x e n = some r) ∨ (∃ x e sz k, b = some (.grow x e sz k) ∧ g x e sz k = some r) := by
  cases b with
  | none => cases h
  | some b => cases b <;> first | exact .inl ⟨_, _, _, rfl, h⟩ | exact .inr ⟨_, _, _, _, rfl, h⟩ | cases h
theorem onMapB_some {b : Option AB} {k : List (AV × AV × Nat) → Nat → Option γ} (h : onMapB b none k = some r) : ∃ es cl, b = some (.map es cl) ∧ k es cl = some r := by
  cases b with
  | none => cases h
  | some b => cases b <;> first | exact ⟨_, _, rfl, h⟩ | cases h
end

variable {D : Nat → Nat} {base : Nat} {w0 : World} {E : En} {h : H} {nx : Nat} {w : World}

theorem HR.lt (R : HR D base w0 E h nx w) {b : Nat} {p : Nat × Nat} (e : E.m b = some p) : b < nx := by
  rcases Nat.lt_or_ge b nx with h1 | h1
  · exact h1
  · rw [R.fresh b h1] at e; cases e
theorem HR.get (R : HR D base w0 E h nx w) {b c q : Nat} {ab : AB} (e : E.m b = some (c, q)) (hb : bget b h = some ab) :
    base ≤ c ∧ ∃ o, w.heap[c]? = some o ∧ BR D E q ab o := R.live b ab c q (R.lt e) hb e

/-- the cells behind a block -/
theorem HR.row (R : HR D base w0 E h nx w) {b c q : Nat} (e : E.m b = some (c, q)) {ab : AB} (hb : bget b h = some ab)
    (hr : (∃ x t n, ab = .cells x t n) ∨ ∃ x t sz k, ab = .grow x t sz k) : ∃ cur t, w.heap[c]? = some (.cells cur t (0, 0)) ∧ base ≤ c := by
  obtain ⟨h1, o, ho, br⟩ := R.get e hb
  rcases hr with ⟨x, t, n, rfl⟩ | ⟨x, t, sz, k, rfl⟩
  · cases br; exact ⟨_, _, ho, h1⟩
  · cases br; exact ⟨_, _, ho, h1⟩

theorem load1_sound (R : HR D base w0 E h nx w) {b o c q : Nat} {v : AV} (e : E.m b = some (c, q)) (hl : load1 h b o = some v) :
    ∃ V, w.cell? ⟨c, o, none⟩ = some V ∧ VR E v V := by
  rcases onCells_some hl with ⟨x, t, n, hb, hg⟩ | ⟨x, t, sz, k, hb, hg⟩
  · obtain ⟨_, ob, ho, br⟩ := R.get e hb
    cases br with
    | cells _ e' hn hlen hr =>
      obtain ⟨V, hV, hv⟩ := hr o v hg
      exact ⟨V, by simp [World.cell?, ho, hV], hv⟩
  · obtain ⟨_, ob, ho, br⟩ := R.get e hb
    cases br with
    | grow _ e' hn hk hr =>
      obtain ⟨V, hV, hv⟩ := hr o v hg
      exact ⟨V, by simp [World.cell?, ho, hV], hv⟩

/-- a list of cells, as it lies in memory -/
def Lies (w : World) (c o : Nat) (L : List Value) : Prop := ∀ j V, L[j]? = some V → w.cell? ((⟨c, o, none⟩ : Addr).add j) = some V

theorem add_lit (c o j : Nat) : (⟨c, o, none⟩ : Addr).add j = ⟨c, o + j, none⟩ := by
  unfold Addr.add; split <;> simp_all

theorem rows_list {E : En} {x : Row} {c : Array Value} {o : Nat} (hr : RowR E x c) : ∀ (l : List AV), (∀ i v, l[i]? = some v → rget x (o + i) = some v) →
    ∃ L, VRL E l L ∧ ∀ (j : Nat) (V : Value), L[j]? = some V → c[o + j]? = some V := by
  intro l
  induction l generalizing o with
  | nil => intro _; exact ⟨[], .nil, by simp⟩
  | cons v l ih =>
    intro hg
    obtain ⟨V, hV, hv⟩ := hr (o + 0) v (hg 0 v rfl)
    obtain ⟨L, hL, hj⟩ := ih (o := o + 1) (fun i u hu => by have := hg (i + 1) u (by simpa using hu); rwa [show o + 1 + i = o + (i + 1) by omega])
    refine ⟨V :: L, .cons hv hL, ?_⟩
    intro j U hU
    cases j with
    | zero => simp at hU; subst hU; simpa using hV
    | succ j => simp at hU; have := hj j U hU; rwa [show o + (j + 1) = o + 1 + j by omega]

theorem loadB_sound (R : HR D base w0 E h nx w) {b o n c q : Nat} {l : List AV} (e : E.m b = some (c, q)) (hl : loadB h b o n = some l) :
    ∃ L, VRL E l L ∧ L.length = n ∧ Lies w c o L := by
  have main : ∃ x cur t, w.heap[c]? = some (.cells cur t (0, 0)) ∧ RowR E x cur ∧ l.length = n ∧ ∀ i v, l[i]? = some v → rget x (o + i) = some v := by
    rcases onCells_some hl with ⟨x, t, m, hb, hg⟩ | ⟨x, t, sz, k, hb, hg⟩
    · obtain ⟨_, ob, ho, br⟩ := R.get e hb
      cases br with
      | cells _ e' hn hlen hr =>
        refine ⟨x, _, _, ho, hr, ?_⟩
        rw [bc_ite] at hg
        split at hg
        · rename_i hnm
          have hnm : n = m := Nat.eq_of_beq_eq_true hnm
          rw [bc_ite] at hg
          split at hg
          · rename_i ho0
            have ho0 : o = 0 := Nat.eq_of_beq_eq_true ho0
            subst ho0
            cases x with
            | l xs =>
              cases hg
              refine ⟨by rw [hlen l rfl, hnm], fun i v hv => ?_⟩
              rw [rget_l]; simpa using hv
            | t tr => exact tload_some n 0 l hg
          · exact rload_some hg
        · exact rload_some hg
    · obtain ⟨_, ob, ho, br⟩ := R.get e hb
      cases br with
      | grow _ e' hn hk hr => exact ⟨x, _, _, ho, hr, rload_some hg⟩
  obtain ⟨x, cur, t, ho, hr, hlen, hg⟩ := main
  obtain ⟨L, hL, hj⟩ := rows_list hr l hg
  refine ⟨L, hL, by rw [hL.len, hlen], fun j V hV => ?_⟩
  rw [add_lit]
  simp [World.cell?, ho, hj j V hV]

/-- a world in which one block is another -/
structure Upd (w : World) (c : Nat) (O : Obj) (w' : World) : Prop where
  os : w'.os = w.os
  tape : w'.tape = w.tape
  output : w'.output = w.output
  size : w'.heap.size = w.heap.size
  at_ : w'.heap[c]? = some O
  else_ : ∀ k, k ≠ c → w'.heap[k]? = w.heap[k]?

theorem HR.set (R : HR D base w0 E h nx w) {b c q : Nat} {ab ab' : AB} {O : Obj} {w' : World} (e : E.m b = some (c, q)) (hb : bget b h = some ab)
    (br : BR D E q ab' O) (u : Upd w c O w') : HR D base w0 E (bput b (some ab') h) nx w' := by
  have hc := (R.get e hb).1
  have hlt := R.lt e
  have hlim := R.lim
  have hget : ∀ k, bget k (bput b (some ab') h) = if k = b then some ab' else bget k h := fun k => by
    rw [bget_put]
    by_cases hk : k = b
    · subst hk; rw [if_pos ⟨rfl, by omega⟩, if_pos rfl]
    · rw [if_neg (fun (x : k = b ∧ k < 262144) => hk x.1), if_neg hk]
  have hsome : ∀ k, (bget k (bput b (some ab') h)).isSome = (bget k h).isSome := fun k => by
    rw [hget]; split
    · rename_i hk; subst hk; rw [hb]; rfl
    · rfl
  refine ⟨R.lim, R.fresh, fun k c' q' hk => by rw [u.size]; exact R.size k c' q' hk, ?_, ?_, ?_, by rw [u.size]; exact R.bsz, fun k hk => by rw [hget, if_neg (by omega)]; exact R.top k hk⟩
  · intro k xb c' q' hk hx hE
    rw [hget] at hx
    split at hx
    · rename_i hkb
      subst hkb
      rw [e] at hE
      cases hE; cases hx
      exact ⟨hc, O, u.at_, br⟩
    · rename_i hkb
      obtain ⟨h1, o, ho, hbr⟩ := R.live k xb c' q' hk hx hE
      have hne : c' ≠ c := fun hcc => hkb (R.inj k b c q' q hk hlt (by rw [hx]; rfl) (by rw [hb]; rfl) (hcc ▸ hE) e)
      exact ⟨h1, o, by rw [u.else_ c' hne]; exact ho, hbr⟩
  · intro k k' c' q1 q2 hk hk' h1 h2 e1 e2
    exact R.inj k k' c' q1 q2 hk hk' (by rwa [hsome] at h1) (by rwa [hsome] at h2) e1 e2
  · exact R.below.trans ⟨u.os, u.tape, u.output, Nat.le_of_eq u.size.symm, fun k hk => u.else_ k (by omega)⟩

/-- a block is forgotten -/
theorem HR.drop (R : HR D base w0 E h nx w) (b : Nat) : HR D base w0 E (bput b none h) nx w := by
  have hget : ∀ k x, bget k (bput b none h) = some x → bget k h = some x := fun k x hx => by
    rw [bget_put] at hx
    split at hx
    · cases hx
    · exact hx
  refine ⟨R.lim, R.fresh, R.size, fun k xb c q hk hx hE => R.live k xb c q hk (hget k xb hx) hE, ?_, R.below, R.bsz, fun k hk => by rw [bget_put]; split <;> first | rfl | exact R.top k hk⟩
  intro k k' c q q' hk hk' h1 h2 e1 e2
  obtain ⟨x, hx⟩ := Option.isSome_iff_exists.1 h1
  obtain ⟨x', hx'⟩ := Option.isSome_iff_exists.1 h2
  exact R.inj k k' c q q' hk hk' (by rw [hget k x hx]; rfl) (by rw [hget k' x' hx']; rfl) e1 e2

theorem HR.drew (R : HR D base w0 E h nx w) : HR D base w0 E h nx w.drew :=
  ⟨R.lim, R.fresh, R.size, R.live, R.inj, R.below.drew, R.bsz, R.top⟩

/-- E with a new block -/
def En.put (E : En) (b : Nat) (p : Nat × Nat) : En := { E with m := fun k => if k = b then some p else E.m k }
theorem En.put_le {nx : Nat} (E : En) (p : Nat × Nat) (hf : E.m nx = none) : En.le nx E (E.put nx p) :=
  ⟨fun b q hb => by
    show (if b = nx then some p else E.m b) = some q
    split
    · rename_i e; subst e; rw [hf] at hb; cases hb
    · exact hb,
   fun b hb e => by show (if b = nx then some p else E.m b) = none; rw [if_neg (by omega)]; exact e, rfl⟩
theorem En.put_at (E : En) (b : Nat) (p : Nat × Nat) : (E.put b p).m b = some p := by show (if b = b then some p else _) = _; rw [if_pos rfl]

theorem HR.alloc (R : HR D base w0 E h nx w) {ab : AB} {O : Obj} {q : Nat} (hn : nx < 262143) (br : BR D E q ab O) :
    HR D base w0 (E.put nx (w.heap.size, q)) (bput nx (some ab) h) (nx + 1) (w.alloc O) := by
  have hf := R.fresh nx (Nat.le_refl _)
  have hle := E.put_le (w.heap.size, q) hf
  have hold : ∀ k, k ≠ nx → (E.put nx (w.heap.size, q)).m k = E.m k := fun k hk => by show (if k = nx then _ else E.m k) = _; rw [if_neg hk]
  have hget : ∀ k, bget k (bput nx (some ab) h) = if k = nx then some ab else bget k h := fun k => by
    rw [bget_put]
    by_cases hk : k = nx
    · subst hk; rw [if_pos ⟨rfl, by omega⟩, if_pos rfl]
    · rw [if_neg (fun (x : k = nx ∧ k < 262144) => hk x.1), if_neg hk]
  refine ⟨by omega, ?_, ?_, ?_, ?_, R.below.alloc R.bsz O, by simp only [World.size_alloc]; have := R.bsz; omega, fun k hk => by rw [hget, if_neg (by omega)]; exact R.top k (by omega)⟩
  · intro b hb; rw [hold b (by omega)]; exact R.fresh b (by omega)
  · intro b c q' hb
    rw [World.size_alloc]
    by_cases hk : b = nx
    · subst hk; rw [En.put_at] at hb; cases hb; omega
    · rw [hold b hk] at hb; have := R.size b c q' hb; omega
  · intro b xb c q' hb hx hE
    rw [hget] at hx
    split at hx
    · rename_i hk; subst hk
      rw [En.put_at] at hE
      cases hE; cases hx
      exact ⟨R.bsz, O, by show (w.heap.push O)[w.heap.size]? = some O; simp, br.mono hle⟩
    · rename_i hk
      rw [hold b hk] at hE
      obtain ⟨h1, o, ho, hbr⟩ := R.live b xb c q' (by omega) hx hE
      have hlt := R.size b c q' hE
      exact ⟨h1, o, by rw [Below.heap_alloc w O c hlt]; exact ho, hbr.mono hle⟩
  · intro b b' c q1 q2 hb hb' h1 h2 e1 e2
    by_cases hk : b = nx
    · by_cases hk' : b' = nx
      · omega
      · subst hk
        rw [En.put_at] at e1; cases e1
        rw [hold b' hk'] at e2
        have := R.size b' _ _ e2; omega
    · by_cases hk' : b' = nx
      · subst hk'
        rw [En.put_at] at e2; cases e2
        rw [hold b hk] at e1
        have := R.size b _ _ e1; omega
      · rw [hold b hk] at e1; rw [hold b' hk'] at e2
        rw [hget, if_neg hk] at h1; rw [hget, if_neg hk'] at h2
        exact R.inj b b' c q1 q2 (by omega) (by omega) h1 h2 e1 e2
end Go.Ax
