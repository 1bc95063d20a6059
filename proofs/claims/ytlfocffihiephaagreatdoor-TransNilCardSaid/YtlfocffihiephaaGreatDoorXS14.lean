/- Part of an abstract executor of the model's machine, and of its law (S14). -/
import Derived.Test.YtlfocffihiephaaGreatDoorXS13
namespace Go.Ax
open Go.RowKit (Below)
variable {P : Program} {D : Nat → Nat} {base : Nat} {w0 : World} {E : En} {h : H} {nx : Nat} {w : World}

theorem sameNow_run {t : TypeId} {d : TypeDesc} (hU : P.underlying t = some d) {X Y : Value} {c : Bool} (hs : Instr.sameNow d X Y = some c) (n : Nat) (w : World) :
    (Op.equalIn (n + 1) t X Y).run P w = .ok c w := by
  unfold Instr.sameNow at hs
  split at hs
  · split at hs
    · rename_i hk
      cases hs
      simp [Op.equalIn, run_under hU, hk]
    · cases hs
  · cases hs; simp [Op.equalIn, run_under hU]
  · cases hs; simp [Op.equalIn, run_under hU]
  · cases hs

/-- what a search for a key finds -/
inductive FR (E : En) (Es : List MapEntry) (i : Nat) : Option (Nat × AV) → Option (Nat × Value) → Prop where
  | none : FR E Es i none none
  | some {j : Nat} {v : AV} {K V : Value} {born : Nat} (hj : i ≤ j) (hE : Es[j - i]? = some ⟨K, V, born⟩) (hv : VR E v V) : FR E Es i (some (j, v)) (some (j, V))

theorem findA_sound (R : HR D base w0 E h nx w) {kt : TypeId} {d : TypeDesc} (hU : P.underlying kt = some d) {k : AV} {KV : Value} (hk : VR E k KV) :
    ∀ {es : List (AV × AV × Nat)} {Es : List MapEntry} (i : Nat) (res : Option (Nat × AV)), EsR E es Es → findA (ceq P 6 kt) h k es i = some res →
    ∃ Res, FR E Es i res Res ∧ (Instr.findAsking kt KV Es i).run P w = .ok Res w ∧ ∀ r, Instr.findNow d KV Es i = some r → r = Res
  | [], _, i, res, .nil, hf => by
    cases hf
    exact ⟨none, .none, by simp [Instr.findAsking], fun r hr => by cases hr; rfl⟩
  | (a, v, born) :: es, _, i, res, .cons (K := A) (V := V) (Es := Es) _ ha hv ht, hf => by
    obtain ⟨b, hb, hf⟩ := ob_some' hf
    have heq : (Op.equal kt KV A).run P w = .ok b w := ceq_sound R 6 kt k a KV A b hk ha hb 9994
    have hnow : ∀ c, Instr.sameNow d KV A = some c → c = b := fun c hc => by
      have := sameNow_run (P := P) hU hc 9999 w
      rw [show Op.equal kt KV A = Op.equalIn (9999 + 1) kt KV A from rfl] at heq
      rw [heq] at this
      cases this; rfl
    cases b with
    | true =>
      cases hf
      refine ⟨some (i, V), .some (Nat.le_refl i) (K := A) (born := born) (by simp) hv, by simp [Instr.findAsking, heq], ?_⟩
      intro r hr
      simp only [Instr.findNow] at hr
      split at hr
      · cases hr; rfl
      · rename_i hs; have := hnow _ hs; cases this
      · cases hr
    | false =>
      obtain ⟨Res, h1, h2, h3⟩ := findA_sound R hU hk (i + 1) res ht hf
      refine ⟨Res, ?_, by simp [Instr.findAsking, heq, h2], ?_⟩
      · cases h1 with
        | none => exact .none
        | @some j v' K' V' born' hj hE hv =>
          refine .some (K := K') (born := born') (by omega) ?_ hv
          rw [show j - i = (j - (i + 1)) + 1 by omega, List.getElem?_cons_succ]
          exact hE
      · intro r hr
        simp only [Instr.findNow] at hr
        split at hr
        · rename_i hs; have := hnow _ hs; cases this
        · exact h3 r hr
        · cases hr

theorem findKey_sound (R : HR D base w0 E h nx w) {kt : TypeId} {d : TypeDesc} (hU : P.underlying kt = some d) {k : AV} {KV : Value} (hk : VR E k KV)
    {es : List (AV × AV × Nat)} {Es : List MapEntry} (res : Option (Nat × AV)) (he : EsR E es Es) (hf : findA (ceq P 6 kt) h k es 0 = some res) :
    ∃ Res, FR E Es 0 res Res ∧ (Instr.findKey kt KV Es).run P w = .ok Res w := by
  obtain ⟨Res, h1, h2, h3⟩ := findA_sound R hU hk 0 res he hf
  refine ⟨Res, h1, ?_⟩
  simp only [Instr.findKey, Sem.run_bind, run_under hU, Result.andThen_ok]
  cases hn : Instr.findNow d KV Es 0 with
  | none => exact h2
  | some r => simp [h3 r hn]

/-- a key that every map takes -/
theorem ckey_sound (w : World) : ∀ (d : Nat) (t : TypeId) (k : AV) (KV : Value) (em : Bool), VR E k KV → (ckey P d t).f k = true → ∀ m, (Instr.checkKey em (d + m) t KV).run P w = .ok () w
  | 0, _, _, _, _, _, hk => by cases hk
  | d + 1, t, k, KV, em, hv, hk => fun m => by
    have ih := ckey_sound w d
    rw [show d + 1 + m = (d + m) + 1 by omega]
    unfold ckey at hk
    cases hU : P.underlying t with
    | none => rw [hU] at hk; cases hk
    | some D' =>
      rw [hU] at hk
      cases D' with
      | struct fs =>
        cases k <;> first | cases hk | skip
        rename_i l
        cases hv with
        | agg hl =>
          rename_i L
          have hk : (ckeyF P (ckey P d) fs.toList).f l = true := hk
          simp only [Instr.checkKey, Sem.run_bind, run_under hU, Result.andThen_ok]
          rw [← Array.forIn_toList]
          generalize fs.toList = fs at *
          clear hU
          induction fs with
          | nil => simp
          | cons f fs ihf =>
            simp only [ckeyF] at hk
            simp only [List.forIn_cons, Sem.run_bind, Sem.run_ite]
            cases hn : f.name == "_" with
            | true =>
              rw [hn] at hk
              have hn := eq_of_beq hn
              have := ihf hk
              simp only [hn, ne_eq, not_true_eq_false, if_false, Sem.run_pure, Result.andThen_ok]
              exact this
            | false =>
              rw [hn] at hk
              have hn : f.name ≠ "_" := fun hh => by rw [hh] at hn; cases hn
              have hk : Option.rec (motive := fun _ => Bool) false (fun x => bc ((ckey P d f.type).f x) ((ckeyF P (ckey P d) fs).f l) false) ((cpart P f.type f.offset).f l) = true := hk
              cases hp : (cpart P f.type f.offset).f l with
              | none => rw [hp] at hk; cases hk
              | some x =>
                rw [hp] at hk
                have hk : bc ((ckey P d f.type).f x) ((ckeyF P (ckey P d) fs).f l) false = true := hk
                obtain ⟨X, hX, hrX⟩ := cpart_sound hp hl w
                cases h1 : (ckey P d f.type).f x with
                | false => rw [h1] at hk; cases hk
                | true =>
                  rw [h1] at hk
                  have h2 := ih f.type x X em hX h1 m
                  have h3 := ihf hk
                  simp only [if_pos hn, Sem.run_bind, hrX, Result.andThen_ok, h2, Sem.run_pure]
                  exact h3
      | interface _ => cases hk
      | array _ _ => cases hk
      | _ => simp [Instr.checkKey, run_under hU]
end Go.Ax
