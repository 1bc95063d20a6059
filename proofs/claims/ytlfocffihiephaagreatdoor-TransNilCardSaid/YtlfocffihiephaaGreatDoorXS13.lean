/- Part of an abstract executor of the model's machine, and of its law (S13). -/
import Derived.Test.YtlfocffihiephaaGreatDoorXS12
import Derived.LaidEql
import Derived.Laws.StructEq
namespace Go.Ax
open Go.RowKit (Below)
variable {P : Program} {D : Nat → Nat} {base : Nat} {w0 : World} {E : En} {h : H} {nx : Nat} {w : World}

theorem isNil_nilp {v : AV} (h : isNil v .nilp = true) : v = .m .nilp := by
  cases v <;> first | cases h | skip
  rename_i x; cases x <;> first | rfl | cases h
theorem isNil_nils {v : AV} (h : isNil v .nils = true) : v = .m .nils := by
  cases v <;> first | cases h | skip
  rename_i x; cases x <;> first | rfl | cases h
theorem isNil_nilm {v : AV} (h : isNil v .nilm = true) : v = .m .nilm := by
  cases v <;> first | cases h | skip
  rename_i x; cases x <;> first | rfl | cases h
theorem isNil_nilf {v : AV} (h : isNil v .nilf = true) : v = .m .nilf := by
  cases v <;> first | cases h | skip
  rename_i x; cases x <;> first | rfl | cases h

theorem fixedB_some (R : HR D base w0 E h nx w) {b c q : Nat} (e : E.m b = some (c, q)) (hf : fixedB h b = true) : (∃ cur t, w.heap[c]? = some (.cells cur t (0, 0))) ∧ (bget b h).isSome := by
  unfold fixedB at hf
  cases hb : bget b h with
  | none => rw [hb] at hf; cases hf
  | some ab =>
    rw [hb] at hf
    cases ab <;> first | cases hf | skip
    obtain ⟨cur, t, h1, _⟩ := R.row e hb (.inl ⟨_, _, _, rfl⟩)
    exact ⟨⟨cur, t, h1⟩, rfl⟩

theorem addr_beq (c o o' : Nat) : ((⟨c, o, none⟩ : Addr) == ⟨c, o', none⟩) = Nat.beq o o' := by
  rw [Bool.eq_iff_iff, beq_iff_eq]
  constructor
  · intro hx; cases hx; exact Nat.beq_refl _
  · intro hx; rw [Nat.eq_of_beq_eq_true hx]

theorem strs_beq (n l n' l' : Nat) : ((⟨(strB n l).toArray⟩ : ByteArray) == ⟨(strB n' l').toArray⟩) = strEq n l n' l' := by
  rw [strEq_eq, beq_toListBytes, ByteArray.toList_eq, ByteArray.toList_eq, Bool.eq_iff_iff, beq_iff_eq, decide_eq_true_iff]

theorem beqB_eq (a b : Bool) : beqB a b = (a == b) := by cases a <;> cases b <;> rfl

/-- a sure answer -/
def EqOk (P : Program) (D : Nat → Nat) (base : Nat) (w0 : World) (E : En) (h : H) (nx : Nat) (w : World) (d : Nat) : Prop :=
  ∀ (t : TypeId) (x y : AV) (X Y : Value) (b : Bool), VR E x X → VR E y Y → (ceq P d t).f h x y = some b → ∀ m, (Op.equalIn (d + m) t X Y).run P w = .ok b w

theorem cfields_sound {d : Nat} (ih : EqOk P D base w0 E h nx w d) {xs ys : List AV} {XS YS : List Value} (hx : VRL E xs XS) (hy : VRL E ys YS) (m : Nat) :
    ∀ (fs : List Field) (b : Bool), (cfields P (ceq P d) fs).f h xs ys = some b → (Op.eqFields (d + m) XS.toArray YS.toArray fs).run P w = .ok b w
  | [], b, hr => by cases hr; simp [Op.eqFields]
  | f :: fs, b, hr => by
    simp only [cfields] at hr
    cases hn : f.name == "_" with
    | true =>
      rw [hn] at hr
      have hn := eq_of_beq hn
      simp only [Op.eqFields, hn, ne_eq, not_true_eq_false, if_false]
      exact cfields_sound ih hx hy m fs b hr
    | false =>
      rw [hn] at hr
      have hn : f.name ≠ "_" := fun hh => by rw [hh] at hn; cases hn
      obtain ⟨u, hu, hr⟩ := ob_some' hr
      obtain ⟨v, hv, hr⟩ := ob_some' hr
      obtain ⟨c, hc, hr⟩ := ob_some' hr
      obtain ⟨U, hU, hrU⟩ := cpart_sound hu hx w
      obtain ⟨V, hV, hrV⟩ := cpart_sound hv hy w
      have he := ih f.type u v U V c hU hV hc m
      simp only [Op.eqFields, if_pos hn, Sem.run_bind, hrU, Result.andThen_ok, hrV, he]
      cases c with
      | false => cases hr; simp
      | true =>
        simp only [Bool.not_true, Bool.false_eq_true, if_false]
        exact cfields_sound ih hx hy m fs b hr

theorem ceq_bool (R : HR D base w0 E h nx w) {d : Nat} (ih : EqOk P D base w0 E h nx w d)  {t : TypeId} (hU : P.underlying t = some (.bool)) {x y : AV} {X Y : Value} {b : Bool} (hx : VR E x X) (hy : VR E y Y)
    (hr : (ceq P (d + 1) t).f h x y = some b) (m : Nat) : (Op.equalIn (d + m + 1) t X Y).run P w = .ok b w := by
  unfold ceq at hr
  rw [hU] at hr
  replace hr := onBool_some hr; obtain ⟨a, rfl, hr⟩ := hr
  replace hr := onBool_some hr; obtain ⟨a', rfl, hr⟩ := hr
  cases hr; cases hx; cases hy
  simp [Op.equalIn, run_under hU, beqB_eq]

theorem ceq_int (R : HR D base w0 E h nx w) {d : Nat} (ih : EqOk P D base w0 E h nx w d) {k : IntKind} {t : TypeId} (hU : P.underlying t = some (.int k)) {x y : AV} {X Y : Value} {b : Bool} (hx : VR E x X) (hy : VR E y Y)
    (hr : (ceq P (d + 1) t).f h x y = some b) (m : Nat) : (Op.equalIn (d + m + 1) t X Y).run P w = .ok b w := by
  unfold ceq at hr
  rw [hU] at hr
  replace hr := onInt_some hr; obtain ⟨k1, a, rfl, hr⟩ := hr
  replace hr := onInt_some hr; obtain ⟨k2, a', rfl, hr⟩ := hr
  replace hr := bc_some hr; obtain ⟨hk, hr⟩ := hr
  have hk := Nat.eq_of_beq_eq_true hk
  cases hr
  subst hk
  cases hx; cases hy
  simp [Op.equalIn, run_under hU, intEq_eq]

theorem ceq_string (R : HR D base w0 E h nx w) {d : Nat} (ih : EqOk P D base w0 E h nx w d)  {t : TypeId} (hU : P.underlying t = some (.string)) {x y : AV} {X Y : Value} {b : Bool} (hx : VR E x X) (hy : VR E y Y)
    (hr : (ceq P (d + 1) t).f h x y = some b) (m : Nat) : (Op.equalIn (d + m + 1) t X Y).run P w = .ok b w := by
  unfold ceq at hr
  rw [hU] at hr
  replace hr := onStr_some hr; obtain ⟨n, l, rfl, hr⟩ := hr
  replace hr := onStr_some hr; obtain ⟨n', l', rfl, hr⟩ := hr
  cases hr; cases hx; cases hy
  simp [Op.equalIn, run_under hU, strs_beq]

theorem ceq_pointer (R : HR D base w0 E h nx w) {d : Nat} (ih : EqOk P D base w0 E h nx w d) {e : TypeId} {t : TypeId} (hU : P.underlying t = some (.pointer e)) {x y : AV} {X Y : Value} {b : Bool} (hx : VR E x X) (hy : VR E y Y)
    (hr : (ceq P (d + 1) t).f h x y = some b) (m : Nat) : (Op.equalIn (d + m + 1) t X Y).run P w = .ok b w := by
  unfold ceq at hr
  rw [hU] at hr
  simp only at hr
  rw [bc_ite] at hr
  split at hr
  · rename_i hn
    have := isNil_nilp hn; subst this
    cases hx
    rw [bc_ite] at hr
    split at hr
    · rename_i hn2
      have := isNil_nilp hn2; subst this
      cases hy; cases hr
      simp [Op.equalIn, run_under hU]
    · replace hr := onPtr_some hr; obtain ⟨b', o', rfl, hr⟩ := hr
      cases hr; cases hy
      simp [Op.equalIn, run_under hU]
  · replace hr := onPtr_some hr; obtain ⟨b1, o1, rfl, hr⟩ := hr
    cases hx with
    | @ptr _ c1 q1 _ e1 =>
      rw [bc_ite] at hr
      split at hr
      · rename_i hn2
        have := isNil_nilp hn2; subst this
        cases hy; cases hr
        simp [Op.equalIn, run_under hU]
      · replace hr := onPtr_some hr; obtain ⟨b2, o2, rfl, hr⟩ := hr
        obtain ⟨hnz, hr⟩ := bc_some hr
        have hsz : ∃ n, n ≠ 0 ∧ (sizeOf e).run P w = .ok n w := by
          cases hi : tinfo P e with
          | none => rw [hi] at hnz; cases hnz
          | some i =>
            rw [hi] at hnz
            have hnz : bnot (Nat.beq i.size 0) = true := hnz
            obtain ⟨I, hI, _, hs, _⟩ := tinfo_some hi
            refine ⟨I.size, ?_, run_size hI w⟩
            intro h0
            rw [hs, h0] at hnz
            cases hnz
        obtain ⟨n, hn0, hsz⟩ := hsz
        cases hy with
        | @ptr _ c2 q2 _ e2 =>
          skip
          simp only [Op.equalIn, Sem.run_bind, run_under hU, Result.andThen_ok, hsz, if_pos hn0]
          cases hbb : Nat.beq b1 b2 with
          | true =>
            rw [hbb] at hr
            have hbb := Nat.eq_of_beq_eq_true hbb
            subst hbb
            rw [e1] at e2
            cases e2
            cases hr
            rw [← addr_beq c1 o1 o2]
            simp [sameAddr]
          | false =>
            rw [hbb] at hr
            obtain ⟨f1, hr⟩ := bc_some hr
            obtain ⟨f2, hr⟩ := bc_some hr
            cases hr
            obtain ⟨⟨cur1, t1, g1⟩, l1⟩ := fixedB_some R e1 f1
            obtain ⟨⟨cur2, t2, g2⟩, l2⟩ := fixedB_some R e2 f2
            have hne : b1 ≠ b2 := fun hh => by rw [hh, Nat.beq_refl] at hbb; cases hbb
            refine run_sameAddr_other w (fun hh => hne ?_) g1 g2
            cases hh
            exact R.inj b1 b2 _ _ _ (R.lt e1) (R.lt e2) l1 l2 e1 e2

theorem ceq_interface (R : HR D base w0 E h nx w) {d : Nat} (ih : EqOk P D base w0 E h nx w d) {ms : Array (String × TypeId)} {t : TypeId} (hU : P.underlying t = some (.interface ms)) {x y : AV} {X Y : Value} {b : Bool} (hx : VR E x X) (hy : VR E y Y)
    (hr : (ceq P (d + 1) t).f h x y = some b) (m : Nat) : (Op.equalIn (d + m + 1) t X Y).run P w = .ok b w := by
  unfold ceq at hr
  rw [hU] at hr
  simp only at hr
  rw [bc_ite] at hr
  split at hr
  · rename_i hn
    have := isNil_nili hn; subst this
    cases hx
    rw [bc_ite] at hr
    split at hr
    · rename_i hn2
      have := isNil_nili hn2; subst this
      cases hy; cases hr
      simp [Op.equalIn, run_under hU]
    · replace hr := onIface_some hr; obtain ⟨ty, vy, rfl, hr⟩ := hr
      cases hr; cases hy
      simp [Op.equalIn, run_under hU]
  · replace hr := onIface_some hr; obtain ⟨tx, vx, rfl, hr⟩ := hr
    cases hx with
    | iface _ hx =>
      rw [bc_ite] at hr
      split at hr
      · rename_i hn2
        have := isNil_nili hn2; subst this
        cases hy; cases hr
        simp [Op.equalIn, run_under hU]
      · replace hr := onIface_some hr; obtain ⟨ty, vy, rfl, hr⟩ := hr
        cases hy with
        | iface _ hy =>
          cases htt : Nat.beq tx ty with
          | false =>
            rw [htt] at hr
            cases hr
            have hne : tx ≠ ty := fun hh => by rw [hh, Nat.beq_refl] at htt; cases htt
            simp [Op.equalIn, run_under hU, hne]
          | true =>
            rw [htt] at hr
            have htt := Nat.eq_of_beq_eq_true htt
            subst htt
            obtain ⟨hc, hr⟩ := bc_some hr
            cases hI : P.info? tx with
            | none => rw [hI] at hc; cases hc
            | some I =>
              rw [hI] at hc
              have hc : I.comparable = true := hc
              have he := ih tx vx vy _ _ b hx hy hr m
              simp [Op.equalIn, run_under hU, run_info hI, hc, he]

theorem ceq_struct (R : HR D base w0 E h nx w) {d : Nat} (ih : EqOk P D base w0 E h nx w d) {fs : Array Field} {t : TypeId} (hU : P.underlying t = some (.struct fs)) {x y : AV} {X Y : Value} {b : Bool} (hx : VR E x X) (hy : VR E y Y)
    (hr : (ceq P (d + 1) t).f h x y = some b) (m : Nat) : (Op.equalIn (d + m + 1) t X Y).run P w = .ok b w := by
  unfold ceq at hr
  rw [hU] at hr
  simp only at hr
  rw [bc_ite] at hr
  split at hr
  · cases hr
  · rename_i hst
    replace hr := onAgg_some hr; obtain ⟨xs, rfl, hr⟩ := hr
    replace hr := onAgg_some hr; obtain ⟨ys, rfl, hr⟩ := hr
    cases hx with
    | agg hx =>
      cases hy with
      | agg hy =>
        have hf : P.fieldsOf t = fs := by simp [Program.fieldsOf, hU]
        rw [run_equalIn_struct w (d + m) t _ _ (by rw [hf]; exact hU) (by simpa using hst), hf]
        exact cfields_sound ih hx hy m fs.toList b hr

theorem ceq_slice (R : HR D base w0 E h nx w) {d : Nat} (ih : EqOk P D base w0 E h nx w d) {e : TypeId} {t : TypeId} (hU : P.underlying t = some (.slice e)) {x y : AV} {X Y : Value} {b : Bool} (hx : VR E x X) (hy : VR E y Y)
    (hr : (ceq P (d + 1) t).f h x y = some b) (m : Nat) : (Op.equalIn (d + m + 1) t X Y).run P w = .ok b w := by
  unfold ceq at hr
  rw [hU] at hr
  simp only at hr
  rw [bc_ite] at hr
  split at hr
  · rename_i hn
    have := isNil_nils hn; subst this
    cases hx
    rw [bc_ite] at hr
    split at hr
    · rename_i hn2
      have := isNil_nils hn2; subst this
      cases hy; cases hr
      simp [Op.equalIn, run_under hU]
    · replace hr := onSl_some hr; rcases hr with ⟨_, _, _, _, rfl, hr⟩ | ⟨_, _, _, _, rfl, hr⟩ | ⟨_, rfl, hr⟩
      · cases hr; cases hy; simp [Op.equalIn, run_under hU]
      · cases hr; cases hy; simp [Op.equalIn, run_under hU]
      · cases hr
  · obtain ⟨hn2, hr⟩ := bc_some hr
    have := isNil_nils hn2; subst this
    cases hy
    replace hr := onSl_some hr; rcases hr with ⟨_, _, _, _, rfl, hr⟩ | ⟨_, _, _, _, rfl, hr⟩ | ⟨_, rfl, hr⟩
    · cases hr; cases hx; simp [Op.equalIn, run_under hU]
    · cases hr; cases hx; simp [Op.equalIn, run_under hU]
    · cases hr

theorem ceq_map (R : HR D base w0 E h nx w) {d : Nat} (ih : EqOk P D base w0 E h nx w d) {kt vt : TypeId} {t : TypeId} (hU : P.underlying t = some (.map kt vt)) {x y : AV} {X Y : Value} {b : Bool} (hx : VR E x X) (hy : VR E y Y)
    (hr : (ceq P (d + 1) t).f h x y = some b) (m : Nat) : (Op.equalIn (d + m + 1) t X Y).run P w = .ok b w := by
  unfold ceq at hr
  rw [hU] at hr
  simp only at hr
  rw [bc_ite] at hr
  split at hr
  · rename_i hn
    have := isNil_nilm hn; subst this
    cases hx
    rw [bc_ite] at hr
    split at hr
    · rename_i hn2
      have := isNil_nilm hn2; subst this
      cases hy; cases hr
      simp [Op.equalIn, run_under hU]
    · replace hr := onMap_some hr; rcases hr with ⟨rfl, hr⟩ | ⟨_, rfl, hr⟩
      · cases hr
      · cases hr; cases hy; simp [Op.equalIn, run_under hU]
  · obtain ⟨hn2, hr⟩ := bc_some hr
    have := isNil_nilm hn2; subst this
    cases hy
    replace hr := onMap_some hr; rcases hr with ⟨rfl, hr⟩ | ⟨_, rfl, hr⟩
    · cases hr
    · cases hr; cases hx; simp [Op.equalIn, run_under hU]

theorem ceq_func (R : HR D base w0 E h nx w) {d : Nat} (ih : EqOk P D base w0 E h nx w d) {a : Array TypeId} {b' : Array TypeId} {c : Bool} {t : TypeId} (hU : P.underlying t = some (.func a b' c)) {x y : AV} {X Y : Value} {b : Bool} (hx : VR E x X) (hy : VR E y Y)
    (hr : (ceq P (d + 1) t).f h x y = some b) (m : Nat) : (Op.equalIn (d + m + 1) t X Y).run P w = .ok b w := by
  unfold ceq at hr
  rw [hU] at hr
  simp only at hr
  rw [bc_ite] at hr
  split at hr
  · rename_i hn
    have := isNil_nilf hn; subst this
    cases hx
    rw [bc_ite] at hr
    split at hr
    · rename_i hn2
      have := isNil_nilf hn2; subst this
      cases hy; cases hr
      simp [Op.equalIn, run_under hU]
    · replace hr := onFn_some hr; obtain ⟨_, _, _, rfl, hr⟩ := hr
      cases hr; cases hy; simp [Op.equalIn, run_under hU]
  · obtain ⟨hn2, hr⟩ := bc_some hr
    have := isNil_nilf hn2; subst this
    cases hy
    replace hr := onFn_some hr; obtain ⟨_, _, _, rfl, hr⟩ := hr
    cases hr; cases hx; simp [Op.equalIn, run_under hU]

theorem ceq_sound (R : HR D base w0 E h nx w) : ∀ d, EqOk P D base w0 E h nx w d
  | 0 => fun t x y X Y b _ _ hr => by cases hr
  | d + 1 => fun t x y X Y b hx hy hr m => by
    have ih := ceq_sound R d
    rw [show d + 1 + m = (d + m) + 1 by omega]
    cases hU : P.underlying t with
    | none => unfold ceq at hr; rw [hU] at hr; cases hr
    | some D' =>
      cases D' with
      | bool => exact ceq_bool R ih hU hx hy hr m
      | int _ => exact ceq_int R ih hU hx hy hr m
      | string => exact ceq_string R ih hU hx hy hr m
      | pointer _ => exact ceq_pointer R ih hU hx hy hr m
      | interface _ => exact ceq_interface R ih hU hx hy hr m
      | struct _ => exact ceq_struct R ih hU hx hy hr m
      | slice _ => exact ceq_slice R ih hU hx hy hr m
      | map _ _ => exact ceq_map R ih hU hx hy hr m
      | func _ _ _ => exact ceq_func R ih hU hx hy hr m
      | _ => unfold ceq at hr; rw [hU] at hr; cases hr
end Go.Ax
