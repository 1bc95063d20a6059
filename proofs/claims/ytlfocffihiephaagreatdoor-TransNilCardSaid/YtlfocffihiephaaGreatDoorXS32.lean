/- Part of an abstract executor of the model's machine, and of its law (S32). -/
import Derived.Test.YtlfocffihiephaaGreatDoorXS31
namespace Go.Ax
open Go.RowKit (Below)
variable {P : Program} {D : Nat → Nat} {base : Nat} {w0 : World} {f0 : Nat} {cs0 : List Frame}

theorem Lin.notin {m : Region.Mode} {ops : Array Oper} {pre rest : List Nat} {j : Nat} (h : Lin m ops (pre ++ j :: rest)) : j ∉ pre ∧ j ∉ rest := by
  have := h.nodup
  rw [List.nodup_append] at this
  obtain ⟨_, h2, h3⟩ := this
  rw [List.nodup_cons] at h2
  exact ⟨fun hj => h3 j hj j (by simp) rfl, h2.1⟩
theorem Lin.apart {m : Region.Mode} {ops : Array Oper} {pre rest : List Nat} (h : Lin m ops (pre ++ rest)) {j : Nat} (h1 : j ∈ pre) (h2 : j ∈ rest) : False := by
  have := h.nodup
  rw [List.nodup_append] at this
  exact this.2.2 j h1 j h2 rfl

theorem ownT_sound {ops : Array Oper} {o : Oper} (h : ownT ops o = true) : ∀ t, o.dst = some t → readsT ops o t = false := by
  intro t ht
  simp only [ownT, ht, Bool.not_eq_true'] at h
  exact h

section
variable {E : En} {h h' : H} {fl nx nx' n : Nat} {mask x : Nat} {ops : Array Oper} {done : List (Nat × Oper)} {pre rest : List Nat} {ns : List Tmp} {tm tm' : Tm} {e e' : List AV} {tmps : Array Value} {B : Nat → Nat}
  {i b : Nat} {o : Oper} {v : AV} {wb : Bool}

theorem Sub.trans {a b c : H} (h1 : Sub a b) (h2 : Sub b c) : Sub a c := fun k ab hk => h2 k ab (h1 k ab hk)
theorem Kind.grow {s : Bool} {ns0 : List Tmp} {tm0 : Tm} {e0 : List AV} (hs : Sub h h') (hn : nx ≤ nx') (q : Kind P s E h fl nx mask ns0 tm0 e0 b o v) : Kind P s E h' fl nx' mask ns0 tm0 e0 b o v := by
  cases q with
  | pure hk hf => exact .pure hk hf
  | reads hk hf =>
    refine .reads hk (hf.imp id ?_)
    rintro ⟨h0, hs0, hf⟩
    exact ⟨h0, hs0.trans hs, hf⟩
  | makes hk hb h1 h2 h3 ab kv hg hv hf => exact .makes hk hb h1 (by omega) h3 ab kv (hs _ _ hg) hv hf

/-- the plan takes a floating operation -/
theorem DInv.float (d : DInv P false E h fl nx mask ops x done pre rest ns tm e tmps B) (hlim : nx ≤ 262143) (hsz : tmps.size = n) (hbd : mask < 2 ^ n) (ho : ops[i]? = some o) (hx : Nat.testBit x i = false) (hk : okind o ≠ .eff)
    (hf : fits ops ((Region.before ops).getD i 0) o false done = true) (hw : ownT ops o = true) (hs : Sub h h') (hn : nx ≤ nx') (hput : PutOk mask n o.dst v ns tm e tm' e')
    (hwant : (cwant mask ns ops o).f tm e = some wb) (hoff : wb = false → v = undef) (hon : wb = true → o.op.operands.toList.all (okd mask ns) = true ∧ Kind P false E h' fl nx' mask ns tm e b o v)
    (hb : b = 262144 + i ∨ (b = nx ∧ nx < nx' ∧ nx < 262143)) :
    DInv P false E h' fl nx' mask ops (Nat.lor x (Nat.shiftLeft 1 i)) ((i, o) :: done) pre rest (names' mask o.dst ns) tm' e' tmps (fun k => if k = i then b else B k) := by
  have hfit := fits_sound hf
  have hown := ownT_sound hw
  have hne : ∀ a ∈ done, a.1 ≠ i := fun a ha hh => by have := (d.h3 a ha).2.1; rw [hh, hx] at this; cases this
  have hbit : ∀ j, Nat.testBit (Nat.lor x (Nat.shiftLeft 1 i)) j = true ↔ Nat.testBit x j = true ∨ i = j := fun j => by rw [bit_add]; simp
  have hir : i ∈ rest := by
    have h1 : i ∈ pre ++ rest := (d.lin.all i).2 (lt_of_get ho)
    rcases List.mem_append.1 h1 with h1 | h1
    · have := d.h1 i h1; rw [hx] at this; cases this
    · exact h1
  -- the new destination is nobody else's
  have hnew : ∀ a ∈ done, ∀ t, o.dst = some t → readsT ops a.2 t = false ∧ a.2.dst ≠ some t := by
    intro a ha t ht
    constructor
    · cases hq : readsT ops a.2 t with
      | false => rfl
      | true => have := ((hfit a ha).2 t ht (.inl hq)).1; cases this
    · intro hq; have := ((hfit a ha).2 t ht (.inr hq)).1; cases this
  refine ⟨d.lin, fun j hj => (hbit j).2 (.inl (d.h1 j hj)), ?_, ?_, ?_, ?_, ?_, ?_, ?_, ?_, ?_⟩
  · intro j hj hb'
    rcases (hbit j).1 hb' with h1 | rfl
    · obtain ⟨o', h2⟩ := d.h2 j hj h1
      exact ⟨o', .tail _ h2⟩
    · exact ⟨o, .head _⟩
  · intro a ha
    cases ha with
    | head => exact ⟨ho, (hbit i).2 (.inr rfl), hk⟩
    | tail _ ha => obtain ⟨h1, h2, h3⟩ := d.h3 a ha; exact ⟨h1, (hbit _).2 (.inl h2), h3⟩
  · intro a ha c hc t ht hr
    cases ha with
    | head =>
      cases hc with
      | head => have := hown t ht; rw [this] at hr; cases hr
      | tail _ hc => have := (hnew c hc t ht).1; rw [this] at hr; cases hr
    | tail _ ha =>
      cases hc with
      | head => exact (hfit a ha).1 t ht hr
      | tail _ hc => exact d.st a ha c hc t ht hr
  · intro a ha c hc t ht ht'
    cases ha with
    | head =>
      cases hc with
      | head => rfl
      | tail _ hc => exact absurd ht' (hnew c hc t ht).2
    | tail _ ha =>
      cases hc with
      | head => exact absurd ht (hnew a ha t ht').2
      | tail _ hc => exact d.un a ha c hc t ht ht'
  · intro u hu hp
    by_cases hd : o.dst = some u
    · exact absurd ⟨(i, o), .head _, hir, hd⟩ hp
    · obtain ⟨h1, h2⟩ := hput.other u hd
      rw [h1] at hu
      rw [h2 hu]
      exact d.tr u hu fun ⟨a, ha, har, hat⟩ => hp ⟨a, .tail _ ha, har, hat⟩
  · intro a ha har
    cases ha with
    | head =>
      simp only [if_true]
      refine ⟨ns, tm, e, v, wb, ⟨?_, hwant, fun t ht => ⟨(hput.here t ht).1, (hput.here t ht).2.1⟩, hoff, hon⟩⟩
      intro t ht hk0
      have hd : o.dst ≠ some t := fun hh => by rw [hown t hh] at ht; cases ht
      obtain ⟨h1, h2⟩ := hput.other t hd
      exact ⟨by rw [h1]; exact hk0, h2 hk0⟩
    | tail _ ha =>
      rw [if_neg (hne a ha)]
      obtain ⟨ns0, tm0, e0, v0, wb0, q⟩ := d.pf a ha har
      refine ⟨ns0, tm0, e0, v0, wb0, ⟨?_, q.want, ?_, q.off, fun hh => ⟨(q.on hh).1, (q.on hh).2.grow hs hn⟩⟩⟩
      · intro t ht hk0
        have hd : o.dst ≠ some t := fun hh => by rw [(hnew a ha t hh).1] at ht; cases ht
        obtain ⟨h1, h2⟩ := hput.other t hd
        obtain ⟨s1, s2⟩ := q.same t ht hk0
        exact ⟨by rw [h1]; exact s1, by rw [h2 s1]; exact s2⟩
      · intro t ht
        have hd : o.dst ≠ some t := fun hh => (hnew a ha t hh).2 ht
        obtain ⟨h1, h2⟩ := hput.other t hd
        obtain ⟨s1, s2⟩ := q.dst t ht
        exact ⟨by rw [h1]; exact s1, by rw [h2 s1]; exact s2⟩
  · intro a ha c hc har hcr hB
    have new : ∀ a ∈ done, a.1 ∈ rest → B a.1 = b → a.1 = i := by
      intro a ha har hB
      rcases d.bk a ha har with h1 | h1 <;> rcases hb with h2 | h2 <;> omega
    cases ha with
    | head =>
      cases hc with
      | head => rfl
      | tail _ hc =>
        simp only [if_true, if_neg (hne c hc)] at hB
        exact (new c hc hcr hB.symm).symm
    | tail _ ha =>
      cases hc with
      | head =>
        simp only [if_true, if_neg (hne a ha)] at hB
        exact new a ha har hB
      | tail _ hc =>
        simp only [if_neg (hne a ha), if_neg (hne c hc)] at hB
        exact d.inj a ha c hc har hcr hB
  · intro a ha har
    cases ha with
    | head =>
      simp only [if_true]
      rcases hb with hb | hb
      · exact .inl hb
      · exact .inr (by omega)
    | tail _ ha =>
      rw [if_neg (hne a ha)]
      rcases d.bk a ha har with h1 | h1
      · exact .inl h1
      · exact .inr (by omega)
  · intro a ha t ht
    cases ha with
    | head =>
      rw [hsz]
      rcases (hput.here t ht).2.2 with h1 | h1
      · exact h1
      · rcases Nat.lt_or_ge t n with h2 | h2
        · exact h2
        · have : mask < 2 ^ t := Nat.lt_of_lt_of_le hbd (Nat.pow_le_pow_right (by omega) h2)
          rw [Nat.testBit_lt_two_pow this] at h1; cases h1
    | tail _ ha => exact d.dl a ha t ht
end

section
variable {E : En} {h : H} {fl nx : Nat} {mask x : Nat} {ops : Array Oper} {done : List (Nat × Oper)} {pre rest : List Nat} {ns : List Tmp} {tm : Tm} {e : List AV} {tmps : Array Value} {B : Nat → Nat}
  {i : Nat} {o : Oper} {w : World} {r : St} {fs : FS} {df : List ADf} {cs : List Fr} {td : List AI} {j : J} {kr : Rop}

theorem float_step (R : HR D base w0 E h nx w) (hfl : fl ≤ nx) (hsz : tmps.size = fs.n) (hbd : mask < 2 ^ fs.n) (d : DInv P false E h fl nx mask ops x done pre rest ns tm e tmps B)
    (ho : ops[i]? = some o) (hx : Nat.testBit x i = false) (hk : okind o ≠ .eff) (hf : fits ops ((Region.before ops).getD i 0) o false done = true) (hw : ownT ops o = true)
    (hr : (guardR (cwant mask ns ops o) (bc (o.op.operands.toList.all (okd mask ns)) (cval P mask ns o (cput mask o.dst kr)) failR) (cput mask o.dst kr)).r (.mk ⟨fs, df, cs⟩ td j) tm e h nx = some r) :
    ∃ tm' e' h' nx' B', kr.r (.mk ⟨fs, df, cs⟩ td j) tm' e' h' nx' = some r ∧
      DInv P false E h' fl nx' mask ops (Nat.lor x (Nat.shiftLeft 1 i)) ((i, o) :: done) pre rest (names' mask o.dst ns) tm' e' tmps B' ∧ HR D base w0 E h' nx' w ∧ nx ≤ nx' ∧ Keep fl E h E h' := by
  have hsub : Sub h h := fun _ _ hh => hh
  rcases guardR_some hr with ⟨hwant, hr⟩ | ⟨hwant, hr⟩
  · cases hok : o.op.operands.toList.all (okd mask ns) with
    | false => rw [hok] at hr; cases hr
    | true =>
      rw [hok] at hr
      have hr : (cop P mask ns o).f tm e h nx (fun v h nx => (cput mask o.dst kr).p v (.mk ⟨fs, df, cs⟩ td j) tm e h nx) = some r := hr
      cases hkk : okind o with
      | eff => exact absurd hkk hk
      | pure =>
        rcases cop_pure (P := P) (mask := mask) (ns := ns) (tm := tm) (e := e) hkk with hF | ⟨v, hF⟩
        · have := hF ⟨h, nx, fun v h nx => (cput mask o.dst kr).p v (.mk ⟨fs, df, cs⟩ td j) tm e h nx⟩
          simp only at this
          rw [this] at hr; cases hr
        · have h1 := hF ⟨h, nx, fun v h nx => (cput mask o.dst kr).p v (.mk ⟨fs, df, cs⟩ td j) tm e h nx⟩
          simp only [GP] at h1
          rw [h1] at hr
          obtain ⟨tm', e', hr', hput⟩ := cput_some (ns := ns) hr
          exact ⟨tm', e', h, nx, _, hr', d.float (b := 262144 + i) (wb := true) R.lim hsz hbd ho hx hk hf hw hsub (Nat.le_refl _) hput hwant (fun hh => by cases hh) (fun _ => ⟨hok, .pure hkk fun h nx K => hF ⟨h, nx, K⟩⟩) (.inl rfl), R, Nat.le_refl _, .refl _ _ _⟩
      | reads =>
        rcases cop_reads (P := P) (mask := mask) (ns := ns) (tm := tm) (e := e) (h := h) hkk with hF | ⟨v, hF⟩
        · have := hF (nx, fun v h nx => (cput mask o.dst kr).p v (.mk ⟨fs, df, cs⟩ td j) tm e h nx)
          simp only at this
          rw [this] at hr; cases hr
        · have h1 := hF (nx, fun v h nx => (cput mask o.dst kr).p v (.mk ⟨fs, df, cs⟩ td j) tm e h nx)
          simp only [GR] at h1
          rw [h1] at hr
          obtain ⟨tm', e', hr', hput⟩ := cput_some (ns := ns) hr
          exact ⟨tm', e', h, nx, _, hr', d.float (b := 262144 + i) (wb := true) R.lim hsz hbd ho hx hk hf hw hsub (Nat.le_refl _) hput hwant (fun hh => by cases hh) (fun _ => ⟨hok, .reads hkk (.inr ⟨h, hsub, fun nx K => hF (nx, K)⟩)⟩) (.inl rfl), R, Nat.le_refl _, .refl _ _ _⟩
      | makes =>
        rcases cop_makes (P := P) (mask := mask) (ns := ns) (tm := tm) (e := e) hkk with hF | ⟨⟨ab, kv⟩, hF⟩
        · have := hF ⟨h, nx, fun v h nx => (cput mask o.dst kr).p v (.mk ⟨fs, df, cs⟩ td j) tm e h nx⟩
          simp only at this
          rw [this] at hr; cases hr
        · have h1 := hF ⟨h, nx, fun v h nx => (cput mask o.dst kr).p v (.mk ⟨fs, df, cs⟩ td j) tm e h nx⟩
          simp only [GM] at h1
          rw [h1] at hr
          obtain ⟨hlt, hr⟩ := newB_some hr
          obtain ⟨tm', e', hr', hput⟩ := cput_some (ns := ns) hr
          have hg : ∀ k, bget k (bput nx (some ab) h) = if k = nx then some ab else bget k h := fun k => by
            rw [bget_put]
            by_cases hk : k = nx
            · subst hk; rw [if_pos ⟨rfl, by omega⟩, if_pos rfl]
            · rw [if_neg (fun (x : k = nx ∧ k < 262144) => hk x.1), if_neg hk]
          have hs : Sub h (bput nx (some ab) h) := fun k ab' hk' => by
            have : k ≠ nx := fun hh => by subst hh; rw [R.top k (Nat.le_refl _)] at hk'; cases hk'
            rw [hg, if_neg this]; exact hk'
          exact ⟨tm', e', _, nx + 1, _, hr', d.float (b := nx) (wb := true) R.lim hsz hbd ho hx hk hf hw hs (by omega) hput hwant (fun hh => by cases hh)
            (fun _ => ⟨hok, .makes hkk (R.fresh nx (Nat.le_refl _)) hfl (by omega) hlt ab kv (by rw [hg, if_pos rfl]) rfl fun h nx K => hF ⟨h, nx, K⟩⟩) (.inr ⟨rfl, by omega, hlt⟩),
            R.unplaced hlt ab, by omega, ⟨.refl _ _, fun k hk _ => by rw [hg, if_neg (by omega)]⟩⟩
  · obtain ⟨tm', e', hr', hput⟩ := cput_some (ns := ns) hr
    exact ⟨tm', e', h, nx, _, hr', d.float (b := 262144 + i) (wb := false) R.lim hsz hbd ho hx hk hf hw hsub (Nat.le_refl _) hput hwant (fun _ => rfl) (fun hh => by cases hh) (.inl rfl), R, Nat.le_refl _, .refl _ _ _⟩
end
end Go.Ax
