/- Part of an abstract executor of the model's machine, and of its law (S2). -/
import Derived.Test.YtlfocffihiephaaGreatDoorXS1
import Derived.Laws.World
import Derived.Calls
import Derived.Below
namespace Go.Ax
open Go.RowKit (Below)

/-- where the abstract blocks lie: the block, and the capacity (in elements) of a row that append made; the opaque values -/
structure En where
  m : Nat → Option (Nat × Nat)
  x : Nat → Value
  hx : ∀ k, vone (x k) = true

def strB (n : Nat) : Nat → List UInt8
  | 0 => []
  | l + 1 => UInt8.ofNat n :: strB (n / 256) l

inductive FnR (E : En) : Fn → Fn → Prop where
  | func (f : FuncId) : FnR E (.func f) (.func f)
  | method (n : String) : FnR E (.method n) (.method n)
  | methodOf (t : TypeId) (n : String) : FnR E (.methodOf t n) (.methodOf t n)
  | via (t : TypeId) (p : Array FieldStep) (f : FuncId) (b : Bool) : FnR E (.via t p f b) (.via t p f b)
  | yield {b c q : Nat} (h : E.m b = some (c, q)) : FnR E (.yield b) (.yield c)

mutual
inductive VR (E : En) : AV → Value → Prop where
  | int (k : Nat) (n : Int) : VR E (.int k n) (.int (kd k) n)
  | bool (b : Bool) : VR E (.bool b) (.bool b)
  | ptr {b c q : Nat} (o : Nat) (h : E.m b = some (c, q)) : VR E (.ptr b o) (.pointer (some ⟨c, o, none⟩))
  | str (n l : Nat) : VR E (.str n l) (.string ⟨(strB n l).toArray⟩)
  | sl {b c q : Nat} (o n k : Nat) (h : E.m b = some (c, q)) : VR E (.sl b o n k) (.slice (some ⟨c, o, none⟩) n k)
  | slx {b c q : Nat} (o i n : Nat) (h : E.m b = some (c, q)) : VR E (.slx b o i n) (.slice (some ⟨c, o, none⟩) n (q - i))
  | agg {l : List AV} {L : List Value} (h : VRL E l L) : VR E (.agg l) (.agg L.toArray)
  | tup {l : List AV} {L : List Value} (h : VRL E l L) : VR E (.tup l) (.tuple L.toArray)
  | fn {f g : Fn} {a c : List AV} {A C : List Value} (hf : FnR E f g) (ha : VRL E a A) (hc : VRL E c C) : VR E (.fn f a c) (.func g A.toArray C.toArray)
  | iface (t : TypeId) {v : AV} {V : Value} (h : VR E v V) : VR E (.iface t v) (.iface t V)
  | nilp : VR E (.m .nilp) (.pointer none)
  | nils : VR E (.m .nils) (.slice none 0 0)
  | nilm : VR E (.m .nilm) (.map none)
  | nilf : VR E (.m .nilf) .nilFunc
  | nili : VR E (.m .nili) .nilIface
  | map {b c q : Nat} (h : E.m b = some (c, q)) : VR E (.m (.map b)) (.map (some c))
  | slz {b c q : Nat} (o i l sz : Nat) (h : E.m b = some (c, q)) :
      VR E (.m (.slz b o i l sz)) (.slice (some ⟨c, if q - i = l then o else o + l * sz, none⟩) 0 (q - i - l))
  | cst (v : Value) (h : vone v = true) : VR E (.m (.cst v)) v
  | ext (k : Nat) : VR E (.m (.ext k)) (E.x k)
inductive VRL (E : En) : List AV → List Value → Prop where
  | nil : VRL E [] []
  | cons {v : AV} {V : Value} {l : List AV} {L : List Value} (h : VR E v V) (t : VRL E l L) : VRL E (v :: l) (V :: L)
end

/-- E' knows what E knows, and nothing more of the blocks below nx -/
structure En.le (nx : Nat) (E E' : En) : Prop where
  up : ∀ b p, E.m b = some p → E'.m b = some p
  old : ∀ b, b < nx → E.m b = none → E'.m b = none
  x : E'.x = E.x
theorem En.le.refl (nx : Nat) (E : En) : En.le nx E E := ⟨fun _ _ h => h, fun _ _ h => h, rfl⟩
theorem En.le.trans {nx nx' : Nat} {E E' E'' : En} (h : En.le nx E E') (h' : En.le nx' E' E'') (hn : nx ≤ nx') : En.le nx E E'' :=
  ⟨fun b p e => h'.up b p (h.up b p e), fun b hb e => h'.old b (by omega) (h.old b hb e), h'.x.trans h.x⟩

theorem FnR.mono {nx : Nat} {E E' : En} (h : En.le nx E E') {f g : Fn} (hf : FnR E f g) : FnR E' f g := by
  cases hf with
  | func => exact .func _
  | method => exact .method _
  | methodOf => exact .methodOf _ _
  | via => exact .via _ _ _ _
  | yield hb => exact .yield (h.up _ _ hb)

mutual
theorem VR.mono {nx : Nat} {E E' : En} (h : En.le nx E E') : ∀ {v : AV} {V : Value}, VR E v V → VR E' v V
  | _, _, .int k n => .int k n
  | _, _, .bool b => .bool b
  | _, _, .ptr o e => .ptr o (h.up _ _ e)
  | _, _, .str n l => .str n l
  | _, _, .sl o n k e => .sl o n k (h.up _ _ e)
  | _, _, .slx o i n e => .slx o i n (h.up _ _ e)
  | _, _, .agg l => .agg (VRL.mono h l)
  | _, _, .tup l => .tup (VRL.mono h l)
  | _, _, .fn f a c => .fn (f.mono h) (VRL.mono h a) (VRL.mono h c)
  | _, _, .iface t v => .iface t (VR.mono h v)
  | _, _, .nilp => .nilp
  | _, _, .nils => .nils
  | _, _, .nilm => .nilm
  | _, _, .nilf => .nilf
  | _, _, .nili => .nili
  | _, _, .map e => .map (h.up _ _ e)
  | _, _, .slz o i l sz e => .slz o i l sz (h.up _ _ e)
  | _, _, .cst v h => .cst v h
  | _, _, .ext k => by have := VR.ext (E := E') k; rwa [h.x] at this
theorem VRL.mono {nx : Nat} {E E' : En} (h : En.le nx E E') : ∀ {l : List AV} {L : List Value}, VRL E l L → VRL E' l L
  | _, _, .nil => .nil
  | _, _, .cons v t => .cons (VR.mono h v) (VRL.mono h t)
end

theorem VRL.len {E : En} : ∀ {l : List AV} {L : List Value}, VRL E l L → L.length = l.length
  | _, _, .nil => rfl
  | _, _, .cons _ t => by simp [t.len]
theorem VRL.get {E : En} : ∀ {l : List AV} {L : List Value}, VRL E l L → ∀ (i : Nat) (v : AV), l[i]? = some v → ∃ V, L[i]? = some V ∧ VR E v V
  | _, _, .nil, i, v, h => by simp at h
  | _, _, .cons (V := V) hv t, 0, v, h => by simp at h; subst h; exact ⟨V, by simp, hv⟩
  | _, _, .cons _ t, i + 1, v, h => by simp at h; obtain ⟨V, hV, hr⟩ := t.get i v h; exact ⟨V, by simpa using hV, hr⟩
theorem VRL.append {E : En} : ∀ {l l' : List AV} {L L' : List Value}, VRL E l L → VRL E l' L' → VRL E (l ++ l') (L ++ L')
  | _, _, _, _, .nil, h => h
  | _, _, _, _, .cons v t, h => .cons v (t.append h)
theorem VRL.take {E : En} : ∀ {l : List AV} {L : List Value} (n : Nat), VRL E l L → VRL E (l.take n) (L.take n)
  | _, _, 0, _ => by simp; exact .nil
  | _, _, n + 1, .nil => by simp; exact .nil
  | _, _, n + 1, .cons v t => by simp; exact .cons v (t.take n)
theorem VRL.drop {E : En} : ∀ {l : List AV} {L : List Value} (n : Nat), VRL E l L → VRL E (l.drop n) (L.drop n)
  | _, _, 0, h => by simpa using h
  | _, _, n + 1, .nil => by simp; exact .nil
  | _, _, n + 1, .cons _ t => by simp; exact t.drop n

/-! the rows of memory -/
def RowR (E : En) (r : Row) (c : Array Value) : Prop := ∀ o v, rget r o = some v → ∃ V, c[o]? = some V ∧ VR E v V

inductive EsR (E : En) : List (AV × AV × Nat) → List MapEntry → Prop where
  | nil : EsR E [] []
  | cons {k v : AV} {K V : Value} (born : Nat) {es : List (AV × AV × Nat)} {Es : List MapEntry} (hk : VR E k K) (hv : VR E v V) (t : EsR E es Es) :
      EsR E ((k, v, born) :: es) (⟨K, V, born⟩ :: Es)

/-- temporaries, but for those that the mask names -/
def TmR (E : En) (mask : Nat) (tm : Tm) (tmps : Array Value) : Prop :=
  ∀ t, t < 512 → Nat.testBit mask t = false → VR E (gget (slot t) tm) (tmps.getD t Go.undef)

inductive DR (E : En) : ADf → Deferred → Prop where
  | call {d : AD} {g : Fn} {C A : List Value} (hf : FnR E d.fn g) (hc : VRL E d.cap C) (ha : VRL E d.args A) : DR E (.call d) { target := .fn g C.toArray, args := A.toArray }
  | coll {b c q : Nat} (h : E.m b = some (c, q)) : DR E (.coll b) { target := .collected c, args := #[] }
inductive DRL (E : En) : List ADf → List Deferred → Prop where
  | nil : DRL E [] []
  | cons {d : ADf} {d' : Deferred} {l : List ADf} {l' : List Deferred} (h : DR E d d') (t : DRL E l l') : DRL E (d :: l) (d' :: l')
theorem DR.mono {nx : Nat} {E E' : En} (h : En.le nx E E') {d : ADf} {d' : Deferred} (r : DR E d d') : DR E' d d' := by
  cases r with
  | call hf hc ha => exact .call (hf.mono h) (hc.mono h) (ha.mono h)
  | coll hb => exact .coll (h.up _ _ hb)
theorem DRL.mono {nx : Nat} {E E' : En} (h : En.le nx E E') : ∀ {l : List ADf} {l' : List Deferred}, DRL E l l' → DRL E' l l'
  | _, _, .nil => .nil
  | _, _, .cons r t => .cons (r.mono h) (t.mono h)
theorem DRL.append {E : En} : ∀ {l m : List ADf} {l' m' : List Deferred}, DRL E l l' → DRL E m m' → DRL E (l ++ m) (l' ++ m')
  | _, _, _, _, .nil, h => h
  | _, _, _, _, .cons r t, h => .cons r (t.append h)

structure LoopR (D : Nat → Nat) (E : En) (L : ALoop) (L' : Loop) : Prop where
  state : L'.state = L.state
  pending : L'.pending = L.pending
  fn : L'.fn = L.fn
  size : L'.tmps.size = L.n
  bound : D L.fn < 2 ^ L.n
  tm : TmR E (D L.fn) L.tm L'.tmps
  params : L'.params = L.params
  assign : L'.assign = L.assign
  body : L'.body = L.body
  defers : ∃ q, E.m L.defers = some (L'.defers, q)

inductive BR (D : Nat → Nat) (E : En) (q : Nat) : AB → Obj → Prop where
  | cells {r : Row} {n : Nat} {c : Array Value} (e e' : TypeId) (hn : c.size = n) (hl : ∀ xs, r = .l xs → xs.length = n) (hr : RowR E r c) : BR D E q (.cells r e n) (.cells c e' (0, 0))
  | grow {r : Row} {sz k : Nat} {c : Array Value} (e e' : TypeId) (hn : c.size = q * sz) (hk : k ≤ q) (hr : RowR E r c) (hb : ∀ o v, rget r o = some v → o < k * sz) : BR D E q (.grow r e sz k) (.cells c e' (0, 0))
  | map {es : List (AV × AV × Nat)} {Es : List MapEntry} (cl : Nat) (h : EsR E es Es) : BR D E q (.map es cl) (.map Es.toArray cl)
  | loop {L : ALoop} {L' : Loop} (h : LoopR D E L L') : BR D E q (.loop L) (.loop L')
  | dfrN : BR D E q (.dfr none) (.deferred none)
  | dfr {l : List ADf} {l' : List Deferred} (h : DRL E l l') : BR D E q (.dfr (some l)) (.deferred (some l'))

theorem RowR.mono {nx : Nat} {E E' : En} (h : En.le nx E E') {r : Row} {c : Array Value} (hr : RowR E r c) : RowR E' r c :=
  fun o v e => let ⟨V, hV, hv⟩ := hr o v e; ⟨V, hV, hv.mono h⟩
theorem EsR.mono {nx : Nat} {E E' : En} (h : En.le nx E E') : ∀ {es : List (AV × AV × Nat)} {Es : List MapEntry}, EsR E es Es → EsR E' es Es
  | _, _, .nil => .nil
  | _, _, .cons b hk hv t => .cons b (hk.mono h) (hv.mono h) (t.mono h)
theorem TmR.mono {nx : Nat} {E E' : En} (h : En.le nx E E') {mask : Nat} {tm : Tm} {tmps : Array Value} (r : TmR E mask tm tmps) : TmR E' mask tm tmps :=
  fun t ht hm => (r t ht hm).mono h
theorem LoopR.mono {nx : Nat} {E E' : En} (h : En.le nx E E') {D : Nat → Nat} {L : ALoop} {L' : Loop} (r : LoopR D E L L') : LoopR D E' L L' :=
  { r with tm := r.tm.mono h, defers := let ⟨q, e⟩ := r.defers; ⟨q, h.up _ _ e⟩ }
theorem BR.mono {nx : Nat} {E E' : En} (h : En.le nx E E') {D : Nat → Nat} {q : Nat} {b : AB} {o : Obj} (r : BR D E q b o) : BR D E' q b o := by
  cases r with
  | cells e e' hn hl hr => exact .cells e e' hn hl (hr.mono h)
  | grow e e' hn hk hr hb => exact .grow e e' hn hk (hr.mono h) hb
  | map cl hm => exact .map cl (hm.mono h)
  | loop hl => exact .loop (hl.mono h)
  | dfrN => exact .dfrN
  | dfr hl => exact .dfr (hl.mono h)

/-- the heaps: what is known of the live blocks; base: where the call's own blocks begin; w0: the world as the call began -/
structure HR (D : Nat → Nat) (base : Nat) (w0 : World) (E : En) (h : H) (nx : Nat) (w : World) : Prop where
  lim : nx ≤ 262143
  fresh : ∀ b, nx ≤ b → E.m b = none
  size : ∀ b c q, E.m b = some (c, q) → c < w.heap.size
  live : ∀ b ab c q, b < nx → bget b h = some ab → E.m b = some (c, q) → base ≤ c ∧ ∃ o, w.heap[c]? = some o ∧ BR D E q ab o
  inj : ∀ b b' c q q', b < nx → b' < nx → (bget b h).isSome → (bget b' h).isSome → E.m b = some (c, q) → E.m b' = some (c, q') → b = b'
  below : Below base w0 w
  bsz : base ≤ w.heap.size
  top : ∀ b, nx ≤ b → bget b h = none
end Go.Ax
