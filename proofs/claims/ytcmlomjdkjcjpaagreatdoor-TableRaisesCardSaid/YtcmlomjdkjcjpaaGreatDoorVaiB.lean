/- A part of an evaluator of the model's code whose answers are proved sound: no statement on the program stands here. -/
import Derived.Test.YtcmlomjdkjcjpaaGreatDoorVaiA
open Go Go.RowKit
namespace Go.Proofs.YtcmlomjdkjcjpaaGreatDoor.Vai
set_option linter.unusedVariables false

/-- A capacity that is not known: 'to the end of the block'. -/
abbrev INF : Nat := 4611686018427387904

structure Tgt where
  blk : Nat
  n : Nat
  es : Nat

/-- Which block of the world stands for which of the state, and what integers the atoms stand for. -/
structure Emb where
  f : Nat → Option Tgt
  sig : Nat → Int
instance : CoeFun Emb (fun _ => Nat → Option Tgt) := ⟨Emb.f⟩

mutual
def plain : Value → Bool
  | .bool _ => true
  | .int _ _ => true
  | .float _ _ => true
  | .complex _ _ _ => true
  | .string _ => true
  | .pointer a => a.isNone
  | .slice a _ _ => a.isNone
  | .map r => r.isNone
  | .chan r => r.isNone
  | .func fn first captured => (match fn with | .yield _ => false | _ => true) && plainA first && plainA captured
  | .nilFunc => true
  | .iface _ v => plain v
  | .nilIface => true
  | .agg cs => plainA cs
  | .tuple vs => plainA vs
def plainA : Array Value → Bool
  | ⟨l⟩ => plainL l
def plainL : List Value → Bool
  | [] => true
  | v :: l => plain v && plainL l
end

/-- Which function value: a round's function bears a block's number. -/
inductive FnR (φ : Emb) : Fn → Fn → Prop where
  | same (fn : Fn) (h : ∀ l, fn ≠ .yield l) : FnR φ fn fn
  | yield (l : Nat) (t : Tgt) (h : φ l = some t) : FnR φ (.yield l) (.yield t.blk)

/-- Of an integer something is known: between which two it lies, or what it leaves. -/
inductive Sy where
  | range (k : IntKind) (lo hi : Int)
  | modu (k : IntKind) (m r : Nat)
  | atom (i : Nat)
  | top
def Sy.holds (sig : Nat → Int) : Sy → IntKind → Int → Prop
  | .range k lo hi, k', n => k' = k ∧ lo ≤ n ∧ n ≤ hi
  | .modu k m r, k', n => k' = k ∧ (n % 18446744073709551616) % (m : Int) = r ∧ (k = .u64 → 0 ≤ n ∧ n < 18446744073709551616)
  | .atom i, k', n => k' = .i64 ∧ n = sig i
  | .top, _, _ => False
def kindOf (c : Nat) : IntKind := bif Nat.beq c 0 then .i64 else bif Nat.beq c 1 then .u64 else bif Nat.beq c 2 then .i32 else bif Nat.beq c 3 then .u32 else .u8
/-- A number for it. -/
def decSy (c : Nat) : Sy :=
  bif Nat.beq (Nat.mod c 2) 0 then
    .range (kindOf (Nat.mod (Nat.div c 2) 16)) (Int.ofNat (Nat.div (Nat.div c 32) 73786976294838206464) - 36893488147419103232) (Int.ofNat (Nat.mod (Nat.div c 32) 73786976294838206464) - 36893488147419103232)
  else bif Nat.beq (Nat.mod (Nat.div c 2) 16) 15 then .atom (Nat.div c 32)
  else bif Nat.beq (Nat.mod (Nat.div c 2) 16) 14 then .top
  else .modu (kindOf (Nat.mod (Nat.div c 2) 16)) (Nat.div (Nat.div c 32) 73786976294838206464) (Nat.mod (Nat.div c 32) 73786976294838206464)

def isSy : Value → Bool
  | .chan (some _) => true
  | _ => false

def oneCell : Value → Bool
  | .agg _ => false
  | .tuple _ => false
  | _ => true

inductive VR (φ : Emb) : Value → Value → Prop where
  | top (c : Nat) (v : Value) (h : decSy c = .top) (h1 : oneCell v = true) : VR φ (.chan (some c)) v
  | sy (c : Nat) (k : IntKind) (n : Int) (h : (decSy c).holds φ.sig k n) : VR φ (.chan (some c)) (.int k n)
  | bool (b : Bool) : VR φ (.bool b) (.bool b)
  | int (k : IntKind) (n : Int) : VR φ (.int k n) (.int k n)
  | float (k : FloatKind) (n : Nat) : VR φ (.float k n) (.float k n)
  | complex (k : FloatKind) (a b : Nat) : VR φ (.complex k a b) (.complex k a b)
  | string (s : ByteArray) : VR φ (.string s) (.string s)
  | nilFunc : VR φ .nilFunc .nilFunc
  | nilIface : VR φ .nilIface .nilIface
  | pnil : VR φ (.pointer none) (.pointer none)
  | ptr (v o : Nat) (t : Tgt) (h : φ v = some t) : VR φ (.pointer (some ⟨v, o, none⟩)) (.pointer (some ⟨t.blk, o, none⟩))
  | snil (l c : Nat) : VR φ (.slice none l c) (.slice none l c)
  | slice (v o : Nat) (t : Tgt) (l c c' : Nat) (h : φ v = some t) (h1 : c ≠ INF → c' = c) (h2 : c = INF → o + c' * t.es = t.n) :
      VR φ (.slice (some ⟨v, o, none⟩) l c) (.slice (some ⟨t.blk, o, none⟩) l c')
  | mnil : VR φ (.map none) (.map none)
  | map (r : Nat) (t : Tgt) (h : φ r = some t) : VR φ (.map (some r)) (.map (some t.blk))
  | cnil : VR φ (.chan none) (.chan none)
  | func (fn fn' : Fn) (f1 f2 c1 c2 : Array Value) (hf : FnR φ fn fn') (hs1 : f1.size = f2.size) (hs2 : c1.size = c2.size)
      (h1 : ∀ (i : Nat) x y, f1[i]? = some x → f2[i]? = some y → VR φ x y) (h2 : ∀ (i : Nat) x y, c1[i]? = some x → c2[i]? = some y → VR φ x y) :
      VR φ (.func fn f1 c1) (.func fn' f2 c2)
  | iface (t : TypeId) (a c : Value) (h : VR φ a c) : VR φ (.iface t a) (.iface t c)
  | agg (as cs : Array Value) (hs : as.size = cs.size) (h : ∀ (i : Nat) x y, as[i]? = some x → cs[i]? = some y → VR φ x y) : VR φ (.agg as) (.agg cs)
  | tuple (as cs : Array Value) (hs : as.size = cs.size) (h : ∀ (i : Nat) x y, as[i]? = some x → cs[i]? = some y → VR φ x y) : VR φ (.tuple as) (.tuple cs)

/-- Values side by side. -/
structure VRA (φ : Emb) (as cs : Array Value) : Prop where
  size : as.size = cs.size
  at_ : ∀ (i : Nat) x y, as[i]? = some x → cs[i]? = some y → VR φ x y

structure Emb.le (φ ψ : Emb) : Prop where
  to : ∀ v t, φ v = some t → ψ v = some t
  sig : ψ.sig = φ.sig
instance {φ ψ : Emb} : CoeFun (φ.le ψ) (fun _ => ∀ v t, φ v = some t → ψ v = some t) := ⟨Emb.le.to⟩
theorem Emb.le.refl (φ : Emb) : φ.le φ := ⟨fun _ _ h => h, rfl⟩
theorem Emb.le.trans {a b c : Emb} (h : a.le b) (k : b.le c) : a.le c := ⟨fun v t e => k v t (h v t e), k.sig.trans h.sig⟩

theorem FnR.mono {φ ψ : Emb} (h : φ.le ψ) {a b : Fn} (r : FnR φ a b) : FnR ψ a b := by
  cases r with
  | same fn hn => exact .same _ hn
  | yield l t e => exact .yield l t (h _ _ e)

theorem VR.mono {φ ψ : Emb} (h : φ.le ψ) {a c : Value} (r : VR φ a c) : VR ψ a c := by
  induction r with
  | sy c k n e => exact .sy c k n (by rw [h.sig]; exact e)
  | top c v e e1 => exact .top c v e e1
  | bool => exact .bool _
  | int => exact .int _ _
  | float => exact .float _ _
  | complex => exact .complex _ _ _
  | string => exact .string _
  | nilFunc => exact .nilFunc
  | nilIface => exact .nilIface
  | pnil => exact .pnil
  | ptr v o t e => exact .ptr _ _ _ (h _ _ e)
  | snil => exact .snil _ _
  | slice v o t l c c' e h1 h2 => exact .slice _ _ _ _ _ _ (h _ _ e) h1 h2
  | mnil => exact .mnil
  | map r t e => exact .map _ _ (h _ _ e)
  | cnil => exact .cnil
  | func fn fn' f1 f2 c1 c2 hf s1 s2 _ _ i1 i2 => exact .func _ _ _ _ _ _ (hf.mono h) s1 s2 i1 i2
  | iface t a c _ ih => exact .iface _ _ _ ih
  | agg as cs hs _ ih => exact .agg _ _ hs ih
  | tuple as cs hs _ ih => exact .tuple _ _ hs ih

theorem VRA.mono {φ ψ : Emb} (h : φ.le ψ) {a c : Array Value} (r : VRA φ a c) : VRA ψ a c := ⟨r.size, fun i x y hx hy => (r.at_ i x y hx hy).mono h⟩

theorem plainL_at : ∀ (l : List Value), plainL l = true → ∀ (i : Nat) x, l[i]? = some x → plain x = true := by
  intro l
  induction l with
  | nil => intro _ i x h; simp at h
  | cons v l ih =>
    intro hp i x h
    simp only [plainL, Bool.and_eq_true] at hp
    cases i with
    | zero => simp at h; rw [← h]; exact hp.1
    | succ i => exact ih hp.2 i x (by simpa using h)

/-- What bears no address stands for itself. -/
theorem VR.of_plain (φ : Emb) : ∀ (v : Value), plain v = true → VR φ v v := by
  intro v
  refine Value.rec (motive_1 := fun v => plain v = true → VR φ v v) (motive_2 := fun a => plainA a = true → ∀ (i : Nat) x, a[i]? = some x → VR φ x x)
    (motive_3 := fun l => plainL l = true → ∀ (i : Nat) x, l[i]? = some x → VR φ x x) ?_ ?_ ?_ ?_ ?_ ?_ ?_ ?_ ?_ ?_ ?_ ?_ ?_ ?_ ?_ ?_ ?_ ?_ v
  · intro b _; exact .bool b
  · intro k n _; exact .int k n
  · intro k n _; exact .float k n
  · intro k a b _; exact .complex k a b
  · intro s _; exact .string s
  · intro a h; cases a with
    | none => exact .pnil
    | some a => simp [plain] at h
  · intro a l c h; cases a with
    | none => exact .snil l c
    | some a => simp [plain] at h
  · intro r h; cases r with
    | none => exact .mnil
    | some a => simp [plain] at h
  · intro r h; cases r with
    | none => exact .cnil
    | some a => simp [plain] at h
  · intro fn f c ih1 ih2 h
    simp only [plain, Bool.and_eq_true] at h
    refine .func fn fn f f c c (.same fn ?_) rfl rfl (fun i x y hx hy => ?_) (fun i x y hx hy => ?_)
    · intro l e; subst e; simp at h
    · rw [hx] at hy; cases hy; exact ih1 h.1.2 i x hx
    · rw [hx] at hy; cases hy; exact ih2 h.2 i x hx
  · intro _; exact .nilFunc
  · intro t v ih h; exact .iface t v v (ih (by simpa [plain] using h))
  · intro _; exact .nilIface
  · intro cs ih h
    refine .agg cs cs rfl (fun i x y hx hy => ?_)
    rw [hx] at hy; cases hy; exact ih h i x hx
  · intro cs ih h
    refine .tuple cs cs rfl (fun i x y hx hy => ?_)
    rw [hx] at hy; cases hy; exact ih h i x hx
  · intro l ih h i x hx
    exact ih (by simpa [plainA] using h) i x (by simpa using hx)
  · intro _ i x h; simp at h
  · intro v l ih1 ih2 h i x hx
    simp only [plainL, Bool.and_eq_true] at h
    cases i with
    | zero => simp at hx; subst hx; exact ih1 h.1
    | succ i => exact ih2 h.2 i x (by simpa using hx)

/-- What stands for a value without an address is that value. -/
theorem VR.eq_of_plain {φ : Emb} {a c : Value} (r : VR φ a c) : plain a = true → c = a := by
  have hA : ∀ (as cs : Array Value), as.size = cs.size → (∀ (i : Nat) x y, as[i]? = some x → cs[i]? = some y → plain x = true → y = x) → plainA as = true → cs = as := by
    intro as cs hs h hp
    refine (Array.ext hs ?_).symm
    intro i h1 h2
    obtain ⟨l⟩ := as
    simp only [plainA] at hp
    exact (h i _ _ (Array.getElem?_eq_getElem h1) (Array.getElem?_eq_getElem h2) (plainL_at l hp i _ (by simp))).symm
  induction r with
  | sy => intro h; simp [plain] at h
  | top => intro h; simp [plain] at h
  | ptr => intro h; simp [plain] at h
  | slice => intro h; simp [plain] at h
  | map => intro h; simp [plain] at h
  | func fn fn' f1 f2 c1 c2 hf s1 s2 _ _ i1 i2 =>
    intro h
    simp only [plain, Bool.and_eq_true] at h
    cases hf with
    | same fn hn => rw [hA _ _ s1 i1 h.1.2, hA _ _ s2 i2 h.2]
    | yield l t e => simp at h
  | iface t a c _ ih => intro h; rw [ih (by simpa [plain] using h)]
  | agg as cs hs _ ih => intro h; rw [hA _ _ hs ih (by simpa [plain] using h)]
  | tuple as cs hs _ ih => intro h; rw [hA _ _ hs ih (by simpa [plain] using h)]
  | _ => intro _; rfl
end Go.Proofs.YtcmlomjdkjcjpaaGreatDoor.Vai
