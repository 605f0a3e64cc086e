/- A part of an evaluator of the model's code whose answers are proved sound: no statement on the program stands here. -/
import Derived.Below
import Derived.Orders
section
open Go Go.RowKit
noncomputable section
namespace Go.Proofs.YtbjickdjkgefcaaGreatDoor.Vai
set_option linter.unusedVariables false

inductive T (α : Type) : Type where
  | nil : T α
  | node (l : T α) (x : Option α) (r : T α) : T α

namespace T
variable {α : Type}
/-- By recursors: few steps for the kernel. -/
def getR (t : T α) : Nat → Option α :=
  T.rec (motive := fun _ => Nat → Option α) (fun _ => none)
    (fun _ x _ gl gr n => Bool.rec (motive := fun _ => Option α) (Bool.rec (motive := fun _ => Option α) (gr (Nat.sub (Nat.div n 2) 1)) (gl (Nat.div n 2)) (Nat.beq (Nat.mod n 2) 1)) x (Nat.beq n 0)) t
abbrev get (t : T α) (n : Nat) : Option α := getR t n
def newF (f : Nat) : Nat → Option α → T α :=
  Nat.rec (motive := fun _ => Nat → Option α → T α) (fun _ _ => .nil)
    (fun _ ih n v => Bool.rec (motive := fun _ => T α) (Bool.rec (motive := fun _ => T α) (.node .nil none (ih (Nat.sub (Nat.div n 2) 1) v)) (.node (ih (Nat.div n 2) v) none .nil) (Nat.beq (Nat.mod n 2) 1)) (.node .nil v .nil) (Nat.beq n 0)) f
def put (t : T α) : Nat → Option α → T α :=
  T.rec (motive := fun _ => Nat → Option α → T α) (fun n v => newF (n + 1) n v)
    (fun l x r pl pr n v => Bool.rec (motive := fun _ => T α) (Bool.rec (motive := fun _ => T α) (.node l x (pr (Nat.sub (Nat.div n 2) 1) v)) (.node (pl (Nat.div n 2) v) x r) (Nat.beq (Nat.mod n 2) 1)) (.node l v r) (Nat.beq n 0)) t
abbrev set (t : T α) (n : Nat) (v : α) : T α := t.put n (some v)
theorem get_nil (n : Nat) : (T.nil : T α).get n = none := rfl
theorem get_node (l : T α) (x : Option α) (r : T α) (n : Nat) : (T.node l x r).get n = bif Nat.beq n 0 then x else bif Nat.beq (Nat.mod n 2) 1 then l.get (Nat.div n 2) else r.get (Nat.sub (Nat.div n 2) 1) := by
  show Bool.rec (motive := fun _ => Option α) _ _ _ = _
  cases Nat.beq n 0 <;> cases Nat.beq (Nat.mod n 2) 1 <;> rfl
theorem newF_succ (f n : Nat) (v : Option α) : newF (f + 1) n v = bif Nat.beq n 0 then T.node .nil v .nil else bif Nat.beq (Nat.mod n 2) 1 then .node (newF f (Nat.div n 2) v) none .nil else .node .nil none (newF f (Nat.sub (Nat.div n 2) 1) v) := by
  show Bool.rec (motive := fun _ => T α) _ _ _ = _
  cases Nat.beq n 0 <;> cases Nat.beq (Nat.mod n 2) 1 <;> rfl
theorem put_nil (n : Nat) (v : Option α) : (T.nil : T α).put n v = newF (n + 1) n v := rfl
theorem put_node (l : T α) (x : Option α) (r : T α) (n : Nat) (v : Option α) : (T.node l x r).put n v = bif Nat.beq n 0 then T.node l v r else bif Nat.beq (Nat.mod n 2) 1 then .node (l.put (Nat.div n 2) v) x r else .node l x (r.put (Nat.sub (Nat.div n 2) 1) v) := by
  show Bool.rec (motive := fun _ => T α) _ _ _ = _
  cases Nat.beq n 0 <;> cases Nat.beq (Nat.mod n 2) 1 <;> rfl

theorem split (n : Nat) : n = 0 ∨ (∃ m, n = 2 * m + 1) ∨ (∃ m, n = 2 * m + 2) := by
  rcases Nat.lt_or_ge 0 n with h | h
  · right
    rcases Nat.mod_two_eq_zero_or_one n with e | e
    · exact .inr ⟨n / 2 - 1, by omega⟩
    · exact .inl ⟨n / 2, by omega⟩
  · left; omega

theorem b_odd0 (m : Nat) : Nat.beq (2 * m + 1) 0 = false := rfl
theorem b_even0 (m : Nat) : Nat.beq (2 * m + 2) 0 = false := rfl
theorem b_odd (m : Nat) : Nat.beq (Nat.mod (2 * m + 1) 2) 1 = true := by
  have : Nat.mod (2 * m + 1) 2 = 1 := by show (2 * m + 1) % 2 = 1; omega
  rw [this]; rfl
theorem b_even (m : Nat) : Nat.beq (Nat.mod (2 * m + 2) 2) 1 = false := by
  have : Nat.mod (2 * m + 2) 2 = 0 := by show (2 * m + 2) % 2 = 0; omega
  rw [this]; rfl
theorem d_odd (m : Nat) : Nat.div (2 * m + 1) 2 = m := by show (2 * m + 1) / 2 = m; omega
theorem d_even (m : Nat) : Nat.sub (Nat.div (2 * m + 2) 2) 1 = m := by show (2 * m + 2) / 2 - 1 = m; omega

theorem get_newF_same : ∀ (f : Nat) (n : Nat) (v : Option α), n < f → (newF f n v).get n = v := by
  intro f
  induction f with
  | zero => intro n v h; omega
  | succ f ih =>
    intro n v h
    rw [newF_succ]
    rcases split n with rfl | ⟨m, rfl⟩ | ⟨m, rfl⟩ <;> simp only [get_node, b_odd0, b_even0, b_odd, b_even, d_odd, d_even, cond_true, cond_false, show Nat.beq 0 0 = true from rfl] <;> first | rfl | (apply ih; omega)
theorem get_newF_other : ∀ (f : Nat) (n k : Nat) (v : Option α), k ≠ n → (newF f n v).get k = none := by
  intro f
  induction f with
  | zero => intro n k v h; rfl
  | succ f ih =>
    intro n k v h
    rw [newF_succ]
    rcases split n with rfl | ⟨m, rfl⟩ | ⟨m, rfl⟩ <;> rcases split k with rfl | ⟨j, rfl⟩ | ⟨j, rfl⟩ <;>
      simp only [get_node, get_nil, b_odd0, b_even0, b_odd, b_even, d_odd, d_even, cond_true, cond_false, show Nat.beq 0 0 = true from rfl] <;>
      first | rfl | (exact absurd rfl h) | (apply ih; omega)
theorem get_put_same (t : T α) : ∀ (n : Nat) (v : Option α), (t.put n v).get n = v := by
  induction t with
  | nil => intro n v; exact get_newF_same _ _ _ (Nat.lt_succ_self n)
  | node l x r il ir =>
    intro n v
    rw [put_node]
    rcases split n with rfl | ⟨m, rfl⟩ | ⟨m, rfl⟩ <;> simp only [get_node, b_odd0, b_even0, b_odd, b_even, d_odd, d_even, cond_true, cond_false, show Nat.beq 0 0 = true from rfl] <;> first | exact il _ _ | exact ir _ _
theorem get_put_other (t : T α) : ∀ {n k : Nat} (v : Option α), k ≠ n → (t.put n v).get k = t.get k := by
  induction t with
  | nil => intro n k v h; rw [put_nil]; exact get_newF_other _ _ _ _ h
  | node l x r il ir =>
    intro n k v h
    rw [put_node]
    rcases split n with rfl | ⟨m, rfl⟩ | ⟨m, rfl⟩ <;> rcases split k with rfl | ⟨j, rfl⟩ | ⟨j, rfl⟩ <;>
      simp only [get_node, b_odd0, b_even0, b_odd, b_even, d_odd, d_even, cond_true, cond_false, show Nat.beq 0 0 = true from rfl] <;>
      first | rfl | (exact absurd rfl h) | (exact il _ (by omega)) | (exact ir _ (by omega))

def ofListF : List α → Nat → T α → T α
  | [], _, t => t
  | a :: l, i, t => ofListF l (i + 1) (t.set i a)
def ofList (l : List α) : T α := ofListF l 0 .nil
theorem get_ofListF : ∀ (l : List α) (i : Nat) (t : T α) (k : Nat), (ofListF l i t).get k = if k < i then t.get k else if k - i < l.length then l[k - i]? else t.get k := by
  intro l
  induction l with
  | nil => intro i t k; simp [ofListF]
  | cons a l ih =>
    intro i t k
    simp only [ofListF, ih]
    by_cases h1 : k < i
    · rw [if_pos (by omega), if_pos h1, get_put_other _ _ (by omega)]
    · rw [if_neg h1]
      by_cases h2 : k = i
      · subst h2
        rw [if_pos (by omega), get_put_same, if_pos (by simp)]; simp
      · rw [if_neg (by omega)]
        have e : k - i = (k - (i + 1)) + 1 := by omega
        rw [get_put_other _ _ h2]
        by_cases h3 : k - (i + 1) < l.length
        · rw [if_pos h3, if_pos (by simp; omega), e]; simp
        · rw [if_neg h3, if_neg (by simp; omega)]
theorem get_ofList (l : List α) (k : Nat) : (ofList l).get k = l[k]? := by
  rw [ofList, get_ofListF]
  simp only [Nat.not_lt_zero, if_false, Nat.sub_zero]
  by_cases h : k < l.length
  · rw [if_pos h]
  · rw [if_neg h, List.getElem?_eq_none (by omega)]; rfl
end T
end Go.Proofs.YtbjickdjkgefcaaGreatDoor.Vai
end
end
section
open Go Go.RowKit
noncomputable section
namespace Go.Proofs.YtbjickdjkgefcaaGreatDoor.Vai
set_option linter.unusedVariables false

/-- A capacity that is not known: 'to the end of the block'. -/
abbrev INF : Nat := 4611686018427387904

structure Tgt where
  blk : Nat
  n : Nat
  es : Nat

/-- What integers and texts the atoms stand for. -/
structure Sig where
  int : Nat → Int
  str : Nat → ByteArray
instance : CoeFun Sig (fun _ => Nat → Int) := ⟨Sig.int⟩
/-- Which block of the world stands for which of the state, and what the atoms stand for. -/
structure Emb where
  f : Nat → Option Tgt
  sig : Sig
instance : CoeFun Emb (fun _ => Nat → Option Tgt) := ⟨Emb.f⟩

mutual
def plain : Value → Bool
  | .bool _ => true
  | .int _ _ => true
  | .float _ _ => true
  | .complex _ _ _ => true
  | .string _ => true
  | .pointer a => a.isNone
  | .slice a _ _ => a.isNone
  | .map r => r.isNone
  | .chan r => r.isNone
  | .func fn first captured => (match fn with | .yield _ => false | _ => true) && plainA first && plainA captured
  | .nilFunc => true
  | .iface _ v => plain v
  | .nilIface => true
  | .agg cs => plainA cs
  | .tuple vs => plainA vs
def plainA : Array Value → Bool
  | ⟨l⟩ => plainL l
def plainL : List Value → Bool
  | [] => true
  | v :: l => plain v && plainL l
end

/-- Which function value: a round's function bears a block's number. -/
inductive FnR (φ : Emb) : Fn → Fn → Prop where
  | same (fn : Fn) (h : ∀ l, fn ≠ .yield l) : FnR φ fn fn
  | yield (l : Nat) (t : Tgt) (h : φ l = some t) : FnR φ (.yield l) (.yield t.blk)

/-- Of an integer something is known: between which two it lies, or what it leaves. -/
inductive Sy where
  | range (k : IntKind) (lo hi : Int)
  | modu (k : IntKind) (m r : Nat)
  | atom (i : Nat)
  | str (i : Nat)
  | empty
  | top
def Sy.holds (sig : Sig) : Sy → IntKind → Int → Prop
  | .range k lo hi, k', n => k' = k ∧ lo ≤ n ∧ n ≤ hi
  | .modu k m r, k', n => k' = k ∧ (n % 18446744073709551616) % (m : Int) = r ∧ (k = .u64 → 0 ≤ n ∧ n < 18446744073709551616)
  | .atom i, k', n => k' = .i64 ∧ n = sig i
  | .str _, _, _ => False
  | .empty, _, _ => False
  | .top, _, _ => False
def kindOf (c : Nat) : IntKind := bif Nat.beq c 0 then .i64 else bif Nat.beq c 1 then .u64 else bif Nat.beq c 2 then .i32 else bif Nat.beq c 3 then .u32 else .u8
/-- A number for it. -/
def decSy (c : Nat) : Sy :=
  bif Nat.beq (Nat.mod c 2) 0 then
    .range (kindOf (Nat.mod (Nat.div c 2) 16)) (Int.ofNat (Nat.div (Nat.div c 32) 73786976294838206464) - 36893488147419103232) (Int.ofNat (Nat.mod (Nat.div c 32) 73786976294838206464) - 36893488147419103232)
  else bif Nat.beq (Nat.mod (Nat.div c 2) 16) 15 then .atom (Nat.div c 32)
  else bif Nat.beq (Nat.mod (Nat.div c 2) 16) 14 then .top
  else bif Nat.beq (Nat.mod (Nat.div c 2) 16) 13 then .str (Nat.div c 32)
  else bif Nat.beq (Nat.mod (Nat.div c 2) 16) 12 then .empty
  else .modu (kindOf (Nat.mod (Nat.div c 2) 16)) (Nat.div (Nat.div c 32) 73786976294838206464) (Nat.mod (Nat.div c 32) 73786976294838206464)

def isSy : Value → Bool
  | .chan (some _) => true
  | _ => false

def oneCell : Value → Bool
  | .agg _ => false
  | .tuple _ => false
  | _ => true

inductive VR (φ : Emb) : Value → Value → Prop where
  | top (c : Nat) (v : Value) (h : decSy c = .top) (h1 : oneCell v = true) : VR φ (.chan (some c)) v
  | sy (c : Nat) (k : IntKind) (n : Int) (h : (decSy c).holds φ.sig k n) : VR φ (.chan (some c)) (.int k n)
  | str (c i : Nat) (h : decSy c = .str i) : VR φ (.chan (some c)) (.string (φ.sig.str i))
  | empty (c : Nat) (a : Option Addr) (n : Nat) (h : decSy c = .empty) : VR φ (.chan (some c)) (.slice a 0 n)
  | bool (b : Bool) : VR φ (.bool b) (.bool b)
  | int (k : IntKind) (n : Int) : VR φ (.int k n) (.int k n)
  | float (k : FloatKind) (n : Nat) : VR φ (.float k n) (.float k n)
  | complex (k : FloatKind) (a b : Nat) : VR φ (.complex k a b) (.complex k a b)
  | string (s : ByteArray) : VR φ (.string s) (.string s)
  | nilFunc : VR φ .nilFunc .nilFunc
  | nilIface : VR φ .nilIface .nilIface
  | pnil : VR φ (.pointer none) (.pointer none)
  | ptr (v o : Nat) (t : Tgt) (h : φ v = some t) : VR φ (.pointer (some ⟨v, o, none⟩)) (.pointer (some ⟨t.blk, o, none⟩))
  | snil (l c : Nat) : VR φ (.slice none l c) (.slice none l c)
  | slice (v o : Nat) (t : Tgt) (l c c' : Nat) (h : φ v = some t) (h1 : c ≠ INF → c' = c) (h2 : c = INF → o + c' * t.es = t.n) :
      VR φ (.slice (some ⟨v, o, none⟩) l c) (.slice (some ⟨t.blk, o, none⟩) l c')
  | mnil : VR φ (.map none) (.map none)
  | map (r : Nat) (t : Tgt) (h : φ r = some t) : VR φ (.map (some r)) (.map (some t.blk))
  | cnil : VR φ (.chan none) (.chan none)
  | func (fn fn' : Fn) (f1 f2 c1 c2 : Array Value) (hf : FnR φ fn fn') (hs1 : f1.size = f2.size) (hs2 : c1.size = c2.size)
      (h1 : ∀ (i : Nat) x y, f1[i]? = some x → f2[i]? = some y → VR φ x y) (h2 : ∀ (i : Nat) x y, c1[i]? = some x → c2[i]? = some y → VR φ x y) :
      VR φ (.func fn f1 c1) (.func fn' f2 c2)
  | iface (t : TypeId) (a c : Value) (h : VR φ a c) : VR φ (.iface t a) (.iface t c)
  | agg (as cs : Array Value) (hs : as.size = cs.size) (h : ∀ (i : Nat) x y, as[i]? = some x → cs[i]? = some y → VR φ x y) : VR φ (.agg as) (.agg cs)
  | tuple (as cs : Array Value) (hs : as.size = cs.size) (h : ∀ (i : Nat) x y, as[i]? = some x → cs[i]? = some y → VR φ x y) : VR φ (.tuple as) (.tuple cs)

/-- Values side by side. -/
structure VRA (φ : Emb) (as cs : Array Value) : Prop where
  size : as.size = cs.size
  at_ : ∀ (i : Nat) x y, as[i]? = some x → cs[i]? = some y → VR φ x y

structure Emb.le (φ ψ : Emb) : Prop where
  to : ∀ v t, φ v = some t → ψ v = some t
  sig : ψ.sig = φ.sig
instance {φ ψ : Emb} : CoeFun (φ.le ψ) (fun _ => ∀ v t, φ v = some t → ψ v = some t) := ⟨Emb.le.to⟩
theorem Emb.le.refl (φ : Emb) : φ.le φ := ⟨fun _ _ h => h, rfl⟩
theorem Emb.le.trans {a b c : Emb} (h : a.le b) (k : b.le c) : a.le c := ⟨fun v t e => k v t (h v t e), k.sig.trans h.sig⟩

theorem FnR.mono {φ ψ : Emb} (h : φ.le ψ) {a b : Fn} (r : FnR φ a b) : FnR ψ a b := by
  cases r with
  | same fn hn => exact .same _ hn
  | yield l t e => exact .yield l t (h _ _ e)

theorem VR.mono {φ ψ : Emb} (h : φ.le ψ) {a c : Value} (r : VR φ a c) : VR ψ a c := by
  induction r with
  | sy c k n e => exact .sy c k n (by rw [h.sig]; exact e)
  | top c v e e1 => exact .top c v e e1
  | str c i e => rw [← h.sig]; exact .str c i e
  | empty c a n e => exact .empty c a n e
  | bool => exact .bool _
  | int => exact .int _ _
  | float => exact .float _ _
  | complex => exact .complex _ _ _
  | string => exact .string _
  | nilFunc => exact .nilFunc
  | nilIface => exact .nilIface
  | pnil => exact .pnil
  | ptr v o t e => exact .ptr _ _ _ (h _ _ e)
  | snil => exact .snil _ _
  | slice v o t l c c' e h1 h2 => exact .slice _ _ _ _ _ _ (h _ _ e) h1 h2
  | mnil => exact .mnil
  | map r t e => exact .map _ _ (h _ _ e)
  | cnil => exact .cnil
  | func fn fn' f1 f2 c1 c2 hf s1 s2 _ _ i1 i2 => exact .func _ _ _ _ _ _ (hf.mono h) s1 s2 i1 i2
  | iface t a c _ ih => exact .iface _ _ _ ih
  | agg as cs hs _ ih => exact .agg _ _ hs ih
  | tuple as cs hs _ ih => exact .tuple _ _ hs ih

theorem VRA.mono {φ ψ : Emb} (h : φ.le ψ) {a c : Array Value} (r : VRA φ a c) : VRA ψ a c := ⟨r.size, fun i x y hx hy => (r.at_ i x y hx hy).mono h⟩

theorem plainL_at : ∀ (l : List Value), plainL l = true → ∀ (i : Nat) x, l[i]? = some x → plain x = true := by
  intro l
  induction l with
  | nil => intro _ i x h; simp at h
  | cons v l ih =>
    intro hp i x h
    simp only [plainL, Bool.and_eq_true] at hp
    cases i with
    | zero => simp at h; rw [← h]; exact hp.1
    | succ i => exact ih hp.2 i x (by simpa using h)

/-- What bears no address stands for itself. -/
theorem VR.of_plain (φ : Emb) : ∀ (v : Value), plain v = true → VR φ v v := by
  intro v
  refine Value.rec (motive_1 := fun v => plain v = true → VR φ v v) (motive_2 := fun a => plainA a = true → ∀ (i : Nat) x, a[i]? = some x → VR φ x x)
    (motive_3 := fun l => plainL l = true → ∀ (i : Nat) x, l[i]? = some x → VR φ x x) ?_ ?_ ?_ ?_ ?_ ?_ ?_ ?_ ?_ ?_ ?_ ?_ ?_ ?_ ?_ ?_ ?_ ?_ v
  · intro b _; exact .bool b
  · intro k n _; exact .int k n
  · intro k n _; exact .float k n
  · intro k a b _; exact .complex k a b
  · intro s _; exact .string s
  · intro a h; cases a with
    | none => exact .pnil
    | some a => simp [plain] at h
  · intro a l c h; cases a with
    | none => exact .snil l c
    | some a => simp [plain] at h
  · intro r h; cases r with
    | none => exact .mnil
    | some a => simp [plain] at h
  · intro r h; cases r with
    | none => exact .cnil
    | some a => simp [plain] at h
  · intro fn f c ih1 ih2 h
    simp only [plain, Bool.and_eq_true] at h
    refine .func fn fn f f c c (.same fn ?_) rfl rfl (fun i x y hx hy => ?_) (fun i x y hx hy => ?_)
    · intro l e; subst e; simp at h
    · rw [hx] at hy; cases hy; exact ih1 h.1.2 i x hx
    · rw [hx] at hy; cases hy; exact ih2 h.2 i x hx
  · intro _; exact .nilFunc
  · intro t v ih h; exact .iface t v v (ih (by simpa [plain] using h))
  · intro _; exact .nilIface
  · intro cs ih h
    refine .agg cs cs rfl (fun i x y hx hy => ?_)
    rw [hx] at hy; cases hy; exact ih h i x hx
  · intro cs ih h
    refine .tuple cs cs rfl (fun i x y hx hy => ?_)
    rw [hx] at hy; cases hy; exact ih h i x hx
  · intro l ih h i x hx
    exact ih (by simpa [plainA] using h) i x (by simpa using hx)
  · intro _ i x h; simp at h
  · intro v l ih1 ih2 h i x hx
    simp only [plainL, Bool.and_eq_true] at h
    cases i with
    | zero => simp at hx; subst hx; exact ih1 h.1
    | succ i => exact ih2 h.2 i x (by simpa using hx)

/-- What stands for a value without an address is that value. -/
theorem VR.eq_of_plain {φ : Emb} {a c : Value} (r : VR φ a c) : plain a = true → c = a := by
  have hA : ∀ (as cs : Array Value), as.size = cs.size → (∀ (i : Nat) x y, as[i]? = some x → cs[i]? = some y → plain x = true → y = x) → plainA as = true → cs = as := by
    intro as cs hs h hp
    refine (Array.ext hs ?_).symm
    intro i h1 h2
    obtain ⟨l⟩ := as
    simp only [plainA] at hp
    exact (h i _ _ (Array.getElem?_eq_getElem h1) (Array.getElem?_eq_getElem h2) (plainL_at l hp i _ (by simp))).symm
  induction r with
  | sy => intro h; simp [plain] at h
  | top => intro h; simp [plain] at h
  | str => intro h; simp [plain] at h
  | empty => intro h; simp [plain] at h
  | ptr => intro h; simp [plain] at h
  | slice => intro h; simp [plain] at h
  | map => intro h; simp [plain] at h
  | func fn fn' f1 f2 c1 c2 hf s1 s2 _ _ i1 i2 =>
    intro h
    simp only [plain, Bool.and_eq_true] at h
    cases hf with
    | same fn hn => rw [hA _ _ s1 i1 h.1.2, hA _ _ s2 i2 h.2]
    | yield l t e => simp at h
  | iface t a c _ ih => intro h; rw [ih (by simpa [plain] using h)]
  | agg as cs hs _ ih => intro h; rw [hA _ _ hs ih (by simpa [plain] using h)]
  | tuple as cs hs _ ih => intro h; rw [hA _ _ hs ih (by simpa [plain] using h)]
  | _ => intro _; rfl
end Go.Proofs.YtbjickdjkgefcaaGreatDoor.Vai
end
section
open Go Go.RowKit
noncomputable section
namespace Go.Proofs.YtbjickdjkgefcaaGreatDoor.Vai
set_option linter.unusedVariables false

structure Root where
  elem : TypeId
  es : Nat
  cells : T (Nat × Value)
  cur : Nat
  flo : Nat
  fhi : Nat
  ro : Bool
  sish : Bool

structure View where
  root : Nat
  ext : Nat
  exact : Bool

structure AEnt where
  key : Value
  val : Value
  born : Nat

inductive AObj where
  | map (es : List AEnt) (clock : Nat)
  | siter (s : ByteArray) (pos : Nat)
  | loop (st : LoopState) (pending : Option Code) (tm : T Value) (n : Nat) (params : List Tmp) (assign body : Code) (d : Nat)
  | defs
  | defsDone
  | miter (m : Option Nat) (since : Nat) (seen : List Nat) (last : Nat)
  | other (o : Obj)

/-- What is known of the atoms. -/
inductive Fact where
  | add (i j k : Nat)
  | ovf (i j : Nat)
  | neg (i k : Nat)
  | eq (i : Nat) (c : Int) (b : Bool)
  | lt (i : Nat) (c : Int) (b : Bool)
  | seq (i : Nat) (c : ByteArray) (b : Bool)
  | slt (i : Nat) (c : ByteArray) (b : Bool)
  | sgt (i : Nat) (c : ByteArray) (b : Bool)
  | tidy (i : Nat) (b : Bool)
/-- One to 32 small letters or digits. -/
def tidyB (s : ByteArray) : Bool := !(Nat.beq s.size 0) && Nat.ble s.size 32 && s.data.toList.all fun c => (97 ≤ c && c ≤ 122) || (48 ≤ c && c ≤ 57)
def Fact.ok (sig : Sig) : Fact → Prop
  | .add i j k => sig k = sig i + sig j ∧ -9223372036854775808 ≤ sig k ∧ sig k ≤ 9223372036854775807
  | .ovf i j => ¬ (-9223372036854775808 ≤ sig i + sig j ∧ sig i + sig j ≤ 9223372036854775807)
  | .neg i k => sig k = -sig i ∧ -9223372036854775808 ≤ sig k ∧ sig k ≤ 9223372036854775807
  | .eq i c b => decide (sig i = c) = b
  | .lt i c b => decide (sig i < c) = b
  | .seq i c b => decide (sig.str i = c) = b
  | .slt i c b => Op.bytesLess (sig.str i).toList c.toList = b
  | .sgt i c b => Op.bytesLess c.toList (sig.str i).toList = b
  | .tidy i b => tidyB (sig.str i) = b

structure St where
  ng : Nat
  next : Nat
  views : T View
  roots : T Root
  objs : T AObj
  orc : List Fact := []

inductive EntsR (φ : Emb) : List AEnt → List MapEntry → Prop where
  | nil : EntsR φ [] []
  | cons (a : AEnt) (e : MapEntry) (l : List AEnt) (m : List MapEntry) (hk : VR φ a.key e.key) (hv : VR φ a.val e.val) (hb : a.born = e.born) (h : EntsR φ l m) : EntsR φ (a :: l) (e :: m)

inductive ObjR (φ : Emb) : AObj → Obj → Prop where
  | map (es : List AEnt) (cs : Array MapEntry) (clock : Nat) (h : EntsR φ es cs.toList) : ObjR φ (.map es clock) (.map cs clock)
  | miterNil (since : Nat) (seen : List Nat) (last : Nat) : ObjR φ (.miter none since seen last) (.mapIter none since seen.toArray last)
  | miter (r : Nat) (t : Tgt) (h : φ r = some t) (since : Nat) (seen : List Nat) (last : Nat) : ObjR φ (.miter (some r) since seen last) (.mapIter (some t.blk) since seen.toArray last)
  | siter (s : ByteArray) (pos : Nat) : ObjR φ (.siter s pos) (.stringIter s pos)
  | loop (st : LoopState) (pending : Option Code) (tm : T Value) (n : Nat) (params : List Tmp) (assign body : Code) (d : Nat) (t : Tgt) (fn : FuncId) (tmps : Array Value) (ps : Array Tmp)
      (hd : φ d = some t) (hs : tmps.size = n) (hps : ps = ⟨params⟩) (h : ∀ i v, tm.get i = some v → ∃ c, tmps[i]? = some c ∧ VR φ v c) :
      ObjR φ (.loop st pending tm n params assign body d) (.loop { state := st, pending := pending, fn := fn, tmps := tmps, params := ps, assign := assign, body := body, defers := t.blk })
  | defs : ObjR φ .defs (.deferred (some []))
  | defsDone : ObjR φ .defsDone (.deferred none)

theorem EntsR.mono {φ ψ : Emb} (h : φ.le ψ) {a : List AEnt} {c : List MapEntry} (r : EntsR φ a c) : EntsR ψ a c := by
  induction r with
  | nil => exact .nil
  | cons a e l m hk hv hb _ ih => exact .cons _ _ _ _ (hk.mono h) (hv.mono h) hb ih
theorem ObjR.mono {φ ψ : Emb} (h : φ.le ψ) {a : AObj} {c : Obj} (r : ObjR φ a c) : ObjR ψ a c := by
  cases r with
  | map es cs k e => exact .map _ _ _ (e.mono h)
  | miterNil => exact .miterNil _ _ _
  | miter r t e => exact .miter _ _ (h _ _ e) _ _ _
  | siter => exact .siter _ _
  | loop st pending tm n params assign body d t fn tmps ps hd hs hps e => exact .loop _ _ _ _ _ _ _ _ t _ _ _ (h _ _ hd) hs hps (fun i v hv => let ⟨c, h1, h2⟩ := e i v hv; ⟨c, h1, h2.mono h⟩)
  | defs => exact .defs
  | defsDone => exact .defsDone
theorem ObjR.notCells {φ : Emb} {a : AObj} {c : Array Value} {e : TypeId} {f : Nat × Nat} (r : ObjR φ a (.cells c e f)) : False := by cases r

/-- The world at the beginning, and which of its blocks stay as they are. -/
structure Base where
  w : World
  K : Nat → Prop
  lt : ∀ k, K k → k < w.heap.size
/-- Blocks that stay as they are. -/
structure Kept (b : Base) (w : World) : Prop where
  os : w.os = b.w.os
  tape : w.tape = b.w.tape
  output : w.output = b.w.output
  size : b.w.heap.size ≤ w.heap.size
  block : ∀ k, b.K k → w.heap[k]? = b.w.heap[k]?
theorem Kept.new {b : Base} {w : World} (h : Kept b w) : ¬ b.K w.heap.size := fun k => by have := b.lt _ k; have := h.size; omega
theorem Kept.step {b : Base} {w w' : World} (h : Kept b w) (os : w'.os = w.os) (tape : w'.tape = w.tape) (output : w'.output = w.output) (size : w.heap.size ≤ w'.heap.size) (block : ∀ k, b.K k → w'.heap[k]? = w.heap[k]?) : Kept b w' :=
  ⟨os.trans h.os, tape.trans h.tape, output.trans h.output, Nat.le_trans h.size size, fun k hk => (block k hk).trans (h.block k hk)⟩
theorem Kept.below {b : Base} {w w' : World} (h : Kept b w) (k : Below w.heap.size w w') : Kept b w' :=
  h.step k.os k.tape k.output k.size fun i hi => k.block i (by have := b.lt i hi; have := h.size; omega)
theorem Kept.drew {b : Base} {w : World} (h : Kept b w) : Kept b w.drew := ⟨h.os, h.tape, h.output, h.size, h.block⟩
theorem Kept.alloc {b : Base} {w : World} (h : Kept b w) (o : Obj) : Kept b (w.alloc o) :=
  h.step rfl rfl rfl (by simp) fun k hk => Below.heap_alloc _ _ _ (by have := b.lt k hk; have := h.size; omega)
theorem Kept.setCell {b : Base} {w : World} (h : Kept b w) {p : Addr} (hp : ¬ b.K p.block) (u : Value) : Kept b (w.setCell p u) :=
  h.step rfl rfl rfl (by simp [World.setCell]) fun k hk => Below.heap_setCell _ _ _ _ (fun e => hp (e ▸ hk))
/-- All blocks that are there stay. -/
def Base.all (w : World) : Base := ⟨w, fun k => k < w.heap.size, fun _ h => h⟩
theorem Kept.all {w w' : World} (h : Kept (Base.all w) w') : Below w.heap.size w w' := ⟨h.os, h.tape, h.output, h.size, h.block⟩
theorem Kept.refl (b : Base) : Kept b b.w := ⟨rfl, rfl, rfl, Nat.le_refl _, fun _ _ => rfl⟩

/-- Which cells may be frozen: none outside the root's own range; none at all where the range is empty. -/
structure FrOk (n flo fhi : Nat) (sish : Bool) (fr : Nat × Nat) : Prop where
  le : fr.1 ≤ fr.2
  sub : ∀ o, o < n → fr.1 ≤ o → o < fr.2 → flo ≤ o ∧ o < fhi
  none : sish = false → flo = fhi → fr = (0, 0)
  top : sish = false → fr.2 ≤ n

/-- A block of cells as the view 'v' sees it. -/
structure BlockOk (φ : Emb) (K : Nat → Prop) (w : World) (v : Nat) (t : Tgt) (V : View) (R : Root) : Prop where
  es : R.es = t.es
  cur : v ≤ R.cur
  own : R.ro = false → ¬ K t.blk
  ext : V.ext ≤ t.n
  exact : V.exact = true → t.n = V.ext
  stamps : ∀ o st val, R.cells.get o = some (st, val) → st ≤ R.cur
  blk : ∃ c fr, w.heap[t.blk]? = some (.cells c R.elem fr) ∧ c.size = t.n ∧ FrOk t.n R.flo R.fhi R.sish fr ∧
    ∀ o st val, R.cells.get o = some (st, val) → st ≤ v → o < V.ext → ∃ cv, c[o]? = some cv ∧ VR φ val cv

structure Rel (w0 : Base) (φ : Emb) (s : St) (w : World) : Prop where
  bel : Kept w0 w
  fresh : ∀ v t, φ v = some t → v < s.next
  known : ∀ v t, φ v = some t → (∃ V, s.views.get v = some V) ∨ (∃ o, s.objs.get v = some o)
  view : ∀ v t V, φ v = some t → s.views.get v = some V → ∃ R, s.roots.get V.root = some R ∧ BlockOk φ w0.K w v t V R
  obj : ∀ v t o, φ v = some t → s.objs.get v = some o → ¬ w0.K t.blk ∧ ∃ c, w.heap[t.blk]? = some c ∧ ObjR φ o c
  inj : ∀ v1 v2 t1 t2, φ v1 = some t1 → φ v2 = some t2 → t1.blk = t2.blk → v1 = v2 ∨ ∃ V1 V2, s.views.get v1 = some V1 ∧ s.views.get v2 = some V2 ∧ V1.root = V2.root
  vroot : ∀ v V, s.views.get v = some V → V.root < s.next ∧ v < s.next
  olt : ∀ v o, s.objs.get v = some o → v < s.next
  glob : ∀ g V, g < s.ng → s.views.get g = some V → ∃ t, φ g = some t ∧ t.blk = g
  ngle : s.ng ≤ s.next
  orc : ∀ f ∈ s.orc, f.ok φ.sig

theorem BlockOk.mono {φ ψ : Emb} (h : φ.le ψ) {K : Nat → Prop} {w : World} {v : Nat} {t : Tgt} {V : View} {R : Root} (b : BlockOk φ K w v t V R) : BlockOk ψ K w v t V R := by
  obtain ⟨c, fr, h1, h2, h3, h4⟩ := b.blk
  exact ⟨b.es, b.cur, b.own, b.ext, b.exact, b.stamps, c, fr, h1, h2, h3, fun o st val g hs ho => let ⟨cv, e1, e2⟩ := h4 o st val g hs ho; ⟨cv, e1, e2.mono h⟩⟩

theorem Rel.lt {w0 : Base} {φ : Emb} {s : St} {w : World} (r : Rel w0 φ s w) {v : Nat} {t : Tgt} (h : φ v = some t) : t.blk < w.heap.size := by
  rcases r.known v t h with ⟨V, hV⟩ | ⟨o, ho⟩
  · obtain ⟨R, _, b⟩ := r.view v t V h hV
    obtain ⟨c, fr, h1, _⟩ := b.blk
    exact (Array.getElem?_eq_some_iff.1 h1).1
  · obtain ⟨_, c, h1, _⟩ := r.obj v t o h ho
    exact (Array.getElem?_eq_some_iff.1 h1).1

/-! ### reading -/
def aload (s : St) (v o : Nat) : Option Value :=
  match s.views.get v with
  | none => none
  | some V => bif Nat.blt o V.ext then
      match s.roots.get V.root with
      | none => none
      | some R => match R.cells.get o with
        | none => none
        | some (st, val) => bif Nat.ble st v then some val else none
    else none

theorem blt_iff {a b : Nat} : Nat.blt a b = true ↔ a < b := by
  unfold Nat.blt; rw [Nat.ble_eq]; exact Iff.rfl

theorem aload_spec {s : St} {v o : Nat} {val : Value} (h : aload s v o = some val) :
    ∃ V R st, s.views.get v = some V ∧ o < V.ext ∧ s.roots.get V.root = some R ∧ R.cells.get o = some (st, val) ∧ st ≤ v := by
  unfold aload at h
  split at h
  · cases h
  · rename_i V hV
    cases hb : Nat.blt o V.ext with
    | false => rw [hb] at h; cases h
    | true =>
      rw [hb] at h
      simp only [cond_true] at h
      split at h
      · cases h
      · rename_i R hR
        split at h
        · cases h
        · rename_i st val' hc
          cases hs : Nat.ble st v with
          | false => rw [hs] at h; cases h
          | true =>
            rw [hs] at h
            simp only [cond_true, Option.some.injEq] at h
            subst h
            exact ⟨V, R, st, hV, blt_iff.1 hb, hR, hc, Nat.le_of_ble_eq_true hs⟩

theorem Rel.load {w0 : Base} {φ : Emb} {s : St} {w : World} (r : Rel w0 φ s w) {v o : Nat} {t : Tgt} {val : Value} (hv : φ v = some t) (h : aload s v o = some val) :
    ∃ cv, w.cell? ⟨t.blk, o, none⟩ = some cv ∧ VR φ val cv := by
  obtain ⟨V, R, st, hV, ho, hR, hc, hs⟩ := aload_spec h
  obtain ⟨R', hR', b⟩ := r.view v t V hv hV
  rw [hR] at hR'; cases hR'
  obtain ⟨c, fr, h1, _, _, h4⟩ := b.blk
  obtain ⟨cv, e1, e2⟩ := h4 o st val hc hs ho
  exact ⟨cv, by simp [World.cell?, h1, e1], e2⟩

/-! ### writing -/
def astore (s : St) (v o : Nat) (val : Value) : Option St :=
  match s.views.get v with
  | none => none
  | some V => bif Nat.blt o V.ext && oneCell val then
      match s.roots.get V.root with
      | none => none
      | some R => bif Nat.beq R.cur v && !R.ro && !(Nat.ble R.flo o && Nat.blt o R.fhi) then
          some { s with roots := s.roots.set V.root { R with cells := R.cells.set o (v, val) } }
        else none
    else none

theorem astore_spec {s s' : St} {v o : Nat} {val : Value} (h : astore s v o val = some s') :
    ∃ V R, s.views.get v = some V ∧ o < V.ext ∧ oneCell val = true ∧ s.roots.get V.root = some R ∧ R.cur = v ∧ R.ro = false ∧ ¬ (R.flo ≤ o ∧ o < R.fhi) ∧
      s' = { s with roots := s.roots.set V.root { R with cells := R.cells.set o (v, val) } } := by
  unfold astore at h
  split at h
  · cases h
  · rename_i V hV
    cases hb : (Nat.blt o V.ext && oneCell val) with
    | false => rw [hb] at h; cases h
    | true =>
      rw [hb] at h
      simp only [cond_true] at h
      rw [Bool.and_eq_true] at hb
      split at h
      · cases h
      · rename_i R hR
        cases hc : (Nat.beq R.cur v && !R.ro && !(Nat.ble R.flo o && Nat.blt o R.fhi)) with
        | false => rw [hc] at h; cases h
        | true =>
          rw [hc] at h
          simp only [cond_true, Option.some.injEq] at h
          rw [Bool.and_eq_true, Bool.and_eq_true] at hc
          obtain ⟨⟨c1, c2⟩, c3⟩ := hc
          refine ⟨V, R, hV, blt_iff.1 hb.1, hb.2, hR, Nat.eq_of_beq_eq_true c1, by simpa using c2, ?_, h.symm⟩
          rintro ⟨x, y⟩
          rw [Nat.ble_eq_true_of_le x, blt_iff.2 y] at c3
          cases c3

theorem T.get_set_same {α : Type} (t : T α) (n : Nat) (v : α) : (t.set n v).get n = some v := T.get_put_same _ _ _
theorem T.get_set_other {α : Type} (t : T α) {n k : Nat} (v : α) (h : k ≠ n) : (t.set n v).get k = t.get k := T.get_put_other _ _ h

theorem frozen_not {w : World} {b o : Nat} {c : Array Value} {e : TypeId} {fr : Nat × Nat} (h : w.heap[b]? = some (.cells c e fr)) (hn : ¬ (fr.1 ≤ o ∧ o < fr.2)) : w.frozen? ⟨b, o, none⟩ = false := by
  obtain ⟨lo, hi⟩ := fr
  simp only [World.frozen?, h]
  by_cases h1 : lo ≤ o
  · have : ¬ o < hi := fun h2 => hn ⟨h1, h2⟩
    simp [h1, this]
  · simp [h1]

theorem heap_setCell_at {w : World} {b o : Nat} {v : Value} {c : Array Value} {e : TypeId} {fr : Nat × Nat} (h : w.heap[b]? = some (.cells c e fr)) :
    (w.setCell ⟨b, o, none⟩ v).heap[b]? = some (.cells (c.setIfInBounds o v) e fr) := by
  simp [World.setCell, Array.getElem?_modify, h]
theorem heap_setCell_ne {w : World} {b o k : Nat} {v : Value} (h : k ≠ b) : (w.setCell ⟨b, o, none⟩ v).heap[k]? = w.heap[k]? := Below.heap_setCell _ _ _ _ h

theorem Rel.store {w0 : Base} {φ : Emb} {s s' : St} {w : World} (r : Rel w0 φ s w) {v o : Nat} {t : Tgt} {val cv : Value} (hv : φ v = some t) (h : astore s v o val = some s') (hx : VR φ val cv) :
    (∃ old, w.cell? ⟨t.blk, o, none⟩ = some old) ∧ w.frozen? ⟨t.blk, o, none⟩ = false ∧ Rel w0 φ s' (w.setCell ⟨t.blk, o, none⟩ cv) := by
  obtain ⟨V, R, hV, ho, _, hR, hcur, hro, hfr, rfl⟩ := astore_spec h
  obtain ⟨R', hR', b⟩ := r.view v t V hv hV
  rw [hR] at hR'; cases hR'
  obtain ⟨c, fr, h1, h2, h3, h4⟩ := b.blk
  have hin : o < c.size := by have := b.ext; omega
  have hown := b.own hro
  refine ⟨⟨c[o], by simp [World.cell?, h1, hin]⟩, frozen_not h1 (fun ⟨a, b⟩ => hfr (h3.sub o (by omega) a b)), ?_⟩
  refine ⟨r.bel.setCell hown _, r.fresh, r.known, ?_, ?_, r.inj, r.vroot, r.olt, r.glob, r.ngle, r.orc⟩
  · intro v' t' V' hv' hV'
    obtain ⟨R1, hR1, b1⟩ := r.view v' t' V' hv' hV'
    obtain ⟨c1, fr1, g1, g2, g3, g4⟩ := b1.blk
    by_cases hroot : V'.root = V.root
    · rw [hroot, hR] at hR1; cases hR1
      refine ⟨{ R with cells := R.cells.set o (v, val) }, by simp only [hroot]; exact T.get_set_same _ _ _, ?_⟩
      refine ⟨b1.es, b1.cur, b1.own, b1.ext, b1.exact, ?_, ?_⟩
      · intro o' st' val' hc'
        by_cases e : o' = o
        · subst e
          simp only [T.get_set_same, Option.some.injEq, Prod.mk.injEq] at hc'
          obtain ⟨rfl, rfl⟩ := hc'
          show v ≤ R.cur
          omega
        · simp only [T.get_set_other _ _ e] at hc'
          exact b1.stamps o' st' val' hc'
      by_cases hb : t'.blk = t.blk
      · rw [hb, h1] at g1
        cases g1
        refine ⟨c.setIfInBounds o cv, fr, by rw [hb]; exact heap_setCell_at h1, by simp; exact g2, ⟨h3.le, fun o ho a b => h3.sub o (by omega) a b, h3.none, fun h => by have := h3.top h; omega⟩, ?_⟩
        intro o' st' val' hc' hs' ho'
        by_cases e : o' = o
        · subst e
          simp only [T.get_set_same, Option.some.injEq, Prod.mk.injEq] at hc'
          obtain ⟨rfl, rfl⟩ := hc'
          exact ⟨cv, by simp [hin], hx⟩
        · simp only [T.get_set_other _ _ e] at hc'
          obtain ⟨cv', e1, e2⟩ := g4 o' st' val' hc' hs' ho'
          exact ⟨cv', by rw [Array.getElem?_setIfInBounds_ne (fun x => e x.symm)]; exact e1, e2⟩
      · refine ⟨c1, fr1, by rw [heap_setCell_ne hb]; exact g1, g2, g3, ?_⟩
        intro o' st' val' hc' hs' ho'
        by_cases e : o' = o
        · subst e
          simp only [T.get_set_same, Option.some.injEq, Prod.mk.injEq] at hc'
          obtain ⟨rfl, rfl⟩ := hc'
          have : v' ≤ R.cur := b1.cur
          have hvv : v' = v := by omega
          subst hvv
          rw [hv] at hv'; cases hv'
          exact absurd rfl hb
        · simp only [T.get_set_other _ _ e] at hc'
          exact g4 o' st' val' hc' hs' ho'
    · have hb : t'.blk ≠ t.blk := by
        intro e
        rcases r.inj v' v t' t hv' hv e with rfl | ⟨V1, V2, e1, e2, e3⟩
        · rw [hV] at hV'; cases hV'; exact hroot rfl
        · rw [hV'] at e1; rw [hV] at e2; cases e1; cases e2; exact hroot e3
      refine ⟨R1, by simp only; rw [T.get_set_other _ _ hroot]; exact hR1, b1.es, b1.cur, b1.own, b1.ext, b1.exact, b1.stamps, c1, fr1, by rw [heap_setCell_ne hb]; exact g1, g2, g3, g4⟩
  · intro v' t' o' hv' ho'
    obtain ⟨k1, c1, k2, k3⟩ := r.obj v' t' o' hv' ho'
    refine ⟨k1, c1, ?_, k3⟩
    rw [heap_setCell_ne ?_]; exact k2
    intro e
    rw [e, h1] at k2; cases k2
    exact k3.notCells
end Go.Proofs.YtbjickdjkgefcaaGreatDoor.Vai
end
end
section
open Go Go.RowKit
noncomputable section
namespace Go.Proofs.YtbjickdjkgefcaaGreatDoor.Vai
set_option linter.unusedVariables false

/-- Lists of values side by side. -/
inductive VRL (φ : Emb) : List Value → List Value → Prop where
  | nil : VRL φ [] []
  | cons (a c : Value) (l m : List Value) (h : VR φ a c) (t : VRL φ l m) : VRL φ (a :: l) (c :: m)

theorem VRL.mono {φ ψ : Emb} (h : φ.le ψ) {a c : List Value} (r : VRL φ a c) : VRL ψ a c := by
  induction r with
  | nil => exact .nil
  | cons a c l m hv _ ih => exact .cons _ _ _ _ (hv.mono h) ih
theorem VRL.length {φ : Emb} {a c : List Value} (r : VRL φ a c) : a.length = c.length := by
  induction r with
  | nil => rfl
  | cons a c l m _ _ ih => simp [ih]
theorem VRL.at_ {φ : Emb} {a c : List Value} (r : VRL φ a c) : ∀ (i : Nat) x y, a[i]? = some x → c[i]? = some y → VR φ x y := by
  induction r with
  | nil => intro i x y h; simp at h
  | cons a c l m hv _ ih =>
    intro i x y hx hy
    cases i with
    | zero => simp at hx hy; subst hx; subst hy; exact hv
    | succ i => exact ih i x y (by simpa using hx) (by simpa using hy)
theorem VRL.append {φ : Emb} {a c b d : List Value} (r : VRL φ a c) (q : VRL φ b d) : VRL φ (a ++ b) (c ++ d) := by
  induction r with
  | nil => exact q
  | cons a c l m hv _ ih => exact .cons _ _ _ _ hv ih
theorem VRL.of_at {φ : Emb} : ∀ (a c : List Value), a.length = c.length → (∀ (i : Nat) x y, a[i]? = some x → c[i]? = some y → VR φ x y) → VRL φ a c := by
  intro a
  induction a with
  | nil => intro c h _; cases c with
    | nil => exact .nil
    | cons => simp at h
  | cons a l ih => intro c h H; cases c with
    | nil => simp at h
    | cons c m => exact .cons _ _ _ _ (H 0 a c (by simp) (by simp)) (ih m (by simpa using h) (fun i x y hx hy => H (i + 1) x y (by simpa using hx) (by simpa using hy)))
theorem VRL.array {φ : Emb} {a c : List Value} (r : VRL φ a c) : VRA φ a.toArray c.toArray := ⟨by simp [r.length], fun i x y hx hy => r.at_ i x y (by simpa using hx) (by simpa using hy)⟩
theorem VRA.list {φ : Emb} {a c : Array Value} (r : VRA φ a c) : VRL φ a.toList c.toList :=
  VRL.of_at _ _ (by simp [r.size]) (fun i x y hx hy => r.at_ i x y (by simpa using hx) (by simpa using hy))
theorem VRL.take {φ : Emb} {a c : List Value} (r : VRL φ a c) (n : Nat) : VRL φ (a.take n) (c.take n) := by
  induction r generalizing n with
  | nil => simp; exact .nil
  | cons a c l m hv _ ih => cases n with
    | zero => simp; exact .nil
    | succ n => simp; exact .cons _ _ _ _ hv (ih n)
theorem VRL.drop {φ : Emb} {a c : List Value} (r : VRL φ a c) (n : Nat) : VRL φ (a.drop n) (c.drop n) := by
  induction r generalizing n with
  | nil => simp; exact .nil
  | cons a c l m hv ht ih => cases n with
    | zero => simp; exact .cons _ _ _ _ hv ht
    | succ n => simp; exact ih n
theorem VRL.get {φ : Emb} {a c : List Value} (r : VRL φ a c) {i : Nat} {x : Value} (h : a[i]? = some x) : ∃ y, c[i]? = some y ∧ VR φ x y := by
  have hi : i < c.length := by rw [← r.length]; exact (List.getElem?_eq_some_iff.1 h).1
  exact ⟨c[i], List.getElem?_eq_getElem hi, r.at_ i x _ h (List.getElem?_eq_getElem hi)⟩
theorem VRL.plain {φ : Emb} : ∀ (l : List Value), plainL l = true → VRL φ l l := by
  intro l
  induction l with
  | nil => intro _; exact .nil
  | cons a l ih => intro h; simp only [plainL, Bool.and_eq_true] at h; exact .cons _ _ _ _ (VR.of_plain φ a h.1) (ih h.2)
theorem VRL.ints {φ : Emb} (k : IntKind) (l : List Int) : VRL φ (l.map (.int k)) (l.map (.int k)) := by
  induction l with
  | nil => exact .nil
  | cons a l ih => exact .cons _ _ _ _ (.int k a) ih

/-! ### a new block -/
def cellsOf (l : List Value) : T (Nat × Value) := T.ofList (l.map fun v => (0, v))

def aallocX (s : St) (elem : TypeId) (es : Nat) (cells : List Value) (ext : Nat) (ex sish : Bool) : St :=
  { ng := s.ng, orc := s.orc, next := s.next + 1, views := s.views.set s.next { root := s.next, ext := ext, exact := ex },
    roots := s.roots.set s.next { elem, es, cells := cellsOf cells, cur := s.next, flo := 0, fhi := 0, ro := false, sish := sish }, objs := s.objs }

abbrev aalloc (s : St) (elem : TypeId) (es : Nat) (cells : List Value) : St := aallocX s elem es cells cells.length true false

def Emb.with (φ : Emb) (v : Nat) (t : Tgt) : Emb := ⟨fun k => if k = v then some t else φ k, φ.sig⟩
theorem Emb.with_same (φ : Emb) (v : Nat) (t : Tgt) : (φ.with v t) v = some t := by simp [Emb.with]
theorem Emb.with_other (φ : Emb) {v k : Nat} (t : Tgt) (h : k ≠ v) : (φ.with v t) k = φ k := by simp [Emb.with, h]

theorem Rel.free {w0 : Base} {φ : Emb} {s : St} {w : World} (r : Rel w0 φ s w) : φ s.next = none := by
  cases h : φ s.next with
  | none => rfl
  | some t => exact absurd (r.fresh _ _ h) (Nat.lt_irrefl _)
theorem Rel.with_le {w0 : Base} {φ : Emb} {s : St} {w : World} (r : Rel w0 φ s w) (t : Tgt) : φ.le (φ.with s.next t) := by
  refine ⟨?_, rfl⟩
  intro v t' h
  rw [Emb.with_other _ _ ?_]; exact h
  intro e; subst e; rw [r.free] at h; cases h

theorem heap_alloc_old {w : World} {o : Obj} {k : Nat} {x : Obj} (h : w.heap[k]? = some x) : (w.alloc o).heap[k]? = some x :=
  (Below.heap_alloc w o k (Array.getElem?_eq_some_iff.1 h).1).trans h
theorem heap_alloc_at {w : World} {o : Obj} : (w.alloc o).heap[w.heap.size]? = some o := by
  show (w.heap.push o)[w.heap.size]? = _
  simp

theorem Rel.allocX {w0 : Base} {φ : Emb} {s : St} {w : World} (r : Rel w0 φ s w) (elem : TypeId) (es : Nat) {cells cs : List Value} (rest : List Value) (fr : Nat × Nat) (ext : Nat) (ex sish : Bool) (hext : ext ≤ cs.length + rest.length) (hex : ex = true → cs.length + rest.length = ext) (hfr : FrOk (cs.length + rest.length) 0 0 sish fr) (hc : VRL φ cells cs) :
    Rel w0 (φ.with s.next ⟨w.heap.size, cs.length + rest.length, es⟩) (aallocX s elem es cells ext ex sish) (w.alloc (.cells (cs ++ rest).toArray elem fr)) := by
  have hle := r.with_le ⟨w.heap.size, cs.length + rest.length, es⟩
  have cases_ : ∀ v t, (φ.with s.next ⟨w.heap.size, cs.length + rest.length, es⟩) v = some t → (v = s.next ∧ t = ⟨w.heap.size, cs.length + rest.length, es⟩) ∨ (v ≠ s.next ∧ φ v = some t) := by
    intro v t h
    by_cases e : v = s.next
    · subst e; rw [Emb.with_same] at h; exact .inl ⟨rfl, (Option.some.inj h).symm⟩
    · rw [Emb.with_other _ _ e] at h; exact .inr ⟨e, h⟩
  refine ⟨r.bel.alloc _, ?_, ?_, ?_, ?_, ?_, ?_, ?_, ?_, by have := r.ngle; show s.ng ≤ s.next + 1; omega, r.orc⟩
  · intro v t h
    show v < s.next + 1
    rcases cases_ v t h with ⟨rfl, _⟩ | ⟨_, h⟩
    · omega
    · have := r.fresh v t h; omega
  · intro v t h
    rcases cases_ v t h with ⟨rfl, _⟩ | ⟨e, h⟩
    · exact .inl ⟨_, T.get_set_same _ _ _⟩
    · rcases r.known v t h with ⟨V, hV⟩ | h2
      · exact .inl ⟨V, by rw [aallocX]; simp only; rw [T.get_set_other _ _ e]; exact hV⟩
      · exact .inr h2
  · intro v t V h hV
    rcases cases_ v t h with ⟨rfl, rfl⟩ | ⟨e, h⟩
    · simp only [aallocX, T.get_set_same, Option.some.injEq] at hV
      subst hV
      refine ⟨_, T.get_set_same _ _ _, rfl, Nat.le_refl _, fun _ => r.bel.new, hext, hex, ?_, (cs ++ rest).toArray, fr, heap_alloc_at, by simp, hfr, ?_⟩
      · intro o st val ho
        simp only [cellsOf, T.get_ofList, List.getElem?_map] at ho
        cases hl : cells[o]? with
        | none => rw [hl] at ho; cases ho
        | some x =>
          rw [hl] at ho
          simp only [Option.map_some, Option.some.injEq, Prod.mk.injEq] at ho
          show st ≤ s.next
          omega
      intro o st val ho hs hx
      simp only [cellsOf, T.get_ofList, List.getElem?_map] at ho
      cases hl : cells[o]? with
      | none => rw [hl] at ho; cases ho
      | some x =>
        rw [hl] at ho
        simp only [Option.map_some, Option.some.injEq, Prod.mk.injEq] at ho
        obtain ⟨rfl, rfl⟩ := ho
        obtain ⟨y, hy, hr⟩ := hc.get hl
        exact ⟨y, by rw [List.getElem?_toArray, List.getElem?_append_left (List.getElem?_eq_some_iff.1 hy).1]; exact hy, hr.mono hle⟩
    · simp only [aallocX] at hV
      rw [T.get_set_other _ _ e] at hV
      obtain ⟨R, hR, b⟩ := r.view v t V h hV
      have hr : V.root ≠ s.next := fun x => by have := (r.vroot v V hV).1; omega
      refine ⟨R, by simp only [aallocX]; rw [T.get_set_other _ _ hr]; exact hR, ?_⟩
      have b' := b.mono hle
      obtain ⟨c, fr, h1, h2, h3, h4⟩ := b'.blk
      exact ⟨b'.es, b'.cur, b'.own, b'.ext, b'.exact, b'.stamps, c, fr, heap_alloc_old h1, h2, h3, h4⟩
  · intro v t o h ho
    rcases cases_ v t h with ⟨rfl, rfl⟩ | ⟨e, h⟩
    · exact absurd (r.olt _ _ ho) (Nat.lt_irrefl _)
    · obtain ⟨k1, c, k2, k3⟩ := r.obj v t o h ho
      exact ⟨k1, c, heap_alloc_old k2, k3.mono hle⟩
  · intro v1 v2 t1 t2 h1 h2 hb
    rcases cases_ v1 t1 h1 with ⟨rfl, rfl⟩ | ⟨e1, h1⟩ <;> rcases cases_ v2 t2 h2 with ⟨rfl, rfl⟩ | ⟨e2, h2⟩
    · exact .inl rfl
    · have := r.lt h2; simp at hb; omega
    · have := r.lt h1; simp at hb; omega
    · rcases r.inj v1 v2 t1 t2 h1 h2 hb with h | ⟨V1, V2, g1, g2, g3⟩
      · exact .inl h
      · exact .inr ⟨V1, V2, by simp only [aallocX]; rw [T.get_set_other _ _ e1]; exact g1, by simp only [aallocX]; rw [T.get_set_other _ _ e2]; exact g2, g3⟩
  · intro v V hV
    show V.root < s.next + 1 ∧ v < s.next + 1
    by_cases e : v = s.next
    · subst e
      simp only [aallocX, T.get_set_same, Option.some.injEq] at hV
      subst hV; exact ⟨by simp, by omega⟩
    · simp only [aallocX] at hV
      rw [T.get_set_other _ _ e] at hV
      have := r.vroot v V hV; omega
  · intro v o ho
    show v < s.next + 1
    have := r.olt v o ho; omega
  · intro g V hg hV
    have hg' : g < s.ng := hg
    have hn := r.ngle
    have e : g ≠ s.next := by omega
    simp only [aallocX] at hV
    rw [T.get_set_other _ _ e] at hV
    obtain ⟨t, h1, h2⟩ := r.glob g V hg' hV
    exact ⟨t, hle _ _ h1, h2⟩

theorem Rel.alloc {w0 : Base} {φ : Emb} {s : St} {w : World} (r : Rel w0 φ s w) (elem : TypeId) (es : Nat) {cells cs : List Value} (hc : VRL φ cells cs) :
    Rel w0 (φ.with s.next ⟨w.heap.size, cs.length, es⟩) (aalloc s elem es cells) (w.alloc (.cells cs.toArray elem)) := by
  have := r.allocX elem es [] (0, 0) cells.length true false (by rw [hc.length]; simp) (fun _ => by rw [hc.length]; simp) ⟨Nat.le_refl _, fun o _ a b => by omega, fun _ _ => rfl, fun _ => Nat.zero_le _⟩ hc
  simpa using this

def aobj (s : St) (o : AObj) : St := { s with next := s.next + 1, objs := s.objs.set s.next o }

theorem Rel.newObj {w0 : Base} {φ : Emb} {s : St} {w : World} (r : Rel w0 φ s w) {o : AObj} {c : Obj} (hc : ObjR φ o c) :
    Rel w0 (φ.with s.next ⟨w.heap.size, 0, 0⟩) (aobj s o) (w.alloc c) := by
  have hle := r.with_le ⟨w.heap.size, 0, 0⟩
  have cases_ : ∀ v t, (φ.with s.next ⟨w.heap.size, 0, 0⟩) v = some t → (v = s.next ∧ t = ⟨w.heap.size, 0, 0⟩) ∨ (v ≠ s.next ∧ φ v = some t) := by
    intro v t h
    by_cases e : v = s.next
    · subst e; rw [Emb.with_same] at h; exact .inl ⟨rfl, (Option.some.inj h).symm⟩
    · rw [Emb.with_other _ _ e] at h; exact .inr ⟨e, h⟩
  refine ⟨r.bel.alloc _, ?_, ?_, ?_, ?_, ?_, ?_, ?_, ?_, by have := r.ngle; show s.ng ≤ s.next + 1; omega, r.orc⟩
  · intro v t h
    show v < s.next + 1
    rcases cases_ v t h with ⟨rfl, _⟩ | ⟨_, h⟩
    · omega
    · have := r.fresh v t h; omega
  · intro v t h
    rcases cases_ v t h with ⟨rfl, _⟩ | ⟨e, h⟩
    · exact .inr ⟨_, T.get_set_same _ _ _⟩
    · rcases r.known v t h with h2 | ⟨V, hV⟩
      · exact .inl h2
      · exact .inr ⟨V, by rw [aobj]; simp only; rw [T.get_set_other _ _ e]; exact hV⟩
  · intro v t V h hV
    rcases cases_ v t h with ⟨rfl, rfl⟩ | ⟨e, h⟩
    · have := (r.vroot _ V hV).2; omega
    · obtain ⟨R, hR, b⟩ := r.view v t V h hV
      refine ⟨R, hR, ?_⟩
      have b' := b.mono hle
      obtain ⟨c, fr, h1, h2, h3, h4⟩ := b'.blk
      exact ⟨b'.es, b'.cur, b'.own, b'.ext, b'.exact, b'.stamps, c, fr, heap_alloc_old h1, h2, h3, h4⟩
  · intro v t o' h ho
    rcases cases_ v t h with ⟨rfl, rfl⟩ | ⟨e, h⟩
    · simp only [aobj, T.get_set_same, Option.some.injEq] at ho
      subst ho
      exact ⟨r.bel.new, c, heap_alloc_at, hc.mono hle⟩
    · simp only [aobj] at ho
      rw [T.get_set_other _ _ e] at ho
      obtain ⟨k1, c, k2, k3⟩ := r.obj v t o' h ho
      exact ⟨k1, c, heap_alloc_old k2, k3.mono hle⟩
  · intro v1 v2 t1 t2 h1 h2 hb
    rcases cases_ v1 t1 h1 with ⟨rfl, rfl⟩ | ⟨e1, h1⟩ <;> rcases cases_ v2 t2 h2 with ⟨rfl, rfl⟩ | ⟨e2, h2⟩
    · exact .inl rfl
    · have := r.lt h2; simp at hb; omega
    · have := r.lt h1; simp at hb; omega
    · exact r.inj v1 v2 t1 t2 h1 h2 hb
  · intro v V hV
    show V.root < s.next + 1 ∧ v < s.next + 1
    have := r.vroot v V hV; omega
  · intro v o' ho
    show v < s.next + 1
    by_cases e : v = s.next
    · omega
    · simp only [aobj] at ho
      rw [T.get_set_other _ _ e] at ho
      have := r.olt v o' ho; omega
  · intro g V hg hV
    obtain ⟨t, h1, h2⟩ := r.glob g V hg hV
    exact ⟨t, hle _ _ h1, h2⟩

def asetObj (s : St) (v : Nat) (o : AObj) : St := { s with objs := s.objs.set v o }

theorem Rel.getObj {w0 : Base} {φ : Emb} {s : St} {w : World} (r : Rel w0 φ s w) {v : Nat} {t : Tgt} {o : AObj} (hv : φ v = some t) (h : s.objs.get v = some o) :
    ∃ c, w.heap[t.blk]? = some c ∧ ObjR φ o c := (r.obj v t o hv h).2

theorem Rel.setObj {w0 : Base} {φ : Emb} {s : St} {w : World} (r : Rel w0 φ s w) {v : Nat} {t : Tgt} {o o' : AObj} {c' : Obj} (hv : φ v = some t) (h : s.objs.get v = some o) (hc : ObjR φ o' c') :
    Rel w0 φ (asetObj s v o') { w with heap := w.heap.setIfInBounds t.blk c' } := by
  obtain ⟨hB, c, hc0, hr0⟩ := r.obj v t o hv h
  have hin := (Array.getElem?_eq_some_iff.1 hc0).1
  have hset : ∀ k, k ≠ t.blk → (w.heap.setIfInBounds t.blk c')[k]? = w.heap[k]? := fun k hk => Array.getElem?_setIfInBounds_ne (fun x => hk x.symm)
  refine ⟨r.bel.step rfl rfl rfl (by simp) (fun k hk => hset k (fun e => hB (e ▸ hk))), r.fresh, ?_, ?_, ?_, r.inj, r.vroot, ?_, r.glob, r.ngle, r.orc⟩
  · intro v' t' h'
    rcases r.known v' t' h' with h2 | ⟨V, hV⟩
    · exact .inl h2
    · by_cases e : v' = v
      · subst e; exact .inr ⟨_, T.get_set_same _ _ _⟩
      · exact .inr ⟨V, by simp only [asetObj]; rw [T.get_set_other _ _ e]; exact hV⟩
  · intro v' t' V' hv' hV'
    obtain ⟨R1, hR1, b1⟩ := r.view v' t' V' hv' hV'
    obtain ⟨c1, fr1, g1, g2, g3, g4⟩ := b1.blk
    have hne : t'.blk ≠ t.blk := by
      intro e; rw [e, hc0] at g1; cases g1; exact hr0.notCells
    exact ⟨R1, hR1, b1.es, b1.cur, b1.own, b1.ext, b1.exact, b1.stamps, c1, fr1, by simp only; rw [hset _ hne]; exact g1, g2, g3, g4⟩
  · intro v' t' o1 hv' ho1
    by_cases e : v' = v
    · subst e
      rw [hv] at hv'; cases hv'
      simp only [asetObj, T.get_set_same, Option.some.injEq] at ho1
      subst ho1
      exact ⟨hB, c', by simp [hin], hc⟩
    · simp only [asetObj] at ho1
      rw [T.get_set_other _ _ e] at ho1
      obtain ⟨k1, c1, k2, k3⟩ := r.obj v' t' o1 hv' ho1
      refine ⟨k1, c1, ?_, k3⟩
      simp only
      rw [hset _ ?_]; exact k2
      intro e2
      rcases r.inj v' v t' t hv' hv e2 with rfl | ⟨V1, V2, g1, g2, g3⟩
      · exact e rfl
      · have hq := r.view v t V2 hv g2
        obtain ⟨R2, _, b2⟩ := hq
        obtain ⟨c2, fr2, q1, _⟩ := b2.blk
        rw [hc0] at q1; cases q1; exact hr0.notCells
  · intro v' o1 ho1
    by_cases e : v' = v
    · subst e; exact r.fresh _ _ hv
    · simp only [asetObj] at ho1
      rw [T.get_set_other _ _ e] at ho1
      exact r.olt v' o1 ho1
end Go.Proofs.YtbjickdjkgefcaaGreatDoor.Vai
end
end
