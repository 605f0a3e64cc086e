/- A part of an evaluator of the model's code whose answers are proved sound: no statement on the program stands here. -/
import Derived.Test.YtbjickdjkgefcaaGreatDoorVJ
import Derived.Laws.Bits64
import Derived.Laws.Strings2
open Go Go.RowKit
noncomputable section
namespace Go.Proofs.YtbjickdjkgefcaaGreatDoor.Vai
set_option linter.unusedVariables false
set_option linter.unusedSimpArgs false

def oval : Option Value → Option QOut
  | some v => some (.val v)
  | none => none

/-- Builtins on what they are given. -/
def aqb (P : Program) (tb : Tb) (s : St) (b : Builtin) (argTypes : Array TypeId) (type : TypeId) (consts : Array Bool) (args : List Value) : Option QOut :=
  match b with
  | .len => match argTypes.toList, args with
    | t :: _, x :: _ => oval (alen tb s t x)
    | _, _ => none
  | .cap => match argTypes.toList, args with
    | t :: _, x :: _ => oval (acap tb t x)
    | _, _ => none
  | .unsafeSliceData => match args with
    | [x] => oval (asliceData s x)
    | _ => none
  | _ => bif plainL args then
      match pureRun P (builtin b argTypes type consts args.toArray) with
      | some (.value v) => bif plain v then some (.val v) else none
      | _ => none
    else none

def syOf : Value → Option (IntKind × Int × Int)
  | .int k n => some (k, n, n)
  | .chan (some c) => match decSy c with
    | .range k lo hi => some (k, lo, hi)
    | _ => none
  | _ => none
def asyCmp (op : BinOp) (lo hi lo' hi' : Int) : Option Bool :=
  match op with
  | .lss => bif decide (hi < lo') then some true else bif decide (hi' ≤ lo) then some false else none
  | .leq => bif decide (hi ≤ lo') then some true else bif decide (hi' < lo) then some false else none
  | .gtr => bif decide (hi' < lo) then some true else bif decide (hi ≤ lo') then some false else none
  | .geq => bif decide (hi' ≤ lo) then some true else bif decide (hi < lo') then some false else none
  | .eql => bif decide (hi < lo') then some false else bif decide (hi' < lo) then some false else none
  | .neq => bif decide (hi < lo') then some true else bif decide (hi' < lo) then some true else none
  | _ => none
def codeOf : IntKind → Nat
  | .i64 => 0
  | .u64 => 1
  | .i32 => 2
  | .u32 => 3
  | _ => 4
/-- The number of a range, if it has one. -/
def mkCode (k : IntKind) (lo hi : Int) : Nat := Nat.add (Nat.mul (Nat.add (Nat.mul (Int.toNat (lo + 36893488147419103232)) 73786976294838206464) (Int.toNat (hi + 36893488147419103232))) 32) (Nat.mul 2 (codeOf k))
def mkAt (c : Nat) (k : IntKind) (lo hi : Int) : Option Value :=
  match decSy c with
  | .range k' lo' hi' => bif decide (k' = k) && decide (lo' = lo) && decide (hi' = hi) then some (.chan (some c)) else none
  | _ => none
def mkRange (k : IntKind) (lo hi : Int) : Option Value := mkAt (mkCode k lo hi) k lo hi
def asyBin (op : BinOp) (a b : Value) : Option Value :=
  match op with
  | .rem => match a, b with
    | .chan (some c), .int k' n => match decSy c with
      | .modu .u64 m r => bif decide (k' = .u64) && decide (n = Int.ofNat m) && !(Nat.beq m 0) then some (.int .u64 (Int.ofNat r)) else none
      | .range k lo hi => bif decide (k' = k) && decide (0 ≤ lo) && decide (0 < n) then mkRange k 0 (n - 1) else none
      | _ => none
    | _, _ => none
  | _ => match syOf a, syOf b with
    | some (k, lo, hi), some (k', lo', hi') => bif decide (k = k') then (match asyCmp op lo hi lo' hi' with
      | some t => some (.bool t)
      | none => none) else none
    | _, _ => none
/-- The value of an atom. -/
def atomV (i : Nat) : Value := .chan (some (Nat.add (Nat.mul 32 i) 31))
def findEq (i : Nat) (c : Int) : List Fact → Option Bool
  | [] => none
  | .eq j d b :: l => bif Nat.beq i j && decide (c = d) then some b else findEq i c l
  | _ :: l => findEq i c l
def findLt (i : Nat) (c : Int) : List Fact → Option Bool
  | [] => none
  | .lt j d b :: l => bif Nat.beq i j && decide (c = d) then some b else findLt i c l
  | _ :: l => findLt i c l
def findNeg (i : Nat) : List Fact → Option Nat
  | [] => none
  | .neg j k :: l => bif Nat.beq i j then some k else findNeg i l
  | _ :: l => findNeg i l
/-- Atoms against numbers. -/
def asyFact (orc : List Fact) (op : BinOp) (a b : Value) : Option Value :=
  match a, b with
  | .chan (some c), .int .i64 n => match decSy c with
    | .atom i => (match op with
      | .eql => (match findEq i n orc with | some t => some (.bool t) | none => none)
      | .neq => (match findEq i n orc with | some t => some (.bool !t) | none => none)
      | .lss => (match findLt i n orc with | some t => some (.bool t) | none => none)
      | .geq => (match findLt i n orc with | some t => some (.bool !t) | none => none)
      | _ => none)
    | _ => none
  | .chan (some c), .chan (some d) => match decSy c, decSy d with
    | .atom i, .atom j => bif Nat.beq i j then (match op with
      | .eql => some (.bool true)
      | .neq => some (.bool false)
      | _ => none) else none
    | _, _ => none
  | _, _ => none
/-- Texts with an identity, compared. -/
def asyCmpS (op : BinOp) (eq lt : Option Bool) : Option Value :=
  match op with
  | .eql => (match eq with | some e => some (.bool e) | none => none)
  | .neq => (match eq with | some e => some (.bool !e) | none => none)
  | .lss => (match lt with | some l => some (.bool l) | none => none)
  | .geq => (match lt with | some l => some (.bool !l) | none => none)
  | .leq => (match lt, eq with | some l, some e => some (.bool (l || e)) | _, _ => none)
  | .gtr => (match lt, eq with | some l, some e => some (.bool !(l || e)) | _, _ => none)
  | _ => none
def asyStr (orc : List Fact) (op : BinOp) (a b : Value) : Option Value :=
  match a, b with
  | .string x, b => match strOf b with
    | some j => asyCmpS op (findSeq j x orc) (findSgt j x orc)
    | none => none
  | a, .string y => match strOf a with
    | some i => asyCmpS op (findSeq i y orc) (findSlt i y orc)
    | none => none
  | a, b => match strOf a, strOf b with
    | some i, some j => bif Nat.beq i j then asyCmpS op (some true) (some false) else none
    | _, _ => none
def asyNeg (orc : List Fact) (op : UnOp) (a : Value) : Option Value :=
  match op, a with
  | .neg, .chan (some c) => match decSy c with
    | .atom i => (match findNeg i orc with
      | some k => (match decSy (Nat.add (Nat.mul 32 k) 31) with
        | .atom k' => bif Nat.beq k k' then some (atomV k) else none
        | _ => none)
      | none => none)
    | _ => none
  | _, _ => none
def rngConv (k : IntKind) (lo hi : Int) : Option Value :=
  match k with
  | .u64 => bif decide (0 ≤ lo) && decide (hi ≤ 18446744073709551615) then mkRange .u64 lo hi else mkRange .u64 0 18446744073709551615
  | .i64 => bif decide (-9223372036854775808 ≤ lo) && decide (hi ≤ 9223372036854775807) then mkRange .i64 lo hi else none
  | _ => none
def asyConv (tb : Tb) (dst : TypeId) (a : Value) : Option Value :=
  match a with
  | .chan (some c) => match decSy c, decSy (Nat.add c 2), tb.und.get dst with
    | .modu .i64 m r, .modu .u64 m' r', some (.int .u64) => bif Nat.beq m m' && Nat.beq r r' then some (.chan (some (Nat.add c 2))) else none
    | .range _ lo hi, _, some (.int k) => rngConv k lo hi
    | _, _, _ => none
  | _ => none
def abinOp (P : Program) (tb : Tb) (s : St) (op : BinOp) (t : TypeId) (x y : Operand) (a b : Value) : Option QOut :=
  bif plain a && plain b then pureVal P (do eqGuard op t x y a b; binOp op t a b)
  else bif isSy a || isSy b then oval (match asyBin op a b with | some v => some v | none => match asyFact s.orc op a b with | some v => some v | none => asyStr s.orc op a b)
  else match aeq tb op t a b with
    | some v => some (.val v)
    | none => oval (aeqP tb s op t a b)

def aconvert (P : Program) (tb : Tb) (s : St) (src dst : TypeId) (a : Value) : Option QOut :=
  bif plain a then pureVal P (convert src dst a) else bif isSy a then (match tb.und.get src with | some _ => oval (asyConv tb dst a) | none => none) else match abytesToString tb s src dst a with
    | some v => some (.val v)
    | none => oval (aptrConv P tb s src dst a)

/-- A piece of a text (cheap for the kernel). -/
def subB (b : ByteArray) (l h : Nat) : ByteArray := ⟨⟨(b.data.toList.drop l).take (Nat.sub h l)⟩⟩
theorem subB_eq (b : ByteArray) (l h : Nat) : subB b l h = b.extract l h := by
  obtain ⟨⟨x⟩⟩ := b
  exact (ByteArray.extract_mk x l h).symm
def asliceQ (P : Program) (tb : Tb) (s : St) (t : TypeId) (x : Value) (lo hi mx : Option Value) : Option QOut :=
  match tb.und.get t with
  | some (.slice elem) => oval (asliceS tb s elem x lo hi mx)
  | some (.array n elem) => match x with
    | .pointer (some ⟨v, o, none⟩) => match tb.info.get elem with
      | none => none
      | some i => match abounds n n lo hi mx with
        | none => none
        | some (l, h, m) => oval (sliceTo v o l h (m.getD n) i.size)
    | _ => none
  | some .string => match mx with
    | some _ => none
    | none => match x with
      | .string b => match abounds b.size b.size lo hi none with
        | none => none
        | some (l, h, _) => some (.val (.string (subB b l h)))
      | _ => none
  | _ => none

def aindexQ (tb : Tb) (t : TypeId) (x ix : Value) : Option QOut :=
  match x with
  | .string b => match tb.und.get t with
    | some .string => match aindexOf ix b.size with
      | none => none
      | some k => match b.data.toList[k]? with
        | none => none
        | some c => some (.val (.int .u8 c.toNat))
    | _ => none
  | _ => oval (aindexA tb t x ix)

def anilCheck (x : Value) : Option Value :=
  match x with
  | .pointer (some a) => some (.pointer (some a))
  | .iface t v => some (.iface t v)
  | .func (.func f) a b => some (.func (.func f) a b)
  | _ => none

def amakeFunc (ρ : Operand → Option Value) (fn : Fn) (first captured : Array Operand) : Option QOut :=
  match fn with
  | .yield _ => none
  | _ => match amap ρ first.toList, amap ρ captured.toList with
    | some f, some c => some (.val (.func fn f.toArray c.toArray))
    | _, _ => none
def amakeMap (tb : Tb) (ρ : Operand → Option Value) (t : TypeId) (r : Option Operand) : Option QOut :=
  match r with
  | none => some (.obj (.map [] 0))
  | some x => match ρ x with
    | some (.int _ _) => match tb.und.get t with
      | some (.map _ _) => some (.obj (.map [] 0))
      | _ => none
    | _ => none
def aqCall (P : Program) (tb : Tb) (s : St) (ρ : Operand → Option Value) (c : Call) (type : TypeId) : Option QOut :=
  match c.callee with
  | .builtin b => match amap ρ c.args.toList with
    | some l => aqb P tb s b c.argTypes type (c.args.map fun | .const _ => true | _ => false) l
    | none => none
  | _ => none

/-- The quiet operations. -/
def aq (P : Program) (tb : Tb) (s : St) (ρ : Operand → Option Value) (o : Oper) : Option QOut :=
  match o.op with
  | .move x => oval (ρ x)
  | .assign x => oval (ρ x)
  | .pick c a b => match ρ c with
    | some (.bool t) => oval (bif t then ρ a else ρ b)
    | _ => none
  | .alloc t => aalloc_ tb t
  | .box t x => match ρ x with
    | some v => abox tb t v
    | none => none
  | .build t parts => match aparts ρ parts.toList with
    | some l => oval (abuild tb t l)
    | none => none
  | .buildSlice t len parts => match aparts ρ parts.toList with
    | some l => abuildSlice tb t len l
    | none => none
  | .load t a => match ρ a with
    | some (.pointer (some ⟨v, o, none⟩)) => oval (aloadVar tb s t v o)
    | _ => none
  | .nilCheck x => match ρ x with
    | some v => oval (anilCheck v)
    | none => none
  | .binOp op t x y _ => match ρ x, ρ y with
    | some a, some b => abinOp P tb s op t x y a b
    | _, _ => none
  | .unOp op _ x => match ρ x with
    | some a => bif plain a then pureVal P (Op.unary op a) else oval (asyNeg s.orc op a)
    | none => none
  | .convert src dst x => match ρ x with
    | some a => aconvert P tb s src dst a
    | none => none
  | .makeInterface t x => match ρ x with
    | some a => oval (amakeIface tb t a)
    | none => none
  | .makeFunc fn first captured => amakeFunc ρ fn first captured
  | .makeMap t r => amakeMap tb ρ t r
  | .makeSlice t l c => match ρ l, ρ c with
    | some a, some b => amakeSlice tb t a b
    | _, _ => none
  | .slice t x lo hi mx => match ρ x, aopt ρ lo, aopt ρ hi, aopt ρ mx with
    | some a, some l, some h, some m => asliceQ P tb s t a l h m
    | _, _, _, _ => none
  | .fieldAddr t x f => match ρ x with
    | some a => oval (afieldAddr tb t a f)
    | none => none
  | .field t x f => match ρ x with
    | some a => oval (afield tb t a f)
    | none => none
  | .indexAddr t x i => match ρ x, ρ i with
    | some a, some b => oval (aindexAddr tb t a b)
    | _, _ => none
  | .index t x i => match ρ x, ρ i with
    | some a, some b => aindexQ tb t a b
    | _, _ => none
  | .extract x k => match ρ x with
    | some a => oval (aextract a k)
    | none => none
  | .lookup t x i k => match ρ x, ρ i with
    | some a, some b => oval (alookup P tb s t a b k)
    | _, _ => none
  | .entry x => match ρ x with
    | some a => oval (aentry s a)
    | none => none
  | .typeAssert x _ t k => match ρ x with
    | some a => oval (aassert tb a t k)
    | none => none
  | .call c => aqCall P tb s ρ c o.type
  | _ => none

section
variable {P : Program} {tb : Tb} {w0 : Base} {φ : Emb} {s : St} {w : World} {ρ : Operand → Option Value} {σ : Operand → Value}

theorem oval_sound {x : Option Value} {out : QOut} {res : Result Value} (h : oval x = some out) (H : ∀ v, x = some v → ∃ c, res = .ok c w ∧ VR φ v c) : QV φ w out res := by
  cases x with
  | none => cases h
  | some v => cases h; exact H v rfl

theorem binOp_eql {t : TypeId} {d : TypeDesc} {x y : Value} {b : Bool} (h : aeqNil d x y = some b) : binOp .eql t x y = (do pure (.bool (← Op.equal t x y))) := by
  unfold aeqNil at h
  split at h <;> first | (cases h; done) | (split at h <;> first | (cases h; done) | rfl)
theorem binOp_neq {t : TypeId} {d : TypeDesc} {x y : Value} {b : Bool} (h : aeqNil d x y = some b) : binOp .neq t x y = (do pure (.bool (!(← Op.equal t x y)))) := by
  unfold aeqNil at h
  split at h <;> first | (cases h; done) | (split at h <;> first | (cases h; done) | rfl)
theorem eqGuard_nil {op : BinOp} {t : TypeId} {x y : Operand} {d : TypeDesc} {a b : Value} {r : Bool} (h : aeqNil d a b = some r) : eqGuard op t x y a b = pure () := by
  unfold aeqNil at h
  split at h <;> first | (cases h; done) | (split at h <;> first | (cases h; done) | (cases op <;> rfl))
theorem aeqNil_rel {d : TypeDesc} {x y c e : Value} {b : Bool} (h : aeqNil d x y = some b) (hx : VR φ x c) (hy : VR φ y e) : aeqNil d c e = some b := by
  unfold aeqNil at h ⊢
  split at h <;> first | (cases h; done) | (split at h <;> first | (cases h; done) | (cases h; cases hx <;> cases hy <;> rfl))

theorem syOf_sound {a c : Value} {k : IntKind} {lo hi : Int} (h : syOf a = some (k, lo, hi)) (r : VR φ a c) : ∃ n, c = .int k n ∧ lo ≤ n ∧ n ≤ hi := by
  unfold syOf at h
  split at h
  · cases h; cases r; exact ⟨_, rfl, Int.le_refl _, Int.le_refl _⟩
  · rename_i cc
    cases r with
    | top _ _ ht _ => simp [ht] at h
    | str _ _ ht => simp [ht] at h
    | empty _ _ _ ht => simp [ht] at h
    | sy _ k' n hn =>
      split at h
      · rename_i k2 l2 h2 hd
        cases h
        rw [hd] at hn
        obtain ⟨rfl, h1, h2⟩ := hn
        exact ⟨n, rfl, h1, h2⟩
      · cases h
  · cases h

theorem asyCmp_sound {op : BinOp} {lo hi lo' hi' m n : Int} {t : Bool} (h : asyCmp op lo hi lo' hi' = some t) (h1 : lo ≤ m) (h2 : m ≤ hi) (h3 : lo' ≤ n) (h4 : n ≤ hi') (P : Program) (w : World) (ty : TypeId) (k : IntKind) :
    (binOp op ty (.int k m) (.int k n)).run P w = .ok (.bool t) w := by
  have cnd : ∀ {p q : Prop} [Decidable p] [Decidable q] {x y : Option Bool}, (bif decide p then x else bif decide q then y else none) = some t → (p ∧ x = some t) ∨ (q ∧ y = some t) := by
    intro p q _ _ x y h
    by_cases hp : p
    · simp only [hp, decide_true, cond_true] at h; exact .inl ⟨hp, h⟩
    · simp only [hp, decide_false, cond_false] at h
      by_cases hq : q
      · simp only [hq, decide_true, cond_true] at h; exact .inr ⟨hq, h⟩
      · simp only [hq, decide_false, cond_false] at h; cases h
  unfold asyCmp at h
  split at h
  · rcases cnd h with ⟨a, b⟩ | ⟨a, b⟩ <;> cases b <;> simp [binOp, Op.intCmp] <;> omega
  · rcases cnd h with ⟨a, b⟩ | ⟨a, b⟩ <;> cases b <;> simp [binOp, Op.intCmp] <;> omega
  · rcases cnd h with ⟨a, b⟩ | ⟨a, b⟩ <;> cases b <;> simp [binOp, Op.intCmp] <;> omega
  · rcases cnd h with ⟨a, b⟩ | ⟨a, b⟩ <;> cases b <;> simp [binOp, Op.intCmp] <;> omega
  · rcases cnd h with ⟨a, b⟩ | ⟨a, b⟩ <;> cases b <;> simp [binOp, Op.intCmp] <;> omega
  · rcases cnd h with ⟨a, b⟩ | ⟨a, b⟩ <;> cases b <;> simp [binOp, Op.intCmp] <;> omega
  · cases h

theorem mkAt_sound {c : Nat} {k : IntKind} {lo hi : Int} {v : Value} (h : mkAt c k lo hi = some v) {n : Int} (h1 : lo ≤ n) (h2 : n ≤ hi) : VR φ v (.int k n) := by
  unfold mkAt at h
  split at h
  · rename_i k' lo' hi' hd
    cases hb : (decide (k' = k) && decide (lo' = lo) && decide (hi' = hi)) with
    | false => rw [hb] at h; cases h
    | true =>
      rw [hb] at h
      simp only [cond_true, Option.some.injEq] at h
      subst h
      rw [Bool.and_eq_true, Bool.and_eq_true] at hb
      obtain ⟨⟨b1, b2⟩, b3⟩ := hb
      refine .sy _ _ _ ?_
      rw [hd]
      exact ⟨(of_decide_eq_true b1).symm, by rw [of_decide_eq_true b2]; exact h1, by rw [of_decide_eq_true b3]; exact h2⟩
  · cases h
theorem mkRange_sound {k : IntKind} {lo hi : Int} {v : Value} (h : mkRange k lo hi = some v) {n : Int} (h1 : lo ≤ n) (h2 : n ≤ hi) : VR φ v (.int k n) := mkAt_sound h h1 h2

theorem asyBin_sound {op : BinOp} {a b c e v : Value} (h : asyBin op a b = some v) (hx : VR φ a c) (hy : VR φ b e) (t : TypeId) (x y : Operand) :
    ∃ cv, ((do eqGuard op t x y c e; binOp op t c e : Sem Value)).run P w = .ok cv w ∧ VR φ v cv := by
  have guard : ∀ k m k' n, eqGuard op t x y (.int k m) (.int k' n) = pure () := by intro k m k' n; cases op <;> rfl
  unfold asyBin at h
  split at h
  · split at h
    · rename_i cc k' n
      cases hx with
      | top _ _ ht _ => simp [ht] at h
      | str _ _ ht => simp [ht] at h
      | empty _ _ _ ht => simp [ht] at h
      | sy _ k2 m hm =>
        cases hy
        split at h
        · rename_i mm r hd
          rw [hd] at hm
          obtain ⟨rfl, h1, h2⟩ := hm
          cases hb : (decide (k' = .u64) && decide (n = Int.ofNat mm) && !(Nat.beq mm 0)) with
          | false => rw [hb] at h; cases h
          | true =>
            rw [hb] at h
            cases h
            rw [Bool.and_eq_true, Bool.and_eq_true] at hb
            obtain ⟨⟨b0, b1⟩, b2⟩ := hb
            have b0 := of_decide_eq_true b0
            have b1 := of_decide_eq_true b1
            have b2 : ¬ mm = 0 := fun e => by subst e; simp at b2
            obtain ⟨h3, h4⟩ := h2 rfl
            subst b1
            subst b0
            refine ⟨.int .u64 (Int.ofNat r), ?_, .int _ _⟩
            rw [guard]
            have h5 : Int.tmod m (Int.ofNat mm) = (r : Int) := by
              rw [Int.tmod_eq_emod_of_nonneg h3, ← h1]
              congr 1
              omega
            have h6 : ¬ (mm : Int) = 0 := by omega
            simp only [binOp, Sem.run_bind, Sem.run_pure, Result.andThen_ok, ne_eq, not_true_eq_false, if_false, Op.intDiv, Int.ofNat_eq_natCast, h6]
            rw [Int.ofNat_eq_natCast] at h5
            rw [h5]
        · rename_i k3 lo hi hd
          rw [hd] at hm
          obtain ⟨rfl, h1, h2⟩ := hm
          cases hb : (decide (k' = k2) && decide (0 ≤ lo) && decide (0 < n)) with
          | false => rw [hb] at h; cases h
          | true =>
            rw [hb] at h
            simp only [cond_true] at h
            rw [Bool.and_eq_true, Bool.and_eq_true] at hb
            obtain ⟨⟨b0, b1⟩, b2⟩ := hb
            have b0 := of_decide_eq_true b0
            have b1 := of_decide_eq_true b1
            have b2 := of_decide_eq_true b2
            subst b0
            have h3 : 0 ≤ m := by omega
            refine ⟨.int k' (Int.tmod m n), ?_, mkRange_sound h ?_ ?_⟩
            · rw [guard]
              have h6 : ¬ n = 0 := by omega
              simp only [binOp, Sem.run_bind, Sem.run_pure, Result.andThen_ok, ne_eq, not_true_eq_false, if_false, Op.intDiv, h6]
            · rw [Int.tmod_eq_emod_of_nonneg h3]; exact Int.emod_nonneg _ (by omega)
            · rw [Int.tmod_eq_emod_of_nonneg h3]; have := Int.emod_lt_of_pos m b2; omega
        · cases h
    · cases h
  · split at h
    · rename_i k lo hi k' lo' hi' e1 e2
      obtain ⟨m, rfl, m1, m2⟩ := syOf_sound e1 hx
      obtain ⟨n, rfl, n1, n2⟩ := syOf_sound e2 hy
      by_cases hk : k = k'
      · subst hk
        simp only [decide_true, cond_true] at h
        split at h
        · rename_i tt ht
          cases h
          refine ⟨.bool tt, ?_, .bool _⟩
          rw [guard]
          simp only [Sem.run_bind, Sem.run_pure, Result.andThen_ok]
          exact asyCmp_sound ht m1 m2 n1 n2 P w t k
        · cases h
      · simp only [hk, decide_false, cond_false] at h; cases h
    · cases h

theorem findEq_sound {sig : Sig} {i : Nat} {c : Int} {b : Bool} : ∀ (l : List Fact), (∀ f ∈ l, f.ok sig) → findEq i c l = some b → decide (sig i = c) = b := by
  intro l
  induction l with
  | nil => intro _ h; cases h
  | cons f l ih =>
    intro hf h
    have ih := ih (fun x hx => hf x (List.mem_cons_of_mem _ hx))
    have h0 := hf f (List.mem_cons_self ..)
    cases f with
    | eq j d t =>
      simp only [findEq] at h
      cases hb : (Nat.beq i j && decide (c = d)) with
      | true =>
        rw [hb] at h
        rw [Bool.and_eq_true] at hb
        cases h
        rw [Nat.eq_of_beq_eq_true hb.1, of_decide_eq_true hb.2]
        exact h0
      | false => rw [hb] at h; exact ih h
    | _ => exact ih h
theorem findLt_sound {sig : Sig} {i : Nat} {c : Int} {b : Bool} : ∀ (l : List Fact), (∀ f ∈ l, f.ok sig) → findLt i c l = some b → decide (sig i < c) = b := by
  intro l
  induction l with
  | nil => intro _ h; cases h
  | cons f l ih =>
    intro hf h
    have ih := ih (fun x hx => hf x (List.mem_cons_of_mem _ hx))
    have h0 := hf f (List.mem_cons_self ..)
    cases f with
    | lt j d t =>
      simp only [findLt] at h
      cases hb : (Nat.beq i j && decide (c = d)) with
      | true =>
        rw [hb] at h
        rw [Bool.and_eq_true] at hb
        cases h
        rw [Nat.eq_of_beq_eq_true hb.1, of_decide_eq_true hb.2]
        exact h0
      | false => rw [hb] at h; exact ih h
    | _ => exact ih h
theorem findNeg_sound {sig : Sig} {i k : Nat} : ∀ (l : List Fact), (∀ f ∈ l, f.ok sig) → findNeg i l = some k → (Fact.neg i k).ok sig := by
  intro l
  induction l with
  | nil => intro _ h; cases h
  | cons f l ih =>
    intro hf h
    have ih := ih (fun x hx => hf x (List.mem_cons_of_mem _ hx))
    have h0 := hf f (List.mem_cons_self ..)
    cases f with
    | neg j m =>
      simp only [findNeg] at h
      cases hb : Nat.beq i j with
      | true =>
        rw [hb] at h
        cases h
        rw [Nat.eq_of_beq_eq_true hb]
        exact h0
      | false => rw [hb] at h; exact ih h
    | _ => exact ih h

theorem asyFact_sound {orc : List Fact} (ho : ∀ f ∈ orc, f.ok φ.sig) {op : BinOp} {a b c e v : Value} (h : asyFact orc op a b = some v) (hx : VR φ a c) (hy : VR φ b e) (t : TypeId) (x y : Operand) :
    ∃ cv, ((do eqGuard op t x y c e; binOp op t c e : Sem Value)).run P w = .ok cv w ∧ VR φ v cv := by
  have guard : ∀ k m k' n, eqGuard op t x y (.int k m) (.int k' n) = pure () := by intro k m k' n; cases op <;> rfl
  unfold asyFact at h
  split at h
  · rename_i cc n
    cases hx with
    | top _ _ ht _ => simp [ht] at h
    | str _ _ ht => simp [ht] at h
    | empty _ _ _ ht => simp [ht] at h
    | sy _ k m hm =>
      cases hy
      split at h
      · rename_i i hd
        rw [hd] at hm
        obtain ⟨rfl, rfl⟩ := hm
        rw [guard]
        simp only [Sem.run_bind, Sem.run_pure, Result.andThen_ok]
        split at h
        · split at h
          · rename_i tt ht
            cases h
            have h0 := findEq_sound _ ho ht
            refine ⟨.bool tt, ?_, .bool _⟩
            rw [← h0]; simp [binOp, Op.intCmp]; rfl
          · cases h
        · split at h
          · rename_i tt ht
            cases h
            have h0 := findEq_sound _ ho ht
            refine ⟨.bool !tt, ?_, .bool _⟩
            rw [← h0]; simp [binOp, Op.intCmp]; rfl
          · cases h
        · split at h
          · rename_i tt ht
            cases h
            have h0 := findLt_sound _ ho ht
            refine ⟨.bool tt, ?_, .bool _⟩
            rw [← h0]; simp [binOp, Op.intCmp]
          · cases h
        · split at h
          · rename_i tt ht
            cases h
            have h0 := findLt_sound _ ho ht
            refine ⟨.bool !tt, ?_, .bool _⟩
            rw [← h0]; simp [binOp, Op.intCmp]
            by_cases hq : φ.sig i < n <;> simp [hq] <;> omega
          · cases h
        · cases h
      · cases h
  · rename_i cc dd
    cases hx with
    | top _ _ ht _ => simp [ht] at h
    | str _ _ ht => simp [ht] at h
    | empty _ _ _ ht => simp [ht] at h
    | sy _ k m hm =>
      cases hy with
      | top _ _ ht _ => simp [ht] at h
      | str _ _ ht => simp [ht] at h
      | empty _ _ _ ht => simp [ht] at h
      | sy _ k' m' hm' =>
        split at h
        · rename_i i j hd hd'
          rw [hd] at hm
          rw [hd'] at hm'
          obtain ⟨rfl, rfl⟩ := hm
          obtain ⟨rfl, rfl⟩ := hm'
          cases hb : Nat.beq i j with
          | false => rw [hb] at h; cases h
          | true =>
            rw [hb] at h
            obtain rfl := Nat.eq_of_beq_eq_true hb
            rw [guard]
            simp only [Sem.run_bind, Sem.run_pure, Result.andThen_ok]
            simp only [cond_true] at h
            split at h
            · cases h; exact ⟨.bool true, by simp [binOp, Op.intCmp], .bool _⟩
            · cases h; exact ⟨.bool false, by simp [binOp, Op.intCmp], .bool _⟩
            · cases h
        · cases h
  · cases h

theorem toList_beq (a b : ByteArray) : (a.toList == b.toList) = decide (a = b) := by
  by_cases h : a = b
  · subst h; simp
  · rw [decide_eq_false h]
    simp only [beq_eq_false_iff_ne, ne_eq]
    intro e
    apply h
    rw [ByteArray.toList_eq, ByteArray.toList_eq] at e
    exact ByteArray.ext (Array.toList_inj.1 e)
theorem bytesLess_self : ∀ l : List UInt8, Op.bytesLess l l = false := by
  intro l
  induction l with
  | nil => rfl
  | cons a l ih => simp [Op.bytesLess, ih]
theorem asyCmpS_sound {op : BinOp} {eq lt : Option Bool} {v : Value} (h : asyCmpS op eq lt = some v) {a b : ByteArray} (he : ∀ e, eq = some e → decide (a = b) = e) (hl : ∀ l, lt = some l → Op.bytesLess a.toList b.toList = l) (t : TypeId) (x y : Operand) :
    ∃ cv, ((do eqGuard op t x y (.string a) (.string b); binOp op t (.string a) (.string b) : Sem Value)).run P w = .ok cv w ∧ VR φ v cv := by
  have hg : eqGuard op t x y (.string a) (.string b) = pure () := by cases op <;> rfl
  have hb : binOp op t (.string a) (.string b) = Op.stringOp op a b := by cases op <;> rfl
  rw [hg, hb]
  simp only [Sem.run_bind, Sem.run_pure, Result.andThen_ok]
  unfold asyCmpS at h
  split at h
  · split at h
    · cases h; refine ⟨_, ?_, .bool _⟩; simp only [Op.stringOp, toList_beq, he _ rfl, Sem.run_pure]
    · cases h
  · split at h
    · cases h; refine ⟨_, ?_, .bool _⟩; simp only [Op.stringOp, toList_beq, he _ rfl, Sem.run_pure]
    · cases h
  · split at h
    · cases h; refine ⟨_, ?_, .bool _⟩; simp only [Op.stringOp, hl _ rfl, Sem.run_pure]
    · cases h
  · split at h
    · cases h; refine ⟨_, ?_, .bool _⟩; simp only [Op.stringOp, hl _ rfl, Sem.run_pure]
    · cases h
  · split at h
    · cases h; refine ⟨_, ?_, .bool _⟩; simp only [Op.stringOp, toList_beq, hl _ rfl, he _ rfl, Sem.run_pure]
    · cases h
  · split at h
    · cases h; refine ⟨_, ?_, .bool _⟩; simp only [Op.stringOp, toList_beq, hl _ rfl, he _ rfl, Sem.run_pure]
    · cases h
  · cases h
theorem asyStr_sound {orc : List Fact} (ho : ∀ f ∈ orc, f.ok φ.sig) {op : BinOp} {a b c e v : Value} (h : asyStr orc op a b = some v) (hx : VR φ a c) (hy : VR φ b e) (t : TypeId) (x y : Operand) :
    ∃ cv, ((do eqGuard op t x y c e; binOp op t c e : Sem Value)).run P w = .ok cv w ∧ VR φ v cv := by
  unfold asyStr at h
  split at h
  · cases hx
    split at h
    · rename_i j hj
      rw [strOf_sound hj hy]
      refine asyCmpS_sound h (fun q hq => ?_) (fun q hq => findSgt_sound _ ho hq) t x y
      rw [← findSeq_sound _ ho hq, decide_eq_decide]
      exact ⟨Eq.symm, Eq.symm⟩
    · cases h
  · cases hy
    split at h
    · rename_i j hj
      rw [strOf_sound hj hx]
      exact asyCmpS_sound h (fun q hq => findSeq_sound _ ho hq) (fun q hq => findSlt_sound _ ho hq) t x y
    · cases h
  · split at h
    · rename_i i j hi hj
      cases hb : Nat.beq i j with
      | false => rw [hb] at h; cases h
      | true =>
        rw [hb] at h
        obtain rfl := Nat.eq_of_beq_eq_true hb
        rw [cond_true] at h
        rw [strOf_sound hi hx, strOf_sound hj hy]
        exact asyCmpS_sound h (fun q hq => by cases hq; simp) (fun q hq => by cases hq; exact bytesLess_self _) t x y
    · cases h

theorem asyNeg_sound {orc : List Fact} (ho : ∀ f ∈ orc, f.ok φ.sig) {op : UnOp} {a c v : Value} (h : asyNeg orc op a = some v) (hx : VR φ a c) : ∃ cv, (Op.unary op c).run P w = .ok cv w ∧ VR φ v cv := by
  unfold asyNeg at h
  split at h
  · rename_i cc
    cases hx with
    | top _ _ ht _ => simp [ht] at h
    | str _ _ ht => simp [ht] at h
    | empty _ _ _ ht => simp [ht] at h
    | sy _ k n hn =>
      split at h
      · rename_i i hd
        rw [hd] at hn
        obtain ⟨rfl, rfl⟩ := hn
        split at h
        · rename_i m hm
          split at h
          · rename_i m' hm'
            cases hb : Nat.beq m m' with
            | false => rw [hb] at h; cases h
            | true =>
              rw [hb] at h
              cases h
              obtain rfl := Nat.eq_of_beq_eq_true hb
              obtain ⟨h1, h2, h3⟩ := findNeg_sound _ ho hm
              refine ⟨.int .i64 (φ.sig m), ?_, .sy _ _ _ (by rw [hm']; exact ⟨rfl, rfl⟩)⟩
              have hw : IntKind.i64.wrap (0 - φ.sig i) = φ.sig m := by
                rw [IntKind.wrap_i64, h1]
                omega
              simp only [Op.unary, Op.intArith]
              rw [Int.zero_sub] at hw
              simp [hw]
          · cases h
        · cases h
      · cases h
  · cases h

theorem rngConv_sound {k : IntKind} {lo hi : Int} {v : Value} (h : rngConv k lo hi = some v) {n : Int} (h1 : lo ≤ n) (h2 : n ≤ hi) : VR φ v (.int k (k.wrap n)) := by
  unfold rngConv at h
  split at h
  · rw [IntKind.wrap_u64]
    cases hb : (decide (0 ≤ lo) && decide (hi ≤ 18446744073709551615)) with
    | true =>
      rw [hb, cond_true] at h
      rw [Bool.and_eq_true, decide_eq_true_eq, decide_eq_true_eq] at hb
      have e : n % 18446744073709551616 = n := Int.emod_eq_of_lt (by omega) (by omega)
      rw [e]
      exact mkRange_sound h h1 h2
    | false =>
      rw [hb, cond_false] at h
      have e1 : 0 ≤ n % 18446744073709551616 := Int.emod_nonneg _ (by omega)
      have e2 : n % 18446744073709551616 ≤ 18446744073709551615 := by have := Int.emod_lt_of_pos n (show (0 : Int) < 18446744073709551616 by omega); omega
      generalize n % 18446744073709551616 = q at e1 e2 ⊢
      exact mkRange_sound h e1 e2
  · rw [IntKind.wrap_i64]
    cases hb : (decide (-9223372036854775808 ≤ lo) && decide (hi ≤ 9223372036854775807)) with
    | true =>
      rw [hb, cond_true] at h
      rw [Bool.and_eq_true, decide_eq_true_eq, decide_eq_true_eq] at hb
      have e : (n + 9223372036854775808) % 18446744073709551616 - 9223372036854775808 = n := by omega
      rw [e]
      exact mkRange_sound h h1 h2
    | false => rw [hb] at h; cases h
  · cases h

theorem asyConv_sound (hP : TbOk P tb) {src dst : TypeId} {d : TypeDesc} (hsrc : tb.und.get src = some d) {a c v : Value} (h : asyConv tb dst a = some v) (hx : VR φ a c) : ∃ cv, (convert src dst c).run P w = .ok cv w ∧ VR φ v cv := by
  have conv : ∀ (k k' : IntKind) (n : Int), tb.und.get dst = some (.int k) → (convert src dst (.int k' n)).run P w = .ok (.int k (k.wrap n)) w := by
    intro k k' n hu
    simp only [convert, Sem.run_bind, run_und (hP.und _ _ hsrc), run_und (hP.und _ _ hu), Result.andThen_ok]
    cases d <;> simp [Conv.intToInt]
  unfold asyConv at h
  split at h
  · rename_i cc
    cases hx with
    | top _ _ ht _ => simp [ht] at h
    | str _ _ ht => simp [ht] at h
    | empty _ _ _ ht => simp [ht] at h
    | sy _ k n hn =>
      split at h
      · rename_i m r m' r' hd hd' hu
        cases hb : (Nat.beq m m' && Nat.beq r r') with
        | false => rw [hb] at h; cases h
        | true =>
          rw [hb] at h
          cases h
          rw [Bool.and_eq_true] at hb
          obtain rfl := Nat.eq_of_beq_eq_true hb.1
          obtain rfl := Nat.eq_of_beq_eq_true hb.2
          rw [hd] at hn
          obtain ⟨rfl, h1, _⟩ := hn
          refine ⟨_, conv _ _ _ hu, .sy _ _ _ ?_⟩
          rw [hd', IntKind.wrap_u64]
          refine ⟨rfl, ?_, fun _ => ⟨by omega, by omega⟩⟩
          rw [← h1]
          congr 1
          omega
      · rename_i _ lo hi k2 hd hu
        rw [hd] at hn
        obtain ⟨rfl, h1, h2⟩ := hn
        exact ⟨_, conv _ _ _ hu, rngConv_sound h h1 h2⟩
      · cases h
  · cases h

theorem abinOp_sound (hP : TbOk P tb) (r : Rel w0 φ s w) {op : BinOp} {t : TypeId} {x y : Operand} {a b c e : Value} {out : QOut} (h : abinOp P tb s op t x y a b = some out) (hx : VR φ a c) (hy : VR φ b e) :
    QV φ w out ((do eqGuard op t x y c e; binOp op t c e : Sem Value).run P w) := by
  unfold abinOp at h
  cases hp : (plain a && plain b) with
  | true =>
    rw [hp] at h
    rw [Bool.and_eq_true] at hp
    rw [hx.eq_of_plain hp.1, hy.eq_of_plain hp.2]
    exact pureVal_sound h φ w
  | false =>
    rw [hp] at h
    simp only [cond_false] at h
    cases hsy : (isSy a || isSy b) with
    | true =>
      rw [hsy] at h
      refine oval_sound h fun v hv => ?_
      split at hv
      · rename_i v' hv'
        cases hv
        exact asyBin_sound hv' hx hy t x y
      · split at hv
        · rename_i v' hv'
          cases hv
          exact asyFact_sound r.orc hv' hx hy t x y
        · exact asyStr_sound r.orc hv hx hy t x y
    | false =>
    rw [hsy] at h
    simp only [cond_false] at h
    split at h
    · rename_i v hv
      cases h
      show ∃ c', _ = Result.ok c' w ∧ VR φ v c'
      unfold aeq at hv
      split at hv
      · cases hv
      · rename_i d hd
        split at hv
        · cases hv
        · rename_i r hr
          have hs := aeqNil_sound (hP.und _ _ hd) hr hx hy w
          have hr' := aeqNil_rel hr hx hy
          rw [eqGuard_nil hr']
          split at hv
          · cases hv; exact ⟨.bool r, by rw [binOp_eql hr']; simp [hs], .bool r⟩
          · cases hv; exact ⟨.bool !r, by rw [binOp_neq hr']; simp [hs], .bool _⟩
          · cases hv
    · refine oval_sound h fun v hv => ?_
      unfold aeqP at hv
      split at hv
      · cases hv
      · rename_i q hq
        obtain ⟨hs, ca, ce, rfl, rfl⟩ := aeqPtr_sound hP r hq hx hy
        have hg : eqGuard op t x y (.pointer (some ca)) (.pointer (some ce)) = pure () := by cases op <;> rfl
        rw [hg]
        split at hv
        · cases hv; exact ⟨.bool q, by rw [show binOp .eql t (.pointer (some ca)) (.pointer (some ce)) = (do pure (.bool (← Op.equal t (.pointer (some ca)) (.pointer (some ce))))) from rfl]; simp [hs], .bool q⟩
        · cases hv; exact ⟨.bool !q, by rw [show binOp .neq t (.pointer (some ca)) (.pointer (some ce)) = (do pure (.bool (!(← Op.equal t (.pointer (some ca)) (.pointer (some ce)))))) from rfl]; simp [hs], .bool _⟩
        · cases hv

theorem asliceQ_sound (hP : TbOk P tb) (r : Rel w0 φ s w) {t : TypeId} {x c : Value} {lo hi mx lo' hi' mx' : Option Value} {out : QOut} (h : asliceQ P tb s t x lo hi mx = some out) (hx : VR φ x c) (h1 : VRO φ lo lo') (h2 : VRO φ hi hi') (h3 : VRO φ mx mx') :
    QV φ w out ((Instr.sliceAt t c lo' hi' mx').run P w) := by
  unfold asliceQ at h
  split at h
  · rename_i elem hu
    have hu' := hP.und _ _ hu
    refine oval_sound h fun v hv => ?_
    obtain ⟨c', e1, e2⟩ := asliceS_sound hP r hu' hv hx h1 h2 h3
    exact ⟨c', by simp only [Instr.sliceAt, Sem.run_bind, run_und hu', Result.andThen_ok]; exact e1, e2⟩
  · rename_i n elem hu
    have hu' := hP.und _ _ hu
    split at h
    · rename_i v o
      split at h
      · cases h
      · rename_i i hi
        split at h
        · cases h
        · rename_i l h' m hb
          cases hx with
          | ptr _ _ t' hv =>
            refine oval_sound h fun q hq => ?_
            have hs := (abounds_sound (P := P) (w := w) hb h1 h2 h3 (Nat.le_refl _) false).1
            refine ⟨_, ?_, sliceTo_sound hv hq⟩
            simp only [Instr.sliceAt, Sem.run_bind, run_und hu', Result.andThen_ok, Instr.sureAddr, Sem.run_pure, hs, run_size (hP.info _ _ hi)]
            congr 2
            split <;> rfl
    · cases h
  · rename_i hu
    have hu' := hP.und _ _ hu
    split at h
    · cases h
    · split at h
      · rename_i b
        split at h
        · cases h
        · rename_i l h' m hb
          cases h
          cases hx
          cases h3
          have hs := (abounds_sound (P := P) (w := w) hb h1 h2 .none (Nat.le_refl _) false).1
          rw [subB_eq]
          refine ⟨.string (b.extract l h'), ?_, .string _⟩
          simp only [Instr.sliceAt, Instr.slice, Sem.run_bind, run_und hu', Result.andThen_ok, hs, Sem.run_pure]
          simp [hs]
      · cases h
  · cases h

theorem aindexQ_sound (hP : TbOk P tb) {t : TypeId} {x c ix ci : Value} {out : QOut} (h : aindexQ tb t x ix = some out) (hx : VR φ x c) (hi : VR φ ix ci) : QV φ w out ((Instr.index t c ci).run P w) := by
  unfold aindexQ at h
  split at h
  · rename_i b
    split at h
    · rename_i hu
      split at h
      · cases h
      · rename_i k hk
        split at h
        · cases h
        · rename_i ch hc
          cases h
          cases hx
          obtain ⟨kd, rfl, hlt⟩ := aindexOf_spec hk hi
          refine ⟨.int .u8 ch.toNat, ?_, .int _ _⟩
          have hget : b[k] = ch := by
            have h1 : b.data.toList[k]? = some b[k] := by
              rw [Array.getElem?_toList]
              exact Array.getElem?_eq_getElem hlt
            rw [h1] at hc
            exact Option.some.inj hc
          simp [Instr.index, asIntOf, run_und (hP.und _ _ hu), hlt, hget]
    · cases h
  · exact oval_sound h fun v hv => aindexA_sound hP hv hx hi

theorem anilCheck_sound {x : Operand} {a v : Value} (h : anilCheck a = some v) (hx : VR φ a (σ x)) (w : World) (dst : Option Tmp) (type : TypeId) (pos : String) (after : Array Edge) (guard : Option (Nat × Bool)) :
    (execOp σ ⟨dst, .nilCheck x, type, pos, after, guard⟩).run P w = .ok (.value (σ x)) w ∧ VR φ v (σ x) := by
  unfold anilCheck at h
  simp only [execOp]
  generalize σ x = c at hx
  split at h
  · cases h; cases hx with | ptr _ _ _ hv => exact ⟨rfl, .ptr _ _ _ hv⟩
  · cases h; cases hx with | iface _ _ _ hh => exact ⟨rfl, .iface _ _ _ hh⟩
  · rename_i f fa fb
    cases h
    cases hx with
    | func _ fn' f1 f2 c1 c2 hf s1 s2 h1 h2 =>
      have hfn := hf
      cases hf with
      | same => exact ⟨rfl, .func _ _ _ _ _ _ hfn s1 s2 h1 h2⟩
  · cases h

theorem aqb_sound (hP : TbOk P tb) (r : Rel w0 φ s w) {b : Builtin} {ts : Array TypeId} {t : TypeId} {consts : Array Bool} {l : List Value} {cs : Array Value} {out : QOut} (h : aqb P tb s b ts t consts l = some out) (hl : VRL φ l cs.toList) :
    QR φ w out ((builtin b ts t consts cs).run P w) := by
  unfold aqb at h
  split at h
  · split at h
    · rename_i t0 tl x xl hts
      have ht : ts[0]? = some t0 := by rw [← Array.getElem?_toList, hts]; rfl
      cases hcs : cs.toList with
      | nil => rw [hcs] at hl; cases hl
      | cons c cl =>
        rw [hcs] at hl
        cases hl with
        | cons _ _ _ _ hv _ =>
          have hc : cs[0]? = some c := by rw [← Array.getElem?_toList, hcs]; rfl
          refine QV.lift (m := Builtin.len_ ts t cs) (oval_sound h fun v hv' => ?_)
          obtain ⟨e1, e2⟩ := alen_sound hP r hv' hv ht hc t
          exact ⟨v, e1, VR.of_plain φ v e2⟩
    · cases h
  · split at h
    · rename_i t0 tl x xl hts
      have ht : ts[0]? = some t0 := by rw [← Array.getElem?_toList, hts]; rfl
      cases hcs : cs.toList with
      | nil => rw [hcs] at hl; cases hl
      | cons c cl =>
        rw [hcs] at hl
        cases hl with
        | cons _ _ _ _ hv _ =>
          have hc : cs[0]? = some c := by rw [← Array.getElem?_toList, hcs]; rfl
          refine QV.lift (m := Builtin.cap_ ts t cs) (oval_sound h fun v hv' => ?_)
          obtain ⟨e1, e2⟩ := acap_sound (w := w) hP hv' hv ht hc t
          exact ⟨v, e1, VR.of_plain φ v e2⟩
    · cases h
  · split at h
    · rename_i x
      obtain ⟨cl⟩ := cs
      cases hl with
      | cons _ c _ m hv ht =>
        cases ht
        refine QV.lift (m := Builtin.unsafeSliceData_ ts t _) (oval_sound h fun v hv' => ?_)
        exact asliceData_sound r hv' hv ts t
    · cases h
  · cases hp : plainL l with
    | false => rw [hp] at h; cases h
    | true =>
      rw [hp] at h
      simp only [cond_true] at h
      have hcs : cs = l.toArray := by
        have h1 : VR φ (.agg l.toArray) (.agg cs) := .agg _ _ (by simpa using hl.length) (fun i x y hx hy => hl.at_ i x y (by simpa using hx) (by simpa using hy))
        have h2 := h1.eq_of_plain (by simpa [plain, plainA] using hp)
        cases h2; rfl
      subst hcs
      split at h
      · rename_i v hv
        cases hq : plain v with
        | false => rw [hq] at h; cases h
        | true => rw [hq] at h; cases h; exact ⟨v, pureRun_run _ hv w, VR.of_plain φ v hq⟩
      · cases h

theorem map_toList_parts (parts : Array (Nat × Operand)) (σ : Operand → Value) : (parts.map fun p => (p.1, σ p.2)).toList = parts.toList.map fun p => (p.1, σ p.2) := by simp


section
variable (σ : Operand → Value) (dst : Option Tmp) (type : TypeId) (pos : String) (after : Array Edge) (guard : Option (Nat × Bool))
theorem xo_alloc (t : TypeId) : execOp σ ⟨dst, .alloc t, type, pos, after, guard⟩ = (do pure (Next.value (← Instr.alloc t true (.tuple #[])))) := rfl
theorem xo_box (t : TypeId) (x : Operand) : execOp σ ⟨dst, .box t x, type, pos, after, guard⟩ = (do pure (Next.value (← Instr.box t (σ x)))) := rfl
theorem xo_build (t : TypeId) (parts : Array (Nat × Operand)) : execOp σ ⟨dst, .build t parts, type, pos, after, guard⟩ = (do pure (Next.value (← Instr.build t (parts.map fun p => (p.1, σ p.2))))) := rfl
theorem xo_buildSlice (t : TypeId) (len : Nat) (parts : Array (Nat × Operand)) : execOp σ ⟨dst, .buildSlice t len parts, type, pos, after, guard⟩ = (do pure (Next.value (← Instr.buildSlice t len (parts.map fun p => (p.1, σ p.2))))) := rfl
theorem xo_load (t : TypeId) (a : Operand) : execOp σ ⟨dst, .load t a, type, pos, after, guard⟩ = (do pure (Next.value (← Instr.loadAt t (σ a)))) := rfl
theorem xo_binOp (op : BinOp) (t : TypeId) (x y : Operand) (ty : TypeId) : execOp σ ⟨dst, .binOp op t x y ty, type, pos, after, guard⟩ = (do pure (Next.value (← (do eqGuard op t x y (σ x) (σ y); binOp op t (σ x) (σ y))))) := rfl
theorem xo_unOp (op : UnOp) (t : TypeId) (x : Operand) : execOp σ ⟨dst, .unOp op t x, type, pos, after, guard⟩ = (do pure (Next.value (← Op.unary op (σ x)))) := rfl
theorem xo_convert (a b : TypeId) (x : Operand) : execOp σ ⟨dst, .convert a b x, type, pos, after, guard⟩ = (do pure (Next.value (← convert a b (σ x)))) := rfl
theorem xo_makeInterface (t : TypeId) (x : Operand) : execOp σ ⟨dst, .makeInterface t x, type, pos, after, guard⟩ = (do pure (Next.value (← Instr.makeInterface t (σ x)))) := rfl
theorem xo_makeMap (t : TypeId) (r : Option Operand) : execOp σ ⟨dst, .makeMap t r, type, pos, after, guard⟩ = (do pure (Next.value (← Instr.makeMap t (r.map σ)))) := rfl
theorem xo_makeSlice (t : TypeId) (x y : Operand) : execOp σ ⟨dst, .makeSlice t x y, type, pos, after, guard⟩ = (do pure (Next.value (← Instr.makeSlice t (σ x) (σ y)))) := rfl
theorem xo_slice (t : TypeId) (x : Operand) (lo hi mx : Option Operand) : execOp σ ⟨dst, .slice t x lo hi mx, type, pos, after, guard⟩ = (do pure (Next.value (← Instr.sliceAt t (σ x) (lo.map σ) (hi.map σ) (mx.map σ)))) := rfl
theorem xo_fieldAddr (t : TypeId) (x : Operand) (f : Nat) : execOp σ ⟨dst, .fieldAddr t x f, type, pos, after, guard⟩ = (do pure (Next.value (← Instr.fieldAt t (σ x) f))) := rfl
theorem xo_field (t : TypeId) (x : Operand) (f : Nat) : execOp σ ⟨dst, .field t x f, type, pos, after, guard⟩ = (do pure (Next.value (← Instr.field t (σ x) f))) := rfl
theorem xo_indexAddr (t : TypeId) (x i : Operand) : execOp σ ⟨dst, .indexAddr t x i, type, pos, after, guard⟩ = (do pure (Next.value (← Instr.indexAt t (σ x) (σ i)))) := rfl
theorem xo_index (t : TypeId) (x i : Operand) : execOp σ ⟨dst, .index t x i, type, pos, after, guard⟩ = (do pure (Next.value (← Instr.index t (σ x) (σ i)))) := rfl
theorem xo_lookup (t : TypeId) (x i : Operand) (k : Bool) : execOp σ ⟨dst, .lookup t x i k, type, pos, after, guard⟩ = (do pure (Next.value (← Instr.lookup t (σ x) (σ i) k))) := rfl
theorem xo_entry (x : Operand) : execOp σ ⟨dst, .entry x, type, pos, after, guard⟩ = (do pure (Next.value (← Instr.entry (σ x)))) := rfl
theorem xo_typeAssert (x : Operand) (xt t : TypeId) (k : Bool) : execOp σ ⟨dst, .typeAssert x xt t k, type, pos, after, guard⟩ = (do pure (Next.value (← Instr.typeAssert (σ x) xt t k))) := rfl
theorem xo_extract (x : Operand) (k : Nat) : execOp σ ⟨dst, .extract x k, type, pos, after, guard⟩ = (do pure (Next.value (← Instr.extract (σ x) k))) := rfl
theorem xo_builtin (b : Builtin) (args : Array Operand) (argTypes : Array TypeId) : execOp σ ⟨dst, .call ⟨.builtin b, args, argTypes⟩, type, pos, after, guard⟩ = builtin b argTypes type (args.map fun | .const _ => true | _ => false) (args.map σ) := rfl
end

theorem oval_inv {x : Option Value} {out : QOut} (h : oval x = some out) : ∃ v, x = some v ∧ out = .val v := by
  cases x with
  | none => cases h
  | some v => cases h; exact ⟨v, rfl, rfl⟩

set_option maxHeartbeats 1000000 in
theorem aq_sound (hP : TbOk P tb) (r : Rel w0 φ s w) (hρ : RhoR φ ρ σ) {o : Oper} {out : QOut} (h : aq P tb s ρ o = some out) : QR φ w out ((execOp σ o).run P w) := by
  obtain ⟨dst, op, type, pos, after, guard⟩ := o
  cases op with
  | move x =>
    replace h : oval (ρ x) = some out := h
    obtain ⟨v, hv, rfl⟩ := oval_inv h
    exact ⟨σ x, rfl, hρ x v hv⟩
  | assign x =>
    replace h : oval (ρ x) = some out := h
    obtain ⟨v, hv, rfl⟩ := oval_inv h
    exact ⟨σ x, rfl, hρ x v hv⟩
  | pick c a b =>
    replace h : (match ρ c with | some (.bool t) => oval (bif t then ρ a else ρ b) | _ => none) = some out := h
    split at h
    · rename_i t hc
      have h1 := hρ c _ hc
      generalize hg : σ c = vc at h1
      cases h1
      obtain ⟨v, hv, rfl⟩ := oval_inv h
      cases t with
      | true => exact ⟨σ a, by simp [execOp, hg, asBool], hρ a v hv⟩
      | false => exact ⟨σ b, by simp [execOp, hg, asBool], hρ b v hv⟩
    · cases h
  | alloc t =>
    rw [xo_alloc]
    replace h : aalloc_ tb t = some out := h
    exact QV.lift (aalloc_sound hP h φ w)
  | box t x =>
    rw [xo_box]
    replace h : (match ρ x with | some v => abox tb t v | none => none) = some out := h
    split at h
    · rename_i v hv; exact QV.lift (abox_sound h (hρ x v hv) w)
    · cases h
  | build t parts =>
    rw [xo_build]
    replace h : (match aparts ρ parts.toList with | some l => oval (abuild tb t l) | none => none) = some out := h
    split at h
    · rename_i l hl
      refine QV.lift (m := Instr.build t (parts.map fun p => (p.1, σ p.2))) (oval_sound h fun v hv => ?_)
      exact abuild_sound hP hv (by rw [map_toList_parts]; exact aparts_sound hρ _ _ hl)
    · cases h
  | buildSlice t len parts =>
    rw [xo_buildSlice]
    replace h : (match aparts ρ parts.toList with | some l => abuildSlice tb t len l | none => none) = some out := h
    split at h
    · rename_i l hl
      have hq : PartsR φ l (parts.map fun p => (p.1, σ p.2)).toList := by rw [map_toList_parts]; exact aparts_sound hρ _ _ hl
      have hz := abuildSlice_sound (P := P) hP h hq w
      exact QV.lift hz
    · cases h
  | load t a =>
    rw [xo_load]
    replace h : (match ρ a with | some (.pointer (some ⟨v, o, none⟩)) => oval (aloadVar tb s t v o) | _ => none) = some out := h
    split at h
    · rename_i v o hv
      have h1 := hρ a _ hv
      refine QV.lift (m := Instr.loadAt t (σ a)) (oval_sound h fun x hx => ?_)
      generalize σ a = va at h1
      cases h1 with
      | ptr _ _ t' hv' =>
        obtain ⟨c, e1, e2⟩ := r.run_loadVar hP hv' hx
        exact ⟨c, by simp [Instr.loadAt, Instr.sureAddr, e1], e2⟩
    · cases h
  | nilCheck x =>
    replace h : (match ρ x with | some v => oval (anilCheck v) | none => none) = some out := h
    split at h
    · rename_i v hv
      obtain ⟨u, hu, rfl⟩ := oval_inv h
      obtain ⟨e1, e2⟩ := anilCheck_sound (P := P) hu (hρ x v hv) w dst type pos after guard
      exact ⟨σ x, e1, e2⟩
    · cases h
  | binOp op t x y ty =>
    rw [xo_binOp]
    replace h : (match ρ x, ρ y with | some a, some b => abinOp P tb s op t x y a b | _, _ => none) = some out := h
    split at h
    · rename_i a b ha hb
      exact QV.lift (m := do eqGuard op t x y (σ x) (σ y); binOp op t (σ x) (σ y)) (abinOp_sound hP r h (hρ x _ ha) (hρ y _ hb))
    · cases h
  | unOp op t x =>
    rw [xo_unOp]
    replace h : (match ρ x with | some a => bif plain a then pureVal P (Op.unary op a) else oval (asyNeg s.orc op a) | none => none) = some out := h
    split at h
    · rename_i a ha
      cases hp : plain a with
      | false =>
        rw [hp] at h
        exact QV.lift (m := Op.unary op (σ x)) (oval_sound h fun v hv => asyNeg_sound r.orc hv (hρ x _ ha))
      | true =>
        rw [hp] at h
        have := (hρ x _ ha).eq_of_plain hp
        refine QV.lift (m := Op.unary op (σ x)) ?_
        rw [this]
        exact pureVal_sound h φ w
    · cases h
  | convert src dst x =>
    rw [xo_convert]
    replace h : (match ρ x with | some a => aconvert P tb s src dst a | none => none) = some out := h
    split at h
    · rename_i a ha
      refine QV.lift (m := convert src dst (σ x)) ?_
      unfold aconvert at h
      cases hp : plain a with
      | true => rw [hp] at h; rw [(hρ x _ ha).eq_of_plain hp]; exact pureVal_sound h φ w
      | false =>
        rw [hp] at h
        simp only [cond_false] at h
        cases hsy : isSy a with
        | true =>
          rw [hsy] at h
          simp only [cond_true] at h
          split at h
          · rename_i d hsrc
            exact oval_sound h fun v hv => asyConv_sound hP hsrc hv (hρ x _ ha)
          · cases h
        | false =>
        rw [hsy] at h
        simp only [cond_false] at h
        split at h
        · rename_i v hv
          cases h
          obtain ⟨e1, e2⟩ := abytesToString_sound hP r hv (hρ x _ ha)
          exact ⟨v, e1, VR.of_plain φ v e2⟩
        · exact oval_sound h fun v hv => aptrConv_sound hP r hv (hρ x _ ha)
    · cases h
  | makeInterface t x =>
    rw [xo_makeInterface]
    replace h : (match ρ x with | some a => oval (amakeIface tb t a) | none => none) = some out := h
    split at h
    · rename_i a ha
      exact QV.lift (m := Instr.makeInterface t (σ x)) (oval_sound h fun v hv => amakeIface_sound hP hv (hρ x _ ha))
    · cases h
  | makeFunc fn first captured =>
    replace h : amakeFunc ρ fn first captured = some out := h
    unfold amakeFunc at h
    split at h
    · cases h
    · rename_i hne
      split at h
      · rename_i f c hf hc
        cases h
        refine ⟨.func fn (first.map σ) (captured.map σ), rfl, ?_⟩
        have h1 := (amap_sound hρ _ _ hf).array
        have h2 := (amap_sound hρ _ _ hc).array
        rw [show (first.toList.map σ).toArray = first.map σ by rw [← Array.toList_map]] at h1
        rw [show (captured.toList.map σ).toArray = captured.map σ by rw [← Array.toList_map]] at h2
        exact .func _ _ _ _ _ _ (.same fn (fun l e => hne l e)) h1.size h2.size h1.at_ h2.at_
      · cases h
  | makeMap t rs =>
    replace h : amakeMap tb ρ t rs = some out := h
    unfold amakeMap at h
    split at h
    · cases h
      exact ⟨.map #[] 0, .map _ _ _ .nil, by rw [xo_makeMap]; rfl⟩
    · rename_i x
      split at h
      · rename_i k n hx
        split at h
        · rename_i kt et hu
          cases h
          refine ⟨.map #[] 0, .map _ _ _ .nil, ?_⟩
          have h1 := hρ x _ hx
          generalize hg : σ x = vx at h1
          cases h1
          rw [xo_makeMap]
          simp [Instr.makeMap, hg, run_und (hP.und _ _ hu), asInt, asIntOf]
        · cases h
      · cases h
  | makeSlice t l c =>
    rw [xo_makeSlice]
    replace h : (match ρ l, ρ c with | some a, some b => amakeSlice tb t a b | _, _ => none) = some out := h
    split at h
    · rename_i a b ha hb
      exact QV.lift (m := Instr.makeSlice t (σ l) (σ c)) (amakeSlice_sound hP h (hρ l _ ha) (hρ c _ hb) w)
    · cases h
  | slice t x lo hi mx =>
    rw [xo_slice]
    replace h : (match ρ x, aopt ρ lo, aopt ρ hi, aopt ρ mx with | some a, some l, some h, some m => asliceQ P tb s t a l h m | _, _, _, _ => none) = some out := h
    split at h
    · rename_i a l hh m ha hl hhi hm
      exact QV.lift (m := Instr.sliceAt t (σ x) (lo.map σ) (hi.map σ) (mx.map σ)) (asliceQ_sound hP r h (hρ x _ ha) (aopt_sound hρ hl) (aopt_sound hρ hhi) (aopt_sound hρ hm))
    · cases h
  | fieldAddr t x f =>
    rw [xo_fieldAddr]
    replace h : (match ρ x with | some a => oval (afieldAddr tb t a f) | none => none) = some out := h
    split at h
    · rename_i a ha
      exact QV.lift (m := Instr.fieldAt t (σ x) f) (oval_sound h fun v hv => afieldAddr_sound hP hv (hρ x _ ha))
    · cases h
  | field t x f =>
    rw [xo_field]
    replace h : (match ρ x with | some a => oval (afield tb t a f) | none => none) = some out := h
    split at h
    · rename_i a ha
      exact QV.lift (m := Instr.field t (σ x) f) (oval_sound h fun v hv => afield_sound hP hv (hρ x _ ha))
    · cases h
  | indexAddr t x i =>
    rw [xo_indexAddr]
    replace h : (match ρ x, ρ i with | some a, some b => oval (aindexAddr tb t a b) | _, _ => none) = some out := h
    split at h
    · rename_i a b ha hb
      exact QV.lift (m := Instr.indexAt t (σ x) (σ i)) (oval_sound h fun v hv => aindexAddr_sound hP hv (hρ x _ ha) (hρ i _ hb))
    · cases h
  | index t x i =>
    rw [xo_index]
    replace h : (match ρ x, ρ i with | some a, some b => aindexQ tb t a b | _, _ => none) = some out := h
    split at h
    · rename_i a b ha hb
      exact QV.lift (m := Instr.index t (σ x) (σ i)) (aindexQ_sound hP h (hρ x _ ha) (hρ i _ hb))
    · cases h
  | lookup t x i k =>
    rw [xo_lookup]
    replace h : (match ρ x, ρ i with | some a, some b => oval (alookup P tb s t a b k) | _, _ => none) = some out := h
    split at h
    · rename_i a b ha hb
      exact QV.lift (m := Instr.lookup t (σ x) (σ i) k) (oval_sound h fun v hv => alookup_sound hP r hv (hρ x _ ha) (hρ i _ hb))
    · cases h
  | entry x =>
    rw [xo_entry]
    replace h : (match ρ x with | some a => oval (aentry s a) | none => none) = some out := h
    split at h
    · rename_i a ha
      exact QV.lift (m := Instr.entry (σ x)) (oval_sound h fun v hv => aentry_sound r hv (hρ x _ ha))
    · cases h
  | typeAssert x xt t k =>
    rw [xo_typeAssert]
    replace h : (match ρ x with | some a => oval (aassert tb a t k) | none => none) = some out := h
    split at h
    · rename_i a ha
      exact QV.lift (m := Instr.typeAssert (σ x) xt t k) (oval_sound h fun v hv => aassert_sound hP hv (hρ x _ ha))
    · cases h
  | extract x k =>
    rw [xo_extract]
    replace h : (match ρ x with | some a => oval (aextract a k) | none => none) = some out := h
    split at h
    · rename_i a ha
      exact QV.lift (m := Instr.extract (σ x) k) (oval_sound h fun v hv => aextract_sound hv (hρ x _ ha))
    · cases h
  | call c =>
    obtain ⟨callee, args, argTypes⟩ := c
    replace h : aqCall P tb s ρ ⟨callee, args, argTypes⟩ type = some out := h
    unfold aqCall at h
    simp only at h
    split at h
    · rename_i b
      split at h
      · rename_i l hl
        have hl' : VRL φ l (args.map σ).toList := by
          have := amap_sound hρ _ _ hl
          rw [Array.toList_map]; exact this
        rw [xo_builtin]
        exact aqb_sound hP r h hl'
      · cases h
    · cases h
  | _ => cases h
end
end Go.Proofs.YtbjickdjkgefcaaGreatDoor.Vai
