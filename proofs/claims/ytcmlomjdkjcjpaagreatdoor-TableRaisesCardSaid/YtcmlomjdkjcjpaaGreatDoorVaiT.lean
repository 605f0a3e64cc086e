/- A part of an evaluator of the model's code whose answers are proved sound: no statement on the program stands here. -/
import Derived.Test.YtcmlomjdkjcjpaaGreatDoorVaiS
open Go Go.RowKit
namespace Go.Proofs.YtcmlomjdkjcjpaaGreatDoor.Vai
set_option linter.unusedVariables false
set_option linter.unusedSimpArgs false

theorem veq_sound : ∀ (a b : Value), veq a b = true → a = b := by
  intro a
  refine Value.rec (motive_1 := fun a => ∀ b, veq a b = true → a = b) (motive_2 := fun a => ∀ b, veqA a b = true → a = b) (motive_3 := fun a => ∀ b, veqL a b = true → a = b) ?_ ?_ ?_ ?_ ?_ ?_ ?_ ?_ ?_ ?_ ?_ ?_ ?_ ?_ ?_ ?_ ?_ ?_ a
  · intro x b h; cases b <;> simp [veq] at h; rw [h]
  · intro k x b h; cases b <;> simp [veq] at h; rw [h.1, h.2]
  · intro k x b h; cases b <;> simp [veq] at h; rw [h.1, h.2]
  · intro k x y b h; cases b <;> simp [veq] at h; rw [h.1.1, h.1.2, h.2]
  · intro x b h
    cases b <;> simp [veq] at h
    rename_i y
    obtain ⟨x⟩ := x; obtain ⟨y⟩ := y
    simp at h
    rw [h]
  · intro x b h; cases b <;> simp [veq] at h; rw [h]
  · intro x y z b h; cases b <;> simp [veq] at h; rw [h.1.1, h.1.2, h.2]
  · intro x b h; cases b <;> simp [veq] at h; rw [h]
  · intro x b h; cases b <;> simp [veq] at h; rw [h]
  · intro f x y i1 i2 b h; cases b <;> simp [veq] at h; rw [h.1.1, i1 _ h.1.2, i2 _ h.2]
  · intro b h; cases b <;> simp [veq] at h; rfl
  · intro t v ih b h; cases b <;> simp [veq] at h; rw [h.1, ih _ h.2]
  · intro b h; cases b <;> simp [veq] at h; rfl
  · intro x ih b h; cases b <;> simp [veq] at h; rw [ih _ h]
  · intro x ih b h; cases b <;> simp [veq] at h; rw [ih _ h]
  · intro l ih b h; obtain ⟨m⟩ := b; simp [veqA] at h; rw [ih _ h]
  · intro b h; cases b <;> simp [veqL] at h; rfl
  · intro v l i1 i2 b h; cases b <;> simp [veqL] at h; rw [i1 _ h.1, i2 _ h.2]
theorem veqL_sound : ∀ (l m : List Value), veqL l m = true → l = m := by
  intro l
  induction l with
  | nil => intro m h; cases m <;> simp [veqL] at h; rfl
  | cons a l ih => intro m h; cases m <;> simp [veqL] at h; rw [veq_sound _ _ h.1, ih _ h.2]

def sheq : Shp → Shp → Bool
  | .ptr, .ptr => true
  | .slice a b, .slice c d => Nat.beq a c && Nat.beq b d
  | _, _ => false
def oeq : AObj → AObj → Bool
  | .map [] a, .map [] b => Nat.beq a b
  | _, _ => false
theorem oeq_sound {a b : AObj} (h : oeq a b = true) : a = b := by
  unfold oeq at h
  split at h
  · rw [Nat.eq_of_beq_eq_true h]
  · cases h
def qeq : QOut → QOut → Bool
  | .val a, .val b => veq a b
  | .new e n c sh, .new f m d sk => Nat.beq e f && Nat.beq n m && veqL c d && sheq sh sk
  | .obj a, .obj b => oeq a b
  | _, _ => false
theorem qeq_sound {a b : QOut} (h : qeq a b = true) : a = b := by
  cases a with
  | val x => cases b <;> simp [qeq] at h; rw [veq_sound _ _ h]
  | new e n c sh =>
    cases b with
    | val => cases h
    | obj => cases h
    | new f m d sk =>
      simp only [qeq, Bool.and_eq_true] at h
      obtain ⟨⟨⟨h1, h2⟩, h3⟩, h4⟩ := h
      rw [Nat.eq_of_beq_eq_true h1, Nat.eq_of_beq_eq_true h2, veqL_sound _ _ h3]
      congr 1
      cases sh with
      | ptr =>
        cases sk with
        | ptr => rfl
        | slice => cases h4
      | slice =>
        cases sk with
        | ptr => cases h4
        | slice => simp only [sheq, Bool.and_eq_true] at h4; rw [Nat.eq_of_beq_eq_true h4.1, Nat.eq_of_beq_eq_true h4.2]
  | obj o =>
    cases b with
    | val => cases h
    | new => cases h
    | obj o' => rw [oeq_sound h]

/-! ### which operations wait for which -/
def maskE (acc : T Nat) : List Edge → Nat → Nat
  | [], m => m
  | e :: l, m => maskE acc l (bif Region.binds .any e then Nat.lor m (Nat.lor (Nat.shiftLeft 1 e.on) (match acc.get e.on with | some x => x | none => 0)) else m)
def masks : List Oper → Nat → T Nat → T Nat
  | [], _, acc => acc
  | o :: l, i, acc => masks l (i + 1) (acc.set i (maskE acc o.after.toList 0))
/-- 'i' before 'j'. -/
def isBef (M : T Nat) (i j : Nat) : Bool := match M.get j with
  | some m => Nat.testBit m i
  | none => false

/-- 'i' comes up ahead of 'j', whatever the order. -/
inductive Bef (ops : List Oper) : Nat → Nat → Prop where
  | edge (j : Nat) (o : Oper) (e : Edge) (ho : ops[j]? = some o) (he : e ∈ o.after) (hb : Region.binds .any e = true) : Bef ops e.on j
  | trans (i j k : Nat) (h : Bef ops i j) (h' : Bef ops j k) : Bef ops i k

theorem maskE_spec (ops : List Oper) (j : Nat) (o : Oper) (ho : ops[j]? = some o) (acc : T Nat) (hacc : ∀ i m x, acc.get i = some m → Nat.testBit m x = true → Bef ops x i) :
    ∀ (l : List Edge) (m : Nat), (∀ e ∈ l, e ∈ o.after) → (∀ x, Nat.testBit m x = true → Bef ops x j) → ∀ x, Nat.testBit (maskE acc l m) x = true → Bef ops x j := by
  intro l
  induction l with
  | nil => intro m _ hm x hx; exact hm x hx
  | cons e l ih =>
    intro m hl hm x hx
    simp only [maskE] at hx
    refine ih _ (fun e' he' => hl e' (List.mem_cons_of_mem _ he')) ?_ x hx
    intro y hy
    cases hb : Region.binds .any e with
    | false => rw [hb] at hy; exact hm y hy
    | true =>
      rw [hb] at hy
      simp only [cond_true] at hy
      have hy' : Nat.testBit (m ||| ((1 <<< e.on) ||| (match acc.get e.on with | some x => x | none => 0))) y = true := hy
      rw [Nat.testBit_or, Nat.testBit_or, Bool.or_eq_true, Bool.or_eq_true] at hy'
      have hed : Bef ops e.on j := .edge j o e ho (hl e (List.mem_cons_self ..)) hb
      rcases hy' with h | h | h
      · exact hm y h
      · have : y = e.on := by
          rw [Nat.testBit_shiftLeft] at h
          simp only [Bool.and_eq_true, decide_eq_true_eq] at h
          have h1 := h.2
          by_cases e0 : y - e.on = 0
          · omega
          · exfalso
            rw [Nat.testBit_lt_two_pow (Nat.one_lt_two_pow e0)] at h1
            cases h1
        rw [this]; exact hed
      · cases hg : acc.get e.on with
        | none => rw [hg] at h; simp at h
        | some q => rw [hg] at h; exact .trans _ _ _ (hacc e.on q y hg h) hed

theorem masks_spec (ops : List Oper) : ∀ (l : List Oper) (i : Nat) (acc : T Nat), (∀ j o, l[j]? = some o → ops[i + j]? = some o) → (∀ k m x, acc.get k = some m → Nat.testBit m x = true → Bef ops x k) →
    ∀ k m x, (masks l i acc).get k = some m → Nat.testBit m x = true → Bef ops x k := by
  intro l
  induction l with
  | nil => intro i acc _ hacc; exact hacc
  | cons o l ih =>
    intro i acc hl hacc
    simp only [masks]
    refine ih (i + 1) _ (fun j o' hj => by have := hl (j + 1) o' (by simpa using hj); rw [show i + 1 + j = i + (j + 1) by omega]; exact this) ?_
    intro k m x hk hx
    by_cases e : k = i
    · subst e
      rw [T.get_set_same] at hk
      cases hk
      exact maskE_spec ops k o (by have := hl 0 o rfl; simpa using this) acc hacc _ 0 (fun e he => by simpa using he) (fun x h => by simp at h) x hx
    · rw [T.get_set_other _ _ e] at hk
      exact hacc k m x hk hx

theorem isBef_spec (ops : List Oper) {i j : Nat} (h : isBef (masks ops 0 .nil) i j = true) : Bef ops i j := by
  unfold isBef at h
  split at h
  · rename_i m hm
    exact masks_spec ops ops 0 .nil (fun j o h => by simpa using h) (fun k m x hk => by simp [T.get] at hk) j m i hm h
  · cases h

/-! ### the static look at a region -/
def edgesDown (i : Nat) : List Edge → Bool
  | [] => true
  | e :: l => (bif Region.binds .any e then Nat.blt e.on i else true) && edgesDown i l
/-- Of two operations that do not wait for each other neither looks at what the other writes. -/
def apartFrom (ops : Array Oper) (M : T Nat) (j : Nat) (y : Oper) : Nat → List Oper → Bool
  | _, [] => true
  | i, x :: l => (bif Nat.blt i j then ((isBef M i j || x.apart ops y) && !(match x.dst, y.dst with | some a, some b => Nat.beq a b | _, _ => false)) else true) && apartFrom ops M j y (i + 1) l
def regAll (ops : Array Oper) (M : T Nat) : Nat → List Oper → Bool
  | _, [] => true
  | j, y :: l => edgesDown j y.after.toList && apartFrom ops M j y 0 ops.toList && regAll ops M (j + 1) l
def regOk (ops : Array Oper) : Bool := regAll ops (masks ops.toList 0 .nil) 0 ops.toList

theorem edgesDown_spec {i : Nat} : ∀ (l : List Edge), edgesDown i l = true → ∀ e ∈ l, Region.binds .any e = true → e.on < i := by
  intro l
  induction l with
  | nil => intro _ e he; cases he
  | cons d l ih =>
    intro h e he hb
    simp only [edgesDown, Bool.and_eq_true] at h
    rcases List.mem_cons.1 he with rfl | he
    · rw [hb] at h; exact blt_iff.1 h.1
    · exact ih h.2 e he hb
theorem apartFrom_spec {ops : Array Oper} {M : T Nat} {j : Nat} {y : Oper} : ∀ (l : List Oper) (i : Nat), apartFrom ops M j y i l = true → ∀ k x, l[k]? = some x → i + k < j → (isBef M (i + k) j = true ∨ x.apart ops y = true) ∧ ∀ a, x.dst = some a → y.dst ≠ some a := by
  intro l
  induction l with
  | nil => intro i _ k x h; simp at h
  | cons z l ih =>
    intro i h k x hk hlt
    simp only [apartFrom, Bool.and_eq_true] at h
    cases k with
    | zero =>
      simp at hk; subst hk
      have h1 := h.1
      rw [blt_iff.2 (by omega : i < j)] at h1
      simp only [cond_true, Bool.or_eq_true, Bool.and_eq_true] at h1
      obtain ⟨h1, h2⟩ := h1
      refine ⟨by simpa using h1, fun a ha hb => ?_⟩
      rw [ha, hb] at h2
      simp at h2
    | succ k =>
      have := ih (i + 1) h.2 k x (by simpa using hk) (by omega)
      rw [show i + 1 + k = i + (k + 1) by omega] at this
      exact this
theorem regAll_spec {ops : Array Oper} {M : T Nat} : ∀ (l : List Oper) (j : Nat), regAll ops M j l = true → ∀ k y, l[k]? = some y → edgesDown (j + k) y.after.toList = true ∧ apartFrom ops M (j + k) y 0 ops.toList = true := by
  intro l
  induction l with
  | nil => intro j _ k y h; simp at h
  | cons z l ih =>
    intro j h k y hk
    simp only [regAll, Bool.and_eq_true] at h
    cases k with
    | zero => simp at hk; subst hk; exact h.1
    | succ k =>
      have := ih (j + 1) h.2 k y (by simpa using hk)
      rw [show j + 1 + k = j + (k + 1) by omega] at this
      exact this

structure RegOk (ops : Array Oper) : Prop where
  uniq : ∀ (i j : Nat) (x y : Oper), ops[i]? = some x → ops[j]? = some y → i ≠ j → ∀ d, x.dst = some d → y.dst ≠ some d
  down : ∀ j y, ops[j]? = some y → ∀ e ∈ y.after, Region.binds .any e = true → e.on < j
  apart : ∀ i j x y, ops[i]? = some x → ops[j]? = some y → i ≠ j → Bef ops.toList i j ∨ Bef ops.toList j i ∨ ((∀ d, x.dst = some d → d ∉ y.looksAt ops) ∧ (∀ d, x.dst = some d → y.dst ≠ some d) ∧ (∀ d, y.dst = some d → d ∉ x.looksAt ops))

theorem regOk_spec {ops : Array Oper} (h : regOk ops = true) : RegOk ops := by
  have hl : ∀ (k : Nat) (y : Oper), ops[k]? = some y → ops.toList[k]? = some y := fun k y hy => by rw [Array.getElem?_toList]; exact hy
  refine ⟨?_, fun j y hy e he hb => ?_, ?_⟩
  · have key : ∀ (i j : Nat) (x y : Oper), ops[i]? = some x → ops[j]? = some y → i < j → ∀ d, x.dst = some d → y.dst ≠ some d := by
      intro i j x y hx hy hlt
      have h1 := (regAll_spec _ 0 h j y (hl _ _ hy)).2
      rw [Nat.zero_add] at h1
      exact (apartFrom_spec _ 0 h1 i x (hl _ _ hx) (by omega)).2
    intro i j x y hx hy hne d a b
    rcases Nat.lt_or_ge i j with h1 | h1
    · exact key i j x y hx hy h1 d a b
    · exact key j i y x hy hx (by omega) d b a
  · have := (regAll_spec _ 0 h j y (hl _ _ hy)).1
    rw [Nat.zero_add] at this
    exact edgesDown_spec _ this e (by simpa using he) hb
  · have key : ∀ i j x y, ops[i]? = some x → ops[j]? = some y → i < j → Bef ops.toList i j ∨ ((∀ d, x.dst = some d → d ∉ y.looksAt ops) ∧ (∀ d, x.dst = some d → y.dst ≠ some d) ∧ (∀ d, y.dst = some d → d ∉ x.looksAt ops)) := by
      intro i j x y hx hy hlt
      have h1 := (regAll_spec _ 0 h j y (hl _ _ hy)).2
      rw [Nat.zero_add] at h1
      rcases (apartFrom_spec _ 0 h1 i x (hl _ _ hx) (by omega)).1 with h2 | h2
      · rw [Nat.zero_add] at h2; exact .inl (isBef_spec _ h2)
      · exact .inr (Oper.apart_spec h2)
    intro i j x y hx hy hne
    rcases Nat.lt_or_ge i j with h1 | h1
    · rcases key i j x y hx hy h1 with h2 | h2
      · exact .inl h2
      · exact .inr (.inr h2)
    · rcases key j i y x hy hx (by omega) with h2 | ⟨h2, h3, h4⟩
      · exact .inr (.inl h2)
      · exact .inr (.inr ⟨h4, fun d a b => h3 d b a, h2⟩)

theorem RegOk.bef_lt {ops : Array Oper} (h : RegOk ops) {i j : Nat} (b : Bef ops.toList i j) : i < j := by
  induction b with
  | edge j o e ho he hb => exact h.down j o (by rw [← Array.getElem?_toList]; exact ho) e he hb
  | trans i j k _ _ i1 i2 => omega
end Go.Proofs.YtcmlomjdkjcjpaaGreatDoor.Vai
