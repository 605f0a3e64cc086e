/- A part of an evaluator of the model's code whose answers are proved sound: no statement on the program stands here. -/
import Derived.Test.YtcmlomjdkjcjpaaGreatDoorVaiE
open Go Go.RowKit
namespace Go.Proofs.YtcmlomjdkjcjpaaGreatDoor.Vai
set_option linter.unusedVariables false
set_option linter.unusedSimpArgs false

inductive Shp where
  | ptr
  | slice (l c : Nat)
def Shp.val : Shp → Nat → Value
  | .ptr, b => .pointer (some ⟨b, 0, none⟩)
  | .slice l c, b => .slice (some ⟨b, 0, none⟩) l c

/-- What a quiet operation comes to: a value; a new block of cells and how it is handed on; a new object (a map). -/
inductive QOut where
  | val (v : Value)
  | new (elem es : Nat) (cells : List Value) (sh : Shp)
  | obj (o : AObj)

def QR (φ : Emb) (w : World) : QOut → Result Next → Prop
  | .val v, res => ∃ c, res = .ok (.value c) w ∧ VR φ v c
  | .new elem es cells sh, res => (∀ l c, sh = .slice l c → c ≠ INF) ∧ ∃ cs, VRL φ cells cs ∧ res = .ok (.value (sh.val w.heap.size)) (w.alloc (.cells cs.toArray elem))
  | .obj o, res => ∃ c, ObjR φ o c ∧ res = .ok (.value (.map (some w.heap.size))) (w.alloc c)

/-- The same of a Sem that yields a value. -/
def QV (φ : Emb) (w : World) : QOut → Result Value → Prop
  | .val v, res => ∃ c, res = .ok c w ∧ VR φ v c
  | .new elem es cells sh, res => (∀ l c, sh = .slice l c → c ≠ INF) ∧ ∃ cs, VRL φ cells cs ∧ res = .ok (sh.val w.heap.size) (w.alloc (.cells cs.toArray elem))
  | .obj o, res => ∃ c, ObjR φ o c ∧ res = .ok (.map (some w.heap.size)) (w.alloc c)

theorem QV.lift {P : Program} {φ : Emb} {w : World} {out : QOut} {m : Sem Value} (h : QV φ w out (m.run P w)) : QR φ w out ((do pure (Next.value (← m)) : Sem Next).run P w) := by
  cases out with
  | val v => obtain ⟨c, h1, h2⟩ := h; exact ⟨c, by simp [h1], h2⟩
  | new elem es cells sh => obtain ⟨h0, cs, h1, h2⟩ := h; exact ⟨h0, cs, h1, by simp [h2]⟩
  | obj o => obtain ⟨c, h1, h2⟩ := h; exact ⟨c, h1, by simp [h2]⟩

def pureVal (P : Program) (m : Sem Value) : Option QOut :=
  match pureRun P m with
  | some v => bif plain v then some (.val v) else none
  | none => none
theorem pureVal_sound {P : Program} {m : Sem Value} {out : QOut} (h : pureVal P m = some out) (φ : Emb) (w : World) : QV φ w out (m.run P w) := by
  unfold pureVal at h
  split at h
  · rename_i v hv
    cases hp : plain v with
    | false => rw [hp] at h; cases h
    | true => rw [hp] at h; cases h; exact ⟨v, pureRun_run m hv w, VR.of_plain φ v hp⟩
  · cases h

/-! ### slices of slices -/
def abound (v : Value) (y : Nat) : Option Nat :=
  match v with
  | .int _ i => match i with
    | .ofNat n => bif Nat.ble n y then some n else none
    | .negSucc _ => none
  | _ => none

theorem abound_sound {P : Program} {φ : Emb} {w : World} {v c : Value} {y y' n : Nat} (h : abound v y = some n) (hv : VR φ v c) (hy : y ≤ y') (code : BoundsCode) :
    (Instr.sliceBound c y' code).run P w = .ok n w ∧ n ≤ y := by
  unfold abound at h
  split at h
  · rename_i k i
    split at h
    · rename_i m
      cases hb : Nat.ble m y with
      | false => rw [hb] at h; cases h
      | true =>
        rw [hb] at h
        cases h
        have hle : n ≤ y := Nat.le_of_ble_eq_true hb
        cases hv
        refine ⟨?_, hle⟩
        have h2 : (0 : Int) ≤ Int.ofNat n ∧ Int.ofNat n ≤ (y' : Int) := ⟨by simp, by simp; omega⟩
        simp only [Instr.sliceBound, asIntOf, pure_bind]
        rw [if_pos h2]
        rfl
    · cases h
  · cases h

/-- Values that may be missing. -/
inductive VRO (φ : Emb) : Option Value → Option Value → Prop where
  | none : VRO φ none none
  | some (a c : Value) (h : VR φ a c) : VRO φ (some a) (some c)

def abounds (len g : Nat) (lo hi mx : Option Value) : Option (Nat × Nat × Option Nat) :=
  match (match mx with | some v => (match abound v g with | some m => some (some m) | none => none) | none => some none : Option (Option Nat)) with
  | none => none
  | some m => match (match hi with | some v => abound v (m.getD g) | none => (match mx with | some _ => none | none => some len) : Option Nat) with
    | none => none
    | some h => match (match lo with | some v => abound v h | none => some 0 : Option Nat) with
      | none => none
      | some l => some (l, h, m)

theorem abounds_sound {P : Program} {φ : Emb} {w : World} {len g g' : Nat} {lo hi mx lo' hi' mx' : Option Value} {l h : Nat} {m : Option Nat} (hh : abounds len g lo hi mx = some (l, h, m))
    (h1 : VRO φ lo lo') (h2 : VRO φ hi hi') (h3 : VRO φ mx mx') (hg : g ≤ g') (b : Bool) :
    (Instr.sliceBounds b len g' lo' hi' mx').run P w = .ok (l, h, m.getD g') w ∧ (lo = none → l = 0) ∧ (hi ≠ none ∨ lo = none ∨ l ≤ len) ∧ l ≤ h ∧ (hi ≠ none → h ≤ m.getD g) ∧ (∀ x, m = some x → x ≤ g ∧ h ≤ x) ∧ (hi = none → h = len) := by
  unfold abounds at hh
  split at hh
  · cases hh
  · rename_i m' hm
    split at hh
    · cases hh
    · rename_i h' hh'
      split at hh
      · cases hh
      · rename_i l' hl'
        simp only [Option.some.injEq, Prod.mk.injEq] at hh
        obtain ⟨rfl, rfl, rfl⟩ := hh
        have key : ∀ code, (match mx' with | some v => Instr.sliceBound v g' code | none => pure g' : Sem Nat).run P w = .ok (m'.getD g') w ∧ (∀ x, m' = some x → x ≤ g) ∧ (mx = none → m' = none) := by
          intro code
          cases h3 with
          | none => simp only [Option.some.injEq] at hm; subst hm; exact ⟨rfl, fun x h => (by cases h), fun _ => rfl⟩
          | some a c hv =>
            simp only at hm
            cases ha : abound a g with
            | none => rw [ha] at hm; cases hm
            | some x => rw [ha] at hm; cases hm; have := abound_sound (P := P) (w := w) ha hv hg code; exact ⟨this.1, fun y hy => (by cases hy; exact this.2), fun h => (by cases h)⟩
        have hlow : ∀ code, (match lo' with | some v => Instr.sliceBound v h' code | none => pure 0 : Sem Nat).run P w = .ok l' w ∧ (lo = none → l' = 0) ∧ l' ≤ h' := by
          intro code
          cases h1 with
          | none => simp only [Option.some.injEq] at hl'; subst hl'; exact ⟨rfl, fun _ => rfl, Nat.zero_le _⟩
          | some a c hv => have := abound_sound (P := P) (w := w) hl' hv (Nat.le_refl _) code; exact ⟨this.1, fun h => (by cases h), this.2⟩
        cases h2 with
        | none =>
          cases h3 with
          | some a c hv => simp at hh'
          | none =>
            simp only [Option.some.injEq] at hm hh'
            subst hm; subst hh'
            refine ⟨?_, (hlow .sliceB).2.1, .inr (.inr (hlow .sliceB).2.2), (hlow .sliceB).2.2, fun h => absurd rfl h, fun x h => (by cases h), fun _ => rfl⟩
            have hl0 := (hlow .sliceB).1
            cases lo' with
            | none => simp only [Sem.run_pure, Result.ok.injEq, and_true] at hl0; subst hl0; simp [Instr.sliceBounds]
            | some v => simp only at hl0; simp [Instr.sliceBounds, hl0]
        | some a c hv =>
          simp only at hh'
          have hx := fun code => abound_sound (P := P) (w := w) (y' := m'.getD g') hh' hv (by cases m' <;> simp [hg]) code
          refine ⟨?_, (hlow .sliceB).2.1, .inl (by simp), (hlow .sliceB).2.2, fun _ => (hx .slice3B).2, fun x h => ⟨(key .slice3Acap).2.1 x h, (by have := (hx .slice3B).2; subst h; exact this)⟩, fun h => (by cases h)⟩
          cases h3 with
          | none =>
            simp only [Option.some.injEq] at hm
            subst hm
            have hl0 := (hlow .sliceB).1
            have hx0 := fun code => (hx code).1
            simp only [Option.getD_none] at hx0
            cases lo' with
            | none => simp only [Sem.run_pure, Result.ok.injEq, and_true] at hl0; subst hl0; simp [Instr.sliceBounds, hx0]
            | some v => simp only at hl0; simp [Instr.sliceBounds, hl0, hx0]
          | some a2 c2 hv2 =>
            have hm0 := fun code => (key code).1
            simp only at hm0
            have hl0 := (hlow .slice3C).1
            have hx0 := fun code => (hx code).1
            cases lo' with
            | none => simp only [Sem.run_pure, Result.ok.injEq, and_true] at hl0; subst hl0; simp [Instr.sliceBounds, hm0, hx0]
            | some v => simp only at hl0; simp [Instr.sliceBounds, hm0, hl0, hx0]
end Go.Proofs.YtcmlomjdkjcjpaaGreatDoor.Vai
