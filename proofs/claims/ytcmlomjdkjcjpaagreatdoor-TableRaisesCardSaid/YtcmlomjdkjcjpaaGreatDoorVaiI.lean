/- A part of an evaluator of the model's code whose answers are proved sound: no statement on the program stands here. -/
import Derived.Test.YtcmlomjdkjcjpaaGreatDoorVaiH
import Derived.IntWalk
open Go Go.RowKit
namespace Go.Proofs.YtcmlomjdkjcjpaaGreatDoor.Vai
set_option linter.unusedVariables false
set_option linter.unusedSimpArgs false

section
variable {P : Program} {tb : Tb} {w0 : Base} {φ : Emb} {s : St} {w : World}

/-! ### rows of zero values -/
def repl : Nat → List Value → List Value
  | 0, _ => []
  | n + 1, l => l ++ repl n l
theorem repl_length (n : Nat) (l : List Value) : (repl n l).length = n * l.length := by
  induction n with
  | zero => simp [repl]
  | succ n ih => simp [repl, ih, Nat.succ_mul, Nat.add_comm]
theorem repl_get (n : Nat) (l : List Value) : ∀ i, i < n * l.length → (repl n l)[i]? = l[i % l.length]? := by
  induction n with
  | zero => intro i h; simp at h
  | succ n ih =>
    intro i h
    simp only [repl]
    by_cases hi : i < l.length
    · rw [List.getElem?_append_left hi, Nat.mod_eq_of_lt hi]
    · have hm : (n + 1) * l.length = n * l.length + l.length := Nat.succ_mul n l.length
      rw [List.getElem?_append_right (by omega), ih _ (by omega), ← Nat.mod_eq_sub_mod (by omega)]
theorem repl_range (n : Nat) (z : Array Value) (m : Nat) (hm : m = n * z.size) : ((Array.range m).map fun i => z[i % z.size]!) = (repl n z.toList).toArray := by
  subst hm
  apply Array.ext_getElem?
  intro i
  by_cases hi : i < n * z.size
  · have hpos : 0 < z.size := by
      rcases Nat.eq_zero_or_pos z.size with h | h
      · rw [h] at hi; simp at hi
      · exact h
    have hr := repl_get n z.toList i (by simpa using hi)
    have hlt : i % z.size < z.size := Nat.mod_lt _ hpos
    simp only [Array.getElem?_map, List.getElem?_toArray, hr, Array.length_toList, Array.getElem?_toList]
    rw [Array.getElem?_eq_getElem hlt]
    simp [hi, hlt]
  · rw [Array.getElem?_eq_none (by simp; omega), List.getElem?_toArray, List.getElem?_eq_none (by rw [repl_length]; simpa using hi)]
theorem plainA_list {a : Array Value} (h : plainA a = true) : plainL a.toList = true := by
  obtain ⟨l⟩ := a
  exact h
theorem plainL_append : ∀ (a b : List Value), plainL a = true → plainL b = true → plainL (a ++ b) = true := by
  intro a
  induction a with
  | nil => intro b _ h; exact h
  | cons v a ih => intro b h1 h2; simp only [plainL, List.cons_append, Bool.and_eq_true] at *; exact ⟨h1.1, ih b h1.2 h2⟩
theorem plainL_repl (n : Nat) (l : List Value) (h : plainL l = true) : plainL (repl n l) = true := by
  induction n with
  | zero => rfl
  | succ n ih => exact plainL_append _ _ h ih

/-! ### new blocks -/
def aalloc_ (tb : Tb) (t : TypeId) : Option QOut :=
  match tb.info.get t with
  | none => none
  | some i => match i.zero with
    | none => none
    | some z => bif plainA z.cells then some (.new t i.size z.cells.toList .ptr) else none
theorem aalloc_sound (hP : TbOk P tb) {t : TypeId} {out : QOut} (h : aalloc_ tb t = some out) (φ : Emb) (w : World) : QV φ w out ((Instr.alloc t true (.tuple #[])).run P w) := by
  unfold aalloc_ at h
  split at h
  · cases h
  · rename_i i hi
    split at h
    · cases h
    · rename_i z hz
      cases hp : plainA z.cells with
      | false => rw [hp] at h; cases h
      | true =>
        rw [hp] at h
        cases h
        have hl : VRL φ z.cells.toList z.cells.toList := (VRA.plain φ _ hp).list
        refine ⟨fun l c h => (by cases h), z.cells.toList, hl, ?_⟩
        simp [Instr.alloc, run_zero (hP.info _ _ hi) hz, newVar, newRow, Shp.val]

def abox (tb : Tb) (t : TypeId) (x : Value) : Option QOut :=
  match tb.info.get t with
  | none => none
  | some i => some (.new t i.size x.cells.toList .ptr)
theorem abox_sound {t : TypeId} {x c : Value} {out : QOut} (h : abox tb t x = some out) (hx : VR φ x c) (w : World) : QV φ w out ((Instr.box t c).run P w) := by
  unfold abox at h
  split at h
  · cases h
  · rename_i i hi
    cases h
    refine ⟨fun l c h => (by cases h), c.cells.toList, hx.cells.list, ?_⟩
    simp [Instr.box, newVar, newRow, Shp.val]

def amakeSlice (tb : Tb) (t : TypeId) (l c : Value) : Option QOut :=
  match tb.und.get t with
  | some (.slice elem) => match tb.info.get elem with
    | none => none
    | some i => match l, c with
      | .int _ (.ofNat l), .int _ (.ofNat c) =>
        bif Nat.ble l c && Nat.ble (i.bytes * c) 281474976710656 && Nat.blt c INF then
          match i.zero with
          | none => none
          | some z => bif plainA z.cells && Nat.beq z.cells.size i.size then some (.new elem i.size (repl c z.cells.toList) (.slice l c)) else none
        else none
      | _, _ => none
  | _ => none
theorem amakeSlice_sound (hP : TbOk P tb) {t : TypeId} {l c l' c' : Value} {out : QOut} (h : amakeSlice tb t l c = some out) (hl : VR φ l l') (hc : VR φ c c') (w : World) :
    QV φ w out ((Instr.makeSlice t l' c').run P w) := by
  unfold amakeSlice at h
  split at h
  · rename_i elem hu
    split at h
    · cases h
    · rename_i i hi
      split at h
      · rename_i k1 l k2 c
        cases hb : (Nat.ble l c && Nat.ble (i.bytes * c) 281474976710656 && Nat.blt c INF) with
        | false => rw [hb] at h; cases h
        | true =>
          rw [hb] at h
          simp only [cond_true] at h
          rw [Bool.and_eq_true, Bool.and_eq_true] at hb
          obtain ⟨⟨b1, b2⟩, b3⟩ := hb
          have b1 := Nat.le_of_ble_eq_true b1
          have b2 := Nat.le_of_ble_eq_true b2
          have b3 := blt_iff.1 b3
          split at h
          · cases h
          · rename_i z hz
            cases hp : (plainA z.cells && Nat.beq z.cells.size i.size) with
            | false => rw [hp] at h; cases h
            | true =>
              rw [hp] at h
              simp only [cond_true, Option.some.injEq] at h
              rw [Bool.and_eq_true] at hp
              subst h
              have hzs := beq_iff.1 hp.2
              cases hl
              cases hc
              have w1 : IntKind.i64.wrap ((l : Nat) : Int) = l := IntWalk.i64_in _ (by simp only [INF] at b3; omega)
              have w2 : IntKind.i64.wrap ((c : Nat) : Int) = c := IntWalk.i64_in _ (by simp only [INF] at b3; omega)
              refine ⟨fun l c h => (by cases h; omega), repl c z.cells.toList, VRL.plain _ (plainL_repl _ _ (plainA_list hp.1)), ?_⟩
              have e1 : ¬ ((i.bytes : Int) * (c : Int) > 281474976710656) := by
                have : (i.bytes : Int) * (c : Int) ≤ 281474976710656 := by rw [← Int.natCast_mul]; exact Int.ofNat_le.2 b2
                omega
              have e2 : ¬ ((l : Nat) : Int) > (c : Nat) := by omega
              simp only [Instr.makeSlice, Sem.run_bind, run_und (hP.und _ _ hu), Result.andThen_ok, asInt, asIntOf, Sem.run_pure, Sem.run_map, run_info (hP.info _ _ hi)]
              have g1 : IntKind.i64.wrap (Int.ofNat l) = (l : Int) := w1
              have g2 : IntKind.i64.wrap (Int.ofNat c) = (c : Int) := w2
              rw [g1, g2]
              have hcond : ((decide ((c : Int) < 0) || decide ((i.bytes : Int) * (c : Int) > 2 ^ 48)) || decide ((l : Int) < 0) || decide ((l : Int) > (c : Int))) = false := by
                simp; omega
              simp only [hcond]
              by_cases hn : c * i.size = 0
              · have : repl c z.cells.toList = [] := by
                  apply List.eq_nil_of_length_eq_zero
                  rw [repl_length, Array.length_toList, hzs]; exact hn
                simp [run_size (hP.info _ _ hi), hn, newRow, Shp.val, this, Array.range_zero']
              · simp [run_size (hP.info _ _ hi), hn, run_zero (hP.info _ _ hi) hz, newRow, Shp.val, repl_range c z.cells (c * i.size) (by rw [hzs])]
      · cases h
  · cases h

def abuildSlice (tb : Tb) (t : TypeId) (len : Nat) (parts : List (Nat × Value)) : Option QOut :=
  match tb.und.get t with
  | some (.slice elem) => match tb.info.get elem with
    | none => none
    | some i => bif Nat.ble (len * i.size) 16777216 && Nat.blt len INF then
        match i.zero with
        | none => none
        | some z => bif plainA z.cells && Nat.beq z.cells.size i.size then
            match Instr.fill (fun k => some (k * i.size, i.size)) (repl len z.cells.toList).toArray parts with
            | some cells => some (.new elem i.size cells.toList (.slice len len))
            | none => none
          else none
      else none
  | _ => none
theorem abuildSlice_sound (hP : TbOk P tb) {t : TypeId} {len : Nat} {ps : List (Nat × Value)} {qs : Array (Nat × Value)} {out : QOut} (h : abuildSlice tb t len ps = some out) (hx : PartsR φ ps qs.toList) (w : World) :
    QV φ w out ((Instr.buildSlice t len qs).run P w) := by
  unfold abuildSlice at h
  split at h
  · rename_i elem hu
    split at h
    · cases h
    · rename_i i hi
      cases hb : (Nat.ble (len * i.size) 16777216 && Nat.blt len INF) with
      | false => rw [hb] at h; cases h
      | true =>
        rw [hb] at h
        simp only [cond_true] at h
        rw [Bool.and_eq_true] at hb
        have b1 := Nat.le_of_ble_eq_true hb.1
        have b2 := blt_iff.1 hb.2
        split at h
        · cases h
        · rename_i z hz
          cases hp : (plainA z.cells && Nat.beq z.cells.size i.size) with
          | false => rw [hp] at h; cases h
          | true =>
            rw [hp] at h
            simp only [cond_true] at h
            rw [Bool.and_eq_true] at hp
            have hzs := beq_iff.1 hp.2
            split at h
            · rename_i cells hf
              cases h
              have hzr : VRA φ (repl len z.cells.toList).toArray (repl len z.cells.toList).toArray :=
                (VRL.plain _ (plainL_repl _ _ (plainA_list hp.1))).array
              obtain ⟨out', h1, h2⟩ := fill_rel _ _ _ _ _ _ hx hzr hf
              refine ⟨fun l c h => (by cases h; omega), out'.toList, h2.list, ?_⟩
              have e0 : ¬ (len * i.size > 2 ^ 24) := by omega
              by_cases hn : len * i.size = 0
              · have e1 : repl len z.cells.toList = [] := by
                  apply List.eq_nil_of_length_eq_zero
                  rw [repl_length, Array.length_toList, hzs]; exact hn
                rw [e1] at h1
                simp [Instr.buildSlice, run_und (hP.und _ _ hu), run_size (hP.info _ _ hi), hn, h1, newRow, Shp.val, Array.range_zero']
              · simp [Instr.buildSlice, run_und (hP.und _ _ hu), run_size (hP.info _ _ hi), e0, hn, run_zero (hP.info _ _ hi) hz, repl_range len z.cells (len * i.size) (by rw [hzs]), h1, newRow, Shp.val]
            · cases h
  · cases h

/-! ### comparisons with nil -/
def aeqNil (d : TypeDesc) (x y : Value) : Option Bool :=
  match d with
  | .pointer _ => match x, y with
    | .pointer none, .pointer b => some b.isNone
    | .pointer (some _), .pointer none => some false
    | _, _ => none
  | .slice _ => match x, y with
    | .slice none _ _, .slice b _ _ => some b.isNone
    | .slice (some _) _ _, .slice none _ _ => some false
    | _, _ => none
  | .map _ _ => match x, y with
    | .map none, .map b => some b.isNone
    | .map (some _), .map none => some false
    | _, _ => none
  | .func _ _ _ => match x, y with
    | .nilFunc, .nilFunc => some true
    | .nilFunc, .func _ _ _ => some false
    | .func _ _ _, .nilFunc => some false
    | _, _ => none
  | .interface _ => match x, y with
    | .nilIface, .iface _ _ => some false
    | .iface _ _, .nilIface => some false
    | _, _ => none
  | _ => none

theorem aeqNil_sound {t : TypeId} {d : TypeDesc} (hu : P.underlying t = some d) {x y c e : Value} {b : Bool} (h : aeqNil d x y = some b) (hx : VR φ x c) (hy : VR φ y e) (w : World) :
    (Op.equal t c e).run P w = .ok b w := by
  obtain ⟨n, h0⟩ : ∃ n, Op.maxDepth = n + 1 := ⟨9999, rfl⟩
  unfold aeqNil at h
  unfold Op.equal
  rw [h0]
  simp only [Op.equalIn, Sem.run_bind, run_und hu, Result.andThen_ok]
  split at h <;> first | (cases h; done) | (split at h <;> first | (cases h; done) | (cases h; cases hx <;> cases hy <;> rfl))

def aeq (tb : Tb) (op : BinOp) (t : TypeId) (x y : Value) : Option Value :=
  match tb.und.get t with
  | none => none
  | some d => match aeqNil d x y with
    | none => none
    | some b => match op with
      | .eql => some (.bool b)
      | .neq => some (.bool !b)
      | _ => none
end
end Go.Proofs.YtcmlomjdkjcjpaaGreatDoor.Vai
