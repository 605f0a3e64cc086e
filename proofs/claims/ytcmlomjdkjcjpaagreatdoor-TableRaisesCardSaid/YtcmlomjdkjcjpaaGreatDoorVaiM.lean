/- A part of an evaluator of the model's code whose answers are proved sound: no statement on the program stands here. -/
import Derived.Test.YtcmlomjdkjcjpaaGreatDoorVaiL
import Derived.Deep.AppendSrc
open Go Go.RowKit
namespace Go.Proofs.YtcmlomjdkjcjpaaGreatDoor.Vai
set_option linter.unusedVariables false
set_option linter.unusedSimpArgs false

section
variable {P : Program} {tb : Tb} {w0 : Base} {φ : Emb} {s : St} {w : World}

/-! ### what is appended or copied -/
def aelems (s : St) (es n : Nat) (x : Value) : Option (List Value) :=
  match x with
  | .slice none _ _ => some []
  | .slice (some ⟨v, o, none⟩) _ _ => aloadN s v o (n * es)
  | .string b => bif Nat.beq es 1 then some ((b.data.toList.take n).map fun c => .int .u8 c.toNat) else none
  | _ => none
def alenOf (x : Value) : Option Nat :=
  match x with
  | .slice none n _ => bif Nat.beq n 0 then some 0 else none
  | .slice (some _) n _ => some n
  | .string b => some b.size
  | _ => none

theorem alenOf_sound {x c : Value} {n : Nat} (h : alenOf x = some n) (hx : VR φ x c) (w : World) : (Builtin.lenOf c).run P w = .ok n w := by
  unfold alenOf at h
  split at h
  · rename_i m k
    cases hb : Nat.beq m 0 with
    | false => rw [hb] at h; cases h
    | true => rw [hb] at h; cases h; cases hx; rw [beq_iff.1 hb]; rfl
  · cases h; cases hx; rfl
  · cases h; cases hx; rfl
  · cases h

theorem plainL_bytes (l : List UInt8) : plainL (l.map fun c => Value.int .u8 c.toNat) = true := by
  induction l with
  | nil => rfl
  | cons a l ih => simp [plainL, plain, ih]

theorem aelems_sound (r : Rel w0 φ s w) {es n m : Nat} {x c : Value} {l : List Value} (h : aelems s es n x = some l) (hm : alenOf x = some m) (hn : n ≤ m) (hx : VR φ x c) :
    ∃ cs, VRL φ l cs ∧ cs.length = n * es ∧ ∀ w' : World, (∀ a, w'.cell? a = w.cell? a) → (Builtin.firstCells es n c).run P w' = .ok cs.toArray w' := by
  unfold aelems at h
  split at h
  · cases h
    unfold alenOf at hm
    simp only at hm
    rename_i k k2
    cases hb : Nat.beq k 0 with
    | false => rw [hb] at hm; cases hm
    | true =>
      rw [hb] at hm
      cases hm
      cases hx
      have : n = 0 := by omega
      subst this
      exact ⟨[], .nil, by simp, fun _ _ => rfl⟩
  · cases hx with
    | slice _ _ t' _ _ c' hv g1 g2 =>
      obtain ⟨cs, h1, h2, h3⟩ := r.loadN hv _ _ _ h
      refine ⟨cs, h1, h2, fun w' hw => ?_⟩
      have := run_loadCells_list (P := P) w' ⟨t'.blk, _, none⟩ cs (fun j v hj => by rw [hw]; exact h3 j v hj)
      rw [h2] at this
      exact this
  · rename_i b
    cases hb : Nat.beq es 1 with
    | false => rw [hb] at h; cases h
    | true =>
      rw [hb] at h
      simp only [cond_true, Option.some.injEq] at h
      subst h
      have e := beq_iff.1 hb
      subst e
      cases hx
      unfold alenOf at hm
      simp only [Option.some.injEq] at hm
      refine ⟨_, VRL.plain _ (plainL_bytes _), ?_, fun w' hw => ?_⟩
      · simp only [List.length_map, List.length_take, Array.length_toList, Nat.mul_one]
        have : b.data.size = b.size := rfl
        omega
      · simp only [Builtin.firstCells, Sem.run_pure, Result.ok.injEq, and_true]
        apply Array.ext'
        simp [ByteArray.data_extract, List.map_take]
  · cases h


def allOne : List Value → Bool
  | [] => true
  | v :: l => oneCell v && allOne l
theorem allOne_spec : ∀ (l cs : List Value), allOne l = true → VRL φ l cs → ∀ u ∈ cs, u.oneCell' = true := by
  intro l
  induction l with
  | nil => intro cs _ h u hu; cases h; cases hu
  | cons a l ih =>
    intro cs ho h u hu
    cases h with
    | cons _ c _ m hv ht =>
      simp only [allOne, Bool.and_eq_true] at ho
      rcases List.mem_cons.1 hu with rfl | hu
      · have := oneCell_rel hv ho.1
        cases u <;> first | rfl | cases this
      · exact ih m ho.2 ht u hu

theorem setCells_row (b : Nat) (e : TypeId) (fr : Nat × Nat) : ∀ (vs : List Value) (o : Nat) (w : World) (c : Array Value), w.heap[b]? = some (.cells c e fr) → o + vs.length ≤ c.size →
    ∃ c2, (w.setCells b o vs).heap[b]? = some (.cells c2 e fr) ∧ c2.size = c.size ∧ (∀ k, k < o ∨ o + vs.length ≤ k → c2[k]? = c[k]?) ∧ (∀ k x, vs[k]? = some x → c2[o + k]? = some x) ∧
      (∀ b' ob, w.heap[b']? = some ob → b' ≠ b → (w.setCells b o vs).heap[b']? = some ob) ∧ (w.setCells b o vs).os = w.os ∧ (w.setCells b o vs).tape = w.tape ∧ (w.setCells b o vs).output = w.output ∧ (w.setCells b o vs).heap.size = w.heap.size := by
  intro vs
  induction vs with
  | nil => intro o w c h hl; exact ⟨c, h, rfl, fun _ _ => rfl, fun k x hk => by simp at hk, fun _ _ h _ => h, rfl, rfl, rfl, rfl⟩
  | cons v vs ih =>
    intro o w c h hl
    simp only [List.length_cons] at hl
    obtain ⟨c2, h1, h2, h3, h4, h5, h6, h7, h8, h9⟩ := ih (o + 1) (w.setCell ⟨b, o, none⟩ v) (c.setIfInBounds o v) (heap_setCell_at h) (by simp; omega)
    refine ⟨c2, h1, by rw [h2]; simp, ?_, ?_, ?_, h6, h7, h8, by rw [World.setCells, h9]; simp [World.setCell]⟩
    · intro k hk
      simp only [List.length_cons] at hk
      rw [h3 k (by omega), Array.getElem?_setIfInBounds_ne (by omega)]
    · intro k x hk
      cases k with
      | zero =>
        simp at hk; subst hk
        rw [Nat.add_zero, h3 o (by omega)]
        exact Array.getElem?_setIfInBounds_self_of_lt (by omega)
      | succ k =>
        have := h4 k x (by simpa using hk)
        rw [show o + (k + 1) = o + 1 + k by omega]; exact this
    · intro b' ob hb hne
      exact h5 b' ob (by rw [heap_setCell_ne hne]; exact hb) hne

/-! ### append -/
def growRow (tb : Tb) (i : TypeInfo) (need : Nat) : Bool :=
  match i.zero with
  | none => false
  | some z => Nat.beq z.cells.size i.size && Nat.blt 0 i.size && Nat.ble (need * i.bytes) 140737488355328 && Nat.blt need INF

def srcKind (tb : Tb) (t : TypeId) : Bool :=
  match tb.und.get t with
  | some (.slice _) => true
  | some .string => true
  | _ => false

def aappend (tb : Tb) (s : St) (ts : List TypeId) (args : List Value) : Option (Value × St) :=
  match ts, args with
  | [t, tx], [.slice base sLen sCap, x] => match tb.und.get t with
    | some (.slice elem) => match tb.info.get elem with
      | none => none
      | some i => bif srcKind tb tx then
          match alenOf x with
          | none => none
          | some n => match aelems s i.size n x with
            | none => none
            | some new => bif allOne new then
                match base with
                | none => bif Nat.beq sLen 0 && Nat.beq sCap 0 then
                    bif Nat.beq n 0 then some (.slice none 0 0, s)
                    else bif growRow tb i n then some (.slice (some ⟨s.next, 0, none⟩) n INF, aallocX s elem i.size new new.length false false) else none
                  else none
                | some ⟨v, o, none⟩ => bif Nat.beq sCap INF then
                    match s.views.get v with
                    | none => none
                    | some V => match s.roots.get V.root with
                      | none => none
                      | some R => bif Nat.beq R.es i.size && Nat.blt 0 i.size && Nat.beq R.elem elem then
                          bif Nat.ble (sLen + n) ((V.ext - o) / i.size) then
                            match astoreN s v (o + sLen * i.size) new with
                            | none => none
                            | some s' => some (.slice (some ⟨v, o, none⟩) (sLen + n) INF, s')
                          else bif Nat.beq R.cur v && !R.ro && Nat.beq o 0 && Nat.ble R.fhi (sLen * i.size) && Nat.ble (sLen * i.size) V.ext && growRow tb i (sLen + n) then
                            some (.slice (some ⟨s.next, 0, none⟩) (sLen + n) INF, agrow s V R (sLen * i.size) new)
                          else none
                        else none
                  else bif Nat.ble (sLen + n) sCap then
                    match astoreN s v (o + sLen * i.size) new with
                    | none => none
                    | some s' => some (.slice (some ⟨v, o, none⟩) (sLen + n) sCap, s')
                  else bif growRow tb i (sLen + n) then
                    match aloadN s v o (sLen * i.size) with
                    | none => none
                    | some old => some (.slice (some ⟨s.next, 0, none⟩) (sLen + n) INF, aallocX s elem i.size (old ++ new) (old ++ new).length false false)
                  else none
                | _ => none
              else none
        else none
    | _ => none
  | _, _ => none

/-- What an operation with an effect comes to. -/
def ER (w0 : Base) (φ : Emb) (s s' : St) (w : World) (v : Value) (res : Result Value) : Prop :=
  ∃ ψ w' c, res = .ok c w' ∧ Ext s φ ψ ∧ s.next ≤ s'.next ∧ Rel w0 ψ s' w' ∧ VR ψ v c

theorem growRow_spec {i : TypeInfo} {need : Nat} (h : growRow tb i need = true) : ∃ z, i.zero = some z ∧ z.cells.size = i.size ∧ 0 < i.size ∧ need * i.bytes ≤ 140737488355328 ∧ need < INF := by
  unfold growRow at h
  split at h
  · cases h
  · rename_i z hz
    simp only [Bool.and_eq_true] at h
    obtain ⟨⟨⟨h1, h2⟩, h3⟩, h4⟩ := h
    exact ⟨z, hz, beq_iff.1 h1, blt_iff.1 h2, Nat.le_of_ble_eq_true h3, blt_iff.1 h4⟩

theorem grownCap_ge (w : World) (need old : Nat) (e : TypeId) : need ≤ grownCap w need old e := by
  unfold grownCap Question.cut
  exact Nat.le_add_right _ _

theorem zeroCells_size (z : Array Value) (n : Nat) : (Builtin.zeroCells z n).toList.length = n * z.size := by simp [Builtin.zeroCells]

theorem cells_ok_firstCells (w : World) (size n : Nat) (a : Addr) (c : Nat) {cs : List Value} (hl : cs.length = n * size) (h : ∀ j v, cs[j]? = some v → w.cell? (a.add j) = some v) :
    (Builtin.firstCells size n (.slice (some a) n c)).run P w = .ok cs.toArray w := by
  have := run_loadCells_list (P := P) w a cs h
  rw [hl] at this
  exact this
end
end Go.Proofs.YtcmlomjdkjcjpaaGreatDoor.Vai
