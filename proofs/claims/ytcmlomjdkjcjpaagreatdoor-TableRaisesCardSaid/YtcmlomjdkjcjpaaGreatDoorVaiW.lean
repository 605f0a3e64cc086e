/- A part of an evaluator of the model's code whose answers are proved sound: no statement on the program stands here. -/
import Derived.Test.YtcmlomjdkjcjpaaGreatDoorVaiV
open Go Go.RowKit
namespace Go.Proofs.YtcmlomjdkjcjpaaGreatDoor.Vai
set_option linter.unusedVariables false
set_option linter.unusedSimpArgs false

def T.ofOptsF {α : Type} : List (Option α) → Nat → T α → T α
  | [], _, t => t
  | a :: l, i, t => T.ofOptsF l (i + 1) (t.put i a)
theorem T.get_ofOptsF {α : Type} : ∀ (l : List (Option α)) (i : Nat) (t : T α) (k : Nat) (v : α), (T.ofOptsF l i t).get k = some v → (∃ j, k = i + j ∧ l[j]? = some (some v)) ∨ t.get k = some v := by
  intro l
  induction l with
  | nil => intro i t k v h; exact .inr h
  | cons a l ih =>
    intro i t k v h
    rcases ih (i + 1) _ k v h with ⟨j, e, hj⟩ | h
    · exact .inl ⟨j + 1, by omega, by simpa using hj⟩
    · by_cases e : k = i
      · subst e
        rw [T.get_put_same] at h
        exact .inl ⟨0, rfl, by simp [h]⟩
      · rw [T.get_put_other _ _ e] at h
        exact .inr h

/-- The evaluator's tables of a program. -/
def tables (P : Program) (ext : T ExtK) : Tb :=
  { und := T.ofOptsF ((List.range P.types.size).map P.underlying) 0 .nil,
    info := T.ofList P.types.toList, fns := T.ofList P.funcs.toList, ext := ext }

theorem tables_ok {P : Program} {ext : T ExtK} (h : (P.funcs.toList.all fun fn => !(fn.name == "runtime.NumGoroutine")) = true) (hx : ∀ f k, ext.get f = some k → ExtOk P f k) : TbOk P (tables P ext) := by
  refine ⟨fun t d e => ?_, fun t i e => ?_, fun f fn e => ?_, hx⟩
  · rcases T.get_ofOptsF _ _ _ _ _ e with ⟨j, rfl, hj⟩ | h
    · rw [List.getElem?_map, Nat.zero_add] at *
      cases hr : (List.range P.types.size)[j]? with
      | none => rw [hr] at hj; cases hj
      | some x =>
        rw [hr] at hj
        have := (List.getElem?_eq_some_iff.1 hr)
        obtain ⟨h1, h2⟩ := this
        simp at h2
        subst h2
        simpa using hj
    · cases h
  · simp only [tables, T.get_ofList] at e
    rw [Array.getElem?_toList] at e
    have hlt : t < P.types.size := (Array.getElem?_eq_some_iff.1 e).1
    show P.toTables.info? t = some i
    unfold Tables.info?
    rw [if_pos hlt]; exact e
  · simp only [tables, T.get_ofList] at e
    rw [Array.getElem?_toList] at e
    refine ⟨e, ?_⟩
    have := List.all_eq_true.1 h fn (by rw [← Array.getElem?_toList] at e; exact List.mem_of_getElem? e)
    simpa using this
end Go.Proofs.YtcmlomjdkjcjpaaGreatDoor.Vai
