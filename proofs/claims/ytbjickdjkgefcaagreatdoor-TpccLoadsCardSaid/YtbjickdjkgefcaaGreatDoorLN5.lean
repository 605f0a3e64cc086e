/- The small data: sameData by evaluation; two rows of blocks side by side. -/
import Derived.Test.YtbjickdjkgefcaaGreatDoorLN1
open Go Go.RowKit
noncomputable section
namespace Go.Proofs.YtbjickdjkgefcaaGreatDoor.Vai
set_option linter.unusedVariables false
set_option linter.unusedSimpArgs false
/-- Numbers that are greater by n. -/
def upRen (n : Nat) : Nat → Ren
  | 0 => []
  | m + 1 => (Nat.add n m, m) :: upRen n m
theorem upRen_look (n : Nat) : ∀ (m a b : Nat), rlook (upRen n m) a = some b → a = n + b ∧ b < m := by
  intro m
  induction m with
  | zero => intro a b h; cases h
  | succ m ih =>
    intro a b h
    simp only [upRen, rlook] at h
    cases hb : Nat.beq (Nat.add n m) a with
    | true =>
      rw [hb] at h
      cases h
      exact ⟨(Nat.eq_of_beq_eq_true hb).symm, Nat.lt_succ_self m⟩
    | false =>
      rw [hb] at h
      obtain ⟨h1, h2⟩ := ih a b h
      exact ⟨h1, Nat.lt_succ_of_lt h2⟩
theorem Lies.join {w : World} {A B B' : List BSpec} {ts us : List Tgt} {sig : Sig} (hA : Lies w A ts sig) (hB : Lies w B us sig) (hc : spAll (upRen A.length B.length) (fun _ => none) B' B = true) (hlen : B'.length = B.length) (hd : ∀ x ∈ us.map (·.blk), x ∉ ts.map (·.blk)) : Lies w (A ++ B') (ts ++ us) sig := by
  have lA := hA.len
  have lB := hB.len
  have R : RenOk (upRen A.length B.length) (fun _ => none) (bEmb us sig) (bEmb (ts ++ us) sig) := by
    refine ⟨fun a b t e hb => ?_, fun i j e => (by cases e), rfl⟩
    obtain ⟨rfl, hb2⟩ := upRen_look _ _ _ _ e
    show (ts ++ us)[A.length + b]? = some t
    rw [List.getElem?_append_right (by omega), lA, Nat.add_sub_cancel_left]
    exact hb
  have hle : (bEmb ts sig).le (bEmb (ts ++ us) sig) := ⟨fun v u h => by
    have h : ts[v]? = some u := h
    show (ts ++ us)[v]? = some u
    rw [List.getElem?_append_left (List.getElem?_eq_some_iff.1 h).1]; exact h, rfl⟩
  refine ⟨by simp [lA, lB, hlen], ?_, fun k t sp ht hsp => ?_, fun k t ht => ?_⟩
  · rw [List.map_append, List.nodup_append]
    exact ⟨hA.nodup, hB.nodup, fun a ha b hb hab => hd b hb (hab ▸ ha)⟩
  · by_cases e : k < ts.length
    · rw [List.getElem?_append_left e] at ht
      rw [List.getElem?_append_left (by omega)] at hsp
      exact ok_mono hle (hA.ok k t sp ht hsp)
    · rw [List.getElem?_append_right (by omega)] at ht
      rw [List.getElem?_append_right (by omega)] at hsp
      obtain ⟨b, e1, e2⟩ := spAll_at _ _ hc _ sp hsp
      rw [lA] at ht
      exact (hB.ok _ t b ht e1).conv R e2 rfl (fun _ hK => hK)
  · by_cases e : k < ts.length
    · rw [List.getElem?_append_left e] at ht
      exact hA.lt k t ht
    · rw [List.getElem?_append_right (by omega)] at ht
      exact hB.lt _ t ht
end Go.Proofs.YtbjickdjkgefcaaGreatDoor.Vai
open Go.Proofs.YtbjickdjkgefcaaGreatDoor.Vai
namespace Go.Proofs.YtbjickdjkgefcaaGreatDoor
set_option linter.unusedVariables false
set_option linter.unusedSimpArgs false
set_option maxRecDepth 100000
/-- The document's small data behind the program's. -/
def rUp (pre : Bool) : List BSpec := bif pre then [.cells 66 2 [.pointer (some ⟨7, 0, none⟩), .slice (some ⟨9, 0, none⟩) 1 INF] true, .cells 63 1 [.slice (some ⟨8, 0, none⟩) 1 INF] true, .cells 30 4 [atomT, .slice (some ⟨10, 0, none⟩) 1 INF, .int .i64 1, .slice none 0 0] true, .cells 87 5 [atomT, .slice (some ⟨11, 0, none⟩) 1 INF, .int .i64 1, .slice none 0 0, .slice none 0 0] true, colB 8, colB 8]
  else [.cells 66 2 [.pointer (some ⟨5, 0, none⟩), .slice none 0 0] true, .cells 63 1 [.slice none 0 0] true]
def smRun (pre : Bool) : Option (Value × St) := aFunK Tryz.prog tb0 kn0 1000 100 (.func 13) [.pointer (some ⟨0, 0, none⟩), .pointer (some ⟨(specP (tabsP pre 0)).length, 0, none⟩)] (bSt (specP (tabsP pre 0) ++ rUp pre) [])
def smOk (pre : Bool) : Bool := runCheck (smRun pre) (specP (tabsP pre 0) ++ rUp pre).length isTrue (specP (tabsP pre 0)) (upTo (specP (tabsP pre 0)).length 0) noTau [] && spAll (upRen (specP (tabsP pre 0)).length ((specR 0 (tabsP pre 0)).map lockB).length) noTau (rUp pre) ((specR 0 (tabsP pre 0)).map lockB)
theorem sm_f : smOk false = true := by kernel_rfl
theorem sm_t : smOk true = true := by kernel_rfl
theorem specR_small (pre : Bool) (p : Nat) (hp : p ≤ 8) : specR p (tabsP pre 0) = specR 0 (tabsP pre 0) := by
  cases pre with
  | false => rfl
  | true =>
    match p, hp with
    | 0, _ => rfl
    | 1, _ => rfl
    | 2, _ => rfl
    | 3, _ => rfl
    | 4, _ => rfl
    | 5, _ => rfl
    | 6, _ => rfl
    | 7, _ => rfl
    | 8, _ => rfl
end Go.Proofs.YtbjickdjkgefcaaGreatDoor
