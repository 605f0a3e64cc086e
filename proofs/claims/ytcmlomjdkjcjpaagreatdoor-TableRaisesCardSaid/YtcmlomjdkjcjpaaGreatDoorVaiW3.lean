/- A part of an evaluator of the model's code whose answers are proved sound: no statement on the program stands here. -/
import Derived.Test.YtcmlomjdkjcjpaaGreatDoorVaiW2
open Go Go.RowKit
namespace Go.Proofs.YtcmlomjdkjcjpaaGreatDoor.Vai
set_option linter.unusedVariables false
set_option linter.unusedSimpArgs false

/-- A package-level variable whose cells are known: its number, its type's, the cells. -/
structure Glob where
  g : Nat
  t : TypeId
  cells : List Value

def gViews : List Glob → T View
  | [] => .nil
  | x :: r => (gViews r).set x.g { root := x.g, ext := x.cells.length, exact := true }
def gRoots : List Glob → T Root
  | [] => .nil
  | x :: r => (gRoots r).set x.g { elem := x.t, es := 1, cells := cellsOf x.cells, cur := x.g, flo := 0, fhi := 0, ro := true, sish := false }
def gEmb (sig : Nat → Int) : List Glob → Emb
  | [] => ⟨fun _ => none, sig⟩
  | x :: r => (gEmb sig r).with x.g ⟨x.g, x.cells.length, 1⟩
theorem gEmb_sig (sig : Nat → Int) : ∀ l : List Glob, (gEmb sig l).sig = sig := by
  intro l
  induction l with
  | nil => rfl
  | cons x l ih => exact ih
def gStart (ng : Nat) (l : List Glob) (orc : List Fact) : St := { ng := ng, next := ng, views := gViews l, roots := gRoots l, objs := .nil, orc := orc }

theorem gEmb_inv {sig : Nat → Int} : ∀ (l : List Glob) (v : Nat) (t : Tgt), gEmb sig l v = some t → ∃ x ∈ l, x.g = v ∧ t = ⟨v, x.cells.length, 1⟩ ∧ (gViews l).get v = some { root := v, ext := x.cells.length, exact := true } ∧
    (gRoots l).get v = some { elem := x.t, es := 1, cells := cellsOf x.cells, cur := v, flo := 0, fhi := 0, ro := true, sish := false } := by
  intro l
  induction l with
  | nil => intro v t h; cases h
  | cons x l ih =>
    intro v t h
    by_cases e : v = x.g
    · subst e
      simp only [gEmb] at h
      rw [Emb.with_same] at h
      cases h
      exact ⟨x, List.mem_cons_self .., rfl, rfl, T.get_set_same .., T.get_set_same ..⟩
    · simp only [gEmb] at h
      rw [Emb.with_other _ _ e] at h
      obtain ⟨y, h1, h2, h3, h4, h5⟩ := ih v t h
      refine ⟨y, List.mem_cons_of_mem _ h1, h2, h3, ?_, ?_⟩
      · simp only [gViews]; rw [T.get_set_other _ _ e]; exact h4
      · simp only [gRoots]; rw [T.get_set_other _ _ e]; exact h5
theorem gViews_inv {sig : Nat → Int} : ∀ (l : List Glob) (v : Nat) (V : View), (gViews l).get v = some V → ∃ x ∈ l, x.g = v ∧ V.root = v ∧ ∃ t, gEmb sig l v = some t ∧ t.blk = v := by
  intro l
  induction l with
  | nil => intro v V h; cases h
  | cons x l ih =>
    intro v V h
    by_cases e : v = x.g
    · subst e
      simp only [gViews] at h
      rw [T.get_set_same] at h
      cases h
      exact ⟨x, List.mem_cons_self .., rfl, rfl, _, Emb.with_same .., rfl⟩
    · simp only [gViews] at h
      rw [T.get_set_other _ _ e] at h
      obtain ⟨y, h1, h2, h3, t, h4, h5⟩ := ih v V h
      exact ⟨y, List.mem_cons_of_mem _ h1, h2, h3, t, by simp only [gEmb]; rw [Emb.with_other _ _ e]; exact h4, h5⟩

theorem Rel.globs {ng : Nat} {l : List Glob} {w : World} {sig : Nat → Int} {orc : List Fact} (ho : ∀ f ∈ orc, f.ok sig) (h : ∀ x ∈ l, x.g < ng ∧ plainL x.cells = true ∧ w.heap[x.g]? = some (.cells x.cells.toArray x.t (0, 0))) : Rel (Base.all w) (gEmb sig l) (gStart ng l orc) w := by
  refine ⟨Kept.refl (Base.all w), ?_, ?_, ?_, ?_, ?_, ?_, ?_, ?_, Nat.le_refl _, by rw [gEmb_sig]; exact ho⟩
  · intro v t e
    obtain ⟨x, h1, rfl, _⟩ := gEmb_inv l v t e
    exact (h x h1).1
  · intro v t e
    obtain ⟨x, _, _, _, h4, _⟩ := gEmb_inv l v t e
    exact .inl ⟨_, h4⟩
  · intro v t V e hV
    obtain ⟨x, h1, rfl, rfl, h4, h5⟩ := gEmb_inv l v t e
    have hV' : (gViews l).get x.g = some V := hV
    rw [h4] at hV'
    cases hV'
    obtain ⟨_, k2, k3⟩ := h x h1
    refine ⟨_, h5, rfl, Nat.le_refl _, fun e => (by cases e), Nat.le_refl _, fun _ => rfl, ?_, x.cells.toArray, (0, 0), k3, by simp, ⟨Nat.le_refl _, fun o _ a b => (by simp at b), fun _ _ => Nat.le_refl _, fun _ => Nat.zero_le _⟩, ?_⟩
    · intro o st val ho
      simp only [cellsOf, T.get_ofList, List.getElem?_map] at ho
      cases hl : x.cells[o]? with
      | none => rw [hl] at ho; cases ho
      | some y =>
        rw [hl] at ho
        simp only [Option.map_some, Option.some.injEq, Prod.mk.injEq] at ho
        show st ≤ x.g
        omega
    · intro o st val ho hs hx
      simp only [cellsOf, T.get_ofList, List.getElem?_map] at ho
      cases hl : x.cells[o]? with
      | none => rw [hl] at ho; cases ho
      | some y =>
        rw [hl] at ho
        simp only [Option.map_some, Option.some.injEq, Prod.mk.injEq] at ho
        obtain ⟨rfl, rfl⟩ := ho
        exact ⟨y, by simpa using hl, VR.of_plain _ _ (plainL_at _ k2 o y hl)⟩
  · intro v t o e ho; cases ho
  · intro v1 v2 t1 t2 e1 e2 hb
    obtain ⟨x, _, _, rfl, _⟩ := gEmb_inv l v1 t1 e1
    obtain ⟨y, _, _, rfl, _⟩ := gEmb_inv l v2 t2 e2
    exact .inl hb
  · intro v V hV
    obtain ⟨x, h1, rfl, h3, _⟩ := gViews_inv (sig := sig) l v V hV
    rw [h3]
    exact ⟨(h x h1).1, (h x h1).1⟩
  · intro v o ho; cases ho
  · intro g V _ hV
    obtain ⟨_, _, _, _, t, h4, h5⟩ := gViews_inv (sig := sig) l g V hV
    exact ⟨t, h4, h5⟩

/-- A shaped world's package-level variable of which the cells are known: its block. -/
theorem block_of_var {P : Program} {w : World} (hs : w.ShapedOpen P) {name : String} {g : Nat} {t : TypeId} {zero : Array Value} {l : List Value} (hg : P.globalNamed name = some g) (hlt : g < P.globals.size)
    (h0 : ((begin P (fun _ _ => 0) default).world.heap[g]?).bind Obj.row? = some (zero, t)) (hv : w.var? P name = some l.toArray) : w.heap[g]? = some (.cells l.toArray t (0, 0)) := by
  obtain ⟨cs, h1, _⟩ := hs.1 g zero t hlt h0
  rw [h1]
  unfold World.var? at hv
  rw [hg] at hv
  simp only [Option.bind_some, h1, Option.some.injEq] at hv
  rw [hv]
end Go.Proofs.YtcmlomjdkjcjpaaGreatDoor.Vai
