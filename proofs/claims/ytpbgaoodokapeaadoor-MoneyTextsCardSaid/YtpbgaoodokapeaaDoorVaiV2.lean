/- A part of an evaluator of the model's code whose answers are proved sound: no statement on the program stands here. -/
import Derived.Test.YtpbgaoodokapeaaDoorVaiV
import Derived.Test.YtpbgaoodokapeaaDoorVaiU5
open Go Go.RowKit
namespace Go.Proofs.YtpbgaoodokapeaaDoor.Vai
set_option linter.unusedVariables false
set_option linter.unusedSimpArgs false

/-- Where a piece of code ends. -/
def Land : Ex → List Item → List Item → Prop
  | .norm, k, td => td = k
  | .exit id, k, td => ∃ m, td = .code (.exit id) :: m ∧ exitTo id m = exitTo id k
  | .ret, _, td => ∃ m, td = .code .ret :: m

inductive Start : Code → List Item → List Item → Prop where
  | code (c : Code) (k : List Item) : Start c k (.code c :: k)
  | loop (body : Code) (k : List Item) : Start (.loop body) k (.inLoop body :: k)

section
variable {P : Program} {tb : Tb} {call : ACall} {w0 : World}

theorem fstep_block' {b : Frame} {a : Act} {k : List Item} {cs : List Frame} {w : World} {td : List Item} {body : Code} (h : Start (.loop body) k td) :
    step P (lone (fat b a td) cs w) = .next (lone (fat b a (.code body :: .inLoop body :: k)) cs w) := by
  cases h with
  | code => exact fstep_loop
  | loop => exact fstep_inLoop

theorem exec_sound (hP : TbOk P tb) (hmix : P.follows .mixedOrders = true) (hC : CallOk P w0 call) : ∀ (n : Nat) (c : Code) (fr fr' : Fr) (s s' : St) (ex : Ex), aExec P tb call n c fr s = some (ex, fr', s') →
    ∀ (φ : Emb) (a : Act) (w : World), Rel w0 φ s w → FR φ fr a → ∀ (b : Frame) (k : List Item) (cs : List Frame) (td : List Item), Start c k td →
      ∃ ψ a' w' td', Steps P (lone (fat b a td) cs w) (lone (fat b a' td') cs w') ∧ Land ex k td' ∧ Ext s φ ψ ∧ s.next ≤ s'.next ∧ Rel w0 ψ s' w' ∧ FR ψ fr' a' ∧ a'.defers = a.defers := by
  intro n
  induction n with
  | zero => intro c fr fr' s s' ex h; cases h
  | succ n ih =>
    intro c fr fr' s s' ex h φ a w r f b k cs td st
    unfold aExec at h
    split at h
    · cases h; cases st
      exact ⟨φ, a, w, k, .one fstep_skip, rfl, Ext.refl _ _, Nat.le_refl _, r, f, rfl⟩
    · cases h; cases st
      exact ⟨φ, a, w, k, .one fstep_label, rfl, Ext.refl _ _, Nat.le_refl _, r, f, rfl⟩
    · cases h; cases st
      exact ⟨φ, a, w, _, .refl _ _, ⟨k, rfl⟩, Ext.refl _ _, Nat.le_refl _, r, f, rfl⟩
    · cases h; cases st
      exact ⟨φ, a, w, _, .refl _ _, ⟨k, rfl, rfl⟩, Ext.refl _ _, Nat.le_refl _, r, f, rfl⟩
    · rename_i id ops draw
      cases st
      split at h
      · rename_i fr1 s1 hr
        simp only [Option.some.injEq, Prod.mk.injEq] at h
        obtain ⟨rfl, rfl, rfl⟩ := h
        cases draw with
        | true =>
          simp only [cond_true] at hr
          obtain ⟨ψ, a', w', e1, e2, e3, e4, e5, e6⟩ := any_sound hP hmix hC hr r f (id := id) b k cs
          exact ⟨ψ, a', w', k, e1, rfl, e2, e3, e4, e5, e6⟩
        | false =>
          simp only [cond_false] at hr
          obtain ⟨ψ, a', w', e1, e2, e3, e4, e5, e6⟩ := ops_sound hP hC (ops := ops) ops.toList 0 fr fr1 s s1 φ a w (fun j o hj => by rw [Nat.zero_add, ← Array.getElem?_toList]; exact hj) hr r f b k cs
          refine ⟨ψ, a', w', k, .head fstep_region ?_, rfl, e2, e3, e4, e5, e6⟩
          have : (List.range ops.toList.length).map (0 + ·) = List.range ops.size := by
            rw [Array.length_toList]
            have : ((fun x : Nat => 0 + x)) = _root_.id := funext fun x => Nat.zero_add x
            rw [this, List.map_id]
          rw [this] at e1
          exact e1
      · cases h
    · rename_i x y
      cases st
      split at h
      · rename_i fr1 s1 hx
        obtain ⟨ψ, a1, w1, td1, e1, e2, e3, e4, e5, e6, e7⟩ := ih x fr fr1 s s1 .norm hx φ a w r f b (.code y :: k) cs _ (.code x _)
        have e2' : td1 = .code y :: k := e2
        subst e2'
        obtain ⟨ψ2, a2, w2, td2, g1, g2, g3, g4, g5, g6, g7⟩ := ih y fr1 fr' s1 s' ex h ψ a1 w1 e5 e6 b k cs _ (.code y k)
        exact ⟨ψ2, a2, w2, td2, .head fstep_seq (e1.trans g1), g2, e3.trans e4 g3, Nat.le_trans e4 g4, g5, g6, g7.trans e7⟩
      · rename_i hne
        obtain ⟨ψ, a1, w1, td1, e1, e2, e3, e4, e5, e6, e7⟩ := ih x fr fr' s s' ex h φ a w r f b (.code y :: k) cs _ (.code x _)
        refine ⟨ψ, a1, w1, td1, .head fstep_seq e1, ?_, e3, e4, e5, e6, e7⟩
        cases ex with
        | norm => exact absurd h (hne _ _)
        | exit id => obtain ⟨m, m1, m2⟩ := e2; exact ⟨m, m1, m2⟩
        | ret => exact e2
    · rename_i c x y
      cases st
      split at h
      · rename_i t ht
        obtain ⟨cv, h1, h2⟩ : ∃ cv, a.eval c = cv ∧ VR φ (.bool t) cv := ⟨_, rfl, f.rho r c _ ht⟩
        cases h2
        obtain ⟨ψ, a1, w1, td1, e1, e2, e3, e4, e5, e6, e7⟩ := ih (bif t then x else y) fr fr' s s' ex h φ a w r f b k cs _ (.code _ k)
        refine ⟨ψ, a1, w1, td1, .head (fstep_cond h1) ?_, e2, e3, e4, e5, e6, e7⟩
        cases t <;> exact e1
      · cases h
    · rename_i id body
      cases st
      split at h
      · rename_i j fr1 s1 hb
        obtain ⟨ψ, a1, w1, td1, e1, e2, e3, e4, e5, e6, e7⟩ := ih body fr fr1 s s1 (.exit j) hb φ a w r f b (.inBlock id :: k) cs _ (.code body _)
        obtain ⟨m, m1, m2⟩ := e2
        cases hj : Nat.beq j id with
        | true =>
          rw [hj] at h
          simp only [cond_true, Option.some.injEq, Prod.mk.injEq] at h
          obtain ⟨rfl, rfl, rfl⟩ := h
          have hji : j = id := Nat.eq_of_beq_eq_true hj
          subst hji
          subst m1
          have : exitTo j m = some k := by rw [m2]; simp [exitTo]
          exact ⟨ψ, a1, w1, k, .head fstep_block (e1.trans (.one (fstep_exit this))), rfl, e3, e4, e5, e6, e7⟩
        | false =>
          rw [hj] at h
          simp only [cond_false, Option.some.injEq, Prod.mk.injEq] at h
          obtain ⟨rfl, rfl, rfl⟩ := h
          refine ⟨ψ, a1, w1, td1, .head fstep_block e1, ⟨m, m1, ?_⟩, e3, e4, e5, e6, e7⟩
          rw [m2]
          have hne : ¬ id = j := fun e => by subst e; simp at hj
          simp [exitTo, hne]
      · rename_i hne
        obtain ⟨ψ, a1, w1, td1, e1, e2, e3, e4, e5, e6, e7⟩ := ih body fr fr' s s' ex h φ a w r f b (.inBlock id :: k) cs _ (.code body _)
        cases ex with
        | exit j => exact absurd h (hne _ _ _)
        | ret => exact ⟨ψ, a1, w1, td1, .head fstep_block e1, e2, e3, e4, e5, e6, e7⟩
        | norm =>
          have e2' : td1 = .inBlock id :: k := e2
          subst e2'
          exact ⟨ψ, a1, w1, k, .head fstep_block (e1.trans (.one fstep_inBlock)), rfl, e3, e4, e5, e6, e7⟩
    · rename_i body
      split at h
      · rename_i fr1 s1 hb
        obtain ⟨ψ, a1, w1, td1, e1, e2, e3, e4, e5, e6, e7⟩ := ih body fr fr1 s s1 .norm hb φ a w r f b (.inLoop body :: k) cs _ (.code body _)
        have e2' : td1 = .inLoop body :: k := e2
        subst e2'
        obtain ⟨ψ2, a2, w2, td2, g1, g2, g3, g4, g5, g6, g7⟩ := ih (.loop body) fr1 fr' s1 s' ex h ψ a1 w1 e5 e6 b k cs _ (.loop body k)
        exact ⟨ψ2, a2, w2, td2, .head (fstep_block' st) (e1.trans g1), g2, e3.trans e4 g3, Nat.le_trans e4 g4, g5, g6, g7.trans e7⟩
      · rename_i hne
        obtain ⟨ψ, a1, w1, td1, e1, e2, e3, e4, e5, e6, e7⟩ := ih body fr fr' s s' ex h φ a w r f b (.inLoop body :: k) cs _ (.code body _)
        refine ⟨ψ, a1, w1, td1, .head (fstep_block' st) e1, ?_, e3, e4, e5, e6, e7⟩
        cases ex with
        | norm => exact absurd h (hne _ _)
        | exit id => obtain ⟨m, m1, m2⟩ := e2; exact ⟨m, m1, m2⟩
        | ret => exact e2
    · rename_i body
      cases st
      obtain ⟨ψ, a1, w1, td1, e1, e2, e3, e4, e5, e6, e7⟩ := ih body fr fr' s s' ex h φ a w r f b (.inScope body :: k) cs _ (.code body _)
      cases ex with
      | norm =>
        have e2' : td1 = .inScope body :: k := e2
        subst e2'
        exact ⟨ψ, a1, w1, k, .head fstep_scope (e1.trans (.one fstep_inScope)), rfl, e3, e4, e5, e6, e7⟩
      | exit id => obtain ⟨m, m1, m2⟩ := e2; exact ⟨ψ, a1, w1, td1, .head fstep_scope e1, ⟨m, m1, m2⟩, e3, e4, e5, e6, e7⟩
      | ret => exact ⟨ψ, a1, w1, td1, .head fstep_scope e1, e2, e3, e4, e5, e6, e7⟩
    · cases h
end
end Go.Proofs.YtpbgaoodokapeaaDoor.Vai
