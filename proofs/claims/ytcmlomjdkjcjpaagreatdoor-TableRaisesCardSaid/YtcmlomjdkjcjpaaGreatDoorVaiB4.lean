/- A part of an evaluator of the model's code whose answers are proved sound: no statement on the program stands here. -/
import Derived.Test.YtcmlomjdkjcjpaaGreatDoorVaiB3
open Go Go.RowKit
namespace Go.Proofs.YtcmlomjdkjcjpaaGreatDoor.Vai
set_option linter.unusedVariables false
set_option linter.unusedSimpArgs false
/-! ### blocks told anew; which numbers the relation binds; which blocks are new -/
def spMatch (ρ : Ren) (τ : Nat → Option Nat) : BSpec → BSpec → Bool
  | .cells elem es l _, .cells elem' es' l' _ => Nat.beq elem elem' && Nat.beq es es' && vmatchL ρ τ l l'
  | .obj (.map es clock), .obj (.map es' clock') => Nat.beq clock clock' && entsMatch ρ τ es es'
  | _, _ => false
def BSpec.owned : BSpec → Bool
  | .cells _ _ _ ro => !ro
  | .obj _ => true
theorem vmatchL_at {ρ : Ren} {τ : Nat → Option Nat} : ∀ (l m : List Value), vmatchL ρ τ l m = true → l.length = m.length ∧ ∀ (k : Nat) (u : Value), l[k]? = some u → ∃ v, m[k]? = some v ∧ vmatch ρ τ u v = true := by
  intro l
  induction l with
  | nil => intro m h; cases m with
    | nil => exact ⟨rfl, fun k u h => by simp at h⟩
    | cons => simp [vmatchL] at h
  | cons a l ih =>
    intro m h
    cases m with
    | nil => simp [vmatchL] at h
    | cons b m =>
      simp only [vmatchL, Bool.and_eq_true] at h
      obtain ⟨h1, h2⟩ := ih m h.2
      refine ⟨by simp [h1], fun k u hu => ?_⟩
      cases k with
      | zero => simp at hu; exact ⟨b, rfl, by rw [← hu]; exact h.1⟩
      | succ k => exact h2 k u (by simpa using hu)
theorem BSpec.ok.conv {b b' : Base} {φ ψ : Emb} {w w' : World} {t : Tgt} {ρ : Ren} {τ : Nat → Option Nat} (R : RenOk ρ τ φ ψ) {sp sp' : BSpec} (hm : spMatch ρ τ sp' sp = true) (hw : w'.heap[t.blk]? = w.heap[t.blk]?) (hK : sp'.owned = true → ¬ b'.K t.blk)
    (h : sp.ok b φ w t) : sp'.ok b' ψ w' t := by
  cases sp' with
  | cells elem es l ro =>
    cases sp with
    | obj o => cases o <;> cases hm
    | cells elem' es' l' ro' =>
      simp only [spMatch, Bool.and_eq_true] at hm
      obtain ⟨⟨h1, h2⟩, h3⟩ := hm
      obtain ⟨k1, k2, c, fr, g1, g2, g3, g4, g5, g6⟩ := h
      obtain ⟨e1, e2⟩ := vmatchL_at _ _ h3
      refine ⟨fun hro => hK (by simp [BSpec.owned, hro]), k2.trans (Nat.eq_of_beq_eq_true h2).symm, c, fr, ?_, g2, g3, g4, by omega, ?_⟩
      · rw [hw, g1, Nat.eq_of_beq_eq_true h1]
      · intro o val ho
        obtain ⟨v, m1, m2⟩ := e2 o val ho
        obtain ⟨cv, n1, n2⟩ := g6 o v m1
        exact ⟨cv, n1, VR.vmatch R _ _ _ m2 n2⟩
  | obj o' =>
    cases sp with
    | cells => cases o' <;> cases hm
    | obj o =>
      cases o' with
      | map es' clock' =>
        cases o with
        | map es clock =>
          simp only [spMatch, Bool.and_eq_true] at hm
          obtain ⟨k1, c, g1, g2⟩ := h
          refine ⟨hK rfl, c, by rw [hw]; exact g1, ?_⟩
          cases g2 with
          | map _ cs _ hE => rw [← Nat.eq_of_beq_eq_true hm.1]; exact .map _ _ _ (entsMatch_rel R _ _ _ hm.2 hE)
        | _ => cases hm
      | _ => cases o <;> cases hm
/-- All blocks told anew, one by one. -/
def spAll (ρ : Ren) (τ : Nat → Option Nat) : List BSpec → List BSpec → Bool
  | [], [] => true
  | a :: l, b :: m => spMatch ρ τ a b && spAll ρ τ l m
  | _, _ => false
theorem spAll_at {ρ : Ren} {τ : Nat → Option Nat} : ∀ (L M : List BSpec), spAll ρ τ L M = true → ∀ (k : Nat) (a : BSpec), L[k]? = some a → ∃ b, M[k]? = some b ∧ spMatch ρ τ a b = true := by
  intro L
  induction L with
  | nil => intro M _ k a h; simp at h
  | cons x L ih =>
    intro M h k a ha
    cases M with
    | nil => cases h
    | cons y M =>
      simp only [spAll, Bool.and_eq_true] at h
      cases k with
      | zero => simp at ha; exact ⟨y, rfl, by rw [← ha]; exact h.1⟩
      | succ k => exact ih M h.2 k a (by simpa using ha)

mutual
def idsOfV : Value → List Nat
  | .pointer (some ⟨a, _, none⟩) => [a]
  | .slice (some ⟨a, _, none⟩) _ _ => [a]
  | .map (some r) => [r]
  | .iface _ v => idsOfV v
  | .agg l => idsOfA l
  | .tuple l => idsOfA l
  | _ => []
def idsOfA : Array Value → List Nat
  | ⟨l⟩ => idsOfL l
def idsOfL : List Value → List Nat
  | [] => []
  | v :: l => idsOfV v ++ idsOfL l
end
theorem idsOfL_mem : ∀ (l : List Value) (x : Nat), x ∈ idsOfL l → ∃ (k : Nat) (v : Value), l[k]? = some v ∧ x ∈ idsOfV v := by
  intro l
  induction l with
  | nil => intro x h; simp [idsOfL] at h
  | cons a l ih =>
    intro x h
    simp only [idsOfL, List.mem_append] at h
    rcases h with h | h
    · exact ⟨0, a, rfl, h⟩
    · obtain ⟨k, v, h1, h2⟩ := ih x h
      exact ⟨k + 1, v, by simpa using h1, h2⟩
theorem VR.bound {φ : Emb} {v c : Value} (r : VR φ v c) : ∀ x ∈ idsOfV v, ∃ t, φ x = some t := by
  have arr : ∀ (as cs : Array Value), as.size = cs.size → (∀ (i : Nat) x y, as[i]? = some x → cs[i]? = some y → ∀ z ∈ idsOfV x, ∃ t, φ z = some t) → ∀ z ∈ idsOfA as, ∃ t, φ z = some t := by
    intro as cs hs h z hz
    obtain ⟨l⟩ := as
    simp only [idsOfA] at hz
    obtain ⟨k, v, h1, h2⟩ := idsOfL_mem l z hz
    have hk := (List.getElem?_eq_some_iff.1 h1).1
    have hk2 : k < cs.size := by rw [← hs]; simpa using hk
    exact h k v cs[k] (by simpa using h1) (Array.getElem?_eq_getElem hk2) z h2
  induction r with
  | ptr v o t h => intro x hx; simp [idsOfV] at hx; subst hx; exact ⟨_, h⟩
  | slice v o t l c c' h h1 h2 => intro x hx; simp [idsOfV] at hx; subst hx; exact ⟨_, h⟩
  | map r t h => intro x hx; simp [idsOfV] at hx; subst hx; exact ⟨_, h⟩
  | iface t a c _ ih => intro x hx; exact ih x (by simpa [idsOfV] using hx)
  | agg as cs hs _ ih => intro x hx; exact arr as cs hs ih x (by simpa [idsOfV] using hx)
  | tuple as cs hs _ ih => intro x hx; exact arr as cs hs ih x (by simpa [idsOfV] using hx)
  | _ => intro x hx; simp [idsOfV] at hx

def memB (x : Nat) : List Nat → Bool
  | [] => false
  | a :: l => Nat.beq x a || memB x l
theorem memB_spec {x : Nat} : ∀ {l : List Nat}, memB x l = true → x ∈ l := by
  intro l
  induction l with
  | nil => intro h; cases h
  | cons a l ih =>
    intro h
    simp only [memB, Bool.or_eq_true] at h
    rcases h with h | h
    · rw [Nat.eq_of_beq_eq_true h]; exact List.mem_cons_self ..
    · exact List.mem_cons_of_mem _ (ih h)
/-- Cell 'o' of the block 'a' leads to 'b'. -/
def linkCell (s : St) (a o b : Nat) : Bool := match aload s a o with
  | some v => memB b (idsOfV v)
  | none => false
theorem Rel.linkCell {w0 : Base} {φ : Emb} {s : St} {w : World} (r : Rel w0 φ s w) {a o b : Nat} {t : Tgt} (ha : φ a = some t) (h : linkCell s a o b = true) : ∃ t', φ b = some t' := by
  unfold Vai.linkCell at h
  split at h
  · rename_i v hv
    obtain ⟨cv, _, h2⟩ := r.load ha hv
    exact h2.bound b (memB_spec h)
  · cases h
/-- Entry 'o' of the map 'a' leads to 'b'. -/
def linkEnt (s : St) (a o b : Nat) : Bool := match s.objs.get a with
  | some (.map es _) => (match es[o]? with
    | some e => memB b (idsOfV e.val)
    | none => false)
  | _ => false
theorem EntsR.get {φ : Emb} {es : List AEnt} {cs : List MapEntry} (r : EntsR φ es cs) : ∀ {o : Nat} {e : AEnt}, es[o]? = some e → ∃ c, cs[o]? = some c ∧ VR φ e.key c.key ∧ VR φ e.val c.val := by
  induction r with
  | nil => intro o e h; simp at h
  | cons a e l m hk hv hb _ ih =>
    intro o x h
    cases o with
    | zero => simp at h; subst h; exact ⟨e, rfl, hk, hv⟩
    | succ o => exact ih (by simpa using h)
theorem Rel.linkEnt {w0 : Base} {φ : Emb} {s : St} {w : World} (r : Rel w0 φ s w) {a o b : Nat} {t : Tgt} (ha : φ a = some t) (h : linkEnt s a o b = true) : ∃ t', φ b = some t' := by
  unfold Vai.linkEnt at h
  split at h
  · rename_i es clock ho
    split at h
    · rename_i e he
      obtain ⟨_, c, _, h2⟩ := r.obj a t _ ha ho
      cases h2 with
      | map _ cs _ hE =>
        obtain ⟨_, _, _, h3⟩ := hE.get he
        exact h3.bound b (memB_spec h)
    · cases h
  · cases h
/-- A block that the run may write, so none that stays. -/
def ownedAt (s : St) (a : Nat) : Bool := match s.views.get a with
  | some V => (match s.roots.get V.root with
    | some R => !R.ro
    | none => false)
  | none => false
theorem Rel.ownedAt {w0 : Base} {φ : Emb} {s : St} {w : World} (r : Rel w0 φ s w) {a : Nat} {t : Tgt} (ha : φ a = some t) (h : ownedAt s a = true) : ¬ w0.K t.blk := by
  unfold Vai.ownedAt at h
  split at h
  · rename_i V hV
    split at h
    · rename_i R hR
      obtain ⟨R', hR', bk⟩ := r.view a t V ha hV
      rw [hR] at hR'; cases hR'
      exact bk.own (by simpa using h)
    · cases h
  · cases h
end Go.Proofs.YtcmlomjdkjcjpaaGreatDoor.Vai
