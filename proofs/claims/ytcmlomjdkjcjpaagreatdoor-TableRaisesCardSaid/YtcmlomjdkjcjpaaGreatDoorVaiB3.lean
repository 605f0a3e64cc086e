/- A part of an evaluator of the model's code whose answers are proved sound: no statement on the program stands here. -/
import Derived.Test.YtcmlomjdkjcjpaaGreatDoorVaiB2
open Go Go.RowKit
namespace Go.Proofs.YtcmlomjdkjcjpaaGreatDoor.Vai
set_option linter.unusedVariables false
set_option linter.unusedSimpArgs false
/-! ### back from a relation to blocks that are known -/
abbrev Ren := List (Nat × Nat)
def rlook : Ren → Nat → Option Nat
  | [], _ => none
  | (a, b) :: l, x => bif Nat.beq a x then some b else rlook l x
mutual
/-- Is the value (left) what is told, with other numbers, by another one (right)? -/
def vmatch (ρ : Ren) (τ : Nat → Option Nat) : Value → Value → Bool
  | .pointer (some ⟨a, o, none⟩), .pointer (some ⟨b, o', none⟩) => Nat.beq o o' && (match rlook ρ a with | some b' => Nat.beq b' b | none => false)
  | .slice (some ⟨a, o, none⟩) l c, .slice (some ⟨b, o', none⟩) l' c' => Nat.beq o o' && Nat.beq l l' && Nat.beq c c' && (match rlook ρ a with | some b' => Nat.beq b' b | none => false)
  | .map (some a), .map (some b) => match rlook ρ a with | some b' => Nat.beq b' b | none => false
  | .chan (some c), v => match decSy c with
    | .top => oneCell v
    | .atom i => (match v with
      | .chan (some d) => (match decSy d with
        | .atom j => (match τ i with | some j' => Nat.beq j' j | none => false)
        | _ => false)
      | _ => false)
    | _ => (match v with
      | .chan (some d) => (match decSy d with
        | .atom _ => false
        | .top => false
        | _ => Nat.beq c d)
      | _ => false)
  | .agg a, .agg b => vmatchA ρ τ a b
  | .tuple a, .tuple b => vmatchA ρ τ a b
  | u, v => plain u && veq u v
def vmatchA (ρ : Ren) (τ : Nat → Option Nat) : Array Value → Array Value → Bool
  | ⟨a⟩, ⟨b⟩ => vmatchL ρ τ a b
def vmatchL (ρ : Ren) (τ : Nat → Option Nat) : List Value → List Value → Bool
  | [], [] => true
  | a :: l, b :: m => vmatch ρ τ a b && vmatchL ρ τ l m
  | _, _ => false
end

structure RenOk (ρ : Ren) (τ : Nat → Option Nat) (φ ψ : Emb) : Prop where
  to : ∀ a b t, rlook ρ a = some b → φ b = some t → ψ a = some t
  sig : ∀ i j, τ i = some j → ψ.sig i = φ.sig j

theorem vm_plain {φ ψ : Emb} {u v c : Value} (h : (plain u && veq u v) = true) (r : VR φ v c) : VR ψ u c := by
  rw [Bool.and_eq_true] at h
  obtain ⟨h1, h2⟩ := h
  obtain rfl := veq_sound _ _ h2
  rw [r.eq_of_plain h1]
  exact VR.of_plain ψ _ h1

theorem rl_some {ρ : Ren} {a b : Nat} (h : (match rlook ρ a with | some b' => Nat.beq b' b | none => false) = true) : rlook ρ a = some b := by
  split at h
  · rename_i b' hb; rw [hb, Nat.eq_of_beq_eq_true h]
  · cases h

theorem VR.vmatch {ρ : Ren} {τ : Nat → Option Nat} {φ ψ : Emb} (R : RenOk ρ τ φ ψ) : ∀ (u v c : Value), vmatch ρ τ u v = true → VR φ v c → VR ψ u c := by
  intro u
  have addr : ∀ (a o : Nat) (m : Option Nat) (h : m ≠ none), True := fun _ _ _ _ => trivial
  refine Value.rec (motive_1 := fun u => ∀ v c, Vai.vmatch ρ τ u v = true → VR φ v c → VR ψ u c)
    (motive_2 := fun u => ∀ v cs, vmatchA ρ τ u v = true → VRA φ v cs → VRA ψ u cs)
    (motive_3 := fun u => ∀ v cs, vmatchL ρ τ u v = true → VRL φ v cs → VRL ψ u cs) ?_ ?_ ?_ ?_ ?_ ?_ ?_ ?_ ?_ ?_ ?_ ?_ ?_ ?_ ?_ ?_ ?_ ?_ u
  · intro b v c h r; exact vm_plain (by cases v <;> simpa [Vai.vmatch] using h) r
  · intro k n v c h r; exact vm_plain (by cases v <;> simpa [Vai.vmatch] using h) r
  · intro k n v c h r; exact vm_plain (by cases v <;> simpa [Vai.vmatch] using h) r
  · intro k a b v c h r; exact vm_plain (by cases v <;> simpa [Vai.vmatch] using h) r
  · intro s v c h r; exact vm_plain (by cases v <;> simpa [Vai.vmatch] using h) r
  · intro a v c h r
    unfold Vai.vmatch at h
    split at h
    · rename_i x1 x2 a1 o1 b1 o2 e1 
      cases e1
      rw [Bool.and_eq_true] at h
      cases r with
      | ptr _ _ t ht =>
        rw [← Nat.eq_of_beq_eq_true h.1]
        exact .ptr _ _ t (R.to _ _ _ (rl_some h.2) ht)
    all_goals first | exact vm_plain h r | simp_all
  · intro a l c0 v c h r
    unfold Vai.vmatch at h
    split at h
    · simp_all
    · rename_i x1 x2 a1 o1 l1 c1 b1 o2 l2 c2 e1
      cases e1
      rw [Bool.and_eq_true, Bool.and_eq_true, Bool.and_eq_true] at h
      obtain ⟨⟨⟨q1, q2⟩, q3⟩, q4⟩ := h
      obtain rfl := Nat.eq_of_beq_eq_true q1
      obtain rfl := Nat.eq_of_beq_eq_true q2
      obtain rfl := Nat.eq_of_beq_eq_true q3
      cases r with
      | slice _ _ t _ _ c' ht g1 g2 => exact .slice _ _ t _ _ _ (R.to _ _ _ (rl_some q4) ht) g1 g2
    all_goals first | exact vm_plain h r | simp_all
  · intro a v c h r
    unfold Vai.vmatch at h
    split at h
    · simp_all
    · simp_all
    · rename_i x1 x2 a1 b1 e1
      cases e1
      cases r with
      | map _ t ht => exact .map _ t (R.to _ _ _ (rl_some h) ht)
    all_goals first | exact vm_plain h r | simp_all
  · intro a v c h r
    cases a with
    | none => exact vm_plain (by cases v <;> simpa [Vai.vmatch] using h) r
    | some cc =>
      unfold Vai.vmatch at h
      split at h
      · rename_i ht
        exact .top _ _ ht (by
          cases r <;> first | rfl | assumption | cases h)
      · rename_i i hi
        split at h
        · rename_i d
          split at h
          · rename_i j hj
            obtain hτ : τ i = some j := by
              split at h
              · rename_i j' hj'; rw [hj', Nat.eq_of_beq_eq_true h]
              · cases h
            cases r with
            | top _ _ ht _ => rw [hj] at ht; cases ht
            | sy _ k n hn =>
              rw [hj] at hn
              refine .sy _ _ _ ?_
              rw [hi]
              exact ⟨hn.1, by rw [hn.2, R.sig _ _ hτ]⟩
          · cases h
        · cases h
      · rename_i hn1 hn2
        split at h
        · rename_i d
          split at h
          · cases h
          · cases h
          · rename_i m1 m2
            obtain rfl := Nat.eq_of_beq_eq_true h
            cases r with
            | top _ _ ht _ => exact absurd ht hn1
            | sy _ k n hn =>
              refine .sy _ _ _ ?_
              revert hn
              cases hd : decSy cc with
              | range => exact fun hn => hn
              | modu => exact fun hn => hn
              | atom i => exact absurd hd (hn2 i)
              | top => exact absurd hd hn1
        · cases h
  · intro f a b i1 i2 v c h r; exact vm_plain (by cases v <;> simpa [Vai.vmatch] using h) r
  · intro v c h r; exact vm_plain (by cases v <;> simpa [Vai.vmatch] using h) r
  · intro t x ih v c h r; exact vm_plain (by cases v <;> simpa [Vai.vmatch] using h) r
  · intro v c h r; exact vm_plain (by cases v <;> simpa [Vai.vmatch] using h) r
  · intro x ih v c h r
    cases v with
    | agg y =>
      have h : vmatchA ρ τ x y = true := by simpa [Vai.vmatch] using h
      obtain ⟨cs, rfl, hc⟩ := r.agg_inv
      exact (ih _ _ h hc).agg
    | _ => exact vm_plain (by simpa [Vai.vmatch] using h) r
  · intro x ih v c h r
    cases v with
    | tuple y =>
      have h : vmatchA ρ τ x y = true := by simpa [Vai.vmatch] using h
      obtain ⟨cs, rfl, hc⟩ := r.tuple_inv
      have := ih _ _ h hc
      exact .tuple _ _ this.size this.at_
    | _ => exact vm_plain (by simpa [Vai.vmatch] using h) r
  · intro l ih v cs h r
    obtain ⟨m⟩ := v
    obtain ⟨c⟩ := cs
    have h : vmatchL ρ τ l m = true := by simpa [vmatchA] using h
    have r2 : VRL φ m c := r.list
    have := ih m c h r2
    exact ⟨by simpa using this.length, fun i x y hx hy => by
      obtain ⟨y', e1, e2⟩ := this.get (by simpa using hx)
      have : c[i]? = some y := by simpa using hy
      rw [this] at e1; cases e1; exact e2⟩
  · intro v cs h r
    cases v with
    | nil => cases r; exact .nil
    | cons => simp [vmatchL] at h
  · intro a l i1 i2 v cs h r
    cases v with
    | nil => simp [vmatchL] at h
    | cons b m =>
      simp only [vmatchL, Bool.and_eq_true] at h
      cases r with
      | cons _ c _ m2 r1 r2 => exact .cons _ _ _ _ (i1 _ _ h.1 r1) (i2 _ _ h.2 r2)

def cellsMatch (ρ : Ren) (τ : Nat → Option Nat) (R : Root) (id : Nat) : List Value → Nat → Bool
  | [], _ => true
  | u :: l, o => (match R.cells.get o with | some (st, v) => Nat.ble st id && vmatch ρ τ u v | none => false) && cellsMatch ρ τ R id l (o + 1)
def entsMatch (ρ : Ren) (τ : Nat → Option Nat) : List AEnt → List AEnt → Bool
  | [], [] => true
  | a :: l, b :: m => vmatch ρ τ a.key b.key && vmatch ρ τ a.val b.val && Nat.beq a.born b.born && entsMatch ρ τ l m
  | _, _ => false
def specAt (ρ : Ren) (τ : Nat → Option Nat) (s : St) (id : Nat) : BSpec → Bool
  | .cells elem es l _ => match s.views.get id with
    | some V => (match s.roots.get V.root with
      | some R => Nat.beq V.root id && Nat.beq R.elem elem && Nat.beq R.es es && Nat.ble l.length V.ext && Nat.beq R.flo R.fhi && !R.sish && cellsMatch ρ τ R id l 0
      | none => false)
    | none => false
  | .obj (.map es clock) => (match s.views.get id with | some _ => false | none => true) && (match s.objs.get id with
    | some (.map es' clock') => Nat.beq clock clock' && entsMatch ρ τ es es'
    | _ => false)
  | .obj _ => false
def renOf : List Nat → Nat → Ren
  | [], _ => []
  | a :: l, i => (i, a) :: renOf l (i + 1)
def specOk (ρ : Ren) (τ : Nat → Option Nat) (s : St) : List BSpec → List Nat → Bool
  | [], [] => true
  | b :: l, id :: m => specAt ρ τ s id b && specOk ρ τ s l m
  | _, _ => false
def nodupB : List Nat → Bool
  | [] => true
  | a :: l => !(l.any fun b => Nat.beq a b) && nodupB l

theorem nodupB_spec : ∀ l : List Nat, nodupB l = true → l.Nodup := by
  intro l
  induction l with
  | nil => intro _; exact List.nodup_nil
  | cons a l ih =>
    intro h
    simp only [nodupB, Bool.and_eq_true, Bool.not_eq_true', List.any_eq_false] at h
    refine List.nodup_cons.2 ⟨fun hm => ?_, ih h.2⟩
    have := h.1 a hm
    simp at this
theorem rlook_renOf : ∀ (l : List Nat) (i a b : Nat), rlook (renOf l i) a = some b → ∃ k, a = i + k ∧ l[k]? = some b := by
  intro l
  induction l with
  | nil => intro i a b h; cases h
  | cons x l ih =>
    intro i a b h
    simp only [renOf, rlook] at h
    cases hb : Nat.beq i a with
    | true =>
      rw [hb] at h
      cases h
      exact ⟨0, (Nat.eq_of_beq_eq_true hb).symm, rfl⟩
    | false =>
      rw [hb] at h
      obtain ⟨k, e, hk⟩ := ih _ _ _ h
      exact ⟨k + 1, by omega, by simpa using hk⟩
theorem specOk_at {ρ : Ren} {τ : Nat → Option Nat} {s : St} : ∀ (L : List BSpec) (ids : List Nat), specOk ρ τ s L ids = true → L.length = ids.length ∧ ∀ (k : Nat) (b : BSpec) (id : Nat), L[k]? = some b → ids[k]? = some id → specAt ρ τ s id b = true := by
  intro L
  induction L with
  | nil =>
    intro ids h
    cases ids with
    | nil => exact ⟨rfl, fun k b id h => by simp at h⟩
    | cons => cases h
  | cons x L ih =>
    intro ids h
    cases ids with
    | nil => cases h
    | cons y ids =>
      simp only [specOk, Bool.and_eq_true] at h
      obtain ⟨h1, h2⟩ := ih ids h.2
      refine ⟨by simp [h1], fun k b id hb hid => ?_⟩
      cases k with
      | zero => simp at hb hid; rw [← hb, ← hid]; exact h.1
      | succ k => exact h2 k b id (by simpa using hb) (by simpa using hid)
theorem cellsMatch_at {ρ : Ren} {τ : Nat → Option Nat} {R : Root} {id : Nat} : ∀ (l : List Value) (o : Nat), cellsMatch ρ τ R id l o = true → ∀ (k : Nat) (u : Value), l[k]? = some u → ∃ st v, R.cells.get (o + k) = some (st, v) ∧ st ≤ id ∧ vmatch ρ τ u v = true := by
  intro l
  induction l with
  | nil => intro o _ k u h; simp at h
  | cons a l ih =>
    intro o h k u hk
    simp only [cellsMatch, Bool.and_eq_true] at h
    cases k with
    | zero =>
      simp at hk
      subst hk
      have h1 := h.1
      split at h1
      · rename_i st v hv
        rw [Bool.and_eq_true] at h1
        exact ⟨st, v, hv, Nat.le_of_ble_eq_true h1.1, h1.2⟩
      · cases h1
    | succ k =>
      obtain ⟨st, v, e1, e2, e3⟩ := ih (o + 1) h.2 k u (by simpa using hk)
      exact ⟨st, v, by rw [show o + (k + 1) = o + 1 + k by omega]; exact e1, e2, e3⟩
theorem entsMatch_rel {ρ : Ren} {τ : Nat → Option Nat} {φ ψ : Emb} (R : RenOk ρ τ φ ψ) : ∀ (a b : List AEnt) (c : List MapEntry), entsMatch ρ τ a b = true → EntsR φ b c → EntsR ψ a c := by
  intro a
  induction a with
  | nil =>
    intro b c h r
    cases b with
    | nil => cases r; exact .nil
    | cons => cases h
  | cons x a ih =>
    intro b c h r
    cases b with
    | nil => cases h
    | cons y b =>
      simp only [entsMatch, Bool.and_eq_true] at h
      obtain ⟨⟨⟨h1, h2⟩, h3⟩, h4⟩ := h
      cases r with
      | cons _ e _ m k1 k2 k3 k4 => exact .cons _ _ _ _ (VR.vmatch R _ _ _ h1 k1) (VR.vmatch R _ _ _ h2 k2) ((Nat.eq_of_beq_eq_true h3).trans k3) (ih _ _ h4 k4)
def Base.free (w : World) : Base := ⟨w, fun _ => False, fun _ h => h.elim⟩

theorem Rel.respec {b : Base} {φ : Emb} {s : St} {w : World} (r : Rel b φ s w) {L : List BSpec} {ids : List Nat} {τ : Nat → Option Nat} (h : (specOk (renOf ids 0) τ s L ids && nodupB ids) = true)
    {ts : List Tgt} (hlen : ts.length = L.length) (hφ : ∀ (k : Nat) id t, ids[k]? = some id → ts[k]? = some t → φ id = some t) {sig : Nat → Int} (hsig : ∀ i j, τ i = some j → sig i = φ.sig j) :
    (ts.map (·.blk)).Nodup ∧ ∀ (k : Nat) (t : Tgt) (sp : BSpec), ts[k]? = some t → L[k]? = some sp → sp.ok (Base.free w) (bEmb ts sig) w t := by
  rw [Bool.and_eq_true] at h
  obtain ⟨h, hnd⟩ := h
  obtain ⟨hl, hat⟩ := specOk_at L ids h
  have hnd := nodupB_spec _ hnd
  have R : RenOk (renOf ids 0) τ φ (bEmb ts sig) := by
    refine ⟨fun a b' t e ht => ?_, hsig⟩
    obtain ⟨k, e1, e2⟩ := rlook_renOf _ _ _ _ e
    rw [Nat.zero_add] at e1
    subst e1
    have hk : a < ts.length := by rw [hlen, hl]; exact (List.getElem?_eq_some_iff.1 e2).1
    have h1 := hφ a b' ts[a] e2 (List.getElem?_eq_getElem hk)
    rw [ht] at h1
    cases h1
    exact List.getElem?_eq_getElem hk
  have spec : ∀ (k : Nat) (t : Tgt), ts[k]? = some t → ∃ (id : Nat) (sp : BSpec), ids[k]? = some id ∧ L[k]? = some sp ∧ φ id = some t ∧ specAt (renOf ids 0) τ s id sp = true := by
    intro k t ht
    have hk := (List.getElem?_eq_some_iff.1 ht).1
    have hid : ids[k]? = some (ids[k]'(by omega)) := List.getElem?_eq_getElem (by omega)
    have hsp : L[k]? = some (L[k]'(by omega)) := List.getElem?_eq_getElem (by omega)
    exact ⟨_, _, hid, hsp, hφ k _ t hid ht, hat k _ _ hsp hid⟩
  refine ⟨?_, ?_⟩
  · refine List.pairwise_iff_getElem.2 ?_
    intro i j hi hj hlt hij
    simp only [List.length_map] at hi hj
    simp only [List.getElem_map] at hij
    obtain ⟨a, sa, a1, a2, a3, a4⟩ := spec i ts[i] (List.getElem?_eq_getElem hi)
    obtain ⟨c, sc, c1, c2, c3, c4⟩ := spec j ts[j] (List.getElem?_eq_getElem hj)
    have hac : a = c := by
      rcases r.inj _ _ _ _ a3 c3 hij with e | ⟨V1, V2, v1, v2, v3⟩
      · exact e
      · have root : ∀ {id sp V}, specAt (renOf ids 0) τ s id sp = true → s.views.get id = some V → V.root = id := by
          intro id sp V hs hV
          cases sp with
          | cells elem es l ro =>
            simp only [specAt, hV] at hs
            split at hs
            · simp only [Bool.and_eq_true] at hs
              exact Nat.eq_of_beq_eq_true hs.1.1.1.1.1.1
            · cases hs
          | obj o => cases o <;> simp [specAt, hV] at hs
        rw [← root a4 v1, v3, root c4 v2]
    subst hac
    have := (List.getElem?_inj (l := ids) ((List.getElem?_eq_some_iff.1 a1).1) hnd).1 (a1.trans c1.symm)
    omega
  · intro k t sp ht hsp
    obtain ⟨id, sp', e1, e2, e3, e4⟩ := spec k t ht
    rw [hsp] at e2
    cases e2
    cases sp with
    | cells elem es l ro =>
      simp only [specAt] at e4
      split at e4
      · rename_i V hV
        split at e4
        · rename_i R0 hR
          simp only [Bool.and_eq_true, Bool.not_eq_true'] at e4
          obtain ⟨⟨⟨⟨⟨⟨q1, q2⟩, q3⟩, q4⟩, q5⟩, q6⟩, q7⟩ := e4
          obtain ⟨R1, hR1, bk⟩ := r.view id t V e3 hV
          rw [hR] at hR1; cases hR1
          obtain ⟨c, fr, g1, g2, g3, g4⟩ := bk.blk
          have f1 := g3.none q6 (Nat.eq_of_beq_eq_true q5)
          have f2 := g3.le
          refine ⟨fun _ hK => hK, by rw [← bk.es]; exact Nat.eq_of_beq_eq_true q3, c, fr, by rw [← Nat.eq_of_beq_eq_true q2]; exact g1, by omega, g3.top q6, g2, Nat.le_trans (Nat.le_of_ble_eq_true q4) bk.ext, ?_⟩
          intro o val ho
          obtain ⟨st, v, m1, m2, m3⟩ := cellsMatch_at l 0 q7 o val ho
          rw [Nat.zero_add] at m1
          have hlt : o < V.ext := Nat.lt_of_lt_of_le (List.getElem?_eq_some_iff.1 ho).1 (Nat.le_of_ble_eq_true q4)
          obtain ⟨cv, n1, n2⟩ := g4 o st v m1 m2 hlt
          exact ⟨cv, n1, VR.vmatch R _ _ _ m3 n2⟩
        · cases e4
      · cases e4
    | obj o =>
      cases o with
      | map es clock =>
        simp only [specAt, Bool.and_eq_true] at e4
        have e5 := e4.2
        split at e5
        · rename_i es' clock' ho
          rw [Bool.and_eq_true] at e5
          obtain ⟨hK, c, g1, g2⟩ := r.obj id t _ e3 ho
          refine ⟨fun h => h, c, g1, ?_⟩
          cases g2 with
          | map _ cs _ hE =>
            rw [← Nat.eq_of_beq_eq_true e5.1]
            exact .map _ _ _ (entsMatch_rel R _ _ _ e5.2 hE)
        · cases e5
      | _ => simp [specAt] at e4
end Go.Proofs.YtcmlomjdkjcjpaaGreatDoor.Vai
