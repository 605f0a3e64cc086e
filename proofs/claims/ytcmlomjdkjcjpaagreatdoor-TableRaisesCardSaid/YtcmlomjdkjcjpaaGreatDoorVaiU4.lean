/- A part of an evaluator of the model's code whose answers are proved sound: no statement on the program stands here. -/
import Derived.Test.YtcmlomjdkjcjpaaGreatDoorVaiU3
open Go Go.RowKit
namespace Go.Proofs.YtcmlomjdkjcjpaaGreatDoor.Vai
set_option linter.unusedVariables false
set_option linter.unusedSimpArgs false

theorem countP_lt {α : Type} {p p' : α → Bool} (hsub : ∀ x, p' x = true → p x = true) : ∀ (l : List α) (i : α), i ∈ l → p i = true → p' i = false → l.countP p' < l.countP p := by
  have hle : ∀ l : List α, l.countP p' ≤ l.countP p := fun l => List.countP_mono_left (fun x _ => hsub x)
  intro l
  induction l with
  | nil => intro i h; cases h
  | cons x l ih =>
    intro i h hp hp'
    rw [List.countP_cons, List.countP_cons]
    rcases List.mem_cons.1 h with rfl | h
    · rw [if_pos hp, if_neg (by rw [hp']; simp)]
      have := hle l; omega
    · have := ih i h hp hp'
      by_cases h1 : p' x = true
      · rw [if_pos h1, if_pos (hsub x h1)]; omega
      · rw [if_neg h1]; split <;> omega

section
variable {P : Program} {tb : Tb} {call : ACall} {w0 : Base} {ops : Array Oper} {m : Pre} {rs : List RRec} {F : Nat → Fr} {S : Nat → St} {V : Nat → SRes}
variable {sz : St} {φ0 : Emb} {d0 : List Deferred} {D : Nat → Prop} {q p : Nat} {φ ψ : Emb} {w : World} {a : Act}

theorem Inv.congr {D' : Nat → Prop} (h : ∀ i, D i ↔ D' i) (I : Inv w0 sz ops F S V φ0 d0 D q p φ w a) : Inv w0 sz ops F S V φ0 d0 D' q p φ w a := by
  have : D = D' := funext fun i => propext (h i)
  rw [← this]; exact I

abbrev isOn (listed : Array Bool) (i : Nat) : Prop := listed[i]? = some true
def left (ops : Array Oper) (listed : Array Bool) : Nat := (List.range ops.size).countP fun i => !listed.getD i true

theorem getD_true {l : Array Bool} {i : Nat} (h : (!l.getD i true) = true) : l[i]? = some false := by
  rw [Array.getD_eq_getD_getElem?] at h
  cases hl : l[i]? with
  | none => rw [hl] at h; cases h
  | some x => rw [hl] at h; cases x <;> first | rfl | cases h
theorem getD_false {l : Array Bool} {i : Nat} (h : l.getD i false = true) : l[i]? = some true := by
  rw [Array.getD_eq_getD_getElem?] at h
  cases hl : l[i]? with
  | none => rw [hl] at h; cases h
  | some x => rw [hl] at h; cases x <;> first | rfl | cases h

theorem mem_ready {listed : Array Bool} {i : Nat} (h : i ∈ Region.ready .any ops listed) :
    ∃ o, ops[i]? = some o ∧ listed[i]? = some false ∧ ∀ e ∈ o.after, Region.binds .any e = true → isOn listed e.on := by
  unfold Region.ready at h
  rw [List.mem_filter, List.mem_range, Bool.and_eq_true] at h
  obtain ⟨h1, h2, h3⟩ := h
  refine ⟨ops[i], Array.getElem?_eq_getElem h1, getD_true h2, ?_⟩
  rw [Array.getElem?_eq_getElem h1] at h3
  simp only [Option.map_some, Option.getD_some] at h3
  intro e he hb
  rw [Array.all_eq_true'] at h3
  have := h3 e he
  rw [hb] at this
  exact getD_false (by simpa using this)

theorem ready_nil {listed : Array Bool} (R : RegOk ops) (hs : listed.size = ops.size) (h : Region.ready .any ops listed = []) : ∀ i, i < ops.size → isOn listed i := by
  intro i
  induction i using Nat.strongRecOn with
  | _ i ih =>
    intro hi
    have hl : listed[i]? = some listed[i] := Array.getElem?_eq_getElem (by omega)
    cases hb : listed[i] with
    | true => rw [hb] at hl; exact hl
    | false =>
      exfalso
      rw [hb] at hl
      have hm : i ∈ Region.ready .any ops listed := by
        unfold Region.ready
        rw [List.mem_filter, List.mem_range, Bool.and_eq_true]
        refine ⟨hi, ?_, ?_⟩
        · rw [Array.getD_eq_getD_getElem?, hl]; rfl
        · rw [Array.getElem?_eq_getElem hi]
          simp only [Option.map_some, Option.getD_some]
          rw [Array.all_eq_true']
          intro e he
          cases hb' : Region.binds .any e with
          | false => rfl
          | true =>
            have hlt := R.down i ops[i] (Array.getElem?_eq_getElem hi) e he hb'
            have := ih e.on hlt (by omega)
            rw [Array.getD_eq_getD_getElem?, this]; rfl
      rw [h] at hm
      cases hm

theorem any_loop (hP : TbOk P tb) (hC : CallOk P w0 call) (c : Canon P tb call ops m rs F S V) (L : Looks P tb ops F S V) (R : RegOk ops) (M : PreOk m sz.next (S 0).next) (b : Frame) (k : List Item) (cs : List Frame) :
    ∀ (fuel t : Nat) (listed : Array Bool) (q p : Nat) (φ : Emb) (w : World) (a : Act), listed.size = ops.size → left ops listed ≤ fuel → Inv w0 sz ops F S V φ0 d0 (isOn listed) q p φ w a →
      ∃ q' p' φ' w' a', Steps P (lone (fat b a (.inRegion ops (Region.linearise.go .any ops fuel t listed []) :: k)) cs w) (lone (fat b a' (.inRegion ops [] :: k)) cs w') ∧ Inv w0 sz ops F S V φ0 d0 (fun i => i < ops.size) q' p' φ' w' a' := by
  intro fuel
  induction fuel with
  | zero =>
    intro t listed q p φ w a hs hle I
    refine ⟨q, p, φ, w, a, by simp only [Region.linearise.go, List.reverse_nil]; exact .refl _ _, I.congr fun i => ⟨I.dn i, fun hi => ?_⟩⟩
    have h0 : left ops listed = 0 := by omega
    unfold left at h0
    rw [List.countP_eq_zero] at h0
    have := h0 i (List.mem_range.2 hi)
    have hl : listed[i]? = some listed[i] := Array.getElem?_eq_getElem (by omega)
    rw [Array.getD_eq_getD_getElem?, hl] at this
    rw [isOn, hl]
    cases hb : listed[i] with
    | true => rfl
    | false => rw [hb] at this; simp at this
  | succ fuel ih =>
    intro t listed q p φ w a hs hle I
    simp only [Region.linearise.go]
    change ∃ q' p' φ' w' a', Steps P (lone (fat b a (.inRegion ops (match (Region.ready .any ops listed)[t % (Region.ready .any ops listed).length]? with
      | some i => Region.linearise.go .any ops fuel (t / (Region.ready .any ops listed).length) (listed.setIfInBounds i true) [i]
      | none => [].reverse) :: k)) cs w) _ ∧ _
    cases hi : (Region.ready .any ops listed)[t % (Region.ready .any ops listed).length]? with
    | none =>
      have hnil : Region.ready .any ops listed = [] := by
        cases hr : Region.ready .any ops listed with
        | nil => rfl
        | cons x xs =>
          rw [hr] at hi
          have hlt : t % (x :: xs).length < (x :: xs).length := Nat.mod_lt _ (by simp)
          rw [List.getElem?_eq_none_iff] at hi
          omega
      exact ⟨q, p, φ, w, a, .refl _ _, I.congr fun i => ⟨I.dn i, ready_nil R hs hnil i⟩⟩
    | some i =>
      simp only []
      rw [linearise_go_acc, List.reverse_singleton, List.singleton_append]
      obtain ⟨o, h1, h2, h3⟩ := mem_ready (List.mem_of_getElem? hi)
      have hin : i < ops.size := (Array.getElem?_eq_some_iff.1 h1).1
      obtain ⟨q', p', φ', w', cv, e1, I'⟩ := I.step hP hC c L R M h1 (fun h => by rw [isOn, h2] at h; cases h) h3 b (Region.linearise.go .any ops fuel (t / (Region.ready .any ops listed).length) (listed.setIfInBounds i true) []) k cs
      have hset : ∀ j, (isOn listed j ∨ j = i) ↔ isOn (listed.setIfInBounds i true) j := by
        intro j
        by_cases e : j = i
        · subst e
          exact ⟨fun _ => by simp [isOn, hs, hin], fun _ => .inr rfl⟩
        · rw [isOn, isOn, Array.getElem?_setIfInBounds_ne (fun x => e x.symm)]
          exact ⟨fun h => h.elim id (fun x => absurd x e), .inl⟩
      have hlt : left ops (listed.setIfInBounds i true) < left ops listed := by
        unfold left
        refine countP_lt ?_ _ i (List.mem_range.2 hin) ?_ ?_
        · intro x hx
          by_cases e : x = i
          · subst e
            rw [Array.getD_eq_getD_getElem?] at hx
            simp [hs, hin] at hx
          · rw [Array.getD_eq_getD_getElem?, Array.getElem?_setIfInBounds_ne (fun y => e y.symm), ← Array.getD_eq_getD_getElem?] at hx
            exact hx
        · rw [Array.getD_eq_getD_getElem?, h2]; rfl
        · rw [Array.getD_eq_getD_getElem?]; simp [hs, hin]
      obtain ⟨q2, p2, φ2, w2, a2, e2, I2⟩ := ih (t / (Region.ready .any ops listed).length) (listed.setIfInBounds i true) q' p' φ' w' _ (by simp [hs]) (by omega) (I'.congr hset)
      exact ⟨q2, p2, φ2, w2, a2, e1.trans e2, I2⟩
end
end Go.Proofs.YtcmlomjdkjcjpaaGreatDoor.Vai
