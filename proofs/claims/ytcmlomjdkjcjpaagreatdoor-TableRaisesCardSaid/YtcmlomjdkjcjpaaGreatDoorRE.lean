import Derived.Test.YtcmlomjdkjcjpaaGreatDoorRD
import Derived.Laws.AppendOwnNone
open Go Go.RowKit Go.Proofs.YtcmlomjdkjcjpaaGreatDoor.Vai
namespace Go.Proofs.YtcmlomjdkjcjpaaGreatDoor
set_option linter.unusedVariables false
set_option linter.unusedSimpArgs false
set_option maxRecDepth 100000
def opv (k : Nat) (s : Int) : Value := .agg #[.int .i64 7, .string ⟨#[116]⟩, .slice (some ⟨k, 0, none⟩) 1 1, .slice none 0 0, .slice none 0 0, .string ⟨#[]⟩, .int .i64 1, .int .i64 s, .int .i64 0]
def six (t0 t1 t2 t3 t4 t5 : Tgt) : List Tgt := [t0, t1, t2, t3, t4, t5]
/-- The data of one row lie in memory: its blocks, the number. -/
def DataAt (w : World) (d kb m : Nat) (l : List Nat) (v : Int) : Prop :=
  ∃ t0 t1 t2 t3 t4 t5 : Tgt, t0.blk = d ∧ t1.blk = kb ∧ t5.blk = m ∧ l = (six t0 t1 t2 t3 t4 t5).map (·.blk) ∧ l.Nodup ∧
    ∀ (k : Nat) (t : Tgt) (sp : BSpec), (six t0 t1 t2 t3 t4 t5)[k]? = some t → (spec (atomV 0))[k]? = some sp → sp.ok (Base.free w) (bEmb (six t0 t1 t2 t3 t4 t5) (fun _ => v)) w t
def tau (j : Nat) (i : Nat) : Option Nat := bif Nat.beq i 0 then some j else none
theorem tau_some {j i k : Nat} (h : tau j i = some k) : i = 0 ∧ k = j := by
  unfold tau at h
  cases hb : Nat.beq i 0 with
  | true => rw [hb] at h; cases h; exact ⟨Nat.eq_of_beq_eq_true hb, rfl⟩
  | false => rw [hb] at h; cases h
def isRes (u : Value) : Bool := match u with
  | .agg ⟨[a, .slice _ _ _]⟩ => veq a (.int .i64 0)
  | _ => false
def isResE (u : Value) : Bool := match u with
  | .agg ⟨[a, .slice _ _ _]⟩ => veq a (.int .i64 1)
  | _ => false
def afterIds : List Nat := [0, 1, 2, 63, 60, 5]
def fitCheck (r : Option (Value × St)) : Bool := match r with
  | some (u, s') => isRes u && (specOk (renOf afterIds 0) (tau 2) s' (spec (atomV 0)) afterIds && nodupB afterIds) && linkEnt s' 5 0 63 && linkCell s' 63 1 60 && ownedAt s' 63 && ownedAt s' 60
  | none => false
def ovfCheck (r : Option (Value × St)) : Bool := match r with
  | some (u, s') => isResE u
  | none => false
theorem fit_ok : fitCheck doFit = true := by kernel_rfl
theorem ovf_ok : ovfCheck doOvf = true := by kernel_rfl
theorem isRes_inv {φ : Emb} {u c : Value} (h : isRes u = true) (r : VR φ u c) : ∃ p a b, c = .agg #[.int .i64 0, .slice p a b] := by
  unfold isRes at h
  split at h
  · rename_i x base l cc
    obtain rfl := veq_sound _ _ h
    obtain ⟨cs, rfl, hc⟩ := r.agg_inv
    obtain ⟨c⟩ := cs
    have q := hc.list
    cases q with
    | cons _ a1 _ m1 r1 q =>
    cases q with
    | cons _ a2 _ m2 r2 q =>
    cases q
    cases r1
    cases r2 with
    | snil => exact ⟨_, _, _, rfl⟩
    | slice => exact ⟨_, _, _, rfl⟩
  · cases h
theorem isResE_inv {φ : Emb} {u c : Value} (h : isResE u = true) (r : VR φ u c) : ∃ p a b, c = .agg #[.int .i64 1, .slice p a b] := by
  unfold isResE at h
  split at h
  · rename_i x base l cc
    obtain rfl := veq_sound _ _ h
    obtain ⟨cs, rfl, hc⟩ := r.agg_inv
    obtain ⟨c⟩ := cs
    have q := hc.list
    cases q with
    | cons _ a1 _ m1 r1 q =>
    cases q with
    | cons _ a2 _ m2 r2 q =>
    cases q
    cases r1
    cases r2 with
    | snil => exact ⟨_, _, _, rfl⟩
    | slice => exact ⟨_, _, _, rfl⟩
  · cases h
/-- The base of a call that may write the tables alone. -/
def butM (w : World) (m : Nat) : Base := ⟨w, fun q => q < w.heap.size ∧ q ≠ m, fun _ h => h.1⟩
theorem butM_grown {w w' : World} {m : Nat} (h : Kept (butM w m) w') : w.grownBy w' (some m) :=
  ⟨h.os, h.tape, h.output, h.size, fun k hk hm => h.block k ⟨hk, fun e => hm (by rw [e])⟩⟩
def sigDo (v k : Int) (i : Nat) : Int := if i = 0 then v else if i = 1 then k else v + k
theorem selfMatch : spAll [(0, 0), (1, 1), (2, 2), (3, 3), (4, 4), (5, 5)] (tau 0) (spec (atomV 0)) (spec (atomV 0)) = true := by kernel_rfl
theorem six_get {t0 t1 t2 t3 t4 t5 t : Tgt} {k : Nat} (h : (six t0 t1 t2 t3 t4 t5)[k]? = some t) : (k = 0 ∧ t = t0) ∨ (k = 1 ∧ t = t1) ∨ (k = 2 ∧ t = t2) ∨ (k = 3 ∧ t = t3) ∨ (k = 4 ∧ t = t4) ∨ (k = 5 ∧ t = t5) := by
  match k, h with
  | 0, h => cases h; exact .inl ⟨rfl, rfl⟩
  | 1, h => cases h; exact .inr (.inl ⟨rfl, rfl⟩)
  | 2, h => cases h; exact .inr (.inr (.inl ⟨rfl, rfl⟩))
  | 3, h => cases h; exact .inr (.inr (.inr (.inl ⟨rfl, rfl⟩)))
  | 4, h => cases h; exact .inr (.inr (.inr (.inr (.inl ⟨rfl, rfl⟩))))
  | 5, h => cases h; exact .inr (.inr (.inr (.inr (.inr ⟨rfl, rfl⟩))))
  | _ + 6, h => cases h
theorem rlook_same {a b : Nat} : ∀ (l : Ren), (∀ p ∈ l, p.2 = p.1) → rlook l a = some b → b = a := by
  intro l
  induction l with
  | nil => intro _ h; cases h
  | cons p l ih =>
    obtain ⟨x, y⟩ := p
    intro hl h
    simp only [rlook] at h
    cases hb : Nat.beq x a with
    | true =>
      rw [hb] at h
      cases h
      rw [← Nat.eq_of_beq_eq_true hb]
      exact hl _ (List.mem_cons_self ..)
    | false => rw [hb] at h; exact ih (fun p hp => hl p (List.mem_cons_of_mem _ hp)) h
theorem idRen {ts : List Tgt} {sig sig' : Nat → Int} {j : Nat} (hs : sig' 0 = sig j) : RenOk [(0, 0), (1, 1), (2, 2), (3, 3), (4, 4), (5, 5)] (tau j) (bEmb ts sig) (bEmb ts sig') := by
  refine ⟨fun a b t e h => ?_, fun i k h => ?_⟩
  · have : b = a := rlook_same _ (by decide) e
    subst this; exact h
  · obtain ⟨rfl, rfl⟩ := tau_some h; exact hs
/-- The data as a relation, in the base of a call. -/
theorem DataAt.rel {w : World} {t0 t1 t2 t3 t4 t5 : Tgt} {v : Int} (hnd : ((six t0 t1 t2 t3 t4 t5).map (·.blk)).Nodup)
    (h : ∀ (k : Nat) (t : Tgt) (sp : BSpec), (six t0 t1 t2 t3 t4 t5)[k]? = some t → (spec (atomV 0))[k]? = some sp → sp.ok (Base.free w) (bEmb (six t0 t1 t2 t3 t4 t5) (fun _ => v)) w t)
    {sig : Nat → Int} (hs : sig 0 = v) {orc : List Fact} (ho : ∀ f ∈ orc, f.ok sig) : Rel (butM w t5.blk) (bEmb (six t0 t1 t2 t3 t4 t5) sig) (bSt (spec (atomV 0)) orc) w := by
  refine Rel.ofBlocks _ _ _ _ rfl (Kept.refl _) ho hnd fun k t sp ht hsp => ?_
  obtain ⟨sp', e1, e2⟩ := spAll_at _ _ selfMatch k sp hsp
  rw [hsp] at e1
  cases e1
  refine (h k t sp ht hsp).conv (idRen (j := 0) hs) e2 rfl fun hown hK => ?_
  rcases six_get ht with ⟨rfl, rfl⟩ | ⟨rfl, rfl⟩ | ⟨rfl, rfl⟩ | ⟨rfl, rfl⟩ | ⟨rfl, rfl⟩ | ⟨rfl, rfl⟩
  · cases hsp; cases hown
  · cases hsp; cases hown
  · cases hsp; cases hown
  · cases hsp; cases hown
  · cases hsp; cases hown
  · exact hK.2 rfl
theorem op_rel {φ : Emb} {kb : Nat} {k : Int} {t : Tgt} (h1 : φ 1 = some t) (hb : t.blk = kb) (h2 : φ.sig 1 = k) : VR φ (opA (atomV 1)) (opv kb k) := by
  subst hb h2
  refine .agg _ _ rfl fun i x y hx hy => ?_
  match i, hx, hy with
  | 0, hx, hy => cases hx; cases hy; exact .int _ _
  | 1, hx, hy => cases hx; cases hy; exact .string _
  | 2, hx, hy => cases hx; cases hy; exact .slice _ _ _ _ _ _ h1 (fun _ => rfl) (fun h => by cases h)
  | 3, hx, hy => cases hx; cases hy; exact .snil _ _
  | 4, hx, hy => cases hx; cases hy; exact .snil _ _
  | 5, hx, hy => cases hx; cases hy; exact .string _
  | 6, hx, hy => cases hx; cases hy; exact .int _ _
  | 7, hx, hy => cases hx; cases hy; exact VR.atom
  | 8, hx, hy => cases hx; cases hy; exact .int _ _
theorem do_fit {w : World} {d kb m : Nat} {l : List Nat} {v k : Int} (h : DataAt w d kb m l v) (hv : word v) (hk : word k) (hs : word (v + k)) :
    Calls Tryz.prog 16 #[.pointer (some ⟨d, 0, none⟩), opv kb k] w fun e w' => ∃ p a b l', e = .returned (.agg #[.int .i64 0, .slice p a b]) ∧ DataAt w' d kb m l' (v + k) ∧ (∀ x ∈ l', x < w'.heap.size ∧ (x ∈ l ∨ w.heap.size ≤ x)) ∧ w.grownBy w' (some m) := by
  obtain ⟨t0, t1, t2, t3, t4, t5, rfl, rfl, rfl, rfl, hnd, hok⟩ := h
  have ho : ∀ f ∈ (Fact.add 0 1 2 :: wordF 0 ++ wordF 1), f.ok (sigDo v k) := by
    intro f hf
    rcases List.mem_append.1 hf with hf | hf
    · rcases List.mem_cons.1 hf with rfl | hf
      · exact ⟨rfl, hs.1, hs.2⟩
      · exact wordF_ok (i := 0) hv f hf
    · exact wordF_ok (i := 1) hk f hf
  have r := DataAt.rel hnd hok (sig := sigDo v k) rfl ho
  have hc := fit_ok
  unfold fitCheck at hc
  split at hc
  · rename_i u s' hrun
    simp only [Bool.and_eq_true] at hc
    obtain ⟨⟨⟨⟨⟨c1, c2⟩, c3⟩, c4⟩, c5⟩, c6⟩ := hc
    refine ((fun_soundK tb0_ok mixed knAdd_ok 1000 100).fn 16 _ _ _ _ hrun _ w [_, _] r (.cons _ _ _ _ (.ptr 0 0 t0 rfl) (.cons _ _ _ _ (op_rel (t := t1) rfl rfl rfl) .nil))).2.mono ?_
    rintro e w' ⟨ψ, c, rfl, hext, hn, r', hvr⟩
    obtain ⟨p, a, b, rfl⟩ := isRes_inv c1 hvr
    have hψ : ∀ (i : Nat) (t : Tgt), (six t0 t1 t2 t3 t4 t5)[i]? = some t → ψ i = some t := fun i t ht => by
      rw [hext i (by have := (List.getElem?_eq_some_iff.1 ht).1; exact this)]; exact ht
    obtain ⟨u3, e3⟩ := r'.linkEnt (hψ 5 t5 rfl) c3
    obtain ⟨u4, e4⟩ := r'.linkCell e3 c4
    have K3 := r'.ownedAt e3 c5
    have K4 := r'.ownedAt e4 c6
    obtain ⟨q1, q2⟩ := r'.respec (ts := six t0 t1 t2 u3 u4 t5) (sig := fun _ => v + k) (by rw [Bool.and_eq_true]; exact c2) rfl (fun i id t hi ht => by
      match i, hi, ht with
      | 0, hi, ht => cases hi; cases ht; exact hψ 0 t0 rfl
      | 1, hi, ht => cases hi; cases ht; exact hψ 1 t1 rfl
      | 2, hi, ht => cases hi; cases ht; exact hψ 2 t2 rfl
      | 3, hi, ht => cases hi; cases ht; exact e3
      | 4, hi, ht => cases hi; cases ht; exact e4
      | 5, hi, ht => cases hi; cases ht; exact hψ 5 t5 rfl
      | _ + 6, hi, ht => cases hi) (fun i j hij => by
        obtain ⟨rfl, rfl⟩ := tau_some hij
        rw [hext.sig]; rfl)
    refine ⟨p, a, b, _, rfl, ⟨t0, t1, t2, u3, u4, t5, rfl, rfl, rfl, rfl, q1, q2⟩, ?_, butM_grown r'.bel⟩
    have lt : ∀ (i : Nat) (t : Tgt), (six t0 t1 t2 t3 t4 t5)[i]? = some t → t.blk < w'.heap.size := fun i t ht => r'.lt (hψ i t ht)
    have old : ∀ (i : Nat) (t : Tgt), (six t0 t1 t2 t3 t4 t5)[i]? = some t → t.blk ∈ (six t0 t1 t2 t3 t4 t5).map (·.blk) := fun i t ht => List.mem_map.2 ⟨t, List.mem_of_getElem? ht, rfl⟩
    have fresh : ∀ {u : Tgt}, ¬ (butM w t5.blk).K u.blk → u.blk ≠ t5.blk → w.heap.size ≤ u.blk := fun {u} hK hne => Nat.le_of_not_lt fun hlt => hK ⟨hlt, hne⟩
    have ne3 : u3.blk ≠ t5.blk := by
      have := q1; simp [six] at this; exact this.2.2.2.1.2
    have ne4 : u4.blk ≠ t5.blk := by
      have := q1; simp [six] at this; exact this.2.2.2.2
    intro x hx
    simp only [six, List.map_cons, List.map_nil, List.mem_cons, List.not_mem_nil, or_false] at hx
    rcases hx with rfl | rfl | rfl | rfl | rfl | rfl
    · exact ⟨lt 0 t0 rfl, .inl (old 0 t0 rfl)⟩
    · exact ⟨lt 1 t1 rfl, .inl (old 1 t1 rfl)⟩
    · exact ⟨lt 2 t2 rfl, .inl (old 2 t2 rfl)⟩
    · exact ⟨r'.lt e3, .inr (fresh K3 ne3)⟩
    · exact ⟨r'.lt e4, .inr (fresh K4 ne4)⟩
    · exact ⟨lt 5 t5 rfl, .inl (old 5 t5 rfl)⟩
  · cases hc
theorem do_ovf {w : World} {d kb m : Nat} {l : List Nat} {v k : Int} (h : DataAt w d kb m l v) (hv : word v) (hk : word k) (hs : ¬ word (v + k)) :
    Calls Tryz.prog 16 #[.pointer (some ⟨d, 0, none⟩), opv kb k] w fun e w' => ∃ p a b, e = .returned (.agg #[.int .i64 1, .slice p a b]) ∧ w.grownBy w' (some m) := by
  obtain ⟨t0, t1, t2, t3, t4, t5, rfl, rfl, rfl, rfl, hnd, hok⟩ := h
  have ho : ∀ f ∈ (Fact.ovf 0 1 :: wordF 0 ++ wordF 1), f.ok (sigDo v k) := by
    intro f hf
    rcases List.mem_append.1 hf with hf | hf
    · rcases List.mem_cons.1 hf with rfl | hf
      · exact hs
      · exact wordF_ok (i := 0) hv f hf
    · exact wordF_ok (i := 1) hk f hf
  have r := DataAt.rel hnd hok (sig := sigDo v k) rfl ho
  have hc := ovf_ok
  unfold ovfCheck at hc
  split at hc
  · rename_i u s' hrun
    refine ((fun_soundK tb0_ok mixed knAdd_ok 1000 100).fn 16 _ _ _ _ hrun _ w [_, _] r (.cons _ _ _ _ (.ptr 0 0 t0 rfl) (.cons _ _ _ _ (op_rel (t := t1) rfl rfl rfl) .nil))).2.mono ?_
    rintro e w' ⟨ψ, c, rfl, hext, hn, r', hvr⟩
    obtain ⟨p, a, b, rfl⟩ := isResE_inv hc hvr
    exact ⟨p, a, b, rfl, butM_grown r'.bel⟩
  · cases hc
noncomputable def cloneRun : Option (Value × St) := aFunK Tryz.prog tb0 knAdd 1000 100 (.func 15) [.map (some 5)] (bSt (spec (atomV 0)) [])
def sameIds : List Nat := [0, 1, 2, 3, 4, 5]
def cloneCheck (r : Option (Value × St)) : Bool := match r with
  | some (u, s') => (match u with | .map (some _) => true | _ => false) && (specOk (renOf sameIds 0) (tau 0) s' (spec (atomV 0)) sameIds && nodupB sameIds)
  | none => false
theorem clone_ok : cloneCheck cloneRun = true := by kernel_rfl
theorem clone_any {w : World} {d kb m : Nat} {l : List Nat} {v : Int} (h : DataAt w d kb m l v) :
    Calls Tryz.prog 15 #[.map (some m)] w fun e w' => ∃ m2, e = .returned (.map (some m2)) ∧ DataAt w' d kb m l v ∧ (∀ x ∈ l, x < w'.heap.size) ∧ w.grownBy w' (some m) := by
  obtain ⟨t0, t1, t2, t3, t4, t5, rfl, rfl, rfl, rfl, hnd, hok⟩ := h
  have r := DataAt.rel hnd hok (sig := fun _ => v) rfl (orc := []) (fun f hf => by cases hf)
  have hc := clone_ok
  unfold cloneCheck at hc
  split at hc
  · rename_i u s' hrun
    rw [Bool.and_eq_true] at hc
    obtain ⟨c1, c2⟩ := hc
    refine ((fun_soundK tb0_ok mixed knAdd_ok 1000 100).fn 15 _ _ _ _ hrun _ w [_] r (.cons _ _ _ _ (.map 5 t5 rfl) .nil)).2.mono ?_
    rintro e w' ⟨ψ, c, rfl, hext, hn, r', hvr⟩
    split at c1
    · rename_i m0
      have hψ : ∀ (i : Nat) (t : Tgt), (six t0 t1 t2 t3 t4 t5)[i]? = some t → ψ i = some t := fun i t ht => by
        rw [hext i (by have := (List.getElem?_eq_some_iff.1 ht).1; exact this)]; exact ht
      have ids : ∀ (k : Nat) id t, sameIds[k]? = some id → (six t0 t1 t2 t3 t4 t5)[k]? = some t → ψ id = some t := fun i id t hi ht => by
        match i, hi, ht with
        | 0, hi, ht => cases hi; cases ht; exact hψ 0 t0 rfl
        | 1, hi, ht => cases hi; cases ht; exact hψ 1 t1 rfl
        | 2, hi, ht => cases hi; cases ht; exact hψ 2 t2 rfl
        | 3, hi, ht => cases hi; cases ht; exact hψ 3 t3 rfl
        | 4, hi, ht => cases hi; cases ht; exact hψ 4 t4 rfl
        | 5, hi, ht => cases hi; cases ht; exact hψ 5 t5 rfl
        | _ + 6, hi, ht => cases hi
      obtain ⟨q1, q2⟩ := r'.respec (ts := six t0 t1 t2 t3 t4 t5) (sig := fun _ => v) (by rw [Bool.and_eq_true] at c2 ⊢; exact c2) rfl ids (fun i j hij => by
        rw [hext.sig]; rfl)
      cases hvr with
      | map _ tm htm =>
        refine ⟨tm.blk, rfl, ⟨t0, t1, t2, t3, t4, t5, rfl, rfl, rfl, rfl, q1, q2⟩, ?_, butM_grown r'.bel⟩
        intro x hx
        obtain ⟨t, ht, rfl⟩ := List.mem_map.1 hx
        obtain ⟨i, hi⟩ := List.getElem?_of_mem ht
        exact r'.lt (hψ i t hi)
    · cases c1
  · cases hc
theorem DataAt.keep {w w' : World} {d kb m : Nat} {l : List Nat} {v : Int} (h : DataAt w d kb m l v) (hw : ∀ b ∈ l, w'.heap[b]? = w.heap[b]?) : DataAt w' d kb m l v := by
  obtain ⟨t0, t1, t2, t3, t4, t5, rfl, rfl, rfl, rfl, hnd, hok⟩ := h
  refine ⟨t0, t1, t2, t3, t4, t5, rfl, rfl, rfl, rfl, hnd, fun k t sp ht hsp => ?_⟩
  obtain ⟨sp', e1, e2⟩ := spAll_at _ _ selfMatch k sp hsp
  rw [hsp] at e1
  cases e1
  exact (hok k t sp ht hsp).conv (idRen (j := 0) rfl) e2 (hw _ (List.mem_map.2 ⟨t, List.mem_of_getElem? ht, rfl⟩)) (fun _ hK => hK)
theorem DataAt.mem {w : World} {d kb m : Nat} {l : List Nat} {v : Int} (h : DataAt w d kb m l v) : m ∈ l ∧ d ∈ l ∧ d ≠ m := by
  obtain ⟨t0, t1, t2, t3, t4, t5, rfl, rfl, rfl, rfl, hnd, hok⟩ := h
  refine ⟨by simp [six], by simp [six], ?_⟩
  have := hnd
  simp [six] at this
  exact this.1.2.2.2.2
theorem DataAt.ptr {w : World} {d kb m : Nat} {l : List Nat} {v : Int} (h : DataAt w d kb m l v) : ∃ c0, w.cell? ⟨d, 0, none⟩ = some c0 ∧ w.cell? ⟨d, 1, none⟩ = some (.map (some m)) ∧ w.frozen? ⟨d, 1, none⟩ = false := by
  obtain ⟨t0, t1, t2, t3, t4, t5, rfl, rfl, rfl, rfl, hnd, hok⟩ := h
  obtain ⟨_, _, c, fr, h1, h2, h3, h4, h5, h6⟩ := hok 0 t0 _ rfl rfl
  obtain ⟨c0, a1, _⟩ := h6 0 _ rfl
  obtain ⟨c1, b1, b2⟩ := h6 1 _ rfl
  refine ⟨c0, by simp [World.cell?, h1, a1], ?_, frozen_not h1 (fun ⟨x, y⟩ => by omega)⟩
  cases b2 with
  | map _ t ht =>
    have : t = t5 := by have h : (six t0 t1 t2 t3 t4 t5)[5]? = some t := ht; cases h; rfl
    subst this
    simp [World.cell?, h1, b1]
end Go.Proofs.YtcmlomjdkjcjpaaGreatDoor
