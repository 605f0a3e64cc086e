/- A part of an evaluator of the model's code whose answers are proved sound: no statement on the program stands here. -/
import Derived.Test.YtcmlomjdkjcjpaaGreatDoorVaiB5
open Go Go.RowKit
namespace Go.Proofs.YtcmlomjdkjcjpaaGreatDoor.Vai
set_option linter.unusedVariables false
set_option linter.unusedSimpArgs false
/-- Blocks that are known lie in memory. -/
structure Lies (w : World) (L : List BSpec) (ts : List Tgt) (sig : Nat → Int) : Prop where
  len : ts.length = L.length
  nodup : (ts.map (·.blk)).Nodup
  ok : ∀ (k : Nat) (t : Tgt) (sp : BSpec), ts[k]? = some t → L[k]? = some sp → sp.ok (Base.free w) (bEmb ts sig) w t
  lt : ∀ (k : Nat) (t : Tgt), ts[k]? = some t → t.blk < w.heap.size
theorem ok_base {b b' : Base} {φ : Emb} {w : World} {t : Tgt} {sp : BSpec} (h : sp.ok b φ w t) (hK : sp.owned = true → ¬ b'.K t.blk) : sp.ok b' φ w t := by
  cases sp with
  | cells elem es l ro => exact ⟨fun e => hK (by simp [BSpec.owned, e]), h.2⟩
  | obj o => exact ⟨hK rfl, h.2⟩
theorem ok_mono {b : Base} {φ ψ : Emb} {w : World} {t : Tgt} {sp : BSpec} (hle : φ.le ψ) (h : sp.ok b φ w t) : sp.ok b ψ w t := by
  cases sp with
  | cells elem es l ro =>
    obtain ⟨h1, h2, c, fr, h3, h4, h5, h6, h7, h8⟩ := h
    exact ⟨h1, h2, c, fr, h3, h4, h5, h6, h7, fun o val ho => let ⟨cv, a, b⟩ := h8 o val ho; ⟨cv, a, b.mono hle⟩⟩
  | obj o =>
    obtain ⟨h1, c, h2, h3⟩ := h
    exact ⟨h1, c, h2, h3.mono hle⟩
theorem ok_world {w w' : World} {φ : Emb} {t : Tgt} {sp : BSpec} (hw : w'.heap[t.blk]? = w.heap[t.blk]?) (h : sp.ok (Base.free w) φ w t) : sp.ok (Base.free w') φ w' t := by
  cases sp with
  | cells elem es l ro =>
    obtain ⟨h1, h2, c, fr, h3, h4⟩ := h
    exact ⟨h1, h2, c, fr, by rw [hw]; exact h3, h4⟩
  | obj o =>
    obtain ⟨h1, c, h2, h3⟩ := h
    exact ⟨h1, c, by rw [hw]; exact h2, h3⟩
theorem Lies.rel {b : Base} {L : List BSpec} {ts : List Tgt} {sig : Nat → Int} (h : Lies b.w L ts sig) {orc : List Fact} (ho : ∀ f ∈ orc, f.ok sig) (hK : ∀ (k : Nat) (t : Tgt) (sp : BSpec), ts[k]? = some t → L[k]? = some sp → sp.owned = true → ¬ b.K t.blk) : Rel b (bEmb ts sig) (bSt L orc) b.w :=
  Rel.ofBlocks L ts sig orc h.len (Kept.refl b) ho h.nodup fun k t sp ht hsp => ok_base (h.ok k t sp ht hsp) (hK k t sp ht hsp)
theorem Lies.keep {w w' : World} {L : List BSpec} {ts : List Tgt} {sig : Nat → Int} (h : Lies w L ts sig) (hs : w.heap.size ≤ w'.heap.size) (hw : ∀ (k : Nat) (t : Tgt), ts[k]? = some t → w'.heap[t.blk]? = w.heap[t.blk]?) : Lies w' L ts sig :=
  ⟨h.len, h.nodup, fun k t sp ht hsp => ok_world (hw k t ht) (h.ok k t sp ht hsp), fun k t ht => Nat.lt_of_lt_of_le (h.lt k t ht) hs⟩
theorem bEmb_le {ts : List Tgt} {t : Tgt} {sig : Nat → Int} : (bEmb ts sig).le (bEmb (ts ++ [t]) sig) :=
  ⟨fun v u h => by
    have h : ts[v]? = some u := h
    show (ts ++ [t])[v]? = some u
    rw [List.getElem?_append_left (List.getElem?_eq_some_iff.1 h).1]; exact h, rfl⟩
theorem Lies.snoc {w : World} {L : List BSpec} {ts : List Tgt} {sig : Nat → Int} (h : Lies w L ts sig) {sp : BSpec} {t : Tgt} (hok : sp.ok (Base.free w) (bEmb (ts ++ [t]) sig) w t) (hn : t.blk ∉ ts.map (·.blk)) (hlt : t.blk < w.heap.size) : Lies w (L ++ [sp]) (ts ++ [t]) sig := by
  have hl := h.len
  refine ⟨by simp [hl], ?_, ?_, ?_⟩
  · rw [List.map_append]
    refine List.nodup_append.2 ⟨h.nodup, by simp, ?_⟩
    intro a ha b hb hab
    simp at hb
    subst hb
    subst hab
    exact hn ha
  · intro k u s hu hs
    by_cases e : k < ts.length
    · rw [List.getElem?_append_left e] at hu
      rw [List.getElem?_append_left (by omega)] at hs
      exact ok_mono bEmb_le (h.ok k u s hu hs)
    · rw [List.getElem?_append_right (by omega)] at hu
      rw [List.getElem?_append_right (by omega)] at hs
      have : k - ts.length = 0 := by
        have := (List.getElem?_eq_some_iff.1 hu).1; simp at this; omega
      rw [this] at hu
      rw [show k - L.length = 0 by omega] at hs
      cases hu; cases hs
      exact hok
  · intro k u hu
    by_cases e : k < ts.length
    · rw [List.getElem?_append_left e] at hu
      exact h.lt k u hu
    · rw [List.getElem?_append_right (by omega)] at hu
      have : k - ts.length = 0 := by
        have := (List.getElem?_eq_some_iff.1 hu).1; simp at this; omega
      rw [this] at hu
      cases hu
      exact hlt
theorem Lies.sig {w : World} {L : List BSpec} {ts : List Tgt} {sig sig' : Nat → Int} (h : Lies w L ts sig) {ρ : Ren} {τ : Nat → Option Nat} (hρ : ∀ a b, rlook ρ a = some b → b = a) (hτ : ∀ i j, τ i = some j → sig' i = sig j) (hm : spAll ρ τ L L = true) : Lies w L ts sig' := by
  refine ⟨h.len, h.nodup, fun k t sp ht hsp => ?_, h.lt⟩
  obtain ⟨sp', e1, e2⟩ := spAll_at _ _ hm k sp hsp
  rw [hsp] at e1
  cases e1
  exact (h.ok k t sp ht hsp).conv ⟨fun a b u e hu => by rw [hρ a b e] at hu; exact hu, hτ⟩ e2 rfl (fun _ hK => hK)
theorem Ran.lies {b : Base} {L L' : List BSpec} {ids : List Nat} {ts ts' : List Tgt} {sig' : Nat → Int} {ψ : Emb} {w' : World} (h : Ran b L L' ids ts ts' sig' ψ w') : Lies w' L' ts' sig' := ⟨h.len, h.nodup, h.ok, h.lt⟩
/-- Nothing but some blocks has turned. -/
structure KeepL (l : List Nat) (w w' : World) : Prop where
  os : w'.os = w.os
  tape : w'.tape = w.tape
  output : w'.output = w.output
  size : w.heap.size ≤ w'.heap.size
  block : ∀ k, k < w.heap.size → k ∉ l → w'.heap[k]? = w.heap[k]?
def butL (w : World) (l : List Nat) : Base := ⟨w, fun q => q < w.heap.size ∧ q ∉ l, fun _ h => h.1⟩
theorem butL_keep {w w' : World} {l : List Nat} (h : Kept (butL w l) w') : KeepL l w w' := ⟨h.os, h.tape, h.output, h.size, fun k hk hm => h.block k ⟨hk, hm⟩⟩
theorem butL_rel {w : World} {L : List BSpec} {ts : List Tgt} {sig : Nat → Int} (h : Lies w L ts sig) : Rel (butL w (ts.map (·.blk))) (bEmb ts sig) (bSt L []) w :=
  h.rel (b := butL w (ts.map (·.blk))) (fun f hf => by cases hf) fun k t sp ht _ _ hK => hK.2 (List.mem_map.2 ⟨t, List.mem_of_getElem? ht, rfl⟩)
/-- Of what came out each block was there, or is new. -/
theorem Ran.from_ {w w' : World} {L L' : List BSpec} {ids : List Nat} {ts ts' : List Tgt} {sig' : Nat → Int} {ψ : Emb} (h : Ran (butL w (ts.map (·.blk))) L L' ids ts ts' sig' ψ w') (hids : ids.length = L'.length) : ∀ x ∈ ts'.map (·.blk), x ∈ ts.map (·.blk) ∨ w.heap.size ≤ x := by
  intro x hx
  obtain ⟨t, ht, rfl⟩ := List.mem_map.1 hx
  obtain ⟨k, hk⟩ := List.getElem?_of_mem ht
  have hlt := (List.getElem?_eq_some_iff.1 hk).1
  rw [h.len, ← hids] at hlt
  obtain ⟨_, h2⟩ := h.at_ k _ t (List.getElem?_eq_getElem hlt) hk
  rcases h2 with ⟨_, h2⟩ | ⟨_, h2⟩
  · exact .inl (List.mem_map.2 ⟨t, List.mem_of_getElem? h2, rfl⟩)
  · by_cases e : t.blk < w.heap.size
    · by_cases m : t.blk ∈ ts.map (·.blk)
      · exact .inl m
      · exact absurd ⟨e, m⟩ h2
    · exact .inr (by omega)

theorem KeepL.below {w w' : World} (h : KeepL [] w w') : Below w.heap.size w w' := ⟨h.os, h.tape, h.output, h.size, fun k hk => h.block k hk (by simp)⟩
theorem head_of {ts : List Tgt} {d : Nat} (h : ts.head?.map (·.blk) = some d) : ∃ t, ts[0]? = some t ∧ t.blk = d := by
  cases ts with
  | nil => cases h
  | cons t l => simp at h; exact ⟨t, rfl, h⟩
theorem Lies.below {w w' : World} {L : List BSpec} {ts : List Tgt} {sig : Nat → Int} (h : Lies w L ts sig) (hb : Below w.heap.size w w') : Lies w' L ts sig :=
  h.keep hb.size fun k t ht => hb.block _ (h.lt k t ht)
theorem Lies.keepL {w w' : World} {L : List BSpec} {ts : List Tgt} {sig : Nat → Int} {l : List Nat} (h : Lies w L ts sig) (hb : KeepL l w w') (hd : ∀ x ∈ ts.map (·.blk), x ∉ l) : Lies w' L ts sig :=
  h.keep hb.size fun k t ht => hb.block _ (h.lt k t ht) (hd _ (List.mem_map.2 ⟨t, List.mem_of_getElem? ht, rfl⟩))
theorem Lies.ltm {w : World} {L : List BSpec} {ts : List Tgt} {sig : Nat → Int} (h : Lies w L ts sig) : ∀ x ∈ ts.map (·.blk), x < w.heap.size := by
  intro x hx
  obtain ⟨t, ht, rfl⟩ := List.mem_map.1 hx
  obtain ⟨k, hk⟩ := List.getElem?_of_mem ht
  exact h.lt k t hk
theorem KeepL.to_below {w0 w w' : World} {l : List Nat} (h : KeepL l w w') (h0 : Below w0.heap.size w0 w) (hl : ∀ x ∈ l, w0.heap.size ≤ x) : Below w0.heap.size w0 w' :=
  h0.trans ⟨h.os, h.tape, h.output, h.size, fun k hk => h.block k (by have := h0.size; omega) (fun hm => by have := hl k hm; omega)⟩
end Go.Proofs.YtcmlomjdkjcjpaaGreatDoor.Vai
