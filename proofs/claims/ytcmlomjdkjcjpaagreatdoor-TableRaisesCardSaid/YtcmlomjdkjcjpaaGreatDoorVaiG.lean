/- A part of an evaluator of the model's code whose answers are proved sound: no statement on the program stands here. -/
import Derived.Test.YtcmlomjdkjcjpaaGreatDoorVaiF
open Go Go.RowKit
namespace Go.Proofs.YtcmlomjdkjcjpaaGreatDoor.Vai
set_option linter.unusedVariables false
set_option linter.unusedSimpArgs false

def sliceTo (v o l h mm size : Nat) : Option Value :=
  bif Nat.blt (mm - l) INF then some (.slice (some ⟨v, bif Nat.beq mm l then o else o + l * size, none⟩) (h - l) (mm - l)) else none

/-- It may be anything of one cell. -/
def topV : Value := .chan (some 29)
theorem VR.topV {φ : Emb} {c : Value} (h : oneCell c = true) : VR φ topV c := .top 29 c rfl h
def asliceS (tb : Tb) (s : St) (elem : TypeId) (x : Value) (lo hi mx : Option Value) : Option Value :=
  match x with
  | .slice none len cap => match tb.info.get elem with
    | none => none
    | some _ => match abounds len cap lo hi mx with
      | some (l, h, m) => some (.slice none (h - l) (m.getD cap - l))
      | none => none
  | .slice (some ⟨v, o, none⟩) len cap => match tb.info.get elem with
    | none => none
    | some i => bif Nat.beq cap INF then
        match s.views.get v with
        | none => none
        | some V => match s.roots.get V.root with
          | none => none
          | some R => bif Nat.beq R.es i.size && Nat.blt 0 i.size then
              match abounds len ((V.ext - o) / i.size) lo hi mx with
              | none => none
              | some (l, h, none) => bif Nat.beq l 0 || Nat.blt l ((V.ext - o) / i.size) then some (.slice (some ⟨v, o + l * i.size, none⟩) (h - l) INF) else some topV
              | some (l, h, some mm) => sliceTo v o l h mm i.size
            else none
      else match abounds len cap lo hi mx with
        | none => none
        | some (l, h, m) => sliceTo v o l h (m.getD cap) i.size
  | _ => none

theorem beq_iff {a b : Nat} : Nat.beq a b = true ↔ a = b := ⟨Nat.eq_of_beq_eq_true, fun h => by subst h; exact Nat.beq_refl a⟩

theorem sliceTo_sound {φ : Emb} {v o l h mm size : Nat} {t : Tgt} {x : Value} (hv : φ v = some t) (hx : sliceTo v o l h mm size = some x) :
    VR φ x (.slice (if mm = l then some ⟨t.blk, o, none⟩ else some ((⟨t.blk, o, none⟩ : Addr).add (l * size))) (h - l) (mm - l)) := by
  unfold sliceTo at hx
  cases hb : Nat.blt (mm - l) INF with
  | false => rw [hb] at hx; cases hx
  | true =>
    rw [hb] at hx
    simp only [cond_true, Option.some.injEq] at hx
    subst hx
    have hlt := blt_iff.1 hb
    by_cases e : mm = l
    · rw [if_pos e, beq_iff.2 e]
      exact .slice _ _ _ _ _ _ hv (fun _ => rfl) (fun h => by omega)
    · rw [if_neg e]
      have : Nat.beq mm l = false := by
        cases hq : Nat.beq mm l with
        | false => rfl
        | true => exact absurd (beq_iff.1 hq) e
      rw [this, add_mk]
      exact .slice _ _ _ _ _ _ hv (fun _ => rfl) (fun h => by omega)

theorem asliceS_sound {P : Program} {tb : Tb} (hP : TbOk P tb) {w0 : Base} {φ : Emb} {s : St} {w : World} (r : Rel w0 φ s w) {t elem : TypeId} (ht : P.underlying t = some (.slice elem)) {x c : Value} {lo hi mx lo' hi' mx' : Option Value} {out : Value}
    (h : asliceS tb s elem x lo hi mx = some out) (hx : VR φ x c) (h1 : VRO φ lo lo') (h2 : VRO φ hi hi') (h3 : VRO φ mx mx') :
    ∃ c', (Instr.slice t c lo' hi' mx').run P w = .ok c' w ∧ VR φ out c' := by
  unfold asliceS at h
  split at h
  · rename_i len cap
    split at h
    · cases h
    · rename_i i hi
      split at h
      · rename_i l h' m hb
        cases h
        cases hx
        have hs := (abounds_sound (P := P) (w := w) hb h1 h2 h3 (Nat.le_refl _) true).1
        exact ⟨.slice none (h' - l) (m.getD cap - l), by simp [Instr.slice, run_und ht, hs, run_size (hP.info _ _ hi)], .snil _ _⟩
      · cases h
  · rename_i v o len cap
    split at h
    · cases h
    · rename_i i hi0
      have hsz := hP.info _ _ hi0
      cases hx with
      | slice _ _ t' _ _ c' hv g1 g2 =>
      cases hc : Nat.beq cap INF with
      | true =>
        rw [hc] at h
        simp only [cond_true] at h
        have hcap := beq_iff.1 hc
        split at h
        · cases h
        · rename_i V hV
          split at h
          · cases h
          · rename_i R hR
            obtain ⟨R', hR', b⟩ := r.view v t' V hv hV
            rw [hR] at hR'; cases hR'
            cases hk : (Nat.beq R.es i.size && Nat.blt 0 i.size) with
            | false => rw [hk] at h; cases h
            | true =>
              rw [hk] at h
              simp only [cond_true] at h
              rw [Bool.and_eq_true] at hk
              have hes : t'.es = i.size := by rw [← b.es]; exact beq_iff.1 hk.1
              have hpos := blt_iff.1 hk.2
              have heq := g2 hcap
              rw [hes] at heq
              have hle : (V.ext - o) / i.size ≤ c' := by
                have := b.ext
                have h5 : V.ext - o ≤ c' * i.size := by omega
                calc (V.ext - o) / i.size ≤ (c' * i.size) / i.size := Nat.div_le_div_right h5
                  _ = c' := Nat.mul_div_cancel _ hpos
              split at h
              · cases h
              · rename_i l h' hb
                have hs := abounds_sound (P := P) (w := w) hb h1 h2 h3 hle true
                cases hq : (Nat.beq l 0 || Nat.blt l ((V.ext - o) / i.size)) with
                | false =>
                  rw [hq] at h
                  simp only [cond_false, Option.some.injEq] at h
                  subst h
                  refine ⟨.slice (if c' = l then some ⟨t'.blk, o, none⟩ else some ⟨t'.blk, o + l * i.size, none⟩) (h' - l) (c' - l), ?_, VR.topV rfl⟩
                  simp only [Instr.slice, Sem.run_bind, run_und ht, Result.andThen_ok, hs.1, run_size hsz, Option.getD_none, Option.map_some, Sem.run_pure, add_mk]
                | true =>
                  rw [hq] at h
                  simp only [cond_true, Option.some.injEq] at h
                  subst h
                  rw [Bool.or_eq_true] at hq
                  have hl : l = 0 ∨ l < c' := by
                    rcases hq with hq | hq
                    · exact .inl (beq_iff.1 hq)
                    · exact .inr (Nat.lt_of_lt_of_le (blt_iff.1 hq) hle)
                  refine ⟨.slice (some ⟨t'.blk, o + l * i.size, none⟩) (h' - l) (c' - l), ?_, ?_⟩
                  · simp only [Instr.slice, Sem.run_bind, run_und ht, Result.andThen_ok, hs.1, run_size hsz, Option.getD_none, Option.map_some, Sem.run_pure, add_mk]
                    rcases hl with rfl | hl
                    · simp
                    · rw [if_neg (by omega)]
                  · refine .slice _ _ _ _ _ _ hv (fun h => absurd rfl h) (fun _ => ?_)
                    rw [hes]
                    have hll : l ≤ c' := by omega
                    have : (c' - l) * i.size = c' * i.size - l * i.size := Nat.sub_mul _ _ _
                    have h6 : l * i.size ≤ c' * i.size := Nat.mul_le_mul_right _ hll
                    omega
              · rename_i l h' mm hb
                have hs := abounds_sound (P := P) (w := w) hb h1 h2 h3 hle true
                refine ⟨_, ?_, sliceTo_sound hv h⟩
                simp only [Instr.slice, Sem.run_bind, run_und ht, Result.andThen_ok, hs.1, run_size hsz, Option.getD_some, Option.map_some, Sem.run_pure]
      | false =>
        rw [hc] at h
        simp only [cond_false] at h
        have hcap : cap ≠ INF := fun e => by rw [beq_iff.2 e] at hc; cases hc
        have hcc := g1 hcap
        subst hcc
        split at h
        · cases h
        · rename_i l h' m hb
          have hs := abounds_sound (P := P) (w := w) hb h1 h2 h3 (Nat.le_refl _) true
          refine ⟨_, ?_, sliceTo_sound hv h⟩
          simp only [Instr.slice, Sem.run_bind, run_und ht, Result.andThen_ok, hs.1, run_size hsz, Option.map_some, Sem.run_pure]
  · cases h
end Go.Proofs.YtcmlomjdkjcjpaaGreatDoor.Vai
