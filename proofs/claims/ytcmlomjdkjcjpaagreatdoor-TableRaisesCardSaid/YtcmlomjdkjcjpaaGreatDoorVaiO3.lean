/- A part of an evaluator of the model's code whose answers are proved sound: no statement on the program stands here. -/
import Derived.Test.YtcmlomjdkjcjpaaGreatDoorVaiO2
open Go Go.RowKit
namespace Go.Proofs.YtcmlomjdkjcjpaaGreatDoor.Vai
set_option linter.unusedVariables false
set_option linter.unusedSimpArgs false

/-! ### what is ranged over -/
def arange (tb : Tb) (s : St) (t : TypeId) (x : Value) : Option (Value × St) :=
  match tb.und.get t with
  | some (.map _ _) => match x with
    | .map none => some (.pointer (some ⟨s.next, 0, none⟩), aobj s (.miter none 0 [] 0))
    | .map (some m) => match s.objs.get m with
      | some (.map _ clock) => some (.pointer (some ⟨s.next, 0, none⟩), aobj s (.miter (some m) clock [] clock))
      | _ => none
    | _ => none
  | some .string => match x with
    | .string b => some (.pointer (some ⟨s.next, 0, none⟩), aobj s (.siter b 0))
    | _ => none
  | _ => none

def aleft (es : List AEnt) (seen : List Nat) : List AEnt := es.filter fun e => !seen.contains e.born

def anext (s : St) (it : Value) (isString : Bool) : Option (Value × St) :=
  match it with
  | .pointer (some ⟨r, 0, none⟩) => match s.objs.get r with
    | some (.miter none _ _ _) => bif isString then none else some (.tuple #[.bool false], s)
    | some (.miter (some m) since seen last) => bif isString then none else match s.objs.get m with
      | some (.map es clock) => bif !seen.isEmpty && !es.isEmpty && es.all (fun e => Nat.ble last e.born) then none else
        match aleft es seen with
        | [] => some (.tuple #[.bool false], s)
        | [e] => bif Nat.blt e.born since then some (.tuple #[.bool true, e.key, e.val], asetObj s r (.miter (some m) since (seen ++ [e.born]) clock)) else none
        | _ => none
      | _ => none
    | some (.siter b pos) => bif isString then (bif Nat.blt pos b.size then
          some (.tuple #[.bool true, goInt pos, .int .i32 (Utf8.decode b pos).1], asetObj s r (.siter b (pos + (Utf8.decode b pos).2)))
        else some (.tuple #[.bool false], s)) else none
    | _ => none
  | _ => none

section
variable {P : Program} {tb : Tb} {w0 : Base} {φ : Emb} {s s' : St} {w : World}

theorem new_iter {o : AObj} {c : Obj} (r : Rel w0 φ s w) (hc : ObjR φ o c) {m : Sem Value} (h : m.run P w = .ok (.pointer (some ⟨w.heap.size, 0, none⟩)) (w.alloc c)) :
    ER w0 φ s (aobj s o) w (.pointer (some ⟨s.next, 0, none⟩)) (m.run P w) :=
  ⟨_, _, _, h, Ext.with (w0 := w0) _, Nat.le_succ _, r.newObj hc, VR.ptr (φ := φ.with s.next _) s.next 0 _ (Emb.with_same _ _ _)⟩

theorem run_newObj_of (o : Obj) : (newObj o).run P w = .ok w.heap.size (w.alloc o) := rfl

theorem arange_sound (hP : TbOk P tb) (r : Rel w0 φ s w) {t : TypeId} {x c v : Value} (h : arange tb s t x = some (v, s')) (hx : VR φ x c) : ER w0 φ s s' w v ((Instr.range t c).run P w) := by
  unfold arange at h
  split at h
  · rename_i kt et hu
    split at h
    · cases h
      cases hx
      exact new_iter r (.miterNil 0 [] 0) (by simp only [Instr.range, Sem.run_bind, run_und (hP.und _ _ hu), Result.andThen_ok, Sem.run_pure, run_newObj_of])
    · rename_i m
      split at h
      · rename_i es clock ho
        cases h
        cases hx with
        | map _ tt ht =>
        obtain ⟨ob, g1, g2⟩ := r.getObj ht ho
        cases g2 with
        | map _ cs _ he =>
        exact new_iter r (.miter m tt ht clock [] clock) (by simp only [Instr.range, Sem.run_bind, run_und (hP.und _ _ hu), Result.andThen_ok, Sem.run_pure, run_newObj_of, run_getObj_of g1])
      · cases h
    · cases h
  · rename_i hu
    split at h
    · rename_i b
      cases h
      cases hx
      exact new_iter r (.siter b 0) (by simp only [Instr.range, Sem.run_bind, run_und (hP.und _ _ hu), Result.andThen_ok, Sem.run_pure, run_newObj_of])
    · cases h
  · cases h

theorem EntsR.filter {es : List AEnt} {cs : List MapEntry} (h : EntsR φ es cs) (p : Nat → Bool) : EntsR φ (es.filter fun e => p e.born) (cs.filter fun e => p e.born) := by
  induction h with
  | nil => exact .nil
  | cons a c l m h1 h2 h3 ht ih =>
    simp only [List.filter_cons, ← h3]
    split
    · exact .cons _ _ _ _ h1 h2 h3 ih
    · exact ih

theorem EntsR.all {es : List AEnt} {cs : List MapEntry} (h : EntsR φ es cs) (p : Nat → Bool) : (cs.all fun e => p e.born) = (es.all fun e => p e.born) := by
  induction h with
  | nil => rfl
  | cons a c l m h1 h2 h3 ht ih => simp only [List.all_cons, ih, h3]

theorem VR.triple {a b c d : Value} (h : VR φ a c) (k : VR φ b d) : VR φ (.tuple #[.bool true, a, b]) (.tuple #[.bool true, c, d]) := by
  refine .tuple _ _ rfl (fun i x y hx hy => ?_)
  match i with
  | 0 => simp at hx hy; subst hx; subst hy; exact .bool _
  | 1 => simp at hx hy; subst hx; subst hy; exact h
  | 2 => simp at hx hy; subst hx; subst hy; exact k
  | n + 3 => simp at hx

theorem ER.still (r : Rel w0 φ s w) {v c : Value} {res : Result Value} (h : res = .ok c w) (hv : VR φ v c) : ER w0 φ s s w v res :=
  ⟨φ, w, c, h, Ext.refl _ _, Nat.le_refl _, r, hv⟩

theorem anext_sound (r : Rel w0 φ s w) {it c v : Value} {str : Bool} {t : TypeId} (h : anext s it str = some (v, s')) (hx : VR φ it c) : ER w0 φ s s' w v ((Instr.next c str t).run P w) := by
  have over : VR φ (.tuple #[.bool false]) (.tuple #[.bool false]) := VR.of_plain φ _ rfl
  unfold anext at h
  split at h
  · rename_i rr
    cases hx with
    | ptr _ _ tt ht =>
    split at h
    · rename_i a1 a2 a3 ho
      cases str with
      | true => cases h
      | false =>
        cases h
        obtain ⟨ob, g1, g2⟩ := r.getObj ht ho
        cases g2
        exact ER.still r (by simp only [Instr.next, Sem.run_bind, run_getObj_of g1, Result.andThen_ok, Sem.run_pure]) over
    · rename_i m since seen last ho
      cases str with
      | true => cases h
      | false =>
        simp only [cond_false] at h
        obtain ⟨ob, g1, g2⟩ := r.getObj ht ho
        cases g2 with
        | miter _ tm hm =>
        split at h
        · rename_i es clock hom
          obtain ⟨om, m1, m2⟩ := r.getObj hm hom
          cases m2 with
          | map _ cs _ he =>
          cases hg : (!seen.isEmpty && !es.isEmpty && es.all (fun e => Nat.ble last e.born)) with
          | true => rw [hg] at h; cases h
          | false =>
            rw [hg] at h
            simp only [cond_false] at h
            have hguard : (!seen.toArray.isEmpty && !cs.isEmpty && cs.all (·.born ≥ last)) = false := by
              have h1 : cs.isEmpty = es.isEmpty := by rw [← he.isEmpty]; simp
              have h2 : cs.all (fun e => decide (e.born ≥ last)) = es.all (fun e => Nat.ble last e.born) := by
                rw [← Array.all_toList, he.all (fun n => decide (n ≥ last))]
                congr 1
                funext e
                rw [Bool.eq_iff_iff]; simp [Nat.ble_eq]
              rw [h1, h2]
              simpa using hg
            have hleft : EntsR φ (aleft es seen) (cs.filter fun e => !seen.toArray.contains e.born).toList := by
              have := he.filter (fun n => !seen.contains n)
              simpa [aleft, Array.toList_filter] using this
            split at h
            · rename_i hl
              cases h
              rw [hl] at hleft
              have hnil : (cs.filter fun e => !seen.toArray.contains e.born) = #[] := by
                apply Array.toList_inj.1
                revert hleft
                generalize (cs.filter fun e => !seen.toArray.contains e.born).toList = l
                intro hh; cases hh; rfl
              refine ER.still r ?_ over
              simp only [Instr.next, Sem.run_bind, run_getObj_of g1, run_getObj_of m1, Result.andThen_ok, Sem.run_pure, hguard, Bool.false_eq_true, if_false, hnil]
              simp [choose, Sem.run, Question.forced]
            · rename_i e hl
              cases hb : Nat.blt e.born since with
              | false => rw [hb] at h; cases h
              | true =>
                rw [hb] at h
                cases h
                rw [hl] at hleft
                obtain ⟨ce, hce, k1, k2, k3⟩ : ∃ ce, (cs.filter fun e => !seen.toArray.contains e.born) = #[ce] ∧ VR φ e.key ce.key ∧ VR φ e.val ce.val ∧ e.born = ce.born := by
                  generalize hq : (cs.filter fun e => !seen.toArray.contains e.born) = q at hleft
                  obtain ⟨l⟩ := q
                  simp only at hleft
                  cases hleft with
                  | cons _ ce _ _ q1 q2 q3 q4 => cases q4; exact ⟨ce, rfl, q1, q2, q3⟩
                have hlt : ce.born < since := by rw [← k3]; exact blt_iff.1 hb
                have hR := r.setObj ht ho (ObjR.miter m tm hm since (seen ++ [e.born]) clock)
                have e1 : (seen ++ [e.born]).toArray = seen.toArray.push ce.born := by rw [k3]; simp
                rw [e1] at hR
                refine ⟨φ, _, _, ?_, Ext.refl _ _, Nat.le_refl _, hR, k1.triple k2⟩
                simp only [Instr.next, Sem.run_bind, run_getObj_of g1, run_getObj_of m1, Result.andThen_ok, Sem.run_pure, hguard, Bool.false_eq_true, if_false, hce]
                have o1 : (#[ce].filter fun e => decide (e.born < since)) = #[ce] := by simp [hlt]
                have o2 : (#[ce].filter fun e => decide (e.born ≥ since)) = #[] := by simp; omega
                rw [o1, o2]
                simp [choose, Sem.run, Question.forced]
                rw [run_setObj_of g1]; rfl
            · cases h
        · cases h
    · rename_i b pos ho
      cases str with
      | false => cases h
      | true =>
        simp only [cond_true] at h
        obtain ⟨ob, g1, g2⟩ := r.getObj ht ho
        cases g2
        cases hb : Nat.blt pos b.size with
        | false =>
          rw [hb] at h
          cases h
          have hn : ¬ pos < b.size := fun q => by rw [blt_iff.2 q] at hb; cases hb
          exact ER.still r (by simp only [Instr.next, Sem.run_bind, run_getObj_of g1, Result.andThen_ok, if_neg hn, Sem.run_pure]) over
        | true =>
          rw [hb] at h
          cases h
          have hn : pos < b.size := blt_iff.1 hb
          refine ⟨φ, _, _, ?_, Ext.refl _ _, Nat.le_refl _, r.setObj ht ho (.siter b _), VR.of_plain φ _ rfl⟩
          simp only [Instr.next, Sem.run_bind, run_getObj_of g1, Result.andThen_ok, if_pos hn, run_setObj_of g1, Sem.run_pure]
    · cases h
  · cases h
end
end Go.Proofs.YtcmlomjdkjcjpaaGreatDoor.Vai
