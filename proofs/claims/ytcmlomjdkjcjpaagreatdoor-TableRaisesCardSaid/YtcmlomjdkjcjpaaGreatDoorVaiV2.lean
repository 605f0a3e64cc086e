/- A part of an evaluator of the model's code whose answers are proved sound: no statement on the program stands here. -/
import Derived.Test.YtcmlomjdkjcjpaaGreatDoorVaiV
import Derived.Test.YtcmlomjdkjcjpaaGreatDoorVaiU5
import Derived.RangeFuncRecord
open Go Go.RowKit
namespace Go.Proofs.YtcmlomjdkjcjpaaGreatDoor.Vai
set_option linter.unusedVariables false
set_option linter.unusedSimpArgs false

/-- Where a piece of code ends. -/
def Land : Ex → List Item → List Item → Prop
  | .norm, k, td => td = k
  | .exit id, k, td => ∃ m, td = .code (.exit id) :: m ∧ exitTo id m = exitTo id k
  | .ret, _, td => ∃ m, td = .code .ret :: m

inductive Start : Code → List Item → List Item → Prop where
  | code (c : Code) (k : List Item) : Start c k (.code c :: k)
  | loop (body : Code) (k : List Item) : Start (.loop body) k (.inLoop body :: k)

/-- The marks among a frame's deferred calls. -/
inductive DR (φ : Emb) : List Nat → List Deferred → Prop where
  | nil : DR φ [] []
  | cons (d : Nat) (t : Tgt) (l : List Nat) (m : List Deferred) (h : φ d = some t) (hl : DR φ l m) : DR φ (d :: l) ({ target := .collected t.blk, args := #[] } :: m)

theorem DR.mono {φ ψ : Emb} (h : φ.le ψ) {l : List Nat} {m : List Deferred} (r : DR φ l m) : DR ψ l m := by
  induction r with
  | nil => exact .nil
  | cons d t l m e _ ih => exact .cons d t l m (h _ _ e) ih

section
variable {P : Program} {tb : Tb} {call : ACall} {w0 : Base}

theorem fstep_block' {b : Frame} {a : Act} {k : List Item} {cs : List Frame} {w : World} {td : List Item} {body : Code} (h : Start (.loop body) k td) :
    step P (lone (fat b a td) cs w) = .next (lone (fat b a (.code body :: .inLoop body :: k)) cs w) := by
  cases h with
  | code => exact fstep_loop
  | loop => exact fstep_inLoop

theorem aended_sound {s s' : St} {l : Nat} {pend : Option Code} (h : aended s l = some (pend, s')) {φ : Emb} {w : World} (r : Rel w0 φ s w) {t : Tgt} (ht : φ l = some t) :
    ∃ w', (Instr.endLoop t.blk).run P w = .ok pend w' ∧ Rel w0 φ s' w' ∧ s'.next = s.next := by
  unfold aended at h
  split at h
  · cases h
  · rename_i st pend' tm n ps as bd D hne hl
    cases h
    obtain ⟨c, h1, h2⟩ := r.getObj ht hl
    cases h2 with
    | loop _ _ _ _ _ _ _ _ td fn tmps psA hd hs hps e =>
      refine ⟨_, run_endLoop h1 hne, r.setObj ht hl (.loop _ _ _ _ _ _ _ _ td fn tmps psA hd hs hps e), rfl⟩
  · cases h

theorem aloop_sound {s : St} {fr : Fr} {φ : Emb} {a : Act} {w : World} (r : Rel w0 φ s w) (f : FR φ fr a) (fn : FuncId) (ps : Array Tmp) (assign body : Code) :
    ∃ ψ w' t1 t2, (Instr.enterLoop fn a.tmps ps assign body none).run P w = .ok (t2.blk, [{ target := .collected t1.blk, args := #[] }]) w' ∧ Ext s φ ψ ∧ s.next ≤ (aloop fr s ps assign body).next ∧
      Rel w0 ψ (aloop fr s ps assign body) w' ∧ ψ s.next = some t1 ∧ ψ (s.next + 1) = some t2 := by
  have r1 := r.newObj (o := .defs) .defs
  have e1 : φ.le (φ.with s.next ⟨w.heap.size, 0, 0⟩) := Ext.le (Ext.with (w0 := w0) _) r
  have r2 := r1.newObj (o := .loop .ready none fr.tm fr.n ps.toList assign body s.next) (.loop .ready none fr.tm fr.n ps.toList assign body s.next ⟨w.heap.size, 0, 0⟩ fn a.tmps ps (Emb.with_same _ _ _) f.size rfl
    (fun i v hv => let ⟨c, g1, g2⟩ := f.at_ i v hv; ⟨c, g1, g2.mono e1⟩))
  have hx : Ext s φ ((φ.with s.next ⟨w.heap.size, 0, 0⟩).with (s.next + 1) ⟨(w.alloc (.deferred (some []))).heap.size, 0, 0⟩) := by
    refine ⟨?_, rfl⟩
    intro v hv
    rw [Emb.with_other _ _ (by omega), Emb.with_other _ _ (by omega)]
  refine ⟨_, _, ⟨w.heap.size, 0, 0⟩, ⟨(w.alloc (.deferred (some []))).heap.size, 0, 0⟩, ?_, hx, ?_, r2, ?_, Emb.with_same _ _ _⟩
  · rw [run_enterLoop_outer]
    simp
  · show s.next ≤ s.next + 1 + 1; omega
  · show ((φ.with s.next ⟨w.heap.size, 0, 0⟩).with (s.next + 1) ⟨(w.alloc (.deferred (some []))).heap.size, 0, 0⟩) s.next = _
    rw [Emb.with_other _ _ (by omega)]
    exact Emb.with_same _ _ _

theorem exec_sound (hP : TbOk P tb) (hmix : P.follows .mixedOrders = true) (hC : CallOk P w0 call) (rd : Bool) : ∀ (n : Nat) (c : Code) (fr fr' : Fr) (ds ds' : List Nat) (s s' : St) (ex : Ex), aExec P tb call rd n c fr ds s = some (ex, fr', ds', s') →
    ∀ (φ : Emb) (a : Act) (w : World), Rel w0 φ s w → FR φ fr a → DR φ ds a.defers → ∀ (b : Frame) (k : List Item) (cs : List Frame) (td : List Item), (rd = false → b.roundOf = none) → Start c k td →
      ∃ ψ a' w' td', Steps P (lone (fat b a td) cs w) (lone (fat b a' td') cs w') ∧ Land ex k td' ∧ Ext s φ ψ ∧ s.next ≤ s'.next ∧ Rel w0 ψ s' w' ∧ FR ψ fr' a' ∧ DR ψ ds' a'.defers := by
  intro n
  induction n with
  | zero => intro c fr fr' ds ds' s s' ex h; cases h
  | succ n ih =>
    intro c fr fr' ds ds' s s' ex h φ a w r f dr b k cs td hb st
    unfold aExec at h
    split at h
    · cases h; cases st
      exact ⟨φ, a, w, k, .one fstep_skip, rfl, Ext.refl _ _, Nat.le_refl _, r, f, dr⟩
    · cases h; cases st
      exact ⟨φ, a, w, k, .one fstep_label, rfl, Ext.refl _ _, Nat.le_refl _, r, f, dr⟩
    · cases h; cases st
      exact ⟨φ, a, w, _, .refl _ _, ⟨k, rfl⟩, Ext.refl _ _, Nat.le_refl _, r, f, dr⟩
    · cases h; cases st
      exact ⟨φ, a, w, _, .refl _ _, ⟨k, rfl, rfl⟩, Ext.refl _ _, Nat.le_refl _, r, f, dr⟩
    · rename_i id ops draw
      cases st
      split at h
      · rename_i fr1 s1 hr
        simp only [Option.some.injEq, Prod.mk.injEq] at h
        obtain ⟨rfl, rfl, rfl, rfl⟩ := h
        cases draw with
        | true =>
          simp only [cond_true] at hr
          obtain ⟨ψ, a', w', e1, e2, e3, e4, e5, e6⟩ := any_sound hP hmix hC hr r f (id := id) b k cs
          exact ⟨ψ, a', w', k, e1, rfl, e2, e3, e4, e5, by rw [e6]; exact dr.mono (e2.le r)⟩
        | false =>
          simp only [cond_false] at hr
          obtain ⟨ψ, a', w', e1, e2, e3, e4, e5, e6⟩ := ops_sound hP hC (ops := ops) ops.toList 0 fr fr1 s s1 φ a w (fun j o hj => by rw [Nat.zero_add, ← Array.getElem?_toList]; exact hj) hr r f b k cs
          refine ⟨ψ, a', w', k, .head fstep_region ?_, rfl, e2, e3, e4, e5, by rw [e6]; exact dr.mono (e2.le r)⟩
          have : (List.range ops.toList.length).map (0 + ·) = List.range ops.size := by
            rw [Array.length_toList]
            have : ((fun x : Nat => 0 + x)) = _root_.id := funext fun x => Nat.zero_add x
            rw [this, List.map_id]
          rw [this] at e1
          exact e1
      · cases h
    · rename_i x y
      cases st
      split at h
      · rename_i fr1 ds1 s1 hx
        obtain ⟨ψ, a1, w1, td1, e1, e2, e3, e4, e5, e6, e7⟩ := ih x fr fr1 ds ds1 s s1 .norm hx φ a w r f dr b (.code y :: k) cs _ hb (.code x _)
        have e2' : td1 = .code y :: k := e2
        subst e2'
        obtain ⟨ψ2, a2, w2, td2, g1, g2, g3, g4, g5, g6, g7⟩ := ih y fr1 fr' ds1 ds' s1 s' ex h ψ a1 w1 e5 e6 e7 b k cs _ hb (.code y k)
        exact ⟨ψ2, a2, w2, td2, .head fstep_seq (e1.trans g1), g2, e3.trans e4 g3, Nat.le_trans e4 g4, g5, g6, g7⟩
      · rename_i hne
        obtain ⟨ψ, a1, w1, td1, e1, e2, e3, e4, e5, e6, e7⟩ := ih x fr fr' ds ds' s s' ex h φ a w r f dr b (.code y :: k) cs _ hb (.code x _)
        refine ⟨ψ, a1, w1, td1, .head fstep_seq e1, ?_, e3, e4, e5, e6, e7⟩
        cases ex with
        | norm => exact absurd h (hne _ _ _)
        | exit id => obtain ⟨m, m1, m2⟩ := e2; exact ⟨m, m1, m2⟩
        | ret => exact e2
    · rename_i c x y
      cases st
      split at h
      · rename_i t ht
        obtain ⟨cv, h1, h2⟩ : ∃ cv, a.eval c = cv ∧ VR φ (.bool t) cv := ⟨_, rfl, f.rho r c _ ht⟩
        cases h2
        obtain ⟨ψ, a1, w1, td1, e1, e2, e3, e4, e5, e6, e7⟩ := ih (bif t then x else y) fr fr' ds ds' s s' ex h φ a w r f dr b k cs _ hb (.code _ k)
        refine ⟨ψ, a1, w1, td1, .head (fstep_cond h1) ?_, e2, e3, e4, e5, e6, e7⟩
        cases t <;> exact e1
      · cases h
    · rename_i id body
      cases st
      split at h
      · rename_i j fr1 ds1 s1 hb'
        obtain ⟨ψ, a1, w1, td1, e1, e2, e3, e4, e5, e6, e7⟩ := ih body fr fr1 ds ds1 s s1 (.exit j) hb' φ a w r f dr b (.inBlock id :: k) cs _ hb (.code body _)
        obtain ⟨m, m1, m2⟩ := e2
        cases hj : Nat.beq j id with
        | true =>
          rw [hj] at h
          simp only [cond_true, Option.some.injEq, Prod.mk.injEq] at h
          obtain ⟨rfl, rfl, rfl, rfl⟩ := h
          have hji : j = id := Nat.eq_of_beq_eq_true hj
          subst hji
          subst m1
          have : exitTo j m = some k := by rw [m2]; simp [exitTo]
          exact ⟨ψ, a1, w1, k, .head fstep_block (e1.trans (.one (fstep_exit this))), rfl, e3, e4, e5, e6, e7⟩
        | false =>
          rw [hj] at h
          simp only [cond_false, Option.some.injEq, Prod.mk.injEq] at h
          obtain ⟨rfl, rfl, rfl, rfl⟩ := h
          refine ⟨ψ, a1, w1, td1, .head fstep_block e1, ⟨m, m1, ?_⟩, e3, e4, e5, e6, e7⟩
          rw [m2]
          have hne : ¬ id = j := fun e => by subst e; simp at hj
          simp [exitTo, hne]
      · rename_i hne
        obtain ⟨ψ, a1, w1, td1, e1, e2, e3, e4, e5, e6, e7⟩ := ih body fr fr' ds ds' s s' ex h φ a w r f dr b (.inBlock id :: k) cs _ hb (.code body _)
        cases ex with
        | exit j => exact absurd h (hne _ _ _ _)
        | ret => exact ⟨ψ, a1, w1, td1, .head fstep_block e1, e2, e3, e4, e5, e6, e7⟩
        | norm =>
          have e2' : td1 = .inBlock id :: k := e2
          subst e2'
          exact ⟨ψ, a1, w1, k, .head fstep_block (e1.trans (.one fstep_inBlock)), rfl, e3, e4, e5, e6, e7⟩
    · rename_i body
      split at h
      · rename_i fr1 ds1 s1 hb'
        obtain ⟨ψ, a1, w1, td1, e1, e2, e3, e4, e5, e6, e7⟩ := ih body fr fr1 ds ds1 s s1 .norm hb' φ a w r f dr b (.inLoop body :: k) cs _ hb (.code body _)
        have e2' : td1 = .inLoop body :: k := e2
        subst e2'
        obtain ⟨ψ2, a2, w2, td2, g1, g2, g3, g4, g5, g6, g7⟩ := ih (.loop body) fr1 fr' ds1 ds' s1 s' ex h ψ a1 w1 e5 e6 e7 b k cs _ hb (.loop body k)
        exact ⟨ψ2, a2, w2, td2, .head (fstep_block' st) (e1.trans g1), g2, e3.trans e4 g3, Nat.le_trans e4 g4, g5, g6, g7⟩
      · rename_i hne
        obtain ⟨ψ, a1, w1, td1, e1, e2, e3, e4, e5, e6, e7⟩ := ih body fr fr' ds ds' s s' ex h φ a w r f dr b (.inLoop body :: k) cs _ hb (.code body _)
        refine ⟨ψ, a1, w1, td1, .head (fstep_block' st) e1, ?_, e3, e4, e5, e6, e7⟩
        cases ex with
        | norm => exact absurd h (hne _ _ _)
        | exit id => obtain ⟨m, m1, m2⟩ := e2; exact ⟨m, m1, m2⟩
        | ret => exact e2
    · rename_i body
      cases st
      obtain ⟨ψ, a1, w1, td1, e1, e2, e3, e4, e5, e6, e7⟩ := ih body fr fr' ds ds' s s' ex h φ a w r f dr b (.inScope body :: k) cs _ hb (.code body _)
      cases ex with
      | norm =>
        have e2' : td1 = .inScope body :: k := e2
        subst e2'
        exact ⟨ψ, a1, w1, k, .head fstep_scope (e1.trans (.one fstep_inScope)), rfl, e3, e4, e5, e6, e7⟩
      | exit id => obtain ⟨m, m1, m2⟩ := e2; exact ⟨ψ, a1, w1, td1, .head fstep_scope e1, ⟨m, m1, m2⟩, e3, e4, e5, e6, e7⟩
      | ret => exact ⟨ψ, a1, w1, td1, .head fstep_scope e1, e2, e3, e4, e5, e6, e7⟩
    · rename_i g ps assign body
      cases st
      cases hrd : rd with
      | true => rw [hrd] at h; cases h
      | false =>
        rw [hrd] at h
        simp only [cond_false] at h
        have hbn := hb hrd
        split at h
        · rename_i fc first captured hg
          split at h
          · rename_i u s2 hcall
            have key : ∀ (pend : Option Code) (s3 : St), aended s2 (s.next + 1) = some (pend, s3) →
                ∃ ψ a3 w3, Steps P (lone (fat b a (.code (.rangeFunc g ps assign body) :: k)) cs w) (lone (fat b a3 ((pend.map Item.code).toList ++ k)) cs w3) ∧ Ext s φ ψ ∧ s.next ≤ s3.next ∧ Rel w0 ψ s3 w3 ∧ FR ψ fr a3 ∧ DR ψ (s.next :: ds) a3.defers := by
              intro pend s3 hend
              obtain ⟨f2, c2, v1, v2, v3⟩ := (f.rho r g _ hg).func_inv (fun l e => by cases e)
              obtain ⟨ψ1, w1, t1, t2, q1, q2, q3, q4, q5, q6⟩ := aloop_sound (P := P) r f b.fn ps assign body
              have hle1 := q2.le r
              have hargs : VRL ψ1 (first.toList ++ [.func (.yield (s.next + 1)) #[] #[]] ++ captured.toList) (f2.toList ++ [.func (.yield t2.blk) #[] #[]] ++ c2.toList) :=
                ((v2.mono hle1).list.append (.cons _ _ _ _ (.func _ _ _ _ _ _ (.yield _ t2 q6) rfl rfl (fun i x y hx => by simp at hx) (fun i x y hx => by simp at hx)) .nil)).append (v3.mono hle1).list
              obtain ⟨p1, p2⟩ := hC.fn fc _ _ u s2 hcall ψ1 w1 _ q4 hargs
              rw [← hbn] at q1
              have hres : (resolve a.eval (rangeCall g t2.blk) 0).run P w1 = .ok { target := .fn (.func fc) c2, args := f2 ++ #[.func (.yield t2.blk) #[] #[]] } w1 := by
                have h1 : resolve a.eval (rangeCall g t2.blk) 0 = Deferred.ofValue (a.eval g) #[.func (.yield t2.blk) #[] #[]] := by simp [resolve, rangeCall, Act.eval]
                rw [h1, v1]; rfl
              have hinv : (invoke (.fn (.func fc) c2) (f2 ++ #[.func (.yield t2.blk) #[] #[]])).run P w1 = .ok (.enter fc ((f2.toList ++ [Value.func (.yield t2.blk) #[] #[]] ++ c2.toList).toArray)) w1 := by
                rw [← p1]
                show (callFunc fc (f2 ++ #[.func (.yield t2.blk) #[] #[]] ++ c2)).run P w1 = _
                congr 2
                apply Array.ext'
                simp
              have henter := stepR_rangeFunc (P := P) (b := b) (a := a) (k := k) (cs := cs) (w := w) q1 hres hinv
              obtain ⟨e, w2, frm, ⟨ψ2, c, he, m1, m2, m3, m4⟩, hsteps, _, hleave⟩ := p2 (b.atR { a with defers := [{ target := .collected t1.blk, args := #[] }] ++ a.defers } (.inRangeFunc t2.blk :: k) :: cs)
              subst he
              have hlt : (aloop fr s ps assign body).next = s.next + 1 + 1 := rfl
              have ht2 : ψ2 (s.next + 1) = some t2 := by rw [m1 _ (by rw [hlt]; omega)]; exact q6
              have ht1 : ψ2 s.next = some t1 := by rw [m1 _ (by rw [hlt]; omega)]; exact q5
              obtain ⟨w3, n1, n2, n3⟩ := aended_sound (P := P) hend m3 ht2
              have hx : Ext s φ ψ2 := q2.trans q3 m1
              refine ⟨ψ2, { a with defers := [{ target := .collected t1.blk, args := #[] }] ++ a.defers }, w3, ?_, hx, by rw [n3]; exact Nat.le_trans q3 m2, n2, ⟨f.size, fun t v hv => let ⟨c, g1, g2⟩ := f.at_ t v hv; ⟨c, g1, g2.mono (hx.le r)⟩⟩, .cons _ t1 _ _ ht1 (dr.mono (hx.le r))⟩
              refine .head henter (hsteps.trans (.head ?_ (.one (stepR_endRangeFunc n1))))
              rw [← finish_atR_inRangeFunc t2.blk c]; exact step_leave_returned hleave
            split at h
            · rename_i s3 hend
              cases h
              obtain ⟨ψ, a3, w3, e1, e2, e3, e4, e5, e6⟩ := key _ _ hend
              exact ⟨ψ, a3, w3, k, e1, rfl, e2, e3, e4, e5, e6⟩
            · rename_i c s3 hend
              obtain ⟨ψ, a3, w3, e1, e2, e3, e4, e5, e6⟩ := key _ _ hend
              obtain ⟨ψ2, a2, w2, td2, g1, g2, g3, g4, g5, g6, g7⟩ := ih c fr fr' _ ds' s3 s' ex (by rw [hrd]; exact h) ψ a3 w3 e4 e5 e6 b k cs _ hb (.code c k)
              exact ⟨ψ2, a2, w2, td2, e1.trans g1, g2, e2.trans e3 g3, Nat.le_trans e3 g4, g5, g6, g7⟩
            · cases h
          · cases h
        · cases h
    · cases h
end
end Go.Proofs.YtcmlomjdkjcjpaaGreatDoor.Vai
