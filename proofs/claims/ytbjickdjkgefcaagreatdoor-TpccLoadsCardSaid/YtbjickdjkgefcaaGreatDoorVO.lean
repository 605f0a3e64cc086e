/- A part of an evaluator of the model's code whose answers are proved sound: no statement on the program stands here. -/
import Derived.Test.YtbjickdjkgefcaaGreatDoorVL
section
open Go Go.RowKit
noncomputable section
namespace Go.Proofs.YtbjickdjkgefcaaGreatDoor.Vai
set_option linter.unusedVariables false
set_option linter.unusedSimpArgs false

section
variable {P : Program} {tb : Tb} {w0 : Base} {φ : Emb} {s s' : St} {w : World}

/-! ### copy -/
def acopy (tb : Tb) (s : St) (ts : List TypeId) (args : List Value) : Option (Value × St) :=
  match ts, args with
  | [t, _], [.slice base dLen _, x] => match tb.und.get t with
    | some (.slice elem) => match tb.info.get elem with
      | none => none
      | some i => match alenOf x with
        | none => none
        | some m => match aelems s i.size (Nat.min m dLen) x with
          | none => none
          | some new => match base with
            | none => some (goInt (Nat.min m dLen), s)
            | some ⟨v, o, none⟩ => match astoreN s v o new with
              | none => none
              | some s' => some (goInt (Nat.min m dLen), s')
            | _ => none
    | _ => none
  | _, _ => none

theorem acopy_sound (hP : TbOk P tb) (r : Rel w0 φ s w) {ts : Array TypeId} {ty : TypeId} {args : List Value} {cs : Array Value} {out : Value} (h : acopy tb s ts.toList args = some (out, s')) (hl : VRL φ args cs.toList) :
    ER w0 φ s s' w out ((Builtin.copy_ ts ty cs).run P w) := by
  obtain ⟨tl⟩ := ts
  obtain ⟨cl⟩ := cs
  simp only at h hl
  unfold acopy at h
  split at h
  · rename_i t tx base dLen dCap x
    cases hl with
    | cons _ cb _ m hb hl =>
    cases hl with
    | cons _ cx _ m hx hl =>
    cases hl
    split at h
    · rename_i elem hu
      have ht := hP.und _ _ hu
      split at h
      · cases h
      · rename_i i hi0
        have hi := hP.info _ _ hi0
        split at h
        · cases h
        · rename_i m hm
          split at h
          · cases h
          · rename_i new hnew
            obtain ⟨news, g1, g2, g3⟩ := aelems_sound (P := P) r hnew hm (Nat.min_le_left _ _) hx
            have hlen := alenOf_sound (P := P) hm hx w
            split at h
            · cases h
              cases hb
              refine ⟨φ, w, _, ?_, Ext.refl _ _, Nat.le_refl _, r, .int _ _⟩
              simp [Builtin.copy_, run_und ht, hlen, run_size hi, g3 w (fun _ => rfl), goInt]
            · rename_i v o
              split at h
              · cases h
              · rename_i s1 hs1
                cases h
                cases hb with
                | slice _ _ tg _ _ c' hv q1 q2 =>
                  obtain ⟨w', e1, e2⟩ := r.run_storeN (P := P) hv _ _ _ _ _ o 0 _ hs1 g1 rfl
                  refine ⟨φ, w', _, ?_, Ext.refl _ _, by rw [astoreN_next _ _ _ _ _ hs1]; exact Nat.le_refl _, e2, .int _ _⟩
                  simp [Builtin.copy_, run_und ht, hlen, run_size hi, g3 w (fun _ => rfl), e1, goInt]
            · cases h
    · cases h
  · cases h

/-! ### clear -/
theorem vrl_plain0 (φ : Emb) : ∀ l : List Value, plainL l = true → VRL φ l l := by
  intro l
  induction l with
  | nil => intro _; exact .nil
  | cons a l ih =>
    intro h
    simp only [plainL, Bool.and_eq_true] at h
    exact .cons _ _ _ _ (VR.of_plain φ a h.1) (ih h.2)
def aclear (tb : Tb) (s : St) (ts : List TypeId) (args : List Value) : Option (Value × St) :=
  match ts, args with
  | [t], [.slice base n _] => match tb.und.get t with
    | some (.slice elem) => match base with
      | none => some (.tuple #[], s)
      | some ⟨v, o, none⟩ => match n with
        | 0 => some (.tuple #[], s)
        | n + 1 => match tb.info.get elem with
          | none => none
          | some i => match i.zero with
            | none => none
            | some z => bif plainL (Builtin.zeroCells z.cells (n + 1)).toList then (match astoreN s v o (Builtin.zeroCells z.cells (n + 1)).toList with
              | none => none
              | some s' => some (.tuple #[], s')) else none
      | _ => none
    | _ => none
  | _, _ => none

theorem aclear_sound (hP : TbOk P tb) (r : Rel w0 φ s w) {ts : Array TypeId} {ty : TypeId} {args : List Value} {cs : Array Value} {out : Value} (h : aclear tb s ts.toList args = some (out, s')) (hl : VRL φ args cs.toList) :
    ER w0 φ s s' w out ((Builtin.clear_ ts ty cs).run P w) := by
  obtain ⟨tl⟩ := ts
  obtain ⟨cl⟩ := cs
  simp only at h hl
  unfold aclear at h
  split at h
  · rename_i t base n cap
    cases hl with
    | cons _ cb _ m hb hl =>
    cases hl
    split at h
    · rename_i elem hu
      have ht := hP.und _ _ hu
      split at h
      · cases h
        cases hb
        refine ⟨φ, w, _, ?_, Ext.refl _ _, Nat.le_refl _, r, VR.of_plain φ _ rfl⟩
        simp [Builtin.clear_, run_und ht]
      · rename_i v o
        cases hb with
        | slice _ _ tg _ _ c' hv q1 q2 =>
        split at h
        · cases h
          refine ⟨φ, w, _, ?_, Ext.refl _ _, Nat.le_refl _, r, VR.of_plain φ _ rfl⟩
          simp [Builtin.clear_, run_und ht]
        · rename_i n
          split at h
          · cases h
          · rename_i i hi0
            have hi := hP.info _ _ hi0
            split at h
            · cases h
            · rename_i z hz
              cases hp : plainL (Builtin.zeroCells z.cells (n + 1)).toList with
              | false => rw [hp] at h; cases h
              | true =>
                rw [hp, cond_true] at h
                split at h
                · cases h
                · rename_i s1 hs1
                  cases h
                  obtain ⟨w', e1, e2⟩ := r.run_storeN (P := P) hv _ _ _ _ _ o 0 _ hs1 (vrl_plain0 φ _ hp) rfl
                  refine ⟨φ, w', .tuple #[], ?_, Ext.refl _ _, by rw [astoreN_next _ _ _ _ _ hs1]; exact Nat.le_refl _, e2, VR.of_plain φ _ rfl⟩
                  simp [Builtin.clear_, run_und ht, run_zero hi hz, e1]
      · cases h
    · cases h
  · cases h

/-! ### bytes that a text shares -/
def afreeze (s : St) (V : View) (R : Root) (n : Nat) : St :=
  { s with roots := s.roots.set V.root { R with flo := 0, fhi := Nat.max R.fhi n } }

theorem FrOk.wider {n flo fhi m : Nat} {sish : Bool} {fr : Nat × Nat} (h : FrOk n flo fhi sish fr) (hs : sish = false) (hm : 0 < m) : FrOk n 0 (Nat.max fhi m) sish fr := by
  refine ⟨h.le, fun o a b c => ⟨Nat.zero_le _, ?_⟩, fun _ e => ?_, h.top⟩
  · have := (h.sub o a b c).2
    exact Nat.lt_of_lt_of_le this (Nat.le_max_left _ _)
  · have : m ≤ Nat.max fhi m := Nat.le_max_right _ _
    exact absurd e (by omega)

theorem FrOk.freeze {n flo fhi m : Nat} {sish : Bool} {fr : Nat × Nat} (h : FrOk n flo fhi sish fr) (hs : sish = false) (hm : 0 < m) (hn : m ≤ n) :
    FrOk n 0 (Nat.max fhi m) sish (if fr.1 == fr.2 then (0, 0 + m) else (min fr.1 0, max fr.2 (0 + m))) := by
  have hmax : m ≤ Nat.max fhi m := Nat.le_max_right _ _
  have htop := h.top hs
  have hle := h.le
  by_cases e : fr.1 = fr.2
  · rw [if_pos (by simpa using e)]
    exact ⟨by simp, fun o a b c => ⟨Nat.zero_le _, by simp at c; omega⟩, fun _ e2 => absurd e2 (by omega), fun _ => by simp; omega⟩
  · rw [if_neg (by simpa using e)]
    have hlt : fr.1 < fr.2 := by omega
    have hb : fr.2 ≤ fhi := by
      have h1 := h.sub (fr.2 - 1) (by omega) (by omega) (by omega)
      omega
    have hmax2 : fhi ≤ Nat.max fhi m := Nat.le_max_left _ _
    refine ⟨by simp, fun o a b c => ⟨Nat.zero_le _, ?_⟩, fun _ e2 => absurd e2 (by omega), fun _ => ?_⟩
    · simp only [Nat.zero_add] at c
      have : o < fr.2 ∨ o < m := by
        rcases Nat.lt_or_ge o fr.2 with h | h
        · exact .inl h
        · right
          have : max fr.2 m = m ∨ max fr.2 m = fr.2 := by omega
          omega
      omega
    · simp only [Nat.zero_add]; omega

theorem Rel.freeze {w0 : Base} {φ : Emb} {s : St} {w : World} (r : Rel w0 φ s w) {v : Nat} {t : Tgt} {V : View} {R : Root} (hv : φ v = some t) (hV : s.views.get v = some V) (hR : s.roots.get V.root = some R) (hro : R.ro = false) (hs : R.sish = false) {m : Nat} (hm : 0 < m) (hn : m ≤ V.ext) :
    Rel w0 φ (afreeze s V R m) (w.freeze ⟨t.blk, 0, none⟩ m) := by
  obtain ⟨R0, hR0, b0⟩ := r.view v t V hv hV
  rw [hR] at hR0; cases hR0
  obtain ⟨c0, fr0, g1, g2, g3, g4⟩ := b0.blk
  have hown := b0.own hro
  have hheap : ∀ k, k ≠ t.blk → (w.freeze ⟨t.blk, 0, none⟩ m).heap[k]? = w.heap[k]? := by
    intro k hk
    unfold World.freeze
    rw [if_neg (by omega)]
    simp [Array.getElem?_modify, Ne.symm hk]
  have hat : (w.freeze ⟨t.blk, 0, none⟩ m).heap[t.blk]? = some (.cells c0 R.elem (if fr0.1 == fr0.2 then (0, 0 + m) else (min fr0.1 0, max fr0.2 (0 + m)))) := by
    unfold World.freeze
    rw [if_neg (by omega)]
    obtain ⟨lo, hi⟩ := fr0
    simp [Array.getElem?_modify, g1]
  have hbel : Kept w0 (w.freeze ⟨t.blk, 0, none⟩ m) := by
    refine r.bel.step ?_ ?_ ?_ ?_ (fun k hk => hheap k (fun e => hown (e ▸ hk))) <;> (unfold World.freeze; rw [if_neg (by omega)])
    simp
  refine ⟨hbel, r.fresh, r.known, ?_, ?_, r.inj, r.vroot, r.olt, r.glob, r.ngle, r.orc⟩
  · intro u q U hu hU
    replace hU : s.views.get u = some U := hU
    obtain ⟨R1, hR1, b1⟩ := r.view u q U hu hU
    obtain ⟨c1, fr1, k1, k2, k3, k4⟩ := b1.blk
    by_cases hroot : U.root = V.root
    · rw [hroot, hR] at hR1; cases hR1
      refine ⟨{ R with flo := 0, fhi := Nat.max R.fhi m }, by simp only [afreeze, hroot]; exact T.get_set_same _ _ _, b1.es, b1.cur, b1.own, b1.ext, b1.exact, b1.stamps, ?_⟩
      by_cases hb : q.blk = t.blk
      · rw [hb, g1] at k1; cases k1
        refine ⟨c0, _, by rw [hb]; exact hat, k2, ?_, k4⟩
        have hnn : m ≤ q.n := by have := b0.ext; omega
        exact k3.freeze hs hm hnn
      · exact ⟨c1, fr1, by rw [hheap _ hb]; exact k1, k2, k3.wider hs hm, k4⟩
    · have hb : q.blk ≠ t.blk := by
        intro e
        rcases r.inj u v q t hu hv e with rfl | ⟨V1, V2, f1, f2, f3⟩
        · rw [hV] at hU; cases hU; exact hroot rfl
        · rw [hU] at f1; rw [hV] at f2; cases f1; cases f2; exact hroot f3
      exact ⟨R1, by simp only [afreeze]; rw [T.get_set_other _ _ hroot]; exact hR1, b1.es, b1.cur, b1.own, b1.ext, b1.exact, b1.stamps, c1, fr1, by rw [hheap _ hb]; exact k1, k2, k3, k4⟩
  · intro u q o hu ho
    obtain ⟨k1, c1, k2, k3⟩ := r.obj u q o hu ho
    refine ⟨k1, c1, ?_, k3⟩
    rw [hheap _ ?_]; exact k2
    intro e; rw [e, g1] at k2; cases k2; exact k3.notCells

theorem cellsOf_info {t : TypeId} {i : TypeInfo} (h : P.info? t = some i) : P.cellsOf t = i.size := by
  have h1 := run_size (P := P) (w := (default : World)) h
  have h2 := run_sizeOf (P := P) (w := (default : World)) h
  rw [h1] at h2
  exact (Result.ok.inj h2).1.symm

def aunsafeString (tb : Tb) (s : St) (ts : List TypeId) (args : List Value) : Option (Value × St) :=
  match ts, args with
  | [pt, _], [.pointer p, .int .i64 (.ofNat n)] => bif Nat.beq n 0 then some (.string .empty, s) else
      match p with
      | some ⟨v, 0, none⟩ => match tb.und.get pt with
        | some (.pointer e) => match s.views.get v, tb.info.get e with
          | some V, some i => match s.roots.get V.root with
            | none => none
            | some R => bif Nat.beq R.elem e && Nat.beq i.size 1 && Nat.ble n V.ext && Nat.blt n INF && !R.ro && !R.sish then
                match aloadN s v 0 n with
                | none => none
                | some l => match abytes l with
                  | none => none
                  | some b => some (.string ⟨b.toArray⟩, afreeze s V R n)
              else none
          | _, _ => none
        | _ => none
      | _ => none
  | _, _ => none

theorem aunsafeString_sound (hP : TbOk P tb) (r : Rel w0 φ s w) {ts : Array TypeId} {ty : TypeId} {args : List Value} {cs : Array Value} {out : Value} (h : aunsafeString tb s ts.toList args = some (out, s')) (hl : VRL φ args cs.toList) :
    ER w0 φ s s' w out ((Builtin.unsafeString_ ts ty cs).run P w) := by
  obtain ⟨tl⟩ := ts
  obtain ⟨cl⟩ := cs
  simp only at h hl
  unfold aunsafeString at h
  split at h
  · rename_i pt it p n
    cases hl with
    | cons _ cb _ m hb hl =>
    cases hl with
    | cons _ cx _ m hx hl =>
    cases hl
    cases hx
    cases hz : Nat.beq n 0 with
    | true =>
      rw [hz] at h
      cases h
      have e := beq_iff.1 hz
      subst e
      refine ⟨φ, w, _, ?_, Ext.refl _ _, Nat.le_refl _, r, .string _⟩
      cases hb <;> exact Lib.run_unsafeString_none w pt it ty _
    | false =>
      rw [hz] at h
      simp only [cond_false] at h
      have hne : n ≠ 0 := fun e => by rw [beq_iff.2 e] at hz; cases hz
      split at h
      · rename_i v
        split at h
        · rename_i e hu
          split at h
          · rename_i V i hV hi0
            split at h
            · cases h
            · rename_i R hR
              cases hc : (Nat.beq R.elem e && Nat.beq i.size 1 && Nat.ble n V.ext && Nat.blt n INF && !R.ro && !R.sish) with
              | false => rw [hc] at h; cases h
              | true =>
                rw [hc] at h
                simp only [cond_true] at h
                simp only [Bool.and_eq_true, Bool.not_eq_true'] at hc
                obtain ⟨⟨⟨⟨⟨c1, c2⟩, c3⟩, c4⟩, c5⟩, c6⟩ := hc
                split at h
                · cases h
                · rename_i l hlo
                  split at h
                  · cases h
                  · rename_i b hb'
                    cases h
                    cases hb with
                    | ptr _ _ t hv =>
                      have hi := hP.info _ _ hi0
                      have helem : R.elem = e := beq_iff.1 c1
                      have hsz : P.cellsOf e = 1 := by rw [cellsOf_info hi]; exact beq_iff.1 c2
                      have hext := Nat.le_of_ble_eq_true c3
                      have hinf := blt_iff.1 c4
                      obtain ⟨cs, h1, h2, h3⟩ := r.loadN hv _ _ _ hlo
                      have hcs := abytes_spec l cs b hb' h1
                      have hsh : w.shape? t.blk = some (R.elem, t.n) := r.shape hv hV hR
                      obtain ⟨R0, hR0, b0⟩ := r.view v t V hv hV
                      rw [hR] at hR0; cases hR0
                      have hlen : b.length = n := by rw [← h2, hcs, byteVals, List.length_map]
                      have hcell : ∀ (j : Nat) (x : UInt8), b[j]? = some x → w.cell? ((⟨t.blk, 0, none⟩ : Addr).add j) = some (.int .u8 x.toNat) := by
                        intro j x hj
                        refine h3 j _ ?_
                        rw [hcs, byteVals, List.getElem?_map, hj]; rfl
                      have hrun := Lib.run_unsafeString_row (P := P) w pt it ty e (hP.und _ _ hu) hsz t.blk t.n (by rw [hsh, helem]) b (by intro e2; rw [e2] at hlen; simp at hlen; omega) (by have := b0.ext; omega) (by simp only [INF] at hinf; omega) hcell
                      rw [hlen] at hrun
                      exact ⟨φ, _, _, hrun, Ext.refl _ _, Nat.le_refl _, r.freeze hv hV hR c5 c6 (Nat.pos_of_ne_zero hne) hext, .string _⟩
          · cases h
        · cases h
      · cases h
  · cases h

/-! ### a text to bytes -/
def astringToBytes (tb : Tb) (s : St) (src dst : TypeId) (x : Value) : Option (Value × St) :=
  match x with
  | .string b => match tb.und.get src, tb.und.get dst with
    | some _, some (.slice e) => match tb.und.get e with
      | some (.int .u8) => bif Nat.blt b.size INF then some (.slice (some ⟨s.next, 0, none⟩) b.size INF, aallocX s e 1 (byteVals b.data.toList) b.size false true) else none
      | _ => none
    | _, _ => none
  | _ => none

theorem astringToBytes_sound (hP : TbOk P tb) (r : Rel w0 φ s w) {src dst : TypeId} {x c out : Value} (h : astringToBytes tb s src dst x = some (out, s')) (hx : VR φ x c) :
    ER w0 φ s s' w out ((convert src dst c).run P w) := by
  unfold astringToBytes at h
  split at h
  · rename_i b
    split at h
    · rename_i d e hs hd
      split at h
      · rename_i he
        cases hb : Nat.blt b.size INF with
        | false => rw [hb] at h; cases h
        | true =>
          rw [hb] at h
          cases h
          cases hx
          have hu := hP.und _ _ he
          have hge := grownCap_ge w b.size 0 e
          obtain ⟨N, hN⟩ : ∃ N, grownCap w b.size 0 e = N := ⟨_, rfl⟩
          rw [hN] at hge
          have hsz : b.data.size = b.size := rfl
          have hrun : (convert src dst (.string b)).run P w = .ok (.slice (some ⟨w.heap.size, 0, none⟩) b.size N)
              (w.drew.alloc (.cells (byteVals b.data.toList ++ List.replicate (N - b.size) (Value.int .u8 0)).toArray e (N, N + 1))) := by
            have harr : (b.data.map fun (c : UInt8) => Value.int .u8 (c.toNat : Int)) ++ Array.replicate (N - b.size) (Value.int .u8 0) = (byteVals b.data.toList ++ List.replicate (N - b.size) (Value.int .u8 0)).toArray := by
              apply Array.ext'
              simp [byteVals]
            have hcut : (Question.appendCap b.size 0 e).cut (w.tape w.drawn (.appendCap b.size 0 e)) = N := hN
            have hconv : (convert src dst (.string b)).run P w = (Conv.stringToBytes e b).run P w := by
              simp [convert, run_und (hP.und _ _ hs), run_und (hP.und _ _ hd), run_und hu]
            rw [hconv]
            have hlen : (byteVals b.data.toList ++ List.replicate (N - b.size) (Value.int .u8 0)).length = N := by
              rw [List.length_append, byteVals, List.length_map, Array.length_toList, List.length_replicate, hsz]; omega
            simp only [Conv.stringToBytes, Sem.run_bind, run_choose, Question.forced, Bool.false_eq_true, if_false, Result.andThen_ok, hcut, newRow, run_newObj, Sem.run_pure, harr]
            have hshape : ({ w with drawn := w.drawn + 1, heap := w.heap.push (.cells (byteVals b.data.toList ++ List.replicate (N - b.size) (Value.int .u8 0)).toArray e) } : World).shape? w.heap.size = some (e, N) := by
              simp only [World.shape?, Array.getElem?_push_size, List.size_toArray, hlen]
            simp only [markStringish, Sem.run_bind, run_shape, hshape, Result.andThen_ok, run_freeze]
            congr 1
            simp only [World.freeze, Nat.one_ne_zero, if_false, World.alloc, World.drew]
            congr 1
            apply Array.ext_getElem?
            intro k
            simp only [Array.getElem?_modify, Array.getElem?_push]
            by_cases hk : k = w.heap.size
            · subst hk; simp
            · rw [if_neg (fun x => hk x.symm), if_neg hk, if_neg hk]
          refine ⟨_, _, _, hrun, Ext.with (w0 := w0) _, Nat.le_succ _, r.drew.allocX e 1 (List.replicate (N - b.size) (Value.int .u8 0)) (N, N + 1) b.size false true ?_ (fun h => by cases h) ?_ (VRL.plain _ (plainL_bytes _)), ?_⟩
          · rw [byteVals, List.length_map, Array.length_toList, hsz]; exact Nat.le_add_right _ _
          · refine ⟨by simp, fun o h1 h2 h3 => ?_, fun h => (by cases h), fun h => (by cases h)⟩
            rw [byteVals, List.length_map, Array.length_toList, List.length_replicate, hsz] at h1
            simp only at h2; omega
          · refine VR.slice (φ := φ.with s.next _) s.next 0 _ b.size INF N (Emb.with_same _ _ _) (fun h => absurd rfl h) (fun _ => ?_)
            show 0 + N * 1 = (byteVals b.data.toList).length + (List.replicate (N - b.size) (Value.int .u8 0)).length
            rw [byteVals, List.length_map, Array.length_toList, List.length_replicate, hsz]; omega
      · cases h
    · cases h
  · cases h

/-! ### functions without a Go body -/
def aext (P : Program) (tb : Tb) (s : St) (k : ExtK) (args : List Value) : Option (Value × St) :=
  match k with
  | .pure g => bif plainL args then
      match pureRun P (g args.toArray) with
      | some v => bif plain v then some (v, s) else none
      | none => none
    else none
  | .same => match args with
    | [x] => some (x, s)
    | _ => none
  | .makeNoZero _ rs => match args, rs.toList with
    | [.int .i64 (.ofNat n)], t :: _ => match tb.und.get t with
      | some (.slice e) => bif Nat.ble n 281474976710656 then some (.slice (some ⟨s.next, 0, none⟩) n INF, aallocX s e 1 [] n false false) else none
      | _ => none
    | _, _ => none
  | .mapsClone => match args with
    | [.iface t (.map (some r))] => match s.objs.get r with
      | some (.map es clock) => some (.iface t (.map (some s.next)), aobj s (.map es clock))
      | _ => none
    | _ => none

theorem digits_size : ∀ (n t : Nat) (acc : Array Value), (Extern.BytealgMakeNoZero.digits n t acc).size = acc.size + n := by
  intro n
  induction n with
  | zero => intro t acc; rfl
  | succ n ih => intro t acc; simp only [Extern.BytealgMakeNoZero.digits, ih]; simp; omega

theorem VRL.eq_of_plain {l m : List Value} (h : VRL φ l m) (hp : plainL l = true) : m = l := by
  have h1 : VR φ (.agg l.toArray) (.agg m.toArray) := h.array.agg
  have h2 := h1.eq_of_plain (show plainL l = true from hp)
  have := congrArg (fun v => match v with | Value.agg a => a.toList | _ => []) h2
  simpa using this

theorem aext_sound (hP : TbOk P tb) (r : Rel w0 φ s w) {k : ExtK} {args : List Value} {cs : Array Value} {out : Value} (h : aext P tb s k args = some (out, s')) (hl : VRL φ args cs.toList) :
    ER w0 φ s s' w out ((k.impl cs).run P w) := by
  unfold aext at h
  split at h
  · rename_i g
    cases hp : plainL args with
    | false => rw [hp] at h; cases h
    | true =>
      rw [hp] at h
      simp only [cond_true] at h
      split at h
      · rename_i v hv
        cases hq : plain v with
        | false => rw [hq] at h; cases h
        | true =>
          rw [hq] at h
          cases h
          have hcs : cs = args.toArray := by
            have := hl.eq_of_plain hp
            rw [← this]
          exact ⟨φ, w, _, by rw [hcs]; exact pureRun_run _ hv w, Ext.refl _ _, Nat.le_refl _, r, VR.of_plain φ _ hq⟩
      · cases h
  · split at h
    · rename_i x
      cases h
      obtain ⟨cl⟩ := cs
      cases hl with
      | cons _ c _ m hv ht =>
        cases ht
        exact ⟨φ, w, c, rfl, Ext.refl _ _, Nat.le_refl _, r, hv⟩
    · cases h
  · rename_i ps rs
    split at h
    · rename_i n t tl hrs
      split at h
      · rename_i e hu
        cases hb : Nat.ble n 281474976710656 with
        | false => rw [hb] at h; cases h
        | true =>
          rw [hb] at h
          cases h
          have hn := Nat.le_of_ble_eq_true hb
          obtain ⟨cl⟩ := cs
          cases hl with
          | cons _ c _ m hv ht =>
            cases ht
            cases hv
            have hr0 : rs[0]? = some t := by rw [← Array.getElem?_toList, hrs]; rfl
            have hge := grownCap_ge w n 0 e
            obtain ⟨N, hN⟩ : ∃ N, grownCap w n 0 e = N := ⟨_, rfl⟩
            rw [hN] at hge
            obtain ⟨T, hT⟩ : ∃ T, (Question.extern "internal/bytealg.MakeNoZero.bytes" 0).cut (w.tape (w.drawn + 1) (.extern "internal/bytealg.MakeNoZero.bytes" 0)) = T := ⟨_, rfl⟩
            have hcut : (Question.appendCap n 0 e).cut (w.tape w.drawn (.appendCap n 0 e)) = N := hN
            have hn1 : ((Int.ofNat n < 0 : Prop) ∨ Int.ofNat n > 2 ^ 48) = False := by simp; omega
            have hrun : (ExtK.impl (.makeNoZero ps rs) #[.int .i64 (.ofNat n)]).run P w = .ok (.slice (some ⟨w.heap.size, 0, none⟩) n N) (w.drew.drew.alloc (.cells (Extern.BytealgMakeNoZero.digits N T #[]) e)) := by
              have hd : (decide (Int.ofNat n < 0) || decide (Int.ofNat n > 2 ^ 48)) = false := by
                simp; omega
              have hto : (Int.ofNat n).toNat = n := rfl
              show (Extern.BytealgMakeNoZero.makeNoZero ps rs #[.int .i64 (.ofNat n)]).run P w = _
              delta Extern.BytealgMakeNoZero.makeNoZero
              conv => lhs; arg 2; whnf
              simp only [hr0, Sem.run_bind, run_und (hP.und _ _ hu), Result.andThen_ok, hd, hto, Bool.false_eq_true, if_false, run_choose, Question.forced, hcut, run_askRoom, newRow, run_newObj, Sem.run_pure]
              have h01 : (decide ((0 : Nat) = 1)) = false := rfl
              simp only [h01, Bool.false_eq_true, if_false, Result.andThen_ok, hT, run_newObj]
              rfl
            have hrel := r.drew.drew.allocX e 1 (cells := []) (cs := []) (Extern.BytealgMakeNoZero.digits N T #[]).toList (0, 0) n false false (by simp [digits_size]; exact hge) (fun h => by cases h) ⟨Nat.le_refl _, fun o _ a b => by omega, fun _ _ => rfl, fun _ => Nat.zero_le _⟩ .nil
            simp only [List.nil_append, Array.toArray_toList, List.length_nil, Nat.zero_add, Array.length_toList] at hrel
            refine ⟨_, _, _, hrun, Ext.with (w0 := w0) _, Nat.le_succ _, hrel, ?_⟩
            refine VR.slice (φ := φ.with s.next _) s.next 0 _ n INF N (Emb.with_same _ _ _) (fun h => absurd rfl h) (fun _ => ?_)
            show 0 + N * 1 = (Extern.BytealgMakeNoZero.digits N T #[]).size
            rw [digits_size]; simp
      · cases h
    · cases h
  · split at h
    · rename_i t rr
      split at h
      · rename_i es clock ho
        cases h
        obtain ⟨cl⟩ := cs
        simp only at hl
        cases hl with
        | cons _ c1 _ _ hv hl2 =>
        cases hl2
        cases hv with
        | iface _ _ cm hm =>
        cases hm with
        | map _ tt ht =>
        obtain ⟨ob, g1, g2⟩ := r.getObj ht ho
        cases g2 with
        | map _ es' _ he =>
        refine ⟨_, _, _, ?_, Ext.with (w0 := w0) _, Nat.le_succ _, r.newObj (.map _ es' clock he), .iface _ _ _ (VR.map (φ := φ.with s.next _) s.next _ (Emb.with_same _ _ _))⟩
        show (Extern.MapsClone.clone #[.iface t (.map (some tt.blk))]).run P w = _
        delta Extern.MapsClone.clone
        conv => lhs; arg 2; whnf
        simp only [Sem.run, g1]
        rfl
      · cases h
    · cases h
end
end Go.Proofs.YtbjickdjkgefcaaGreatDoor.Vai
end
end
section
open Go Go.RowKit
noncomputable section
namespace Go.Proofs.YtbjickdjkgefcaaGreatDoor.Vai
set_option linter.unusedVariables false
set_option linter.unusedSimpArgs false

/-! ### maps that change -/
def amodify : List AEnt → Nat → Value → Value → List AEnt
  | [], _, _, _ => []
  | e :: l, 0, k, v => ⟨k, v, e.born⟩ :: l
  | e :: l, i + 1, k, v => e :: amodify l i k v

def aerase : List AEnt → Nat → List AEnt
  | [], _ => []
  | _ :: l, 0 => l
  | e :: l, i + 1 => e :: aerase l i

def aupdate (P : Program) (tb : Tb) (s : St) (t : TypeId) (m k v : Value) : Option St :=
  match tb.und.get t with
  | some (.map key _) => match m with
    | .map (some r) => match s.objs.get r with
      | some (.map es clock) => bif acheckKey P tb false key k then
          match afindKey P tb s key k es with
          | none => none
          | some (some (i, _)) => match es[i]? with
            | none => none
            | some e => bif asameBits e.key k then some (asetObj s r (.map (amodify es i k v) clock)) else none
          | some none => some (asetObj s r (.map (es ++ [⟨k, v, clock⟩]) (clock + 1)))
        else none
      | _ => none
    | _ => none
  | _ => none

def adelete (P : Program) (tb : Tb) (s : St) (t : TypeId) (m k : Value) : Option St :=
  match tb.und.get t with
  | some (.map key _) => match m with
    | .map none => bif acheckKey P tb true key k then some s else none
    | .map (some r) => match s.objs.get r with
      | some (.map es clock) => bif acheckKey P tb es.isEmpty key k then
          match afindKey P tb s key k es with
          | none => none
          | some (some (i, _)) => some (asetObj s r (.map (aerase es i) clock))
          | some none => some (asetObj s r (.map es clock))
        else none
      | _ => none
    | _ => none
  | _ => none

section
variable {P : Program} {tb : Tb} {w0 : Base} {φ : Emb} {s s' : St} {w : World}

theorem EntsR.at_ {es : List AEnt} {cs : List MapEntry} (h : EntsR φ es cs) : ∀ (i : Nat) (e : AEnt), es[i]? = some e → ∃ c, cs[i]? = some c ∧ VR φ e.key c.key ∧ VR φ e.val c.val ∧ e.born = c.born := by
  induction h with
  | nil => intro i e h; simp at h
  | cons a c l m h1 h2 h3 _ ih =>
    intro i e h
    cases i with
    | zero => simp at h; subst h; exact ⟨c, rfl, h1, h2, h3⟩
    | succ i => exact ih i e (by simpa using h)

theorem EntsR.modify {es : List AEnt} {cs : List MapEntry} (h : EntsR φ es cs) {k v kc vc : Value} (hk : VR φ k kc) (hv : VR φ v vc) : ∀ i : Nat, EntsR φ (amodify es i k v) (cs.modify i fun e => { e with key := kc, val := vc }) := by
  induction h with
  | nil => intro i; cases i <;> exact .nil
  | cons a c l m h1 h2 h3 ht ih =>
    intro i
    cases i with
    | zero => exact .cons _ _ _ _ hk hv h3 ht
    | succ i => exact .cons _ _ _ _ h1 h2 h3 (ih i)

theorem EntsR.erase {es : List AEnt} {cs : List MapEntry} (h : EntsR φ es cs) : ∀ i : Nat, EntsR φ (aerase es i) (cs.eraseIdx i) := by
  induction h with
  | nil => intro i; cases i <;> exact .nil
  | cons a c l m h1 h2 h3 ht ih =>
    intro i
    cases i with
    | zero => exact ht
    | succ i => exact .cons _ _ _ _ h1 h2 h3 (ih i)

theorem EntsR.push {es : List AEnt} {cs : List MapEntry} (h : EntsR φ es cs) {e : AEnt} {c : MapEntry} (hk : VR φ e.key c.key) (hv : VR φ e.val c.val) (hb : e.born = c.born) : EntsR φ (es ++ [e]) (cs ++ [c]) := by
  induction h with
  | nil => exact .cons _ _ _ _ hk hv hb .nil
  | cons a c l m h1 h2 h3 ht ih => exact .cons _ _ _ _ h1 h2 h3 ih

theorem run_setObj_of {b : Nat} {c : Obj} (h : w.heap[b]? = some c) (o : Obj) (hn : ∀ x e f, c ≠ .cells x e f := by intro _ _ _ h; cases h) : (setObj b o).run P w = .ok () { w with heap := w.heap.setIfInBounds b o } := by
  simp only [setObj, Sem.run, h]

theorem run_getObj_of {b : Nat} {c : Obj} (h : w.heap[b]? = some c) (hn : ∀ x e f, c ≠ .cells x e f := by intro _ _ _ h; cases h) : (getObj b).run P w = .ok c w := by
  simp only [getObj, Sem.run, h]

theorem aupdate_sound (hP : TbOk P tb) (r : Rel w0 φ s w) {t : TypeId} {m k v mc kc vc : Value} (h : aupdate P tb s t m k v = some s') (hm : VR φ m mc) (hk : VR φ k kc) (hv : VR φ v vc) :
    ∃ w', (Instr.mapUpdate t mc kc vc).run P w = .ok () w' ∧ Rel w0 φ s' w' ∧ s'.next = s.next := by
  unfold aupdate at h
  split at h
  · rename_i key el hu
    split at h
    · rename_i rr
      split at h
      · rename_i es clock ho
        cases hm with
        | map _ tt ht =>
        obtain ⟨ob, g1, g2⟩ := r.getObj ht ho
        cases g2 with
        | map _ cs _ he =>
        cases hck : acheckKey P tb false key k with
        | false => rw [hck] at h; cases h
        | true =>
          rw [hck] at h
          simp only [cond_true] at h
          have h1 := acheckKey_sound hP hck hk w
          split at h
          · cases h
          · rename_i i v0 hf
            obtain ⟨r', e1, e2⟩ := afindKey_sound hP r hk he hf
            cases e2 with
            | some _ _ cv _ =>
            split at h
            · cases h
            · rename_i e hei
              cases hs : asameBits e.key k with
              | false => rw [hs] at h; cases h
              | true =>
                rw [hs] at h
                cases h
                obtain ⟨c, q1, q2, q3, q4⟩ := he.at_ i e hei
                have hc : cs[i]? = some c := by rw [← Array.getElem?_toList]; exact q1
                have hsb := asameBits_sound hs q2 hk
                refine ⟨_, ?_, r.setObj ht ho (.map _ (cs.modify i fun e => { e with key := kc, val := vc }) clock ?_), rfl⟩
                · simp only [Instr.mapUpdate, Sem.run_bind, run_und (hP.und _ _ hu), Result.andThen_ok, run_getObj_of g1, h1, e1, Instr.keyThatStays, hc, Option.map_some, Option.getD_some, hsb, if_true, Sem.run_pure, run_setObj_of g1]
                · rw [Array.toList_modify]; exact he.modify hk hv i
          · rename_i hf
            obtain ⟨r', e1, e2⟩ := afindKey_sound hP r hk he hf
            cases e2
            cases h
            refine ⟨_, ?_, r.setObj ht ho (.map _ (cs.push ⟨kc, vc, clock⟩) (clock + 1) ?_), rfl⟩
            · simp only [Instr.mapUpdate, Sem.run_bind, run_und (hP.und _ _ hu), Result.andThen_ok, run_getObj_of g1, h1, e1, run_setObj_of g1]
            · rw [Array.toList_push]; exact he.push hk hv rfl
      · cases h
    · cases h
  · cases h

theorem adelete_sound (hP : TbOk P tb) (r : Rel w0 φ s w) {t : TypeId} {m k mc kc : Value} (h : adelete P tb s t m k = some s') (hm : VR φ m mc) (hk : VR φ k kc)
    {ts : Array TypeId} (ht0 : ts[0]? = some t) {as : Array Value} (ha : as[0]? = some mc) (hb : as[1]? = some kc) (t' : TypeId) :
    ∃ w', (Builtin.delete_ ts t' as).run P w = .ok (.tuple #[]) w' ∧ Rel w0 φ s' w' ∧ s'.next = s.next := by
  unfold adelete at h
  split at h
  · rename_i key el hu
    split at h
    · cases hm
      cases hck : acheckKey P tb true key k with
      | false => rw [hck] at h; cases h
      | true =>
        rw [hck] at h
        cases h
        have h1 := acheckKey_sound hP hck hk w
        exact ⟨w, by simp only [Builtin.delete_, ht0, ha, hb, Sem.run_bind, run_und (hP.und _ _ hu), Result.andThen_ok, h1, Sem.run_pure], r, rfl⟩
    · rename_i rr
      split at h
      · rename_i es clock ho
        cases hm with
        | map _ tt ht =>
        obtain ⟨ob, g1, g2⟩ := r.getObj ht ho
        cases g2 with
        | map _ cs _ he =>
        cases hck : acheckKey P tb es.isEmpty key k with
        | false => rw [hck] at h; cases h
        | true =>
          rw [hck] at h
          simp only [cond_true] at h
          have hemp : cs.isEmpty = es.isEmpty := by rw [← he.isEmpty]; simp
          have h1 := acheckKey_sound hP hck hk w
          rw [← hemp] at h1
          split at h
          · cases h
          · rename_i i v0 hf
            obtain ⟨r', e1, e2⟩ := afindKey_sound hP r hk he hf
            cases e2 with
            | some _ _ cv _ =>
            cases h
            refine ⟨_, ?_, r.setObj ht ho (.map _ (cs.eraseIdxIfInBounds i) clock ?_), rfl⟩
            · simp only [Builtin.delete_, ht0, ha, hb, Sem.run_bind, run_und (hP.und _ _ hu), Result.andThen_ok, run_getObj_of g1, h1, e1, run_setObj_of g1, Sem.run_pure]
            · rw [Array.toList_eraseIdxIfInBounds]; exact he.erase i
          · rename_i hf
            obtain ⟨r', e1, e2⟩ := afindKey_sound hP r hk he hf
            cases e2
            cases h
            refine ⟨_, ?_, r.setObj ht ho (.map _ cs clock he), rfl⟩
            · simp only [Builtin.delete_, ht0, ha, hb, Sem.run_bind, run_und (hP.und _ _ hu), Result.andThen_ok, run_getObj_of g1, h1, e1, run_setObj_of g1, Sem.run_pure]
      · cases h
    · cases h
  · cases h
end
end Go.Proofs.YtbjickdjkgefcaaGreatDoor.Vai
end
end
section
open Go Go.RowKit
noncomputable section
namespace Go.Proofs.YtbjickdjkgefcaaGreatDoor.Vai
set_option linter.unusedVariables false
set_option linter.unusedSimpArgs false

/-! ### what is ranged over -/
def arange (tb : Tb) (s : St) (t : TypeId) (x : Value) : Option (Value × St) :=
  match tb.und.get t with
  | some (.map _ _) => match x with
    | .map none => some (.pointer (some ⟨s.next, 0, none⟩), aobj s (.miter none 0 [] 0))
    | .map (some m) => match s.objs.get m with
      | some (.map _ clock) => some (.pointer (some ⟨s.next, 0, none⟩), aobj s (.miter (some m) clock [] clock))
      | _ => none
    | _ => none
  | some .string => match x with
    | .string b => some (.pointer (some ⟨s.next, 0, none⟩), aobj s (.siter b 0))
    | _ => none
  | _ => none

def aleft (es : List AEnt) (seen : List Nat) : List AEnt := es.filter fun e => !seen.contains e.born

def anext (s : St) (it : Value) (isString : Bool) : Option (Value × St) :=
  match it with
  | .pointer (some ⟨r, 0, none⟩) => match s.objs.get r with
    | some (.miter none _ _ _) => bif isString then none else some (.tuple #[.bool false], s)
    | some (.miter (some m) since seen last) => bif isString then none else match s.objs.get m with
      | some (.map es clock) => bif !seen.isEmpty && !es.isEmpty && es.all (fun e => Nat.ble last e.born) then none else
        match aleft es seen with
        | [] => some (.tuple #[.bool false], s)
        | [e] => bif Nat.blt e.born since then some (.tuple #[.bool true, e.key, e.val], asetObj s r (.miter (some m) since (seen ++ [e.born]) clock)) else none
        | _ => none
      | _ => none
    | some (.siter b pos) => bif isString then (bif Nat.blt pos b.size then
          some (.tuple #[.bool true, goInt pos, .int .i32 (Utf8.decode b pos).1], asetObj s r (.siter b (pos + (Utf8.decode b pos).2)))
        else some (.tuple #[.bool false], s)) else none
    | _ => none
  | _ => none

section
variable {P : Program} {tb : Tb} {w0 : Base} {φ : Emb} {s s' : St} {w : World}

theorem new_iter {o : AObj} {c : Obj} (r : Rel w0 φ s w) (hc : ObjR φ o c) {m : Sem Value} (h : m.run P w = .ok (.pointer (some ⟨w.heap.size, 0, none⟩)) (w.alloc c)) :
    ER w0 φ s (aobj s o) w (.pointer (some ⟨s.next, 0, none⟩)) (m.run P w) :=
  ⟨_, _, _, h, Ext.with (w0 := w0) _, Nat.le_succ _, r.newObj hc, VR.ptr (φ := φ.with s.next _) s.next 0 _ (Emb.with_same _ _ _)⟩

theorem run_newObj_of (o : Obj) : (newObj o).run P w = .ok w.heap.size (w.alloc o) := rfl

theorem arange_sound (hP : TbOk P tb) (r : Rel w0 φ s w) {t : TypeId} {x c v : Value} (h : arange tb s t x = some (v, s')) (hx : VR φ x c) : ER w0 φ s s' w v ((Instr.range t c).run P w) := by
  unfold arange at h
  split at h
  · rename_i kt et hu
    split at h
    · cases h
      cases hx
      exact new_iter r (.miterNil 0 [] 0) (by simp only [Instr.range, Sem.run_bind, run_und (hP.und _ _ hu), Result.andThen_ok, Sem.run_pure, run_newObj_of])
    · rename_i m
      split at h
      · rename_i es clock ho
        cases h
        cases hx with
        | map _ tt ht =>
        obtain ⟨ob, g1, g2⟩ := r.getObj ht ho
        cases g2 with
        | map _ cs _ he =>
        exact new_iter r (.miter m tt ht clock [] clock) (by simp only [Instr.range, Sem.run_bind, run_und (hP.und _ _ hu), Result.andThen_ok, Sem.run_pure, run_newObj_of, run_getObj_of g1])
      · cases h
    · cases h
  · rename_i hu
    split at h
    · rename_i b
      cases h
      cases hx
      exact new_iter r (.siter b 0) (by simp only [Instr.range, Sem.run_bind, run_und (hP.und _ _ hu), Result.andThen_ok, Sem.run_pure, run_newObj_of])
    · cases h
  · cases h

theorem EntsR.filter {es : List AEnt} {cs : List MapEntry} (h : EntsR φ es cs) (p : Nat → Bool) : EntsR φ (es.filter fun e => p e.born) (cs.filter fun e => p e.born) := by
  induction h with
  | nil => exact .nil
  | cons a c l m h1 h2 h3 ht ih =>
    simp only [List.filter_cons, ← h3]
    split
    · exact .cons _ _ _ _ h1 h2 h3 ih
    · exact ih

theorem EntsR.all {es : List AEnt} {cs : List MapEntry} (h : EntsR φ es cs) (p : Nat → Bool) : (cs.all fun e => p e.born) = (es.all fun e => p e.born) := by
  induction h with
  | nil => rfl
  | cons a c l m h1 h2 h3 ht ih => simp only [List.all_cons, ih, h3]

theorem VR.triple {a b c d : Value} (h : VR φ a c) (k : VR φ b d) : VR φ (.tuple #[.bool true, a, b]) (.tuple #[.bool true, c, d]) := by
  refine .tuple _ _ rfl (fun i x y hx hy => ?_)
  match i with
  | 0 => simp at hx hy; subst hx; subst hy; exact .bool _
  | 1 => simp at hx hy; subst hx; subst hy; exact h
  | 2 => simp at hx hy; subst hx; subst hy; exact k
  | n + 3 => simp at hx

theorem ER.still (r : Rel w0 φ s w) {v c : Value} {res : Result Value} (h : res = .ok c w) (hv : VR φ v c) : ER w0 φ s s w v res :=
  ⟨φ, w, c, h, Ext.refl _ _, Nat.le_refl _, r, hv⟩

theorem anext_sound (r : Rel w0 φ s w) {it c v : Value} {str : Bool} {t : TypeId} (h : anext s it str = some (v, s')) (hx : VR φ it c) : ER w0 φ s s' w v ((Instr.next c str t).run P w) := by
  have over : VR φ (.tuple #[.bool false]) (.tuple #[.bool false]) := VR.of_plain φ _ rfl
  unfold anext at h
  split at h
  · rename_i rr
    cases hx with
    | ptr _ _ tt ht =>
    split at h
    · rename_i a1 a2 a3 ho
      cases str with
      | true => cases h
      | false =>
        cases h
        obtain ⟨ob, g1, g2⟩ := r.getObj ht ho
        cases g2
        exact ER.still r (by simp only [Instr.next, Sem.run_bind, run_getObj_of g1, Result.andThen_ok, Sem.run_pure]) over
    · rename_i m since seen last ho
      cases str with
      | true => cases h
      | false =>
        simp only [cond_false] at h
        obtain ⟨ob, g1, g2⟩ := r.getObj ht ho
        cases g2 with
        | miter _ tm hm =>
        split at h
        · rename_i es clock hom
          obtain ⟨om, m1, m2⟩ := r.getObj hm hom
          cases m2 with
          | map _ cs _ he =>
          cases hg : (!seen.isEmpty && !es.isEmpty && es.all (fun e => Nat.ble last e.born)) with
          | true => rw [hg] at h; cases h
          | false =>
            rw [hg] at h
            simp only [cond_false] at h
            have hguard : (!seen.toArray.isEmpty && !cs.isEmpty && cs.all (·.born ≥ last)) = false := by
              have h1 : cs.isEmpty = es.isEmpty := by rw [← he.isEmpty]; simp
              have h2 : cs.all (fun e => decide (e.born ≥ last)) = es.all (fun e => Nat.ble last e.born) := by
                rw [← Array.all_toList, he.all (fun n => decide (n ≥ last))]
                congr 1
                funext e
                rw [Bool.eq_iff_iff]; simp [Nat.ble_eq]
              rw [h1, h2]
              simpa using hg
            have hleft : EntsR φ (aleft es seen) (cs.filter fun e => !seen.toArray.contains e.born).toList := by
              have := he.filter (fun n => !seen.contains n)
              simpa [aleft, Array.toList_filter] using this
            split at h
            · rename_i hl
              cases h
              rw [hl] at hleft
              have hnil : (cs.filter fun e => !seen.toArray.contains e.born) = #[] := by
                apply Array.toList_inj.1
                revert hleft
                generalize (cs.filter fun e => !seen.toArray.contains e.born).toList = l
                intro hh; cases hh; rfl
              refine ER.still r ?_ over
              simp only [Instr.next, Sem.run_bind, run_getObj_of g1, run_getObj_of m1, Result.andThen_ok, Sem.run_pure, hguard, Bool.false_eq_true, if_false, hnil]
              simp [choose, Sem.run, Question.forced]
            · rename_i e hl
              cases hb : Nat.blt e.born since with
              | false => rw [hb] at h; cases h
              | true =>
                rw [hb] at h
                cases h
                rw [hl] at hleft
                obtain ⟨ce, hce, k1, k2, k3⟩ : ∃ ce, (cs.filter fun e => !seen.toArray.contains e.born) = #[ce] ∧ VR φ e.key ce.key ∧ VR φ e.val ce.val ∧ e.born = ce.born := by
                  generalize hq : (cs.filter fun e => !seen.toArray.contains e.born) = q at hleft
                  obtain ⟨l⟩ := q
                  simp only at hleft
                  cases hleft with
                  | cons _ ce _ _ q1 q2 q3 q4 => cases q4; exact ⟨ce, rfl, q1, q2, q3⟩
                have hlt : ce.born < since := by rw [← k3]; exact blt_iff.1 hb
                have hR := r.setObj ht ho (ObjR.miter m tm hm since (seen ++ [e.born]) clock)
                have e1 : (seen ++ [e.born]).toArray = seen.toArray.push ce.born := by rw [k3]; simp
                rw [e1] at hR
                refine ⟨φ, _, _, ?_, Ext.refl _ _, Nat.le_refl _, hR, k1.triple k2⟩
                simp only [Instr.next, Sem.run_bind, run_getObj_of g1, run_getObj_of m1, Result.andThen_ok, Sem.run_pure, hguard, Bool.false_eq_true, if_false, hce]
                have o1 : (#[ce].filter fun e => decide (e.born < since)) = #[ce] := by simp [hlt]
                have o2 : (#[ce].filter fun e => decide (e.born ≥ since)) = #[] := by simp; omega
                rw [o1, o2]
                simp [choose, Sem.run, Question.forced]
                rw [run_setObj_of g1]; rfl
            · cases h
        · cases h
    · rename_i b pos ho
      cases str with
      | false => cases h
      | true =>
        simp only [cond_true] at h
        obtain ⟨ob, g1, g2⟩ := r.getObj ht ho
        cases g2
        cases hb : Nat.blt pos b.size with
        | false =>
          rw [hb] at h
          cases h
          have hn : ¬ pos < b.size := fun q => by rw [blt_iff.2 q] at hb; cases hb
          exact ER.still r (by simp only [Instr.next, Sem.run_bind, run_getObj_of g1, Result.andThen_ok, if_neg hn, Sem.run_pure]) over
        | true =>
          rw [hb] at h
          cases h
          have hn : pos < b.size := blt_iff.1 hb
          refine ⟨φ, _, _, ?_, Ext.refl _ _, Nat.le_refl _, r.setObj ht ho (.siter b _), VR.of_plain φ _ rfl⟩
          simp only [Instr.next, Sem.run_bind, run_getObj_of g1, Result.andThen_ok, if_pos hn, run_setObj_of g1, Sem.run_pure]
    · cases h
  · cases h
end
end Go.Proofs.YtbjickdjkgefcaaGreatDoor.Vai
end
end
section
open Go Go.RowKit
noncomputable section
namespace Go.Proofs.YtbjickdjkgefcaaGreatDoor.Vai
set_option linter.unusedVariables false
set_option linter.unusedSimpArgs false

/-! ### the machine -/
/-- A running frame like 'b' (its function, its kind, the round that it is). -/
def fat (b : Frame) (a : Act) (todo : List Item) : Frame := { b with tmps := a.tmps, todo := todo, defers := a.defers, mode := .run }

theorem fat_eval (b : Frame) (a : Act) (todo : List Item) (x : Operand) : (fat b a todo).eval x = a.eval x := by cases x <;> rfl
theorem fat_eval' (b : Frame) (a : Act) (todo : List Item) : (fat b a todo).eval = a.eval := funext (fat_eval b a todo)
theorem fat_finish (b : Frame) (a : Act) (ops : Array Oper) (i : Nat) (rest : List Nat) (k : List Item) (v : Value) :
    (fat b a (.inRegion ops (i :: rest) :: k)).finish v = fat b (a.put ((ops[i]?).bind (·.dst)) v) (.inRegion ops rest :: k) := by
  cases h : (ops[i]?).bind (·.dst) <;> simp [Frame.finish, fat, Act.put, h]

section
variable {P : Program} {b : Frame} {a : Act} {k : List Item} {cs : List Frame} {w : World} {ops : Array Oper}

theorem fstep_skip : step P (lone (fat b a (.code .skip :: k)) cs w) = .next (lone (fat b a k) cs w) := step_lone_go (by simp [stepG, stepG.exec, fat])
theorem fstep_label {l : Nat} : step P (lone (fat b a (.code (.label l) :: k)) cs w) = .next (lone (fat b a k) cs w) := step_lone_go (by simp [stepG, stepG.exec, fat])
theorem fstep_inBlock {id : Nat} : step P (lone (fat b a (.inBlock id :: k)) cs w) = .next (lone (fat b a k) cs w) := step_lone_go (by simp [stepG, stepG.exec, fat])
theorem fstep_inScope {c : Code} : step P (lone (fat b a (.inScope c :: k)) cs w) = .next (lone (fat b a k) cs w) := step_lone_go (by simp [stepG, stepG.exec, fat])
theorem fstep_seq {x y : Code} : step P (lone (fat b a (.code (.seq x y) :: k)) cs w) = .next (lone (fat b a (.code x :: .code y :: k)) cs w) := step_lone_go (by simp [stepG, stepG.exec, fat])
theorem fstep_cond {c : Operand} {x y : Code} {t : Bool} (h : a.eval c = .bool t) :
    step P (lone (fat b a (.code (.cond c x y) :: k)) cs w) = .next (lone (fat b a (.code (if t then x else y) :: k)) cs w) :=
  step_lone_go (by
    have := fat_eval b a (.code (.cond c x y) :: k) c
    simp only [fat] at this
    simp [stepG, stepG.exec, fat, this, h])
theorem fstep_block {id : Nat} {c : Code} : step P (lone (fat b a (.code (.block id c) :: k)) cs w) = .next (lone (fat b a (.code c :: .inBlock id :: k)) cs w) := step_lone_go (by simp [stepG, stepG.exec, fat])
theorem fstep_loop {c : Code} : step P (lone (fat b a (.code (.loop c) :: k)) cs w) = .next (lone (fat b a (.code c :: .inLoop c :: k)) cs w) := step_lone_go (by simp [stepG, stepG.exec, fat])
theorem fstep_inLoop {c : Code} : step P (lone (fat b a (.inLoop c :: k)) cs w) = .next (lone (fat b a (.code c :: .inLoop c :: k)) cs w) := step_lone_go (by simp [stepG, stepG.exec, fat])
theorem fstep_scope {c : Code} : step P (lone (fat b a (.code (.scope c) :: k)) cs w) = .next (lone (fat b a (.code c :: .inScope c :: k)) cs w) := step_lone_go (by simp [stepG, stepG.exec, fat])
theorem fstep_exit {id : Nat} {k' : List Item} (h : exitTo id k = some k') : step P (lone (fat b a (.code (.exit id) :: k)) cs w) = .next (lone (fat b a k') cs w) := step_lone_go (by simp [stepG, stepG.exec, fat, h])
theorem fstep_region {id : Nat} : step P (lone (fat b a (.code (.region id ops false) :: k)) cs w) = .next (lone (fat b a (.inRegion ops (List.range ops.size) :: k)) cs w) :=
  step_lone_go (by simp [stepG, stepG.exec, fat])
theorem fstep_region_draw {id : Nat} : step P (lone (fat b a (.code (.region id ops true) :: k)) cs w) =
      .next (lone (fat b a (.inRegion ops (Region.schedule (P.follows .mixedOrders) ops (w.tape w.drawn (.order b.fn id))) :: k)) cs w.drew) :=
  step_lone_go (by simp [stepG, stepG.exec, fat, choose, Sem.run, Question.forced, Question.cut])
theorem fstep_region_end : step P (lone (fat b a (.inRegion ops [] :: k)) cs w) = .next (lone (fat b a k) cs w) := step_lone_go (by simp [stepG, stepG.exec, fat])
theorem fstep_op_skip {i : Nat} {rest : List Nat} (h : ((ops[i]?).map (Region.wanted · (yielded ops a.tmps))).getD false = false) :
    step P (lone (fat b a (.inRegion ops (i :: rest) :: k)) cs w) = .next (lone (fat b (a.put ((ops[i]?).bind (·.dst)) undef) (.inRegion ops rest :: k)) cs w) := by
  rw [← fat_finish]
  exact step_lone_go (by
    have h' := h
    simp only [fat] at *
    simp [stepG, stepG.exec, h'])

theorem fstepG_op {i : Nat} {rest : List Nat} {o : Oper} (ho : ops[i]? = some o) (hw : Region.wanted o (yielded ops a.tmps) = true) (hd : ∀ c, o.op ≠ .defer c) :
    stepG P true { frame := fat b a (.inRegion ops (i :: rest) :: k), callers := cs, status := .running, dying := none } w =
      stepG.apply P true (fat b a (.inRegion ops (i :: rest) :: k)) cs none (execOp a.eval o) w := by
  have he := fat_eval' b a (.inRegion ops (i :: rest) :: k)
  simp only [fat] at he
  simp only [fat] at *
  simp [stepG, stepG.exec, stepG.oper, Frame.oper?, ho, hw, he]
  split
  · rename_i l c h1 h2; exact absurd h2 (hd c)
  · rfl
end

/-- From '.inRegion ops (i :: rest)' to '.inRegion ops rest'. -/
def OpRun (P : Program) (ops : Array Oper) (i : Nat) (a : Act) (w : World) (a' : Act) (w' : World) : Prop :=
  ∀ (b : Frame) (rest : List Nat) (k : List Item) (cs : List Frame), Steps P (lone (fat b a (.inRegion ops (i :: rest) :: k)) cs w) (lone (fat b a' (.inRegion ops rest :: k)) cs w')

/-- A call that returns. -/
def Returns (P : Program) (f : FuncId) (args : Array Value) (w : World) (v : Value) (w' : World) : Prop := Calls P f args w fun e w'' => e = .returned v ∧ w'' = w'

section
variable {P : Program} {a : Act} {w w' : World} {ops : Array Oper} {i : Nat} {o : Oper}

theorem OpRun.unwanted (ho : ops[i]? = some o) (hw : Region.wanted o (yielded ops a.tmps) = false) : OpRun P ops i a w (a.put o.dst undef) w := by
  intro b rest k cs
  have := fstep_op_skip (P := P) (b := b) (a := a) (k := k) (cs := cs) (w := w) (ops := ops) (i := i) (rest := rest) (by simp [ho, hw])
  rw [ho] at this
  exact .one this

theorem OpRun.value (ho : ops[i]? = some o) (hw : Region.wanted o (yielded ops a.tmps) = true) (hd : ∀ c, o.op ≠ .defer c) {v : Value} (hr : (execOp a.eval o).run P w = .ok (.value v) w') : OpRun P ops i a w (a.put o.dst v) w' := by
  intro b rest k cs
  have hg := fstepG_op (P := P) (b := b) (k := k) (cs := cs) (w := w) (rest := rest) ho hw hd
  refine .one (step_lone_go ?_)
  have hf := fat_finish b a ops i rest k v
  rw [ho] at hf
  rw [hg]
  simp only [Option.bind_some] at hf
  rw [← hf]
  simp [stepG.apply, hr]

theorem OpRun.skip (ho : ops[i]? = some o) (hw : Region.wanted o (yielded ops a.tmps) = true) (hd : ∀ c, o.op ≠ .defer c) (hr : (execOp a.eval o).run P w = .ok .skip w') : OpRun P ops i a w (a.put o.dst undef) w' := by
  intro b rest k cs
  have hg := fstepG_op (P := P) (b := b) (k := k) (cs := cs) (w := w) (rest := rest) ho hw hd
  refine .one (step_lone_go ?_)
  have hf := fat_finish b a ops i rest k undef
  rw [ho] at hf
  rw [hg]
  simp only [Option.bind_some] at hf
  rw [← hf]
  simp [stepG.apply, hr]

theorem OpRun.enter (ho : ops[i]? = some o) (hw : Region.wanted o (yielded ops a.tmps) = true) (hd : ∀ c, o.op ≠ .defer c) {f : FuncId} {args : Array Value} {v : Value} {w1 : World} (hr : (execOp a.eval o).run P w = .ok (.enter f args) w1) (hc : Returns P f args w1 v w') :
    OpRun P ops i a w (a.put o.dst v) w' := by
  intro b rest k cs
  have hg := fstepG_op (P := P) (b := b) (k := k) (cs := cs) (w := w) (rest := rest) ho hw hd
  have hf := fat_finish b a ops i rest k v
  rw [ho] at hf
  simp only [Option.bind_some] at hf
  obtain ⟨e, w'', fr, ⟨he, hw''⟩, hsteps, _, hleave⟩ := hc (fat b a (.inRegion ops (i :: rest) :: k) :: cs)
  subst he
  subst hw''
  have henter : step P (lone (fat b a (.inRegion ops (i :: rest) :: k)) cs w) = .next (lone (Frame.enter P f args .normal) (fat b a (.inRegion ops (i :: rest) :: k) :: cs) w1) :=
    step_lone_go (by rw [hg]; simp [stepG.apply, hr, fat])
  refine .head henter (hsteps.trans (.one ?_))
  rw [← hf]
  exact step_leave_returned hleave
end
end Go.Proofs.YtbjickdjkgefcaaGreatDoor.Vai
end
end
