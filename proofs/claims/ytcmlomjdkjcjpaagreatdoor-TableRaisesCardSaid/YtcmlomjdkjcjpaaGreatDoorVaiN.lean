/- A part of an evaluator of the model's code whose answers are proved sound: no statement on the program stands here. -/
import Derived.Test.YtcmlomjdkjcjpaaGreatDoorVaiM
open Go Go.RowKit
namespace Go.Proofs.YtcmlomjdkjcjpaaGreatDoor.Vai
set_option linter.unusedVariables false
set_option linter.unusedSimpArgs false

section
variable {P : Program} {tb : Tb} {w0 : Base} {φ : Emb} {s s' : St} {w : World}

theorem run_append_room_any {t tx ty e : TypeId} {i : TypeInfo} (ht : P.underlying t = some (.slice e)) (hi : P.info? e = some i) {b off sLen sCap n : Nat} {x : Value} {news : List Value} (hs : Src P i.size tx x n news w) (hroom : sLen + n ≤ sCap) {w' : World}
    (hst : (storeCells ⟨b, off + sLen * i.size, none⟩ news).run P w = .ok () w') :
    (Builtin.append_ #[t, tx] ty #[.slice (some ⟨b, off, none⟩) sLen sCap, x]).run P w = .ok (.slice (some ⟨b, off, none⟩) (sLen + n) sCap) w' := by
  rcases hs.kind with ⟨e', hk⟩ | hk <;> simp [Builtin.append_, run_underlying ht, run_underlying hk, sizeOf, typeInfo, hi, hs.len, hroom, hs.cells, add_mk, hst]

theorem run_append_none {t tx ty e : TypeId} {i : TypeInfo} (ht : P.underlying t = some (.slice e)) (hi : P.info? e = some i) {x : Value} {news : List Value} (hs : Src P i.size tx x 0 news w) :
    (Builtin.append_ #[t, tx] ty #[.slice none 0 0, x]).run P w = .ok (.slice none 0 0) w := by
  rcases hs.kind with ⟨e', hk⟩ | hk <;> simp [Builtin.append_, run_underlying ht, run_underlying hk, sizeOf, typeInfo, hi, hs.len, hs.cells]

theorem grow_world (w : World) (olds news : List Value) (z : Array Value) (k : Nat) (e : TypeId) :
    w.drew.alloc (.cells ((olds ++ news).toArray ++ Builtin.zeroCells z k) e) = (w.drew).alloc (.cells ((olds ++ news) ++ (Builtin.zeroCells z k).toList).toArray e) := by
  congr 2
  apply Array.ext'
  simp

/-- A new block for what has grown. -/
theorem grown_new (r : Rel w0 φ s w) {t tx ty e : TypeId} {i : TypeInfo} (ht : P.underlying t = some (.slice e)) (hi : P.info? e = some i) {base : Option Addr} {sLen sCap n : Nat} {x : Value} {old new olds news : List Value}
    (hold : (Builtin.firstCells i.size sLen (.slice base sLen sCap)).run P w.drew = .ok olds.toArray w.drew) (hol : olds.length = sLen * i.size) (ho : VRL φ old olds) (hn : VRL φ new news) (hs : Src P i.size tx x n news w)
    (hg : sCap < sLen + n) (hrow : growRow tb i (sLen + n) = true) :
    ER w0 φ s (aallocX s e i.size (old ++ new) (old ++ new).length false false) w (.slice (some ⟨s.next, 0, none⟩) (sLen + n) INF) ((Builtin.append_ #[t, tx] ty #[.slice base sLen sCap, x]).run P w) := by
  obtain ⟨z, hz, hzs, hpos, hfit, hinf⟩ := growRow_spec hrow
  have hrun := run_append_grow_src (P := P) w t tx ty e i z ht hi hz base sLen sCap olds hold x n news hs hg (by simp only [INF] at hinf; omega) (growslice_fits hg hfit)
  rw [grow_world] at hrun
  have hrel := r.drew.allocX e i.size (Builtin.zeroCells z.cells (grownCap w (sLen + n) sCap e - (sLen + n))).toList (0, 0) (old ++ new).length false false (by rw [(ho.append hn).length]; exact Nat.le_add_right _ _) (fun h => by cases h) ⟨Nat.le_refl _, fun o _ a b => by omega, fun _ _ => Nat.le_refl _, fun _ => Nat.zero_le _⟩ (ho.append hn)
  refine ⟨_, _, _, hrun, Ext.with (w0 := w0) _, Nat.le_succ _, hrel, ?_⟩
  refine VR.slice (φ := φ.with s.next _) s.next 0 _ (sLen + n) INF (grownCap w (sLen + n) sCap e) (Emb.with_same _ _ _) (fun h => absurd rfl h) (fun _ => ?_)
  have hge := grownCap_ge w (sLen + n) sCap e
  show 0 + grownCap w (sLen + n) sCap e * i.size = (olds ++ news).length + (Builtin.zeroCells z.cells (grownCap w (sLen + n) sCap e - (sLen + n))).toList.length
  rw [zeroCells_size, List.length_append, hol, hs.newsLen, hzs, ← Nat.add_mul, ← Nat.add_mul, Nat.zero_add]
  congr 1
  omega

set_option maxHeartbeats 2000000 in
theorem aappend_sound (hP : TbOk P tb) (r : Rel w0 φ s w) {ts : Array TypeId} {ty : TypeId} {args : List Value} {cs : Array Value} {out : Value} (h : aappend tb s ts.toList args = some (out, s')) (hl : VRL φ args cs.toList) :
    ER w0 φ s s' w out ((Builtin.append_ ts ty cs).run P w) := by
  obtain ⟨tl⟩ := ts
  obtain ⟨cl⟩ := cs
  simp only at h hl
  unfold aappend at h
  split at h
  · rename_i t tx base sLen sCap x
    cases hl with
    | cons _ cb _ m hb hl =>
    cases hl with
    | cons _ cx _ m hx hl =>
    cases hl
    split at h
    · rename_i elem hu
      have ht := hP.und _ _ hu
      split at h
      · cases h
      · rename_i i hi0
        have hi := hP.info _ _ hi0
        cases hk : srcKind tb tx with
        | false => rw [hk] at h; cases h
        | true =>
          rw [hk] at h
          simp only [cond_true] at h
          have kind : (∃ e', P.underlying tx = some (.slice e')) ∨ P.underlying tx = some .string := by
            unfold srcKind at hk
            split at hk
            · rename_i e' he; exact .inl ⟨e', hP.und _ _ he⟩
            · rename_i he; exact .inr (hP.und _ _ he)
            · cases hk
          split at h
          · cases h
          · rename_i n hn
            split at h
            · cases h
            · rename_i new hnew
              cases hone : allOne new with
              | false => rw [hone] at h; cases h
              | true =>
                rw [hone] at h
                simp only [cond_true] at h
                obtain ⟨news, g1, g2, g3⟩ := aelems_sound (P := P) r hnew hn (Nat.le_refl _) hx
                have src : Src P i.size tx cx n news w := ⟨kind, fun w' => alenOf_sound hn hx w', g3 w (fun _ => rfl), g3 w.drew (fun _ => rfl), g2, allOne_spec _ _ hone g1⟩
                split at h
                · cases hz : (Nat.beq sLen 0 && Nat.beq sCap 0) with
                  | false => rw [hz] at h; cases h
                  | true =>
                    rw [hz] at h
                    rw [Bool.and_eq_true] at hz
                    have e1 := beq_iff.1 hz.1
                    have e2 := beq_iff.1 hz.2
                    subst e1; subst e2
                    cases hb
                    simp only [cond_true] at h
                    cases hn0 : Nat.beq n 0 with
                    | true =>
                      rw [hn0] at h
                      cases h
                      have e3 := beq_iff.1 hn0
                      subst e3
                      exact ⟨φ, w, _, run_append_none ht hi src, Ext.refl _ _, Nat.le_refl _, r, .snil _ _⟩
                    | false =>
                      rw [hn0] at h
                      simp only [cond_false] at h
                      have hne : n ≠ 0 := fun e => by rw [beq_iff.2 e] at hn0; cases hn0
                      cases hrow : growRow tb i n with
                      | false => rw [hrow] at h; cases h
                      | true =>
                        rw [hrow] at h
                        cases h
                        have := grown_new (P := P) (tb := tb) (ty := ty) (tx := tx) (sLen := 0) (sCap := 0) (base := none) (old := []) (olds := []) r ht hi rfl (by simp) .nil g1 src (by omega) (by rw [Nat.zero_add]; exact hrow)
                        simpa using this
                · rename_i v o
                  cases hb with
                  | slice _ _ tg _ _ c' hv q1 q2 =>
                  cases hc : Nat.beq sCap INF with
                  | true =>
                    rw [hc] at h
                    simp only [cond_true] at h
                    have hcap := q2 (beq_iff.1 hc)
                    split at h
                    · cases h
                    · rename_i V hV
                      split at h
                      · cases h
                      · rename_i R hR
                        cases hk2 : (Nat.beq R.es i.size && Nat.blt 0 i.size && Nat.beq R.elem elem) with
                        | false => rw [hk2] at h; cases h
                        | true =>
                          rw [hk2] at h
                          simp only [cond_true] at h
                          rw [Bool.and_eq_true, Bool.and_eq_true] at hk2
                          obtain ⟨⟨k1, k2⟩, k3⟩ := hk2
                          have hpos := blt_iff.1 k2
                          have helem : R.elem = elem := beq_iff.1 k3
                          obtain ⟨R', hR', bk⟩ := r.view v tg V hv hV
                          rw [hR] at hR'; cases hR'
                          have hes : tg.es = i.size := by rw [← bk.es]; exact beq_iff.1 k1
                          rw [hes] at hcap
                          have hle : (V.ext - o) / i.size ≤ c' := by
                            have := bk.ext
                            have h5 : V.ext - o ≤ c' * i.size := by omega
                            calc (V.ext - o) / i.size ≤ (c' * i.size) / i.size := Nat.div_le_div_right h5
                              _ = c' := Nat.mul_div_cancel _ hpos
                          cases hfit : Nat.ble (sLen + n) ((V.ext - o) / i.size) with
                          | true =>
                            rw [hfit] at h
                            simp only [cond_true] at h
                            split at h
                            · cases h
                            · rename_i s1 hs1
                              cases h
                              obtain ⟨w', e1, e2⟩ := r.run_storeN (P := P) hv _ _ _ _ _ (o + sLen * i.size) 0 _ hs1 g1 rfl
                              refine ⟨φ, w', _, run_append_room_any ht hi src (Nat.le_trans (Nat.le_of_ble_eq_true hfit) hle) e1, Ext.refl _ _, by rw [astoreN_next _ _ _ _ _ hs1]; exact Nat.le_refl _, e2, ?_⟩
                              exact .slice _ _ _ _ _ _ hv (fun h => absurd rfl h) (fun _ => by rw [hes]; exact hcap)
                          | false =>
                            rw [hfit] at h
                            simp only [cond_false] at h
                            cases hgo : (Nat.beq R.cur v && !R.ro && Nat.beq o 0 && Nat.ble R.fhi (sLen * i.size) && Nat.ble (sLen * i.size) V.ext && growRow tb i (sLen + n)) with
                            | false => rw [hgo] at h; cases h
                            | true =>
                              rw [hgo] at h
                              cases h
                              simp only [Bool.and_eq_true, Bool.not_eq_true'] at hgo
                              obtain ⟨⟨⟨⟨⟨p1, p2⟩, p3⟩, p4⟩, p5⟩, p6⟩ := hgo
                              have hcur := beq_iff.1 p1
                              have ho0 := beq_iff.1 p3
                              subst ho0
                              have hfhi := Nat.le_of_ble_eq_true p4
                              have hsl := Nat.le_of_ble_eq_true p5
                              obtain ⟨z, hz, hzs, _, hrowfit, hinf⟩ := growRow_spec p6
                              obtain ⟨c, fr, b1, b2, b3, b4⟩ := bk.blk
                              rw [Nat.zero_add] at hcap
                              have hnl : new.length = n * i.size := by rw [g1.length]; exact g2
                              by_cases hroom : sLen + n ≤ c'
                              · have hin : sLen * i.size + news.length ≤ c.size := by
                                  rw [g2, ← Nat.add_mul, b2, ← hcap]
                                  exact Nat.mul_le_mul_right _ hroom
                                obtain ⟨c2, s1, s2, s3, s4, s5, s6, s7, s8, s9⟩ := setCells_row tg.blk R.elem fr news (sLen * i.size) w c b1 hin
                                have hst := run_storeCells_cells (P := P) tg.blk (0 + sLen * i.size) news 0 w
                                  (fun j hj => by
                                    have : (0 + sLen * i.size) + 0 + j < c.size := by omega
                                    simp [World.cell?, b1]; omega)
                                  (fun j hj => frozen_not b1 (fun ⟨x, y⟩ => by
                                    have := (b3.sub _ (by omega) x y).2
                                    omega))
                                  (allOne_spec _ _ hone g1)
                                rw [show 0 + sLen * i.size + 0 = sLen * i.size by omega] at hst
                                have hgrow := r.grow (w' := w.setCells tg.blk (sLen * i.size) news) (t2 := tg) hv hV hR hcur p2 g1 b1 hsl
                                  (r.bel.step s6 s7 s8 (by rw [s9]; exact Nat.le_refl _) (fun k hk => by
                                    have hne : k ≠ tg.blk := fun e => bk.own p2 (e ▸ hk)
                                    cases hq : w.heap[k]? with
                                    | none =>
                                      have h1 := Array.getElem?_eq_none_iff.1 hq
                                      exact Array.getElem?_eq_none (by rw [s9]; exact h1)
                                    | some ob => exact s5 k ob hq hne))
                                  rfl (bk.own p2) s1 (by rw [s2, b2]) (by rw [hnl, ← hcap, ← Nat.add_mul]; exact Nat.mul_le_mul_right _ hroom) b3
                                  (fun k hk => s3 k (.inl hk)) s4 s5 ⟨c2, s1, s2, fun k hk => s3 k (by rw [g2, ← hnl]; exact hk)⟩ (.inl rfl)
                                refine ⟨_, _, _, run_append_room_any ht hi src hroom hst, Ext.with (w0 := w0) _, Nat.le_succ _, hgrow, ?_⟩
                                refine VR.slice (φ := φ.with s.next tg) s.next 0 tg (sLen + n) INF c' (Emb.with_same _ _ _) (fun h => absurd rfl h) (fun _ => ?_)
                                rw [hes, Nat.zero_add]; exact hcap
                              · have hlt : c' < sLen + n := by omega
                                have hold : (Builtin.firstCells i.size sLen (.slice (some ⟨tg.blk, 0, none⟩) sLen c')).run P w.drew = .ok (c.toList.take (sLen * i.size)).toArray w.drew := by
                                  refine cells_ok_firstCells w.drew i.size sLen _ c' (by rw [List.length_take, Array.length_toList, b2]; have := bk.ext; omega) (fun j v hj => ?_)
                                  rw [add_mk]
                                  rw [List.getElem?_take] at hj
                                  split at hj
                                  · have : w.drew.cell? ⟨tg.blk, 0 + j, none⟩ = c[j]? := by
                                      show w.cell? _ = _
                                      simp [World.cell?, b1]
                                    rw [this, ← Array.getElem?_toList]; exact hj
                                  · cases hj
                                have hol : (c.toList.take (sLen * i.size)).length = sLen * i.size := by rw [List.length_take, Array.length_toList, b2]; have := bk.ext; omega
                                have hrun := run_append_grow_src (P := P) w t tx ty elem i z ht hi hz (some ⟨tg.blk, 0, none⟩) sLen c' _ hold cx n news src hlt (by simp only [INF] at hinf; omega) (growslice_fits hlt hrowfit)
                                rw [grow_world] at hrun
                                have hge := grownCap_ge w (sLen + n) c' elem
                                have hsz : ((c.toList.take (sLen * i.size) ++ news) ++ (Builtin.zeroCells z.cells (grownCap w (sLen + n) c' elem - (sLen + n))).toList).length = grownCap w (sLen + n) c' elem * i.size := by
                                  rw [List.length_append, List.length_append, hol, zeroCells_size, g2, hzs, ← Nat.add_mul, ← Nat.add_mul]
                                  congr 1; omega
                                have hgrow := r.grow (w' := w.drew.alloc (.cells ((c.toList.take (sLen * i.size) ++ news) ++ (Builtin.zeroCells z.cells (grownCap w (sLen + n) c' elem - (sLen + n))).toList).toArray elem))
                                  (t2 := ⟨w.heap.size, grownCap w (sLen + n) c' elem * i.size, i.size⟩) hv hV hR hcur p2 g1 b1 hsl
                                  (r.drew.bel.alloc _) hes.symm r.bel.new (by rw [helem]; exact heap_alloc_at) (by rw [List.size_toArray]; exact hsz)
                                  (by rw [hnl, ← Nat.add_mul]; exact Nat.mul_le_mul_right _ hge) ⟨Nat.le_refl _, fun k _ x y => by omega, fun _ _ => Nat.le_refl _, fun _ => Nat.zero_le _⟩
                                  (fun k hk => by
                                    rw [List.getElem?_toArray, List.append_assoc, List.getElem?_append_left (by omega), List.getElem?_take, if_pos hk, Array.getElem?_toList])
                                  (fun k x hk => by
                                    have hkl := (List.getElem?_eq_some_iff.1 hk).1
                                    rw [List.getElem?_toArray, List.append_assoc, List.getElem?_append_right (by omega), hol, show sLen * i.size + k - sLen * i.size = k by omega, List.getElem?_append_left hkl]; exact hk)
                                  (fun b' ob hb' _ => heap_alloc_old hb') ⟨c, heap_alloc_old b1, rfl, fun _ _ => rfl⟩ (.inr (Nat.le_refl _))
                                refine ⟨_, _, _, hrun, Ext.with (w0 := w0) _, Nat.le_succ _, hgrow, ?_⟩
                                refine VR.slice (φ := φ.with s.next _) s.next 0 _ (sLen + n) INF _ (Emb.with_same _ _ _) (fun h => absurd rfl h) (fun _ => ?_)
                                show 0 + grownCap w (sLen + n) c' elem * i.size = grownCap w (sLen + n) c' elem * i.size
                                omega
                  | false =>
                    rw [hc] at h
                    simp only [cond_false] at h
                    have hne : sCap ≠ INF := fun e => by rw [beq_iff.2 e] at hc; cases hc
                    have hcc := q1 hne
                    rw [hcc]
                    cases hfit : Nat.ble (sLen + n) sCap with
                    | true =>
                      rw [hfit] at h
                      simp only [cond_true] at h
                      split at h
                      · cases h
                      · rename_i s1 hs1
                        cases h
                        obtain ⟨w', e1, e2⟩ := r.run_storeN (P := P) hv _ _ _ _ _ (o + sLen * i.size) 0 _ hs1 g1 rfl
                        refine ⟨φ, w', _, run_append_room_any ht hi src (Nat.le_of_ble_eq_true hfit) e1, Ext.refl _ _, by rw [astoreN_next _ _ _ _ _ hs1]; exact Nat.le_refl _, e2, ?_⟩
                        exact .slice _ _ _ _ _ _ hv (fun _ => rfl) (fun h => absurd h hne)
                    | false =>
                      rw [hfit] at h
                      simp only [cond_false] at h
                      have hlt : sCap < sLen + n := by
                        rcases Nat.lt_or_ge sCap (sLen + n) with h | h
                        · exact h
                        · rw [Nat.ble_eq_true_of_le h] at hfit; cases hfit
                      cases hrow : growRow tb i (sLen + n) with
                      | false => rw [hrow] at h; cases h
                      | true =>
                        rw [hrow] at h
                        simp only [cond_true] at h
                        split at h
                        · cases h
                        · rename_i old hold
                          cases h
                          obtain ⟨olds, y1, y2, y3⟩ := r.loadN hv _ _ _ hold
                          exact grown_new (P := P) (tb := tb) (ty := ty) (tx := tx) r ht hi (cells_ok_firstCells w.drew i.size sLen _ sCap y2 (fun j v hj => y3 j v hj)) y2 y1 g1 src hlt hrow
                · cases h
    · cases h
  · cases h
end
end Go.Proofs.YtcmlomjdkjcjpaaGreatDoor.Vai
