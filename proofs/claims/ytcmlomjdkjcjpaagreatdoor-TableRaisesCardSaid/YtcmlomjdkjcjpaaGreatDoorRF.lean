import Derived.Test.YtcmlomjdkjcjpaaGreatDoorRE
import Derived.Laws.AppendOwnNone
import Derived.Deep.QuietTactic
import Derived.Deep.AppendLies
import Derived.BigQuiet
import Derived.Lib.Hide
open Go Go.RowKit Go.Proofs.YtcmlomjdkjcjpaaGreatDoor.Vai
namespace Go.Proofs.YtcmlomjdkjcjpaaGreatDoor
set_option linter.unusedVariables false
set_option linter.unusedSimpArgs false
set_option maxRecDepth 4000
def Inv (I : Nat → List Nat → World → Prop) (W : World) (l0 : List Nat) (m n : Nat) (k : Nat) (res : Value) (w : World) : Prop :=
  k ≤ n ∧ W.grownBy w (some m) ∧ ∃ l xs, I k l w ∧ (∀ b ∈ l, b < w.heap.size ∧ (b ∈ l0 ∨ W.heap.size ≤ b)) ∧ w.ownsRow W.heap.size 52 2 res k xs ∧ (∀ g, res.ownBlock = some g → g ∉ l)
theorem info52' : (Tryz.prog.info? 52).map (fun i => (i.zero, i.size, i.bytes)) = some (some (.agg #[.int .i64 0, .slice none 0 0]), 2, 32) := by kernel_rfl
theorem info52 : ∃ i z, Tryz.prog.info? 52 = some i ∧ i.zero = some z ∧ i.size = 2 ∧ i.bytes = 32 ∧ z.cells.size = 2 := by
  have h := info52'
  cases hi : Tryz.prog.info? 52 with
  | none => rw [hi] at h; cases h
  | some i =>
    rw [hi] at h
    simp only [Option.map_some, Option.some.injEq, Prod.mk.injEq] at h
    exact ⟨i, _, rfl, h.1, h.2.1, h.2.2, rfl⟩
theorem cell_lt {w : World} {p : Addr} {v : Value} (h : w.cell? p = some v) : p.block < w.heap.size := by
  unfold World.cell? at h
  cases hb : w.heap[p.block]? with
  | none => rw [hb] at h; cases h
  | some o => exact (Array.getElem?_eq_some_iff.1 hb).1
theorem grown_trans {a b c : World} {m : Nat} (h : a.grownBy b (some m)) (k : b.grownBy c (some m)) : a.grownBy c (some m) :=
  ⟨k.os.trans h.os, k.tape.trans h.tape, k.output.trans h.output, Nat.le_trans h.size k.size, fun i hi hm => by rw [k.block i (by have := h.size; omega) hm, h.block i hi hm]⟩
theorem grown_below {a b : World} {m : Nat} (h : Below a.heap.size a b) : a.grownBy b (some m) := ⟨h.os, h.tape, h.output, h.size, fun k hk _ => h.block k hk⟩
theorem news_lit (w : World) (l : List Value) (t : TypeId) (H : Nat) (h : w.heap.size = H) : ∀ j u, l[j]? = some u → (w.alloc (.cells l.toArray t (0, 0))).cell? ((⟨H, 0, none⟩ : Addr).add j) = some u := by
  intro j u hu
  subst h
  unfold Addr.add
  have : (w.alloc (.cells l.toArray t (0, 0))).heap[w.heap.size]? = some (.cells l.toArray t (0, 0)) := heap_alloc_at
  split <;> simp_all [World.cell?]
/-- What a round leaves. -/
theorem round_inv {I : Nat → List Nat → World → Prop} {W : World} {l0 : List Nat} {m n k : Nat} {res : Value} {wr w2 w4 : World} {l l' : List Nat} {xs : List Value} {o o1 o2 : Obj} {g cap : Nat} {ys : List Value} (hlt : k < n)
    (hIm : ∀ i l w, I i l w → m ∈ l) (hI : ∀ i l w w', I i l w → (∀ b ∈ l, w'.heap[b]? = w.heap[b]?) → w.heap.size ≤ w'.heap.size → I i l w')
    (hkeep : W.grownBy wr (some m)) (hIk : I k l wr) (hl : ∀ b ∈ l, b < wr.heap.size ∧ (b ∈ l0 ∨ W.heap.size ≤ b)) (hown : wr.ownsRow W.heap.size 52 2 res k xs) (hgl : ∀ g, res.ownBlock = some g → g ∉ l)
    (hI2 : I (k + 1) l' w2) (hl2 : ∀ b ∈ l', b < w2.heap.size ∧ (b ∈ l ∨ (wr.alloc o).heap.size ≤ b)) (hg2 : (wr.alloc o).grownBy w2 (some m))
    (hown2 : w4.ownsRow W.heap.size 52 2 (.slice (some ⟨g, 0, none⟩) (k + 1) cap) (k + 1) ys) (hgrow : ((w2.alloc o1).alloc o2).grownBy w4 res.ownBlock) (hat : res.ownBlock = some g ∨ g = w2.heap.size + 2) :
    Inv I W l0 m n (k + 1) (.slice (some ⟨g, 0, none⟩) (k + 1) cap) w4 ∧ w4.heap[w2.heap.size]? = some o1 := by
  have hs1 := hg2.size
  have hs2 := hgrow.size
  simp at hs1 hs2
  have hmr : res.ownBlock ≠ some m := fun e => hgl m e (hIm _ _ _ hIk)
  have hlow : ∀ q, res.ownBlock = some q → W.heap.size ≤ q ∧ q < wr.heap.size := hown.lt
  have hstep : ∀ b, b < w2.heap.size → res.ownBlock ≠ some b → w4.heap[b]? = w2.heap[b]? := by
    intro b hb hne
    rw [hgrow.block b (by simp; omega) (fun e => hne e.symm)]
    rw [Below.heap_alloc _ _ _ (by simp; omega), Below.heap_alloc _ _ _ hb]
  have hin : ∀ b ∈ l', res.ownBlock ≠ some b := by
    intro b hb e
    rcases (hl2 b hb).2 with h | h
    · exact hgl b e h
    · have := (hlow b e).2; simp at h; omega
  refine ⟨⟨hlt, ?_, l', ys, hI _ _ _ _ hI2 (fun b hb => hstep b (hl2 b hb).1 (hin b hb)) (by omega), fun b hb => ⟨by have := (hl2 b hb).1; omega, ?_⟩, hown2, ?_⟩, ?_⟩
  · refine ⟨hgrow.os.trans (hg2.os.trans hkeep.os), hgrow.tape.trans (hg2.tape.trans hkeep.tape), hgrow.output.trans (hg2.output.trans hkeep.output), by have := hkeep.size; omega, fun b hb hm => ?_⟩
    have h1 := hkeep.size
    rw [hstep b (by omega) (fun e => by have := (hlow b e).1; omega), hg2.block b (by simp; omega) hm, Below.heap_alloc _ _ _ (by omega), hkeep.block b hb hm]
  · rcases (hl2 b hb).2 with h | h
    · exact (hl b h).2
    · right; have := hkeep.size; simp at h; omega
  · intro q hq hmem
    have hq' : g = q := by simpa [Value.ownBlock] using hq
    subst hq'
    rcases hat with h | h
    · exact hin g hmem h
    · have := (hl2 g hmem).1; omega
  · rw [hgrow.block _ (by simp; omega) (fun e => by have := (hlow _ e.symm).2; omega), Below.heap_alloc _ _ _ (by simp)]
    exact heap_alloc_at
/-- Nothing but two blocks has turned. -/
def Keep2 (d m : Nat) (W w' : World) : Prop := W.heap.size ≤ w'.heap.size ∧ ∀ b, b < W.heap.size → b ≠ d → b ≠ m → w'.heap[b]? = W.heap[b]?
structure Same3 (W w' : World) : Prop where
  os : w'.os = W.os
  tape : w'.tape = W.tape
  output : w'.output = W.output
theorem keep_fail {W wr w2 w4 : World} {d m : Nat} {res : Value} {o o1 o2 : Obj} {k : Nat} {xs : List Value} {v : Value} (hkeep : W.grownBy wr (some m)) (hown : wr.ownsRow W.heap.size 52 2 res k xs) (hg2 : (wr.alloc o).grownBy w2 (some m)) (hgrow : ((w2.alloc o1).alloc o2).grownBy w4 res.ownBlock) :
    Keep2 d m W (w4.setCell ⟨d, 1, none⟩ v) ∧ Same3 W (w4.setCell ⟨d, 1, none⟩ v) := by
  have hs1 := hg2.size
  have hs2 := hgrow.size
  have hs3 := hkeep.size
  simp at hs1 hs2
  have hlow : ∀ q, res.ownBlock = some q → W.heap.size ≤ q ∧ q < wr.heap.size := hown.lt
  refine ⟨⟨by simp [World.setCell]; omega, fun b hb hd hm => ?_⟩, ⟨hgrow.os.trans (hg2.os.trans hkeep.os), hgrow.tape.trans (hg2.tape.trans hkeep.tape), hgrow.output.trans (hg2.output.trans hkeep.output)⟩⟩
  rw [Below.heap_setCell _ _ _ _ hd, hgrow.block b (by simp; omega) (fun e => by have := (hlow b e.symm).1; omega), Below.heap_alloc _ _ _ (by simp; omega), Below.heap_alloc _ _ _ (by omega), hg2.block b (by simp; omega) (by simpa using hm), Below.heap_alloc _ _ _ (by omega), hkeep.block b hb (by simpa using hm)]
def Fits (S : Nat → Int) (n : Nat) : Prop := ∀ j, j ≤ n → word (S j)
def ApplyPost (d kb m n : Nat) (l : List Nat) (S : Nat → Int) (W : World) (e : Ending) (w' : World) : Prop :=
  ∃ res : Value, (Fits S n → e = .returned (.tuple #[res, .bool true, .int .i64 0]) ∧ W.grownBy w' (some m) ∧ ∃ l', DataAt w' d kb m l' (S n) ∧ ∀ x ∈ l', x < w'.heap.size ∧ (x ∈ l ∨ W.heap.size ≤ x)) ∧
    (¬ Fits S n → e = .returned (.tuple #[res, .bool false, .int .i64 0]) ∧ Keep2 d m W w' ∧ Same3 W w')
theorem apply_any (d m kb ob cap n : Nat) (p : Option Addr) (hp : 0 < n → p = some ⟨ob, 0, none⟩) (l : List Nat) (ks S : Nat → Int) (W : World) (hn : n ≤ 30) (hW : DataAt W d kb m l (S 0)) (hS : ∀ i, i < n → S (i + 1) = S i + ks i) (hk : ∀ i, i < n → word (ks i)) (hv : word (S 0))
    (hops : ∀ i j v, i < n → (opv kb (ks i)).cells[j]? = some v → W.cell? ⟨ob, i * 9 + j, none⟩ = some v) (hobm : 0 < n → ob ≠ m) (hlt0 : ∀ x ∈ l, x < W.heap.size) :
    Calls Tryz.prog 7 #[.pointer (some ⟨d, 0, none⟩), .slice p n cap] W (ApplyPost d kb m n l S W) := by
  obtain ⟨i52, z52, hi52, hz52, hs52, hb52, hc52⟩ := info52
  obtain ⟨cat, hd0, hd1, hdf⟩ := hW.ptr
  obtain ⟨hml, hdl, hdm⟩ := hW.mem
  have K15 := clone_any hW
  have hH := Lib.hid hW
  clear hW
  go_enter Tryz.func7, Tryz.ntmps7
  go_wp2_with (first
    | (go_at_call 15; refine K15.mono ?_; rintro e w1 ⟨m2, rfl, hW1, hlt1, hg1⟩))
  clear K15
  go_loopw [4, 21] (fun res i w' => ∃ k : Nat, i = .int .i64 k ∧ Inv (fun k l w => DataAt w d kb m l (S k) ∧ ∀ j, j ≤ k → word (S j)) W l m n k res w') (fun _ i _ => n - (intOf i).toNat)
  case atStart =>
    exact ⟨0, rfl, Nat.zero_le _, hg1, l, [], ⟨hW1, fun j hj => by rw [show j = 0 by omega]; exact hv⟩, fun b hb2 => ⟨hlt1 b hb2, .inl hb2⟩, World.ownsRow_nil _ _ _ _, fun g h => by cases h⟩
  case round =>
    obtain ⟨k, rfl, hk2, hkeep, l2, xs, ⟨hIk, hwords⟩, hl, hown, hgl⟩ := hrel
    clear hW1 hlt1 hg1 hd0 hd1
    by_cases hlt : k < n
    · have hp' := hp (by omega)
      have hobm := hobm (by omega)
      subst hp'
      have hcell : ∀ j v, (opv kb (ks k)).cells[j]? = some v → wr.cell? ⟨ob, k * 9 + j, none⟩ = some v := fun j v hv => by
        have h1 := hops k j v hlt hv
        rw [World.cell?_of_block (w := W) (hkeep.block ob (cell_lt h1) (by simpa using hobm)), h1]
      have c0 : wr.cell? ⟨ob, k * 9, none⟩ = some (.int .i64 7) := hcell 0 _ rfl
      have c1 : wr.cell? ⟨ob, k * 9 + 1, none⟩ = some (.string ⟨#[116]⟩) := hcell 1 _ rfl
      have c2 : wr.cell? ⟨ob, k * 9 + 2, none⟩ = some (.slice (some ⟨kb, 0, none⟩) 1 1) := hcell 2 _ rfl
      have c3 : wr.cell? ⟨ob, k * 9 + 3, none⟩ = some (.slice none 0 0) := hcell 3 _ rfl
      have c4 : wr.cell? ⟨ob, k * 9 + 4, none⟩ = some (.slice none 0 0) := hcell 4 _ rfl
      have c5 : wr.cell? ⟨ob, k * 9 + 5, none⟩ = some (.string ⟨#[]⟩) := hcell 5 _ rfl
      have c6 : wr.cell? ⟨ob, k * 9 + 6, none⟩ = some (.int .i64 1) := hcell 6 _ rfl
      have c7 : wr.cell? ⟨ob, k * 9 + 7, none⟩ = some (.int .i64 (ks k)) := hcell 7 _ rfl
      have c8 : wr.cell? ⟨ob, k * 9 + 8, none⟩ = some (.int .i64 0) := hcell 8 _ rfl
      have hal : ∀ o, DataAt (wr.alloc o) d kb m l2 (S k) := fun o => hIk.keep fun b hb2 => Below.heap_alloc _ _ _ (hl b hb2).1
      have hwk := hk k hlt
      have hSk := hS k hlt
      have hmr : u4.ownBlock = none ∨ u4.ownBlock ≠ some m := .inr fun e => hgl m e hIk.mem.1
      have hWw := hkeep.size
      obtain ⟨_, _, e1, e2⟩ := hIk.ptr
      by_cases hw : word (S (k + 1))
      · have K := fun o => do_fit (hal o) (hwords k (Nat.le_refl _)) hwk (by rw [← hSk]; exact hw)
        have RI := fun l' w2 w4 o o1 o2 g cap ys => @round_inv (fun k l w => DataAt w d kb m l (S k) ∧ ∀ j, j ≤ k → word (S j)) W l m n k u4 wr w2 w4 l2 l' xs o o1 o2 g cap ys hlt (fun i l w h => h.1.mem.1) (fun i l w w' h h2 _ => ⟨h.1.keep h2, h.2⟩) hkeep ⟨hIk, hwords⟩ hl hown hgl
        have hwn : ∀ j, j ≤ k + 1 → word (S j) := fun j hj => by
          by_cases e : j = k + 1
          · rw [e]; exact hw
          · exact hwords j (by omega)
        have HS := Lib.hid hSk
        have HN := Lib.hid hwn
        clear hops hS hk hcell hal hwords hwn hSk hwk hIk hH e1 e2 hdf hml hdl hlt0 hw
        unfold opv at K
        go_wp2_with (first
          | (go_at_call 16; refine (K _).mono ?_; rintro e w2 ⟨rp, ra, rb, l', rfl, hI2, hl2, hg2⟩)
          | (at_builtin
             refine wpList_append_lies _ rfl (.tmp 28) (.tmp 30) _ rfl W.heap.size 52 i52 z52 2 32 Tryz.underlying41 hi52 hz52 hs52 hb52 hc52 (by omega) _ k xs (by rfl) (((hown.alloc _).kept hg2 hmr).alloc _ |>.alloc _) _ 1 1 [.int .i64 0, .slice rp ra rb] (by rfl) rfl (news_lit _ _ _ _ (by simp)) (by simp [Value.oneCell']) (by omega) (by simp only [maxLen]; omega) (by omega) (by have := hg2.size; simp at this; simp; omega) (w2.heap.size + 2) (by simp) ?_
             intro g4 cap4 w4 hown4 hgrow hat hlt4
             rw [← HS.out] at hI2
             obtain ⟨hinv, hblk⟩ := RI _ _ _ _ _ _ _ _ _ ⟨hI2, HN.out⟩ hl2 hg2 hown4 hgrow hat
             have hc0 : w4.cell? ⟨w2.heap.size, 0, none⟩ = some (.int .i64 0) := by simp [World.cell?, hblk]))
        exact ⟨⟨k + 1, by go_num, hinv⟩, by simp [intOf]; omega⟩
      · have K := fun o => do_ovf (hal o) (hwords k (Nat.le_refl _)) hwk (by rw [← hSk]; exact hw)
        have hnf : ¬ Fits S n := fun hF => hw (hF (k + 1) hlt)
        have hdl2 := (hl d hIk.mem.2.1).1
        have hdr : u4.ownBlock ≠ some d := fun e => hgl d e hIk.mem.2.1
        have HN := Lib.hid hnf
        clear hops hS hk hcell hal hwords hSk hwk hIk hH hdf hml hdl hlt0 hw hnf
        unfold opv at K
        go_wp2_with (first
          | (go_at_call 16; refine (K _).mono ?_; rintro e w2 ⟨rp, ra, rb, rfl, hg2⟩)
          | (at_builtin
             refine wpList_append_lies _ rfl (.tmp 28) (.tmp 30) _ rfl W.heap.size 52 i52 z52 2 32 Tryz.underlying41 hi52 hz52 hs52 hb52 hc52 (by omega) _ k xs (by rfl) (((hown.alloc _).kept hg2 hmr).alloc _ |>.alloc _) _ 1 1 [.int .i64 1, .slice rp ra rb] (by rfl) rfl (news_lit _ _ _ _ (by simp)) (by simp [Value.oneCell']) (by omega) (by simp only [maxLen]; omega) (by omega) (by have := hg2.size; simp at this; simp; omega) (w2.heap.size + 2) (by simp) ?_
             intro g4 cap4 w4 hown4 hgrow hat hlt4
             have hz2 := hg2.size
             simp at hz2
             have hbd : w4.heap[d]? = wr.heap[d]? := by
               rw [hgrow.block d (by simp; omega) (fun e => hdr e.symm), Below.heap_alloc _ _ _ (by simp; omega), Below.heap_alloc _ _ _ (by omega), hg2.block d (by simp; omega) (by simpa using hdm), Below.heap_alloc _ _ _ (by omega)]
             have hb2 : w4.heap[w2.heap.size]? = some (.cells #[.int .i64 1, .slice rp ra rb] 52 (0, 0)) := by
               rw [hgrow.block _ (by simp; omega) (fun e => by have := (hown.lt _ e.symm).2; omega), Below.heap_alloc _ _ _ (by simp)]
               exact heap_alloc_at
             have hc0 : w4.cell? ⟨w2.heap.size, 0, none⟩ = some (.int .i64 1) := by simp [World.cell?, hb2]
             have hc1 : w4.cell? ⟨d, 1, none⟩ = some (.map (some m)) := by rw [World.cell?_of_block (w := wr) hbd]; exact e1
             have hc2 : w4.frozen? ⟨d, 1, none⟩ = false := by rw [World.frozen?_of_block (w := wr) hbd]; exact e2
             have KF := @keep_fail W wr w2 w4 d m u4 _ _ _ k xs (.map (some m2)) hkeep hown hg2 hgrow
             clear hb2 hbd))
        obtain ⟨kf1, kf2⟩ := KF
        exact bodyPost_ret (v := .tuple #[.slice (some ⟨g4, 0, none⟩) (k + 1) cap4, .bool false, .int .i64 0]) (by simp [results, Tryz.results7, go_sem]) rfl ⟨_, fun hF => absurd hF HN.out, fun _ => ⟨rfl, kf1, kf2⟩⟩
    · have hk' : k = n := by omega
      subst hk'
      clear hops hS hk hH
      go_wp2
      exact bodyPost_ret (v := .tuple #[u4, .bool true, .int .i64 0]) (by simp [results, Tryz.results7, go_sem]) rfl ⟨_, fun _ => ⟨rfl, hkeep, l2, hIk, hl⟩, fun hF => absurd hwords hF⟩
end Go.Proofs.YtcmlomjdkjcjpaaGreatDoor
