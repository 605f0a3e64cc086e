import Derived.Test.YtcmlomjdkjcjpaaGreatDoorRB
import Derived.Test.YtcmlomjdkjcjpaaGreatDoorRG
import Derived.Test.YtcmlomjdkjcjpaaGreatDoorRF
import Derived.Test.YtcmlomjdkjcjpaaGreatDoorRI
open Go Go.RowKit Go.Proofs.YtcmlomjdkjcjpaaGreatDoor.Vai
namespace Go.Proofs.YtcmlomjdkjcjpaaGreatDoor
set_option linter.unusedVariables false
set_option linter.unusedSimpArgs false
set_option maxRecDepth 100000
/-- What is there when the two data have their row. -/
structure Ready (W : World) (n : Int) (da db kb : Nat) (w : World) : Prop where
  bel : Below W.heap.size W w
  ex : ∃ ma mb la lb, DataAt w da kb ma la n ∧ DataAt w db kb mb lb n ∧ (∀ x ∈ la, x < w.heap.size) ∧ (∀ x ∈ lb, x < w.heap.size) ∧ ma ∉ lb ∧ da ∉ lb ∧ mb ∉ la ∧ W.heap.size ≤ ma ∧ W.heap.size ≤ mb ∧ W.heap.size ≤ da ∧ W.heap.size ≤ db
theorem tcells {w1 w2 : World} {B : Nat} {cs : Array Value} {t : TypeId} (h : w2.heap[B]? = some (.cells cs t (0, 0))) (i : Nat) (v : Value) (hv : cs[i]? = some v) : w2.cell? ⟨B, i, none⟩ = some v := by simp [World.cell?, h, hv]
theorem bheap {w w' : World} {b : Nat} {o : Obj} (hb : Below w.heap.size w w') (h : w.heap[b]? = some o) : w'.heap[b]? = some o := by
  rw [hb.block b (Array.getElem?_eq_some_iff.1 h).1, h]
theorem kheap {w w' : World} {b : Nat} {o : Obj} {l : List Nat} (hb : KeepL l w w') (h : w.heap[b]? = some o) (hn : b ∉ l) : w'.heap[b]? = some o := by
  rw [hb.block b (Array.getElem?_eq_some_iff.1 h).1 hn, h]
theorem aheap {w : World} {b : Nat} {o o' : Obj} (h : w.heap[b]? = some o) : (w.alloc o').heap[b]? = some o := by
  rw [Below.heap_alloc _ _ _ (Array.getElem?_eq_some_iff.1 h).1, h]
def tblCells (C : Nat) : Array Value := #[.string ⟨#[116]⟩, .slice (some ⟨C, 0, none⟩) 2 2, .int .i64 1, .slice none 0 0]
set_option maxHeartbeats 4000000 in
theorem main_any (n : Int) (bys : List Int) (p : Option Addr) (cap : Nat) (W : World) (hlen : bys.length ≤ 9223372036854775807) (hnw : word n) (hbw : ∀ z ∈ bys, word z) (hby : ∀ i, i < bys.length → ∃ bb bo, p = some ⟨bb, bo, none⟩ ∧ W.cell? ⟨bb, bo + i, none⟩ = some (.int .i64 (bys.getD i 0))) :
    Calls Tryz.prog 3 #[.int .i64 n, .slice p bys.length cap] W fun e w' => e = .returned (.bool true) ∧ Below W.heap.size W w' := by
  obtain ⟨i39, z39, hi39, hz39, hs39, hb39, hc39⟩ := info39
  go_enter Tryz.func3, Tryz.ntmps3
  go_wp2_with fail
  go_at_call 4
  refine (works_any _).mono ?_
  rintro e w1 ⟨rfl, hb0⟩
  go_wp2_with fail
  go_at_call 5
  refine (new_any _).mono ?_
  rintro e w2 ⟨da, tsa, rfl, hLa, hda, hfa, hba⟩
  go_wp2_with fail
  go_at_call 5
  refine (new_any _).mono ?_
  rintro e w3 ⟨db, tsb, rfl, hLb, hdb, hfb, hbb⟩
  have hlta := hLa.ltm
  have hltb := hLb.ltm
  have z1 := hb0.size
  have z2 := hba.size
  have z3 := hbb.size
  simp only [World.size_alloc] at z2 hfa
  have hC : w3.heap[w1.heap.size]? = some (.cells colsCells 25 (0, 0)) := bheap hbb (bheap hba (aheap heap_alloc_at))
  have hT : w3.heap[w1.heap.size + 1]? = some (.cells (tblCells w1.heap.size) 29 (0, 0)) := by
    refine bheap hbb (bheap hba ?_)
    have := heap_alloc_at (w := w1.alloc (.cells colsCells 25 (0, 0))) (o := .cells (tblCells w1.heap.size) 29 (0, 0))
    rw [World.size_alloc] at this
    exact this
  have hLa3 := hLa.below hbb
  have B3 : Below W.heap.size W w3 := (hb0.trans (((Below.refl _ _).alloc (Nat.le_refl _) _).alloc (by simp) _ |>.mono z1)).trans ((hba.mono (by simp; omega)).trans (hbb.mono (by omega)))
  have t0 : w3.cell? ⟨w1.heap.size + 1, 0, none⟩ = some (.string ⟨#[116]⟩) := tcells (w1 := w3) hT 0 _ rfl
  have t1 : w3.cell? ⟨w1.heap.size + 1, 1, none⟩ = some (.slice (some ⟨w1.heap.size, 0, none⟩) 2 2) := tcells (w1 := w3) hT 1 _ rfl
  have t2 : w3.cell? ⟨w1.heap.size + 1, 2, none⟩ = some (.int .i64 1) := tcells (w1 := w3) hT 2 _ rfl
  have t3 : w3.cell? ⟨w1.heap.size + 1, 3, none⟩ = some (.slice none 0 0) := tcells (w1 := w3) hT 3 _ rfl
  have K6 := create_any hLa3 hda hC (fun hm => by have := hfa _ hm; omega)
  go_wp2_with fail
  go_at_call 6
  refine K6.mono ?_
  rintro e w4 ⟨tsa', rfl, hEa, hda', hfa', hka⟩
  clear K6 t0 t1 t2 t3
  have z4 := hka.size
  have nCa : w1.heap.size ∉ tsa.map (·.blk) := fun hm => by have := hfa _ hm; omega
  have nTa : w1.heap.size + 1 ∉ tsa.map (·.blk) := fun hm => by have := hfa _ hm; omega
  have hC4 := kheap hka hC nCa
  have hT4 := kheap hka hT nTa
  have dab : ∀ x ∈ tsb.map (·.blk), x ∉ tsa.map (·.blk) := fun x hx hm => by have := hfb x hx; have := hlta x hm; omega
  have hLb4 := hLb.keepL hka dab
  have B4 := hka.to_below B3 (fun x hx => by have := hfa x hx; omega)
  have t0 : w4.cell? ⟨w1.heap.size + 1, 0, none⟩ = some (.string ⟨#[116]⟩) := tcells (w1 := w3) hT4 0 _ rfl
  have t1 : w4.cell? ⟨w1.heap.size + 1, 1, none⟩ = some (.slice (some ⟨w1.heap.size, 0, none⟩) 2 2) := tcells (w1 := w3) hT4 1 _ rfl
  have t2 : w4.cell? ⟨w1.heap.size + 1, 2, none⟩ = some (.int .i64 1) := tcells (w1 := w3) hT4 2 _ rfl
  have t3 : w4.cell? ⟨w1.heap.size + 1, 3, none⟩ = some (.slice none 0 0) := tcells (w1 := w3) hT4 3 _ rfl
  have K6 := create_any hLb4 hdb hC4 (fun hm => by have := hfb _ hm; omega)
  go_wp2_with fail
  go_at_call 6
  refine K6.mono ?_
  rintro e w5 ⟨tsb', rfl, hEb, hdb', hfb', hkb⟩
  clear K6 t0 t1 t2 t3 hC hT hC4 hT4
  have z5 := hkb.size
  have hlta' := hEa.ltm
  have hltb' := hEb.ltm
  have dab2 : ∀ x ∈ tsa'.map (·.blk), x ∉ tsb.map (·.blk) := fun x hx hm => by
    rcases hfa' x hx with h | h
    · have := hfb x hm; have := hlta x h; omega
    · have := hltb x hm; omega
  have dab3 : ∀ x ∈ tsb'.map (·.blk), x ∉ tsa'.map (·.blk) := fun x hx hm => by
    rcases hfb' x hx with h | h
    · exact dab2 x hm h
    · have := hlta' x hm; omega
  have hEa5 := hEa.keepL hkb dab2
  have B5 := hkb.to_below B4 (fun x hx => by have := hfb x hx; omega)
  have la1 : ∀ x ∈ tsa'.map (·.blk), W.heap.size ≤ x := fun x hx => by
    rcases hfa' x hx with h | h
    · have := hfa x h; omega
    · omega
  have lb1 : ∀ x ∈ tsb'.map (·.blk), W.heap.size ≤ x := fun x hx => by
    rcases hfb' x hx with h | h
    · have := hfb x h; omega
    · omega
  clear hLa hLb hLa3 hLb4 hfa' hfb' hka hkb hba hbb hb0 B3 B4 hfa hfb hlta hltb dab dab2 nCa nTa
  have hsz : W.heap.size ≤ w5.heap.size := B5.size
  obtain ⟨WP, hWP⟩ : ∃ WP, WP = ((w5.alloc (.cells keyCells 36 (0, 0))).alloc (.cells (rowCells n) 36 (0, 0))).alloc (.cells (putCells (w5.heap.size + 1)) 39 (0, 0)) := ⟨_, rfl⟩
  have p0 : WP.heap[w5.heap.size]? = some (.cells keyCells 36 (0, 0)) := by rw [hWP]; exact aheap (aheap heap_alloc_at)
  have p1 : WP.heap[w5.heap.size + 1]? = some (.cells (rowCells n) 36 (0, 0)) := by
    rw [hWP]; refine aheap ?_
    have := heap_alloc_at (w := w5.alloc (.cells keyCells 36 (0, 0))) (o := .cells (rowCells n) 36 (0, 0))
    rw [World.size_alloc] at this; exact this
  have p2 : WP.heap[w5.heap.size + 1 + 1]? = some (.cells (putCells (w5.heap.size + 1)) 39 (0, 0)) := by
    rw [hWP]
    have := heap_alloc_at (w := (w5.alloc (.cells keyCells 36 (0, 0))).alloc (.cells (rowCells n) 36 (0, 0))) (o := .cells (putCells (w5.heap.size + 1)) 39 (0, 0))
    rw [World.size_alloc, World.size_alloc] at this; exact this
  have b5P : Below w5.heap.size w5 WP := by rw [hWP]; exact (((Below.refl _ _).alloc (Nat.le_refl _) _).alloc (by simp) _).alloc (by simp; omega) _
  have sP : WP.heap.size = w5.heap.size + 3 := by rw [hWP]; simp
  have BP := B5.trans (b5P.mono hsz)
  have hEaP := hEa5.below b5P
  have hEbP := hEb.below b5P
  have na : ∀ q, w5.heap.size ≤ q → q ∉ tsa'.map (·.blk) := fun q hq hm => by have := hlta' q hm; omega
  have nb : ∀ q, w5.heap.size ≤ q → q ∉ tsb'.map (·.blk) := fun q hq hm => by have := hltb' q hm; omega
  have K7 := put_any hEaP hda' p0 p1 p2 (na _ (Nat.le_refl _)) (na _ (by omega)) (na _ (by omega)) (by omega) (by omega) (by omega)
  rw [hWP] at K7
  go_wp2_with fail
  go_at_call 7
  refine K7.mono ?_
  rintro e w6 ⟨r6, ma, la, rfl, hA6, hma, hla, hk6⟩
  rw [← hWP] at hk6 hla
  clear K7 hEa5 hEaP hEb
  have z6 := hk6.size
  have q0 := kheap hk6 p0 (na _ (Nat.le_refl _))
  have q1 := kheap hk6 p1 (na _ (by omega))
  have q2 := kheap hk6 p2 (na _ (by omega))
  have hEb6 := hEbP.keepL hk6 dab3
  have B6 := hk6.to_below BP la1
  have K7 := put_any hEb6 hdb' q0 q1 q2 (nb _ (Nat.le_refl _)) (nb _ (by omega)) (nb _ (by omega)) (by omega) (by omega) (by omega)
  clear p0 p1 p2
  go_wp2_with fail
  go_at_call 7
  refine K7.mono ?_
  rintro e w7 ⟨r7, mb, lb, rfl, hB7, hmb, hlb, hk7⟩
  clear K7 q0 q1 q2
  have z7 := hk7.size
  have dla : ∀ x ∈ la, x ∉ tsb'.map (·.blk) := fun x hx hm => by
    rcases (hla x hx).2 with h | h | h
    · exact dab3 x hm h
    · have := hltb' x hm; omega
    · have := hltb' x hm; omega
  have hA7 : DataAt w7 da w5.heap.size ma la n := hA6.keep fun b hb => hk7.block b (hla b hb).1 (dla b hb)
  have hR : Ready W n da db w5.heap.size w7 := by
    have hdb6 : db ∈ tsb'.map (·.blk) := by
      obtain ⟨t, ht, e⟩ := head_of hdb'
      exact List.mem_map.2 ⟨t, List.mem_of_getElem? ht, e⟩
    have hda6 : da ∈ tsa'.map (·.blk) := by
      obtain ⟨t, ht, e⟩ := head_of hda'
      exact List.mem_map.2 ⟨t, List.mem_of_getElem? ht, e⟩
    have notlb : ∀ q ∈ tsa'.map (·.blk), q ∉ lb := fun q hq hm => by
      have := hlta' q hq
      rcases (hlb q hm).2 with h | h | h
      · exact dab3 q h hq
      · omega
      · omega
    have notla : mb ∉ la := fun hm => dla mb hm hmb
    exact ⟨hk7.to_below B6 lb1, ma, mb, la, lb, hA7, hB7, fun x hx => by have := (hla x hx).1; omega, fun x hx => (hlb x hx).1, notlb ma hma, notlb da hda6, notla, la1 ma hma, lb1 mb hmb, la1 da hda6, lb1 db hdb6⟩
  clear hA6 hA7 hB7 hla hlb hk6 hk7 hEb6 hEbP dla hma hmb dab3 hEa la1 lb1 na nb BP B5 B6 b5P hlta' hltb' hda hdb hda' hdb' sP z1 z2 z3 z4 z5 z6 z7 hsz
  obtain ⟨hbel, hex⟩ := hR
  have hsW := hbel.size
  go_wp2_with fail
  go_loopw [10, 11, 12] (fun up down i w' => ∃ k : Nat, i = .int .i64 k ∧ LoopA bys w5.heap.size w7 k up down w') (fun _ _ i _ => 30 - (intOf i).toNat)
  case atStart => exact ⟨0, rfl, Nat.zero_le _, by omega, Below.refl _ _, fun j hj => by omega, World.ownsRow_nil _ _ _ _, World.ownsRow_nil _ _ _ _, (fun g hg => (by cases hg)), fun _ => ⟨rfl, rfl⟩⟩
  case round =>
    obtain ⟨k, rfl, hLA⟩ := hrel
    have hk1 := hLA.1
    have hk2 := hLA.2.1
    have hcase : (k < bys.length ∧ k < 30) ∨ (k < bys.length ∧ ¬ k < 30) ∨ ¬ k < bys.length := by omega
    rcases hcase with ⟨hkl, hk30⟩ | ⟨hkl, hk30⟩ | hkl
    · obtain ⟨bb, bo, rfl, hc0⟩ := hby k hkl
      have hc : wr.cell? ⟨bb, bo + k, none⟩ = some (.int .i64 (bys.getD k 0)) := by
        have hB := hLA.2.2.1
        rw [(hbel.trans (hB.mono hsW)).cell (cell_lt hc0), hc0]
      obtain ⟨z, hz⟩ : ∃ z, z = bys.getD k 0 := ⟨_, rfl⟩
      rw [← hz] at hc
      by_cases hm : z = -9223372036854775808
      · have hBW := hbel.trans (hLA.2.2.1.mono hsW)
        clear hby hLA hc0 hz
        subst hm
        go_wp2
        all_goals go_ret
        all_goals exact ⟨rfl, hBW⟩
      · have hown := hLA.2.2.2.2.1
        have hown2 := hLA.2.2.2.2.2.1
        have hB7 := hLA.2.2.1.size
        have hbb0 := cell_lt hc0
        have hcell2 : ∀ (o : Obj) (w2 : World), (wr.alloc o).grownBy w2 u10.ownBlock → w2.cell? ⟨bb, bo + k, none⟩ = some (.int .i64 z) := fun o w2 gr => by
          have hb1 : bb < wr.heap.size := cell_lt hc
          rw [World.cell?_of_block (w := wr.alloc o) (gr.block bb (by simp; omega) (fun e => by have := (hown.lt _ e.symm).1; simp at hbb0; omega)), World.cell?_of_block (w := wr) (Below.heap_alloc _ _ _ hb1), hc]
        have hcell3 : ∀ (o : Obj) (w2 : World), (wr.alloc o).grownBy w2 u10.ownBlock → Hid (w2.cell? ⟨bb, bo + k, none⟩ = some (.int .i64 z)) := fun o w2 gr => hcell2 o w2 gr
        clear hcell2
        have hne : bys.getD k 0 ≠ -9223372036854775808 := by rw [← hz]; exact hm
        rcases Nat.eq_zero_or_pos k with hk0 | hkp
        · obtain ⟨hu, hd⟩ := hLA.2.2.2.2.2.2.2 hk0
          subst hu hd
          have HR := fun w2 o g1 c1 => @roundA0 bys w5.heap.size w7 wr w2 k _ _ o g1 c1 hk0 hLA hkl hne
          have HZ := Lib.hid hz
          clear hby hLA hc0 hz hown2 hne hbel hex hk0
          go_wp2_with (first
            | (at_builtin
               refine wpList_append_lies _ rfl (.tmp 71) (.tmp 78) _ rfl w7.heap.size 39 i39 z39 9 136 Tryz.underlying40 hi39 hz39 hs39 hb39 hc39 (by omega) _ k _ (by rfl) (hown.alloc _) _ 1 1 (opC w5.heap.size z) (by rfl) rfl (news_lit _ _ _ _ (by simp)) (by simp [Value.oneCell', opC]) (by omega) (by simp only [maxLen]; omega) (by omega) (by simp; omega) (wr.heap.size + 1) (by simp) ?_
               intro g1 c1 w2 own1 gr1 at1 lt1
               rw [HZ.out] at own1
               have HR1 := HR _ _ _ _ own1 gr1 lt1
               rw [← HZ.out] at HR1
               have s2 := gr1.size
               simp only [World.size_alloc] at s2
               have hc2 := (hcell3 _ _ gr1).out)
            | (at_builtin
               refine wpList_append_own_none _ rfl (.tmp 86) (.tmp 87) _ rfl w7.heap.size 39 i39 9 Tryz.underlying40 hi39 _ 1 (opC w5.heap.size z) (by rfl) (World.ownsRow_lit (base := w7.heap.size) (e := 39) (size := 9) w2 (opC w5.heap.size z).toArray 1 (by omega) (by simp [maxLen]) (by simp [opC])) rfl ?_))
          exact ⟨⟨k + 1, by go_num, HR1⟩, by simp [intOf]; omega⟩
        · obtain ⟨gd, cd, hdv, hdb, hdl⟩ := hown2.form hkp
          subst hdv
          have HR := fun w2 w3 o o2 g1 c1 g2 c2 => @roundA bys w5.heap.size w7 wr w2 w3 k _ _ o o2 g1 c1 g2 c2 hLA hkl hk30 hne
          have HZ := Lib.hid hz
          have hgd := hLA.2.2.2.2.2.2.1
          have hll : (opL w5.heap.size (bys.take k).reverse).length = k * 9 := by rw [opL_length]; simp; omega
          have HLL := Lib.hid hll
          clear hby hLA hc0 hz hne hbel hex hll
          go_wp2_with (first
            | (at_builtin
               refine wpList_append_lies _ rfl (.tmp 71) (.tmp 78) _ rfl w7.heap.size 39 i39 z39 9 136 Tryz.underlying40 hi39 hz39 hs39 hb39 hc39 (by omega) _ k _ (by rfl) (hown.alloc _) _ 1 1 (opC w5.heap.size z) (by rfl) rfl (news_lit _ _ _ _ (by simp)) (by simp [Value.oneCell', opC]) (by omega) (by simp only [maxLen]; omega) (by omega) (by simp; omega) (wr.heap.size + 1) (by simp) ?_
               intro g1 c1 w2 own1 gr1 at1 lt1
               rw [HZ.out] at own1
               have s2 := gr1.size
               simp only [World.size_alloc] at s2
               have hc2 := (hcell3 _ _ gr1).out
               have hd2 := (hown2.alloc (.cells (opC w5.heap.size z).toArray 39 (0, 0))).kept gr1 (by
                 right; intro e; exact hgd _ e.symm rfl))
            | (at_builtin
               refine wpList_append_lies _ rfl (.tmp 86) (.tmp 87) _ rfl w7.heap.size 39 i39 z39 9 136 Tryz.underlying40 hi39 hz39 hs39 hb39 hc39 (by omega) _ 1 (opC w5.heap.size z) (by rfl) (World.ownsRow_lit (base := w7.heap.size) (e := 39) (size := 9) w2 (opC w5.heap.size z).toArray 1 (by omega) (by simp [maxLen]) (by simp [opC])) _ k cd (opL w5.heap.size (bys.take k).reverse) (by rfl) HLL.out ((hd2.alloc _).cells rfl) (fun u hu => opL_cell hu) hkp (by simp only [maxLen]; omega) (by omega) (by simp; omega) (w2.heap.size + 1) (by simp) ?_
               intro g2 c2 w3 own2 gr2 at2 lt2
               rw [HZ.out] at own2
               have HR1 := HR w2 w3 _ _ g1 c1 g2 c2 own1 gr1 at1 lt1 own2 gr2 (by simpa [Value.ownBlock, eq_comm] using at2)))
          exact ⟨⟨k + 1, by go_num, HR1⟩, by simp [intOf]; omega⟩
    all_goals
      obtain ⟨l, hl⟩ : ∃ l, l = bys.take k := ⟨_, rfl⟩
      have hll : k = l.length := by rw [hl]; simp; omega
      have hl30 : l.length ≤ 30 := by omega
      have hlw : ∀ z ∈ l, word z := fun z hz => hbw z (List.mem_of_mem_take (hl ▸ hz))
      have hne : ∀ z ∈ l, z ≠ -9223372036854775808 := fun z hz => by
        rw [hl] at hz
        obtain ⟨j, hj, e⟩ := List.getElem_of_mem hz
        have hj2 : j < k := by have h := hj; simp at h; omega
        have := hLA.2.2.2.1 j hj2
        rw [List.getElem_take] at e
        have h3 : bys.getD j 0 = bys[j]'(by have h := hj; simp at h; omega) := by simp [show j < bys.length by have h := hj; simp at h; omega]
        rw [h3, e] at this
        exact this
      obtain ⟨ma, mb, la, lb, hA, hB, hla, hlb, nma, nda, nmb, g1, g2, g3, g4⟩ := hex
      obtain ⟨_, _, hBel, _, hup, hdown, hsep, _⟩ := hLA
      rw [← hl] at hup hdown
      have hBW := hbel.trans (hBel.mono hsW)
      have hsr := hBel.size
      have hA1 : DataAt wr da w5.heap.size ma la n := hA.keep fun b hb => hBel.block b (hla b hb)
      have hB1 : DataAt wr db w5.heap.size mb lb n := hB.keep fun b hb => hBel.block b (hlb b hb)
      have hma7 := hla ma hA.mem.1
      have hmb7 := hlb mb hB.mem.1
      have hda7 := hla da hA.mem.2.1
      have K7 := apply_list hll hl30 hA1 hup hma7 hlw hnw (fun x hx => by have := hla x hx; omega)
      clear hby hA hB hbel hlen hbw
      have hlr : k = l.reverse.length := by rw [List.length_reverse]; exact hll
      have hl30r : l.reverse.length ≤ 30 := by rw [List.length_reverse]; exact hl30
      have hlwr : ∀ z ∈ l.reverse, word z := fun z hz => hlw z (List.mem_reverse.1 hz)
      have hlb9 : ∀ x ∈ lb, x < w7.heap.size := hlb
      by_cases hF : Fits (run_ n l) l.length
      · have KB := fun (w8 : World) (hk8 : wr.grownBy w8 (some ma)) => apply_list (w := w8) hlr hl30r (hB1.keep fun b hb => hk8.block b (by have := hlb b hb; omega) (by simp; exact fun e => nma (e ▸ hb))) (own_same hdown fun g hg => by
          have := hdown.lt g hg
          exact hk8.block g (by omega) (by simp; omega)) hmb7 hlwr hnw (fun x hx => by have := hlb x hx; have := hk8.size; omega)
        have KD := fun (w8 : World) (hk8 : wr.grownBy w8 (some ma)) => own_same hdown (w' := w8) fun g hg => by
          have := hdown.lt g hg
          exact hk8.block g (by omega) (by simp; omega)
        have hdlt := fun g hg => (hdown.lt g hg).2
        have HL := Lib.hid hll
        have HR := Lib.hid hlr
        clear hup hdown hA1 hB1 hl hll hlr
        go_wp2_with fail
        go_at_call 7
        refine K7.mono ?_
        intro e w8 hpost
        obtain ⟨r8, rfl, hg8, la8, hA8, hla8⟩ := hpost.fit hF
        have K8 := KB w8 hg8
        have hD8 := KD w8 hg8
        have hk8 := grown_keep2 (d := da) hg8
        have hB8 := keep2_below hBW hk8.1 hk8.2 g3 g1
        have hs8 := hg8.size
        clear K7 KB KD hpost hk8
        by_cases hF2 : Fits (run_ n l.reverse) l.reverse.length
        · go_wp2_with fail
          go_at_call 7
          refine K8.mono ?_
          intro e w9 hpost
          obtain ⟨r9, rfl, hg9, lb9, hB9, hlb9⟩ := hpost.fit hF2
          have hs9 := hg9.size
          have hk9 := grown_keep2 (d := db) hg9
          have hW9 := keep2_below hB8 hk9.1 hk9.2 g4 g2
          have hA9 : DataAt w9 da w5.heap.size ma la8 (run_ n l l.length) := hA8.keep fun b hb => hg9.block b (hla8 b hb).1 (by
            simp
            intro e
            subst e
            rcases (hla8 b hb).2 with h | h
            · exact nmb h
            · omega)
          have hD9 := own_same hD8 (w' := w9) fun g hg => by
            have := hD8.lt g hg
            exact hg9.block g (by omega) (by simp; omega)
          have hSS : run_ n l.reverse l.reverse.length = run_ n l l.length := by rw [run_all, run_all, sum_rev]
          rw [hSS] at hB9
          have nmb9 : mb ∉ la8 := fun hb => by
            rcases (hla8 mb hb).2 with h | h
            · exact nmb h
            · omega
          have nma9 : ma ∉ lb9 := fun hb => by
            rcases (hlb9 ma hb).2 with h | h
            · exact nma h
            · omega
          have hmaW := g1
          clear K8 hpost hk9 hSS hA8 hD8 hB8 hBW hg8 hg9
          have hla9 : ∀ x ∈ la8, x < w9.heap.size := fun x hx => by have := (hla8 x hx).1; omega
          have hlb9' : ∀ x ∈ lb9, x < w9.heap.size := fun x hx => (hlb9 x hx).1
          obtain ⟨pd, cd, gd, rfl, hpd⟩ := own_form0 hD9
          have ngd : 0 < k → gd ∉ la8 := fun h0 hb => by
            obtain ⟨h1, h2, h3⟩ := hpd h0
            subst h1
            have h4 := hdlt gd rfl
            rcases (hla8 gd hb).2 with h | h
            · have := hla gd h; omega
            · omega
          clear hla8 hlb9
          have KR := rows_any hA9
          go_wp2_with fail
          go_at_call 8
          refine KR.mono ?_
          rintro e w10 ⟨x1, cx1, lr1, rfl, hX10, hlr1, hA10, hg10⟩
          have hs10 := hg10.size
          have hk10 := grown_keep2 (d := da) hg10
          have hW10 := keep2_below hW9 hk10.1 hk10.2 g3 g1
          have hB10 : DataAt w10 db w5.heap.size mb lb9 (run_ n l l.length) := hB9.keep fun b hb => hg10.block b (hlb9' b hb) (by simp; exact fun e => nma9 (e ▸ hb))
          have hD10 := own_same hD9 (w' := w10) fun g hg => by
            have := hD9.lt g hg
            exact hg10.block g (by omega) (by simp; omega)
          clear KR hk10 hA9 hB9 hD9 hg10
          have KR := rows_any hB10
          go_wp2_with fail
          go_at_call 8
          refine KR.mono ?_
          rintro e w11 ⟨y1, cy1, lr2, rfl, hY11, hlr2, hB11, hg11⟩
          have hs11 := hg11.size
          have hk11 := grown_keep2 (d := db) hg11
          have hW11 := keep2_below hW10 hk11.1 hk11.2 g4 g2
          have hX11 := hX10.keep hs11 fun b hb => hg11.block b (hlr1 b hb).1 (by have := (hlr1 b hb).2; simp; omega)
          have hA11 : DataAt w11 da w5.heap.size ma la8 (run_ n l l.length) := hA10.keep fun b hb => hg11.block b (by have := hla9 b hb; omega) (by simp; exact fun e => nmb9 (e ▸ hb))
          have hD11 := own_same hD10 (w' := w11) fun g hg => by
            have := hD10.lt g hg
            exact hg11.block g (by omega) (by simp; omega)
          have KS := same_any hX11 hY11 (fun q hq hq2 => by have := (hlr1 q hq).1; have := (hlr2 q hq2).2; omega)
          clear KR hk11 hg11 hX10 hA10 hB10 hD10 hB11 hX11 hY11
          go_wp2_with fail
          go_at_call 9
          refine KS.mono ?_
          rintro e w12 ⟨rfl, hb12⟩
          clear KS
          have hs12 := hb12.size
          have hW12 := hW11.trans (hb12.mono hW11.size)
          have hA12 : DataAt w12 da w5.heap.size ma la8 (run_ n l l.length) := hA11.keep fun b hb => hb12.block b (by have := hla9 b hb; omega)
          have hD12 := own_same hD11 (w' := w12) fun g hg => hb12.block g (hD11.lt g hg).2
          clear hA11 hD11 hb12
          go_wp2_with fail
          have hSw : word (run_ n l l.length) := hF _ (Nat.le_refl _)
          have hFb : Fits (run_ (run_ n l l.length) (negs l.reverse)) (negs l.reverse).length := fun i hi => by
            rw [negs_length, List.length_reverse] at hi
            rw [run_back n l i hi]
            exact hF _ (by omega)
          have hend : run_ (run_ n l l.length) (negs l.reverse) (negs l.reverse).length = n := by
            rw [negs_length, List.length_reverse, run_back n l _ (Nat.le_refl _), Nat.sub_self, run_zero]
          have hnw2 : ∀ z ∈ negs l.reverse, word z := fun z hz => by
            obtain ⟨y, hy, rfl⟩ := List.mem_map.1 hz
            have hy2 := List.mem_reverse.1 hy
            obtain ⟨b1, b2⟩ := hlw y hy2
            have := hne y hy2
            exact ⟨by omega, by omega⟩
          have hdw : ∀ j, j < k → -9223372036854775808 < l.reverse.getD j 0 ∧ l.reverse.getD j 0 ≤ 9223372036854775807 := fun j hj => by
            have hjr : j < l.reverse.length := by have := HR.out; omega
            rw [getD_at l.reverse j hjr]
            have hm := List.mem_reverse.1 (List.getElem_mem hjr)
            obtain ⟨b1, b2⟩ := hlw _ hm
            have := hne _ hm
            omega
          clear hF hF2 hlw hlwr hne
          have HW := Lib.hid hSw
          have HE := Lib.hid hend
          clear hSw hend
          rw [← mix_zero l.reverse] at hD12
          go_loopw [144] (fun i w' => ∃ j : Nat, j ≤ k ∧ i = .int .i64 j ∧ w12.grownBy w' (some gd) ∧ Hid (j = 0 → w' = w12) ∧ w'.ownsRow w7.heap.size 39 9 (.slice pd k cd) k (opL w5.heap.size (mix l.reverse j))) (fun i _ => k - (intOf i).toNat)
          case atStart => exact ⟨0, Nat.zero_le _, rfl, World.grownBy.refl _ _, fun _ => rfl, hD12⟩
          case round =>
            obtain ⟨j, hjk, rfl, hgw, hj0, hown⟩ := hrel
            clear hD12
            by_cases hlt : j < k
            · have hpd2 := (hpd (by omega)).1
              subst hpd2
              obtain ⟨c1, c2, c3, c4⟩ := row_neg (j := j) HR.out hlt hown
              obtain ⟨d1, d2⟩ := hdw j hlt
              obtain ⟨z, hz⟩ : ∃ z, z = l.reverse.getD j 0 := ⟨_, rfl⟩
              rw [← hz] at c1 c3 c4 d1 d2
              clear hz hown hdw hFb hnw2 hpd
              go_wp2
              exact ⟨⟨j + 1, hlt, by go_num, grown_trans hgw c4, (fun h => absurd h (Nat.succ_ne_zero _)), c3⟩, by simp [intOf]; omega⟩
            · have hjk2 : j = k := by omega
              subst hjk2
              rw [mix_all _ _ HR.out] at hown
              have hs13 := hgw.size
              have hblk : ∀ b, b < w12.heap.size → (b ∈ la8 ∨ b < W.heap.size) → wr.heap[b]? = w12.heap[b]? := fun b hb hcase => by
                rcases Nat.eq_zero_or_pos j with h | h
                · rw [hj0 h]
                · refine hgw.block b hb (fun e => ?_)
                  have e : b = gd := by simpa using e
                  rcases hcase with h2 | h2
                  · exact ngd h (e ▸ h2)
                  · have := (hpd h).2.1; omega
              have hA13 : DataAt wr da w5.heap.size ma la8 (run_ n l l.length) := hA12.keep fun b hb => hblk b (by have := hla9 b hb; omega) (.inl hb)
              have hW13 : Below W.heap.size W wr := hW12.trans ⟨hgw.os, hgw.tape, hgw.output, hs13, fun b hb => hblk b (by have := hW12.size; omega) (.inr hb)⟩
              have hkn : j = (negs l.reverse).length := by rw [negs_length]; exact HR.out
              have K14 := apply_list hkn (by rw [negs_length]; exact hl30r) hA13 hown hma7 hnw2 HW.out (fun x hx => by have := hla9 x hx; omega)
              have HK := Lib.hid hkn
              clear hblk hj0 hgw hown hA12 hdw hkn hpd hA13
              go_wp2_with fail
              go_at_call 7
              refine K14.mono ?_
              intro e w14 hpost
              obtain ⟨r14, rfl, hg14, la14, hA14, hla14⟩ := hpost.fit hFb
              rw [HE.out] at hA14
              have hs14 := hg14.size
              have hk14 := grown_keep2 (d := da) hg14
              have hW14 := keep2_below hW13 hk14.1 hk14.2 g3 g1
              clear K14 hpost hk14 hg14 hFb
              have KR := rows_any hA14
              go_wp2_with fail
              go_at_call 8
              refine KR.mono ?_
              rintro e w15 ⟨x2, cx2, lr3, rfl, hX15, hlr3, hA15, hg15⟩
              have hk15 := grown_keep2 (d := da) hg15
              have hW15 := keep2_below hW14 hk15.1 hk15.2 g3 g1
              obtain ⟨y2, cy2, cc1, cc2⟩ := hX15.cells
              clear KR hk15 hg15 hA15 hX15 hA14
              go_wp2
              all_goals go_ret
              all_goals exact ⟨rfl, hW15⟩
        · go_wp2_with fail
          go_at_call 7
          refine K8.mono ?_
          intro e w9 hpost
          obtain ⟨r9, rfl, hk9, hs9⟩ := hpost.fail hF2
          have hB9 := keep2_below hB8 hk9 hs9 g4 g2
          clear K8 hpost
          go_wp2
          all_goals go_ret
          all_goals exact ⟨rfl, hB9⟩
      · have hG3 : W.heap.size ≤ da := g3
        have KB := fun (w8 : World) (hk8 : Keep2 da ma wr w8) => apply_list (w := w8) hlr hl30r (hB1.keep fun b hb => hk8.2 b (by have := hlb b hb; omega) (fun e => nda (e ▸ hb)) (fun e => nma (e ▸ hb))) (own_same hdown fun g hg => by
          have := hdown.lt g hg
          exact hk8.2 g (by omega) (by omega) (by omega)) hmb7 hlwr hnw (fun x hx => by have := hlb x hx; have := hk8.1; omega)
        clear hup hdown hA1 hB1 hne hlw hlwr hl
        have HK := Lib.hid hll
        clear hll hlr
        go_wp2_with fail
        go_at_call 7
        refine K7.mono ?_
        intro e w8 hpost
        obtain ⟨r8, rfl, hk8, hs8⟩ := hpost.fail hF
        have K8 := KB w8 hk8
        have hB8 := keep2_below hBW hk8 hs8 g3 g1
        clear K7 KB hpost
        go_wp2_with fail
        go_at_call 7
        refine K8.mono ?_
        intro e w9 hpost
        obtain ⟨r9, q9, rfl, hk9, hs9⟩ := hpost.some_
        have hB9 := keep2_below hB8 hk9 hs9 g4 g2
        clear K8 hpost
        go_wp2
        all_goals go_ret
        all_goals exact ⟨rfl, hB9⟩
end Go.Proofs.YtcmlomjdkjcjpaaGreatDoor
