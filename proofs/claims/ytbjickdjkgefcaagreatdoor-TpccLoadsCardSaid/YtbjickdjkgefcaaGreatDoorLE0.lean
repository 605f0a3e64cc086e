/- The data as blocks. -/
import Derived.Test.YtbjickdjkgefcaaGreatDoorLLC1
import Derived.Test.YtbjickdjkgefcaaGreatDoorLLI
import Derived.Test.YtbjickdjkgefcaaGreatDoorLLV
import Derived.Test.YtbjickdjkgefcaaGreatDoorLLC0
import Derived.Test.YtbjickdjkgefcaaGreatDoorLLA
import Derived.Lib.ConvBytes
import Derived.Test.YtbjickdjkgefcaaGreatDoorVB2
section
open Go Go.RowKit Go.Proofs.YtbjickdjkgefcaaGreatDoor.Vai
noncomputable section
namespace Go.Proofs.YtbjickdjkgefcaaGreatDoor
set_option linter.unusedVariables false
def atomT : Value := .chan (some 27)
def colsOf : Nat → List ByteArray
  | 0 => [⟨#[119]⟩, ⟨#[116,97,120]⟩, ⟨#[121,116,100]⟩]
  | 1 => [⟨#[119]⟩, ⟨#[100]⟩, ⟨#[116,97,120]⟩, ⟨#[121,116,100]⟩, ⟨#[110,101,120,116]⟩]
  | 2 => [⟨#[119]⟩, ⟨#[100]⟩, ⟨#[99]⟩, ⟨#[111,102,102]⟩, ⟨#[98,97,108,97,110,99,101]⟩, ⟨#[112,97,105,100]⟩, ⟨#[116,105,109,101,115]⟩]
  | 3 => [⟨#[105]⟩, ⟨#[112,114,105,99,101]⟩]
  | 4 => [⟨#[119]⟩, ⟨#[105]⟩, ⟨#[108,101,102,116]⟩, ⟨#[115,111,108,100]⟩, ⟨#[111,114,100,101,114,115]⟩]
  | 5 => [⟨#[119]⟩, ⟨#[100]⟩, ⟨#[111]⟩, ⟨#[99]⟩, ⟨#[108,105,110,101,115]⟩, ⟨#[99,97,114,114,105,101,114]⟩]
  | 6 => [⟨#[119]⟩, ⟨#[100]⟩, ⟨#[111]⟩]
  | 7 => [⟨#[119]⟩, ⟨#[100]⟩, ⟨#[111]⟩, ⟨#[110]⟩, ⟨#[105]⟩, ⟨#[102,114,111,109]⟩, ⟨#[109,97,110,121]⟩, ⟨#[97,109,111,117,110,116]⟩]
  | _ => [⟨#[119]⟩]
def lenOf : Nat → Nat
  | 0 => 3 | 1 => 5 | 2 => 7 | 3 => 2 | 4 => 5 | 5 => 6 | 6 => 3 | 7 => 8 | _ => 1
def keyOf : Nat → Nat
  | 0 => 1 | 1 => 2 | 2 => 3 | 3 => 1 | 4 => 2 | 5 => 3 | 6 => 3 | 7 => 4 | _ => 1
/-- The name of a table; number 8 is the one ahead. -/
def nameV (j : Nat) : Value := bif Nat.beq j 8 then atomT else .string (tname j)
def colB (j : Nat) : BSpec := .cells 38 2 (colCells (colsOf j)) true
/-- The program's data with the tables l (made in this order). -/
def schV (j b : Nat) : Value := .agg #[nameV j, .slice (some ⟨b, 0, none⟩) (lenOf j) INF, .int .i64 (Int.ofNat (keyOf j)), .slice none 0 0]
def tabA (j b : Nat) : Value := .agg #[nameV j, .slice (some ⟨b, 0, none⟩) (lenOf j) INF, .int .i64 (Int.ofNat (keyOf j)), .slice none 0 0, .slice none 0 0]
def entsS : List Nat → Nat → Nat → List AEnt
  | [], _, _ => []
  | j :: l, b, n => ⟨nameV j, schV j b, n⟩ :: entsS l (Nat.add b 2) (Nat.succ n)
def entsT : List Nat → Nat → Nat → List AEnt
  | [], _, _ => []
  | j :: l, b, n => ⟨nameV j, tabA j b, n⟩ :: entsT l (Nat.add b 2) (Nat.succ n)
def colBs : List Nat → List BSpec
  | [] => []
  | j :: l => colB j :: colB j :: colBs l
def specP (l : List Nat) : List BSpec := .cells 60 2 [.pointer (some ⟨1, 0, none⟩), .map (some 2)] true :: .cells 117 1 [.map (some 3)] true :: .obj (.map (entsT l 5 0) l.length) :: .obj (.map (entsS l 4 0) l.length) :: colBs l
def facts0 : List Fact := (List.range 8).map fun j => .seq 0 (tname j) false
def newRun : Option (Value × St) := aFunK Tryz.prog tb0 kn0 1000 100 (.func 7) [] (bSt [] [])
/-- Create the table j on the data with l; the columns lie behind all else. -/
def creRun (l : List Nat) (j : Nat) : Option (Value × St) := aFunK Tryz.prog tb0 kn0 1000 100 (.func 10) [.pointer (some ⟨0, 0, none⟩), .agg #[nameV j, .slice (some ⟨(specP l).length, 0, none⟩) (lenOf j) INF, .int .i64 (Int.ofNat (keyOf j)), .slice none 0 0]] (bSt (specP l ++ [colB j]) facts0)
def upTo : Nat → Nat → List Nat
  | 0, _ => []
  | n + 1, b => b :: upTo n (b + 1)
/-- The tables ahead of number k. -/
def tabsP (pre : Bool) (k : Nat) : List Nat := bif pre then 8 :: upTo k 0 else upTo k 0
def idsP (l : List Nat) (j : Nat) : List Nat := upTo (Nat.add 4 (Nat.mul 2 l.length)) 0 ++ [Nat.add (Nat.add (Nat.mul 2 l.length) 15) (Nat.mul 4 (lenOf j)), Nat.add (Nat.add (Nat.mul 2 l.length) 22) (Nat.mul 4 (lenOf j))]
def isZero (u : Value) : Bool := veq u (.int .i64 0)
def creOk (pre : Bool) (k : Nat) : Bool := runCheck (creRun (tabsP pre k) k) (Nat.add (Nat.mul 2 (tabsP pre k).length) 5) isZero (specP (tabsP pre k ++ [k])) (idsP (tabsP pre k) k) noTau [(2, (tabsP pre k).length, true), (3, (tabsP pre k).length, true)]
end Go.Proofs.YtbjickdjkgefcaaGreatDoor
end
end
section
open Go Go.RowKit Go.Proofs.YtbjickdjkgefcaaGreatDoor.Vai
namespace Go.Proofs.YtbjickdjkgefcaaGreatDoor
set_option linter.unusedVariables false
set_option linter.unusedSimpArgs false
def KR (x y : Nat × List Int) : Prop := x.1 = y.1 → KLt (x.2.take (tkey x.1)) (y.2.take (tkey y.1))
theorem KR.ne {x y : Nat × List Int} (h : x.1 ≠ y.1) : KR x y := fun e => absurd e h
theorem klt_at {a b : List Int} (n i : Nat) {x y : Int} (hi : i < n) (ha : a[i]? = some x) (hb : b[i]? = some y) (h : x < y) (he : ∀ j, j < i → a[j]? = b[j]?) : KLt (a.take n) (b.take n) :=
  ⟨i, x, y, by rw [List.getElem?_take, if_pos hi]; exact ha, by rw [List.getElem?_take, if_pos hi]; exact hb, h, fun j hj => by rw [List.getElem?_take, List.getElem?_take, if_pos (by omega), if_pos (by omega)]; exact he j hj⟩
/-- A row of a table, at sizes. -/
inductive PutAt (W D C I : Nat) : Nat × List Int → Prop
  | house (w : Nat) (hw : w < W) : PutAt W D C I (0, rHouse w)
  | dist (w k : Nat) (hw : w < W) (hk : k < D) : PutAt W D C I (1, rDist w k)
  | cust (w k c : Nat) (hw : w < W) (hk : k < D) (hc : c < C) : PutAt W D C I (2, rCust w k c)
  | item (i : Nat) (hi : i < I) : PutAt W D C I (3, rItem i)
  | stock (w i : Nat) (hw : w < W) (hi : i < I) : PutAt W D C I (4, rStock w i)
theorem mem_custs {w k C : Nat} {x : Nat × List Int} (h : x ∈ custs w k C) : ∃ c, c < C ∧ x = (2, rCust w k c) := by
  obtain ⟨c, hc, rfl⟩ := List.mem_map.1 h
  exact ⟨c, List.mem_range.1 hc, rfl⟩
theorem mem_dist {w k C : Nat} {x : Nat × List Int} (h : x ∈ dist w C k) : x = (1, rDist w k) ∨ ∃ c, c < C ∧ x = (2, rCust w k c) := by
  rcases List.mem_cons.1 h with h | h
  · exact .inl h
  · exact .inr (mem_custs h)
theorem mem_dists {w C D : Nat} {x : Nat × List Int} (h : x ∈ dists w C D) : ∃ k, k < D ∧ x ∈ dist w C k := by
  obtain ⟨k, hk, hx⟩ := List.mem_flatMap.1 h
  exact ⟨k, List.mem_range.1 hk, hx⟩
theorem mem_stocks {w I : Nat} {x : Nat × List Int} (h : x ∈ stocks w I) : ∃ i, i < I ∧ x = (4, rStock w i) := by
  obtain ⟨c, hc, rfl⟩ := List.mem_map.1 h
  exact ⟨c, List.mem_range.1 hc, rfl⟩
theorem mem_items {I : Nat} {x : Nat × List Int} (h : x ∈ items I) : ∃ i, i < I ∧ x = (3, rItem i) := by
  obtain ⟨c, hc, rfl⟩ := List.mem_map.1 h
  exact ⟨c, List.mem_range.1 hc, rfl⟩
theorem mem_house {D C I w : Nat} {x : Nat × List Int} (h : x ∈ house D C I w) : x = (0, rHouse w) ∨ x ∈ dists w C D ∨ x ∈ stocks w I := by
  rcases List.mem_cons.1 h with h | h
  · exact .inl h
  · exact .inr (List.mem_append.1 h)
theorem mem_houses {D C I W : Nat} {x : Nat × List Int} (h : x ∈ houses D C I W) : ∃ w, w < W ∧ x ∈ house D C I w := by
  obtain ⟨k, hk, hx⟩ := List.mem_flatMap.1 h
  exact ⟨k, List.mem_range.1 hk, hx⟩
theorem puts_at {W D C I : Nat} {x : Nat × List Int} (h : x ∈ puts W D C I) : PutAt W D C I x := by
  rcases List.mem_append.1 h with h | h
  · obtain ⟨w, hw, h⟩ := mem_houses h
    rcases mem_house h with rfl | h | h
    · exact .house w hw
    · obtain ⟨k, hk, h⟩ := mem_dists h
      rcases mem_dist h with rfl | ⟨c, hc, rfl⟩
      · exact .dist w k hw hk
      · exact .cust w k c hw hk hc
    · obtain ⟨i, hi, rfl⟩ := mem_stocks h
      exact .stock w i hw hi
  · obtain ⟨i, hi, rfl⟩ := mem_items h
    exact .item i hi
theorem dist_two {w C k : Nat} {x : Nat × List Int} (h : x ∈ dist w C k) : (x.1 = 1 ∨ x.1 = 2) ∧ x.2[0]? = some ((w : Int) + 1) ∧ x.2[1]? = some ((k : Int) + 1) := by
  rcases mem_dist h with rfl | ⟨c, hc, rfl⟩
  · exact ⟨.inl rfl, rfl, rfl⟩
  · exact ⟨.inr rfl, rfl, rfl⟩
theorem house_one {D C I w : Nat} {x : Nat × List Int} (h : x ∈ house D C I w) : x.1 ≠ 3 ∧ x.1 < 5 ∧ x.2[0]? = some ((w : Int) + 1) := by
  rcases mem_house h with rfl | h | h
  · exact ⟨by simp, by simp, rfl⟩
  · obtain ⟨k, hk, h⟩ := mem_dists h
    obtain ⟨h1, h2, _⟩ := dist_two h
    rcases h1 with e | e <;> rw [e] <;> exact ⟨by decide, by decide, h2⟩
  · obtain ⟨i, hi, rfl⟩ := mem_stocks h
    exact ⟨by simp, by simp, rfl⟩
theorem tkey_pos (j : Nat) : 0 < tkey j := by
  unfold tkey; split <;> decide
theorem pw_range {α : Type} {R : α → α → Prop} (f : Nat → α) (h : ∀ i j, i < j → R (f i) (f j)) (n : Nat) : ((List.range n).map f).Pairwise R := by
  rw [List.pairwise_map]
  exact List.pairwise_lt_range.imp (fun {a b} hab => h a b hab)
theorem pw_flat {α : Type} {R : α → α → Prop} (f : Nat → List α) (h1 : ∀ i, (f i).Pairwise R) (h : ∀ i j, i < j → ∀ x ∈ f i, ∀ y ∈ f j, R x y) : ∀ (n : Nat), ((List.range n).flatMap f).Pairwise R := by
  intro n
  induction n with
  | zero => simp
  | succ n ih =>
    rw [List.range_succ, List.flatMap_append, List.pairwise_append]
    refine ⟨ih, by simpa using h1 n, fun x hx y hy => ?_⟩
    obtain ⟨i, hi, hx⟩ := List.mem_flatMap.1 hx
    have hy : y ∈ f n := by simpa using hy
    exact h i n (List.mem_range.1 hi) x hx y hy
theorem pw_custs (w k C : Nat) : (custs w k C).Pairwise KR :=
  pw_range (fun c => (2, rCust w k c)) (fun i j hij _ => klt_at (tkey 2) 2 (by decide) (by rfl) (by rfl) (by omega) (fun q hq => by
    match q, hq with
    | 0, _ => rfl
    | 1, _ => rfl)) C
theorem pw_dist (w C k : Nat) : (dist w C k).Pairwise KR := by
  unfold dist
  rw [List.pairwise_cons]
  refine ⟨fun y hy => ?_, pw_custs w k C⟩
  obtain ⟨c, _, rfl⟩ := mem_custs hy
  exact KR.ne (by simp)
theorem pw_dists (w C D : Nat) : (dists w C D).Pairwise KR := by
  refine pw_flat (dist w C) (pw_dist w C) (fun i j hij x hx y hy e => ?_) D
  obtain ⟨h1, h2, h3⟩ := dist_two hx
  obtain ⟨g1, g2, g3⟩ := dist_two hy
  rw [← e]
  refine klt_at (tkey x.1) 1 ?_ h3 g3 (by omega) (fun q hq => ?_)
  · rcases h1 with h | h <;> rw [h] <;> decide
  · obtain rfl : q = 0 := by omega
    rw [h2, g2]
theorem pw_stocks (w I : Nat) : (stocks w I).Pairwise KR :=
  pw_range (fun i => (4, rStock w i)) (fun i j hij _ => klt_at (tkey 4) 1 (by decide) (by rfl) (by rfl) (by omega) (fun q hq => by
    match q, hq with
    | 0, _ => rfl)) I
theorem pw_items (I : Nat) : (items I).Pairwise KR :=
  pw_range (fun i => (3, rItem i)) (fun i j hij _ => klt_at (tkey 3) 0 (by decide) (by rfl) (by rfl) (by omega) (fun q hq => by omega)) I
theorem pw_house (D C I w : Nat) : (house D C I w).Pairwise KR := by
  unfold house
  rw [List.pairwise_cons, List.pairwise_append]
  refine ⟨fun y hy => ?_, pw_dists w C D, pw_stocks w I, fun x hx y hy => ?_⟩
  · rcases List.mem_append.1 hy with hy | hy
    · obtain ⟨k, hk, hy⟩ := mem_dists hy
      obtain ⟨h1, _⟩ := dist_two hy
      rcases h1 with h | h <;> exact KR.ne (by simp [h])
    · obtain ⟨i, hi, rfl⟩ := mem_stocks hy
      exact KR.ne (by simp)
  · obtain ⟨k, hk, hx⟩ := mem_dists hx
    obtain ⟨h1, _⟩ := dist_two hx
    obtain ⟨i, hi, rfl⟩ := mem_stocks hy
    rcases h1 with h | h <;> exact KR.ne (by simp [h])
theorem pw_houses (D C I W : Nat) : (houses D C I W).Pairwise KR := by
  refine pw_flat (house D C I) (pw_house D C I) (fun i j hij x hx y hy e => ?_) W
  obtain ⟨_, _, h2⟩ := house_one hx
  obtain ⟨_, _, g2⟩ := house_one hy
  rw [← e]
  exact klt_at (tkey x.1) 0 (tkey_pos _) h2 g2 (by omega) (fun q hq => by omega)
theorem pw_puts (W D C I : Nat) : (puts W D C I).Pairwise KR := by
  unfold puts
  rw [List.pairwise_append]
  refine ⟨pw_houses D C I W, pw_items I, fun x hx y hy => ?_⟩
  obtain ⟨w, hw, hx⟩ := mem_houses hx
  obtain ⟨h1, _, _⟩ := house_one hx
  obtain ⟨i, hi, rfl⟩ := mem_items hy
  exact KR.ne h1
/-- What is asked of each row alone. -/
structure OkRow (x : Nat × List Int) : Prop where
  tab : x.1 < 5
  len : x.2.length = lenOf x.1
  key : tkey x.1 ≤ x.2.length
  least : ∀ n ∈ x.2.take (tkey x.1), 1 ≤ n ∧ n ≤ 50
  all : ∀ n ∈ x.2, 0 ≤ n ∧ n ≤ 5001
theorem putAt_ok {W D C I : Nat} {x : Nat × List Int} (h : PutAt W D C I x) (hW : W ≤ 5) (hD : D ≤ 5) (hC : C ≤ 50) (hI : I ≤ 50) : OkRow x := by
  cases h with
  | house w hw => exact ⟨by simp, rfl, by simp [tkey, rHouse], fun n hn => by simp [tkey, rHouse] at hn; omega, fun n hn => by simp [rHouse] at hn; omega⟩
  | dist w k hw hk => exact ⟨by simp, rfl, by simp [tkey, rDist], fun n hn => by simp [tkey, rDist] at hn; omega, fun n hn => by simp [rDist] at hn; omega⟩
  | cust w k c hw hk hc => exact ⟨by simp, rfl, by simp [tkey, rCust], fun n hn => by simp [tkey, rCust] at hn; omega, fun n hn => by simp [rCust] at hn; omega⟩
  | item i hi => exact ⟨by simp, rfl, by simp [tkey, rItem], fun n hn => by simp [tkey, rItem] at hn; omega, fun n hn => by simp [rItem] at hn; omega⟩
  | stock w i hw hi => exact ⟨by simp, rfl, by simp [tkey, rStock], fun n hn => by simp [tkey, rStock] at hn; omega, fun n hn => by simp [rStock] at hn; omega⟩
theorem mem_rowsOf {L : List (Nat × List Int)} {j : Nat} {l : List Int} (h : l ∈ rowsOf L j) : (j, l) ∈ L := by
  unfold rowsOf at h
  obtain ⟨x, hx, rfl⟩ := List.mem_map.1 h
  obtain ⟨h1, h2⟩ := List.mem_filter.1 hx
  have : x.1 = j := by simpa using h2
  subst this
  exact h1
theorem rowsOf_len (L : List (Nat × List Int)) (j : Nat) : (rowsOf L j).length ≤ L.length := by
  unfold rowsOf
  rw [List.length_map]
  exact List.length_filter_le _ _
theorem puts_len {W D C I : Nat} (hW : W ≤ 5) (hD : D ≤ 5) (hC : C ≤ 50) (hI : I ≤ 50) : (puts W D C I).length ≤ 1580 := by
  have := houses_le hW hD hC hI
  rw [puts, List.length_append, items_len]; omega
theorem small_of {x : Nat × List Int} (h : OkRow x) : Small (x.2.take (tkey x.1)) := fun n hn => by
  have := h.least n hn; omega
theorem take_len {x : Nat × List Int} (h : OkRow x) : (x.2.take (tkey x.1)).length = tkey x.1 := by
  rw [List.length_take]; have := h.key; omega
theorem puts_last {W D C I : Nat} (hW : W ≤ 5) (hD : D ≤ 5) (hC : C ≤ 50) (hI : I ≤ 50) {P S : List (Nat × List Int)} {y : Nat × List Int} (h : puts W D C I = P ++ y :: S) : OkRow y ∧ Last (tkey y.1) (rowsOf P y.1) (y.2.take (tkey y.1)) := by
  have hok : ∀ x ∈ puts W D C I, OkRow x := fun x hx => putAt_ok (puts_at hx) hW hD hC hI
  have hy : OkRow y := hok y (by rw [h]; simp)
  have hp := pw_puts W D C I
  rw [h, List.pairwise_append] at hp
  have hl := puts_len hW hD hC hI
  refine ⟨hy, ?_, small_of hy, take_len hy, fun l hl => ?_⟩
  · have := rowsOf_len P y.1
    rw [h, List.length_append] at hl
    omega
  · have hm := mem_rowsOf hl
    have hx : OkRow (y.1, l) := hok _ (by rw [h]; exact List.mem_append_left _ hm)
    exact ⟨hp.2.2 _ hm y (List.mem_cons_self ..) rfl, take_len hx, small_of hx⟩
end Go.Proofs.YtbjickdjkgefcaaGreatDoor
end
section
open Go Go.RowKit Go.Proofs.YtbjickdjkgefcaaGreatDoor.Vai
namespace Go.Proofs.YtbjickdjkgefcaaGreatDoor
set_option linter.unusedVariables false
set_option linter.unusedSimpArgs false
set_option maxRecDepth 20000
def okC (c : UInt8) : Bool := (97 ≤ c && c ≤ 122) || (48 ≤ c && c ≤ 57)
theorem okC_iff (c : UInt8) : okC c = true ↔ (97 ≤ (c.toNat : Int) ∧ (c.toNat : Int) ≤ 122) ∨ (48 ≤ (c.toNat : Int) ∧ (c.toNat : Int) ≤ 57) := by
  simp only [okC, Bool.or_eq_true, Bool.and_eq_true, decide_eq_true_eq, UInt8.le_iff_toNat_le]
  have e1 : (97 : UInt8).toNat = 97 := rfl
  have e2 : (122 : UInt8).toNat = 122 := rfl
  have e3 : (48 : UInt8).toNat = 48 := rfl
  have e4 : (57 : UInt8).toNat = 57 := rfl
  rw [e1, e2, e3, e4]
  omega
theorem drop_all (s : ByteArray) (k : Nat) (hk : k < s.size) : (s.data.toList.drop k).all okC = (okC s[k] && (s.data.toList.drop (k + 1)).all okC) := by
  have hl : k < s.data.toList.length := by simpa using hk
  rw [List.drop_eq_getElem_cons hl, List.all_cons]
  congr 2
theorem Named_any (w : World) (s : ByteArray) (h0 : s.size ≠ 0) (h32 : s.size ≤ 32) (b : Bool) (hb : (s.data.toList.all okC) = b) : Calls Tryz.prog 104 #[.string s] w fun e w' => e = .returned (.bool b) ∧ w' = w := by
  have hE : s.toList.isEmpty = false := by
    rw [ByteArray.toList_eq, List.isEmpty_eq_false_iff]
    intro h
    apply h0
    have : s.data.toList.length = 0 := by rw [h]; rfl
    simpa using this
  have HB := Lib.hid hb
  clear hb
  go_enter Tryz.func104, Tryz.ntmps104
  go_wp2_with fail
  go_loop [3] (fun i => ∃ k : Nat, i = .int .i64 k ∧ k ≤ s.size ∧ (s.data.toList.drop k).all okC = b) (fun i => s.size + 1 - (intOf i).toNat)
  case atStart => exact ⟨0, rfl, Nat.zero_le _, HB.out⟩
  case round =>
    obtain ⟨k, rfl, hk, hall⟩ := hrel
    by_cases hlt : k < s.size
    · have hd := drop_all s k hlt
      rw [hall] at hd
      by_cases hok : okC s[k] = true
      · rw [hok, Bool.true_and] at hd
        have hn := (okC_iff _).1 hok
        have HD := Lib.hid hd
        have HN := Lib.hid hn
        clear hd hok hn hall
        go_wp2_with fail
        all_goals have hn := HN.out
        all_goals first
          | exact ⟨⟨k + 1, by go_num, hlt, HD.out.symm⟩, by simp [intOf]; omega⟩
          | (exfalso; omega)
          | (exfalso; simp_all <;> omega)
      · have hn := mt (okC_iff _).2 hok
        rw [Bool.not_eq_true] at hok
        rw [hok, Bool.false_and] at hd
        have HN := Lib.hid hn
        clear hok hn hall
        subst hd
        go_wp2_with fail
        all_goals have hn := HN.out
        all_goals first
          | (go_ret; exact ⟨rfl, rfl⟩)
          | (exfalso; omega)
          | (exfalso; simp_all <;> omega)
    · obtain rfl : k = s.size := by omega
      have : b = true := by rw [← hall, List.drop_of_length_le (by simp)]; rfl
      subst this
      clear hall
      go_wp2_with fail
      go_ret
      exact ⟨rfl, rfl⟩
theorem tidyB_eq (s : ByteArray) : tidyB s = (!(Nat.beq s.size 0) && Nat.ble s.size 32 && s.data.toList.all okC) := rfl
theorem named_doc (w : World) (s : ByteArray) : Calls Tryz.prog 104 #[.string s] w fun e w' => e = .returned (.bool (tidyB s)) ∧ w' = w := by
  rw [tidyB_eq]
  by_cases h0 : s.size = 0
  · have hE : s.toList.isEmpty = true := by
      rw [ByteArray.toList_eq, List.isEmpty_iff]
      apply List.eq_nil_of_length_eq_zero
      simpa using h0
    have hb : (!(Nat.beq s.size 0) && Nat.ble s.size 32 && s.data.toList.all okC) = false := by rw [h0]; rfl
    rw [hb]
    clear hb
    go_enter Tryz.func104, Tryz.ntmps104
    go_wp2_with fail
    all_goals go_ret
    all_goals exact ⟨rfl, rfl⟩
  · have hz : Nat.beq s.size 0 = false := by
      cases h : Nat.beq s.size 0 with
      | false => rfl
      | true => exact absurd (Nat.eq_of_beq_eq_true h) h0
    by_cases h32 : s.size ≤ 32
    · refine Named_any w s h0 h32 _ ?_
      rw [hz, Nat.ble_eq_true_of_le h32]; rfl
    · have hE : s.toList.isEmpty = false := by
        rw [ByteArray.toList_eq, List.isEmpty_eq_false_iff]
        intro h
        apply h0
        have : s.data.toList.length = 0 := by rw [h]; rfl
        simpa using this
      have hb : (!(Nat.beq s.size 0) && Nat.ble s.size 32 && s.data.toList.all okC) = false := by
        have : Nat.ble s.size 32 = false := by
          cases h : Nat.ble s.size 32 with
          | false => rfl
          | true => exact absurd (Nat.le_of_ble_eq_true h) h32
        rw [this, hz]; rfl
      rw [hb]
      clear hb
      have h33 : (32 : Int) < (s.size : Int) := by omega
      go_enter Tryz.func104, Tryz.ntmps104
      go_wp2_with fail
      all_goals go_ret
      all_goals exact ⟨rfl, rfl⟩
end Go.Proofs.YtbjickdjkgefcaaGreatDoor
end
section
open Go Go.RowKit Go.Proofs.YtbjickdjkgefcaaGreatDoor.Vai
namespace Go.Proofs.YtbjickdjkgefcaaGreatDoor
set_option linter.unusedVariables false
set_option linter.unusedSimpArgs false
set_option maxRecDepth 20000
theorem notOk_any (w : World) (c : UInt8) : Calls Tryz.prog 148 #[.int .u8 c.toNat] w fun e w' => e = .returned (.bool (!(okC c))) ∧ w' = w := by
  have h0 : (0 : Int) ≤ (c.toNat : Int) := Int.natCast_nonneg _
  have h1 : (c.toNat : Int) < 256 := by have := c.toNat_lt; omega
  by_cases hok : okC c = true
  · have hn := (okC_iff _).1 hok
    rw [hok]
    have HN := Lib.hid hn
    clear hok hn
    go_enter Tryz.func148, Tryz.ntmps148
    go_wp2_with fail
    all_goals have hn := HN.out
    all_goals go_ret
    all_goals refine ⟨?_, rfl⟩
    all_goals first | rfl | (simp; omega) | (exfalso; omega)
  · have hn := mt (okC_iff _).2 hok
    rw [Bool.not_eq_true] at hok
    rw [hok]
    have HN := Lib.hid hn
    clear hok hn
    go_enter Tryz.func148, Tryz.ntmps148
    go_wp2_with fail
    all_goals have hn := HN.out
    all_goals go_ret
    all_goals refine ⟨?_, rfl⟩
    all_goals first | rfl | (simp; omega) | (exfalso; omega)
theorem idx_any (w : World) (s : ByteArray) (b : Bool) (hb : s.data.toList.all okC = b) (g n cap : Nat) (hn : s.size = n) (hs : n ≤ 32) (hcap : n ≤ cap) (hc : ∀ i (h : i < s.size), w.cell? ⟨g, i, none⟩ = some (.int .u8 (s[i].toNat : Int))) :
    Calls Tryz.prog 191 #[.slice (some ⟨g, 0, none⟩) n cap, .func (.func 148) #[] #[]] w fun e w' => ∃ q : Int, e = .returned (.int .i64 q) ∧ decide (0 ≤ q) = !b ∧ w' = w := by
  subst hn
  have HB := Lib.hid hb
  clear hb
  have HC := Lib.hid hc
  clear hc
  go_enter Tryz.func191, Tryz.ntmps191
  go_wp2_with fail
  go_loop [8] (fun i => ∃ k : Nat, i = .int .i64 k ∧ k ≤ s.size ∧ (s.data.toList.drop k).all okC = b) (fun i => s.size + 1 - (intOf i).toNat)
  case atStart => exact ⟨0, rfl, Nat.zero_le _, HB.out⟩
  case round =>
    obtain ⟨k, rfl, hk, hall⟩ := hrel
    have HA := Lib.hid hall
    clear hall
    by_cases hlt : k < s.size
    · have c0 := HC.out k hlt
      have K := fun w => notOk_any w s[k]
      have hd := Lib.hid (drop_all s k hlt)
      cases hok : okC s[k] with
      | true =>
        rw [hok] at K
        have HK := Lib.hid hok
        clear hok
        go_wp2_with (first | (go_at_call 148; refine (K _).mono ?_; rintro e w1 ⟨rfl, rfl⟩))
        refine ⟨⟨k + 1, by go_num, hlt, ?_⟩, by simp [intOf]; omega⟩
        rw [← HA.out, hd.out, HK.out, Bool.true_and]
      | false =>
        rw [hok] at K
        have HK := Lib.hid hok
        clear hok
        go_wp2_with (first | (go_at_call 148; refine (K _).mono ?_; rintro e w1 ⟨rfl, rfl⟩))
        go_ret
        refine ⟨_, rfl, ?_, rfl⟩
        have : b = false := by rw [← HA.out, hd.out, HK.out]; rfl
        rw [this]
        simp
    · obtain rfl : k = s.size := by omega
      have : b = true := by rw [← HA.out, List.drop_of_length_le (by simp)]; rfl
      subst this
      clear HA HB
      go_wp2_with fail
      go_ret
      exact ⟨_, rfl, by first | rfl | decide, rfl⟩
theorem has_any (w : World) (s : ByteArray) (b : Bool) (hb : s.data.toList.all okC = b) (g n cap : Nat) (hn : s.size = n) (hs : n ≤ 32) (hcap : n ≤ cap) (hc : ∀ i (h : i < s.size), w.cell? ⟨g, i, none⟩ = some (.int .u8 (s[i].toNat : Int))) :
    Calls Tryz.prog 147 #[.slice (some ⟨g, 0, none⟩) n cap, .func (.func 148) #[] #[]] w fun e w' => e = .returned (.bool (!b)) ∧ w' = w := by
  have K := idx_any w s b hb g n cap hn hs hcap hc
  clear hb hn hc
  go_enter Tryz.func147, Tryz.ntmps147
  go_wp2_with (first | (go_at_call 191; refine K.mono ?_; rintro e w1 ⟨q, rfl, hq, rfl⟩))
  all_goals go_ret
  all_goals refine ⟨?_, rfl⟩
  all_goals simp_all
theorem u9 : Tryz.prog.underlying 9 = some .string := by kernel_rfl
theorem u216 : Tryz.prog.underlying 216 = some (.slice 5) := by kernel_rfl
theorem u5 : Tryz.prog.underlying 5 = some (.int .u8) := by kernel_rfl
theorem named_prog (w : World) (s : ByteArray) : Calls Tryz.prog 96 #[.string s] w fun e w' => e = .returned (.bool (tidyB s)) ∧ Below w.heap.size w w' := by
  rw [tidyB_eq]
  by_cases h0 : s.size = 0
  · have hE : s.toList.isEmpty = true := by
      rw [ByteArray.toList_eq, List.isEmpty_iff]
      apply List.eq_nil_of_length_eq_zero
      simpa using h0
    have hb : (!(Nat.beq s.size 0) && Nat.ble s.size 32 && s.data.toList.all okC) = false := by rw [h0]; rfl
    rw [hb]
    clear hb
    go_enter Tryz.func96, Tryz.ntmps96
    go_wp2_with fail
    all_goals go_ret
    all_goals exact ⟨rfl, Below.refl _ _⟩
  · have hz : Nat.beq s.size 0 = false := by
      cases h : Nat.beq s.size 0 with
      | false => rfl
      | true => exact absurd (Nat.eq_of_beq_eq_true h) h0
    have hE : s.toList.isEmpty = false := by
      rw [ByteArray.toList_eq, List.isEmpty_eq_false_iff]
      intro h
      apply h0
      have : s.data.toList.length = 0 := by rw [h]; rfl
      simpa using this
    by_cases h32 : s.size ≤ 32
    · obtain ⟨b, hb⟩ : ∃ b, b = s.data.toList.all okC := ⟨_, rfl⟩
      have e : (!(Nat.beq s.size 0) && Nat.ble s.size 32 && s.data.toList.all okC) = b := by rw [hz, Nat.ble_eq_true_of_le h32, hb]; rfl
      rw [e]
      have K := fun w g n cap hn hs hcap hc => has_any w s b hb.symm g n cap hn hs hcap hc
      have q := Lib.run_convert_string_bytes (P := Tryz.prog) w 9 216 5 s u9 u216 u5
      have K2 : Calls Tryz.prog 147 #[.slice (some ⟨w.heap.size, 0, none⟩) s.size (grownCap w s.size 0 5), .func (.func 148) #[] #[]] (Lib.bytesWorld w 5 s) fun e w' => e = .returned (.bool (!b)) ∧ w' = Lib.bytesWorld w 5 s := K _ _ _ _ rfl h32 (grownCap_ge w s.size 0 5) (fun i hi => by
        rw [Lib.bytesWorld_cell w 5 s i hi]
        congr 4
        rw [List.getD_eq_getElem?_getD, List.getElem?_eq_getElem (by simpa using hi)]; rfl)
      have bel : Hid (Below w.heap.size w (Lib.bytesWorld w 5 s)) := ⟨rfl, rfl, rfl, by rw [Lib.bytesWorld_size]; omega, fun k hk => Lib.bytesWorld_at_old w 5 s k hk⟩
      clear e hb K
      go_enter Tryz.func96, Tryz.ntmps96
      go_wp2_with (first | (go_at_call 147; refine K2.mono ?_; rintro e w1 ⟨rfl, rfl⟩))
      go_ret
      exact ⟨rfl, bel.out⟩
    · have hb : (!(Nat.beq s.size 0) && Nat.ble s.size 32 && s.data.toList.all okC) = false := by
        have : Nat.ble s.size 32 = false := by
          cases h : Nat.ble s.size 32 with
          | false => rfl
          | true => exact absurd (Nat.le_of_ble_eq_true h) h32
        rw [this, hz]; rfl
      rw [hb]
      clear hb
      have h33 : (32 : Int) < (s.size : Int) := by omega
      go_enter Tryz.func96, Tryz.ntmps96
      go_wp2_with fail
      all_goals go_ret
      all_goals exact ⟨rfl, Below.refl _ _⟩
end Go.Proofs.YtbjickdjkgefcaaGreatDoor
end
section
open Go Go.RowKit Go.Proofs.YtbjickdjkgefcaaGreatDoor.Vai
namespace Go.Proofs.YtbjickdjkgefcaaGreatDoor
set_option linter.unusedVariables false
set_option linter.unusedSimpArgs false
def findTidy (i : Nat) : List Fact → Option Bool
  | [] => none
  | .tidy j b :: l => bif Nat.beq i j then some b else findTidy i l
  | _ :: l => findTidy i l
theorem findTidy_sound {sig : Sig} {i : Nat} {b : Bool} : ∀ (l : List Fact), (∀ f ∈ l, f.ok sig) → findTidy i l = some b → tidyB (sig.str i) = b := by
  intro l
  induction l with
  | nil => intro _ h; cases h
  | cons f l ih =>
    intro ho h
    have h0 := ho f (List.mem_cons_self ..)
    have ih := ih fun g hg => ho g (List.mem_cons_of_mem _ hg)
    cases f with
    | tidy j t =>
      simp only [findTidy] at h
      cases hb : Nat.beq i j with
      | true =>
        rw [hb] at h
        cases h
        rw [Nat.eq_of_beq_eq_true hb]
        exact h0
      | false => rw [hb] at h; exact ih h
    | _ => exact ih h
def knT : Known := fun f args orc => bif Nat.beq f 96 || Nat.beq f 104 then (match args with
  | [v] => match strOf v with
    | some i => match findTidy i orc with
      | some b => some (.bool b)
      | none => none
    | none => none
  | _ => none) else none
theorem knT_ok (b : Base) : KnOk Tryz.prog b knT := by
  refine ⟨fun f args orc v h φ w cargs ho hk hr => ?_⟩
  unfold knT at h
  cases hf : (Nat.beq f 96 || Nat.beq f 104) with
  | false => rw [hf] at h; cases h
  | true =>
    rw [hf] at h
    simp only [cond_true] at h
    split at h
    · rename_i a
      split at h
      · rename_i i hi
        split at h
        · rename_i t ht
          cases h
          cases hr with
          | cons _ c _ _ h1 h2 =>
            cases h2
            rw [strOf_sound hi h1]
            have e := findTidy_sound orc ho ht
            rw [Bool.or_eq_true] at hf
            rcases hf with hf | hf
            · rw [Nat.eq_of_beq_eq_true hf]
              refine (named_prog w (φ.sig.str i)).mono ?_
              rintro e' w' ⟨rfl, hb⟩
              exact ⟨_, rfl, by rw [e]; exact .bool _, hb⟩
            · rw [Nat.eq_of_beq_eq_true hf]
              refine (named_doc w (φ.sig.str i)).mono ?_
              rintro e' w' ⟨rfl, rfl⟩
              exact ⟨_, rfl, by rw [e]; exact .bool _, Below.refl _ _⟩
        · cases h
      · cases h
    · cases h
end Go.Proofs.YtbjickdjkgefcaaGreatDoor
end
section
open Go Go.RowKit Go.Proofs.YtbjickdjkgefcaaGreatDoor.Vai
namespace Go.Proofs.YtbjickdjkgefcaaGreatDoor
set_option linter.unusedVariables false
set_option linter.unusedSimpArgs false
theorem run_step {kn : Known} (hkn : ∀ b, KnOk Tryz.prog b kn) {f : FuncId} {w : World} {L L' : List BSpec} {xs : BSpec} {ts : List Tgt} {tx t0 : Tgt} {sig : Sig} {facts : List Fact} {ids : List Nat} {chk : Value → Bool} {links : List (Nat × Nat × Bool)} {M d : Nat} (own : List Nat) {sarg carg : Value}
    (h : Lies w L ts sig) (hx : xs.ok (Base.free w) (bEmb (ts ++ [tx]) sig) w tx) (hnx : tx.blk ∉ ts.map (·.blk)) (hlx : tx.blk < w.heap.size) (hxo : xs.owned = false) (hf : ∀ g ∈ facts, g.ok sig)
    (hL' : 0 < L'.length) (hown : ∀ (k : Nat) (t : Tgt) (sp : BSpec), ts[k]? = some t → L[k]? = some sp → sp.owned = true → t.blk ∈ own) (h0 : ts[0]? = some t0) (harg : VR (bEmb (ts ++ [tx]) sig) sarg carg)
    (hc : runCheck (aFunK Tryz.prog tb0 kn M d (.func f) [.pointer (some ⟨0, 0, none⟩), sarg] (bSt (L ++ [xs]) facts)) (L.length + 1) chk L' (0 :: ids) noTau links = true) :
    Calls Tryz.prog f #[.pointer (some ⟨t0.blk, 0, none⟩), carg] w fun e w' => ∃ ψ u c ts', e = .returned c ∧ chk u = true ∧ VR ψ u c ∧ Lies w' L' ts' sig ∧ ts'[0]? = some t0 ∧ KeepL own w w' := by
  have h2 := h.snoc hx hnx hlx
  have hlen := h.len
  have hpos : 0 < ts.length := (List.getElem?_eq_some_iff.1 h0).1
  have r := h2.rel (b := butL w own) (orc := facts) hf (fun k t sp ht hsp ho hK => by
    by_cases e : k < ts.length
    · rw [List.getElem?_append_left e] at ht
      rw [List.getElem?_append_left (by omega)] at hsp
      exact hK.2 (hown k t sp ht hsp ho)
    · have hk := (List.getElem?_eq_some_iff.1 hsp).1
      simp at hk
      have hkl : k = L.length := by omega
      subst hkl
      rw [List.getElem?_append_right (Nat.le_refl _), Nat.sub_self] at hsp
      cases hsp
      rw [hxo] at ho; cases ho)
  have hT : (ts ++ [tx])[0]? = some t0 := by rw [List.getElem?_append_left hpos]; exact h0
  refine (run_specs (b := butL w own) tb0_ok mixed (hkn _) r (by simp [hlen]) (args := [_, _]) (cargs := [_, _]) (.cons _ _ _ _ (.ptr 0 0 t0 hT) (.cons _ _ _ _ harg .nil)) (sig' := sig) (by simpa using hc) (fun i j h => by cases h) rfl).mono ?_
  rintro e w' ⟨ψ, u, c, ts', rfl, hu, hvr, hr, hs⟩
  have hl2 : 0 < ts'.length := by
    rw [hr.len]; exact hL'
  have h3 := hr.at_ 0 0 (ts'[0]'hl2) rfl (List.getElem?_eq_getElem _)
  refine ⟨ψ, u, c, ts', rfl, hu, hvr, hr.lies, ?_, butL_keep hr.kept⟩
  rcases h3.2 with ⟨_, q⟩ | ⟨q, _⟩
  · rw [hT] at q; cases q; exact List.getElem?_eq_getElem _
  · simp at q
end Go.Proofs.YtbjickdjkgefcaaGreatDoor
end
section
open Go Go.RowKit Go.Proofs.YtbjickdjkgefcaaGreatDoor.Vai
noncomputable section
namespace Go.Proofs.YtbjickdjkgefcaaGreatDoor
set_option linter.unusedVariables false
def idxOf (j : Nat) : List Nat → Nat → Nat
  | [], n => n
  | i :: l, n => bif Nat.beq i j then n else idxOf j l (Nat.succ n)
/-- The rows of the catalogue, sorted; the columns of the i-th that was made lie in block b + 2 i. -/
def catCells (l : List Nat) (b : Nat) : List Nat → List Value
  | [] => []
  | j :: T => nameV j :: .slice (some ⟨Nat.add b (Nat.mul 2 (idxOf j l 0)), 0, none⟩) (lenOf j) INF :: .int .i64 (Int.ofNat (keyOf j)) :: .slice none 0 0 :: catCells l b T
def lCells : Nat → List Nat → List Value
  | _, [] => []
  | b, j :: l => nameV j :: .slice (some ⟨b, 0, none⟩) (lenOf j) INF :: .int .i64 (Int.ofNat (keyOf j)) :: .slice none 0 0 :: .slice none 0 0 :: lCells (Nat.add b 2) l
/-- The eight names in order, and where number 8 stands (ahead of place p). -/
def sorted8 : List Nat := [2, 1, 6, 0, 3, 7, 5, 4]
def insAt (p : Nat) : List Nat := sorted8.take p ++ 8 :: sorted8.drop p
def memN (j : Nat) : List Nat → Bool
  | [] => false
  | i :: l => bif Nat.beq i j then true else memN j l
def sortT (p : Nat) (l : List Nat) : List Nat := (insAt p).filter fun j => memN j l
def specR (p : Nat) (l : List Nat) : List BSpec := match l with
  | [] => [.cells 66 2 [.pointer (some ⟨1, 0, none⟩), .slice none 0 0] false, .cells 63 1 [.slice none 0 0] false]
  | _ :: _ => .cells 66 2 [.pointer (some ⟨1, 0, none⟩), .slice (some ⟨3, 0, none⟩) l.length INF] false :: .cells 63 1 [.slice (some ⟨2, 0, none⟩) l.length INF] false :: .cells 30 4 (catCells l 4 (sortT p l)) true :: .cells 87 5 (lCells 5 l) true :: colBs l
/-- What is known of the text ahead, where it stands ahead of place p. -/
def factsR (p : Nat) : List Fact := facts0 ++ ((insAt p).take p).map (fun j => .sgt 0 (tname j) true) ++ ((insAt p).take p).map (fun j => .slt 0 (tname j) false) ++ ((insAt p).drop (p + 1)).map (fun j => .slt 0 (tname j) true) ++ ((insAt p).drop (p + 1)).map (fun j => .sgt 0 (tname j) false)
def newRunR : Option (Value × St) := aFunK Tryz.prog tb0 kn0 1000 100 (.func 8) [] (bSt [] [])
def creRunR (p : Nat) (l : List Nat) (j : Nat) : Option (Value × St) := aFunK Tryz.prog tb0 kn0 1000 100 (.func 11) [.pointer (some ⟨0, 0, none⟩), .agg #[nameV j, .slice (some ⟨(specR p l).length, 0, none⟩) (lenOf j) INF, .int .i64 (Int.ofNat (keyOf j)), .slice none 0 0]] (bSt (specR p l ++ [colB j]) (factsR p))
/-- Which blocks the result lies in. -/
def offsR (p : Nat) (l : List Nat) (j : Nat) : Nat × Nat × Nat × Nat := match l with
  | [] => (9, 17, 7, 15)
  | _ :: _ => bif Nat.beq (idxOf j (sortT p (l ++ [j])) 0) l.length then (10, 19, 8, 17) else bif Nat.beq (idxOf j (sortT p (l ++ [j])) 0) 0 then (10, 19, 7, 17) else (11, 20, 8, 18)
def baseR (l : List Nat) : Nat := match l with
  | [] => 3
  | _ :: _ => Nat.add 5 (Nat.mul 2 l.length)
def idsR (p : Nat) (l : List Nat) (j : Nat) : List Nat :=
  [0, 1, Nat.add (baseR l) (offsR p l j).1, Nat.add (baseR l) (offsR p l j).2.1] ++ upTo (Nat.mul 2 l.length) 4 ++ [Nat.add (baseR l) (offsR p l j).2.2.1, Nat.add (baseR l) (offsR p l j).2.2.2]
/-- The paths: data, catalogue, its row, the data's row. -/
def linksR (p : Nat) (l : List Nat) (j : Nat) : List (Nat × Nat × Bool) := [(0, 1, false), (1, 0, false), (Nat.add (baseR l) (offsR p l j).1, Nat.add (Nat.mul 4 (idxOf j (sortT p (l ++ [j])) 0)) 1, false), (Nat.add (baseR l) (offsR p l j).2.1, Nat.add (Nat.mul 5 l.length) 1, false)]
def creOkR (p : Nat) (pre : Bool) (k : Nat) : Bool := runCheck (creRunR p (tabsP pre k) k) (baseR (tabsP pre k)) isZero (specR p (tabsP pre k ++ [k])) (idsR p (tabsP pre k) k) noTau (linksR p (tabsP pre k) k)
end Go.Proofs.YtbjickdjkgefcaaGreatDoor
end
end
section
open Go Go.RowKit Go.Proofs.YtbjickdjkgefcaaGreatDoor.Vai
namespace Go.Proofs.YtbjickdjkgefcaaGreatDoor
set_option linter.unusedVariables false
set_option linter.unusedSimpArgs false
set_option maxRecDepth 100000
noncomputable section
/-- The eight schemas: their row, and each one's columns. -/
def specT : List BSpec := .cells 30 4 (tabCells 1 schemas) true :: colSpecs schemas
def rtabRun : Option (Value × St) := aFunK Tryz.prog tb0 kn0 1000 100 (.func 5) [] (bSt [] [])
theorem rtab_ok : runCheck rtabRun 0 (isTables 102 8) specT [102, 8, 21, 38, 45, 58, 73, 82, 101] noTau (links 102 [8, 21, 38, 45, 58, 73, 82, 101] 1) = true := by kernel_rfl
end
theorem kn0_ok (b : Base) : KnOk Tryz.prog b kn0 := ⟨fun f args orc v h => by cases h⟩
def sg (a : ByteArray) : Sig := ⟨fun _ => 0, fun _ => a⟩
def TVr (a : ByteArray) (w : World) (tb : Nat) : Prop := ∃ ts t0, Lies w specT ts (sg a) ∧ ts[0]? = some t0 ∧ t0.blk = tb
theorem rtab_any (a : ByteArray) (w : World) : Calls Tryz.prog 5 #[] w fun e w' => ∃ tb cap, e = .returned (.slice (some ⟨tb, 0, none⟩) 8 cap) ∧ TVr a w' tb ∧ Below w.heap.size w w' := by
  have h0 : Lies w [] [] (sg a) := ⟨rfl, by simp, fun k t sp h => by simp at h, fun k t h => by simp at h⟩
  refine (run_specs (b := butL w []) tb0_ok mixed (kn0_ok _) (butL_rel h0) rfl (args := []) (cargs := []) .nil (sig' := sg a) rtab_ok (fun i j h => by cases h) rfl).mono ?_
  rintro e w' ⟨ψ, u, c, ts', rfl, hu, hvr, hr, hs⟩
  have hl : ts'.length = 9 := hr.len
  obtain rfl := veq_sound _ _ hu
  cases hvr with
  | slice v o t l c c' h h1 h2 =>
    obtain ⟨q1, _⟩ := hr.at_ 0 102 (ts'[0]'(by omega)) rfl (List.getElem?_eq_getElem _)
    rw [h] at q1
    cases q1
    exact ⟨_, _, rfl, ⟨ts', _, hr.lies, List.getElem?_eq_getElem _, rfl⟩, (butL_keep hr.kept).below⟩
end Go.Proofs.YtbjickdjkgefcaaGreatDoor
end
section
open Go Go.RowKit Go.Proofs.YtbjickdjkgefcaaGreatDoor.Vai
namespace Go.Proofs.YtbjickdjkgefcaaGreatDoor
set_option linter.unusedVariables false
set_option linter.unusedSimpArgs false
theorem spec_cell {w : World} {L : List BSpec} {ts : List Tgt} {sig : Sig} (h : Lies w L ts sig) {i o : Nat} {t : Tgt} {e : TypeId} {es : Nat} {l : List Value} {ro : Bool} {val : Value} (ht : ts[i]? = some t) (hL : L[i]? = some (.cells e es l ro)) (ho : l[o]? = some val) : ∃ cv, w.cell? ⟨t.blk, o, none⟩ = some cv ∧ VR (bEmb ts sig) val cv := by
  obtain ⟨_, _, c, fr, h1, _, _, _, _, h2⟩ := h.ok i t _ ht hL
  obtain ⟨cv, h3, h4⟩ := h2 o val ho
  exact ⟨cv, by unfold World.cell?; rw [h1]; exact h3, h4⟩
theorem tab_cells (k : Nat) (hk : k < 8) : (tabCells 1 schemas)[k * 4]? = some (.string (tname k)) ∧ (tabCells 1 schemas)[k * 4 + 1]? = some (.slice (some ⟨1 + k, 0, none⟩) (lenOf k) INF) ∧ (tabCells 1 schemas)[k * 4 + 2]? = some (.int .i64 (tkey k)) ∧ (tabCells 1 schemas)[k * 4 + 3]? = some (.slice none 0 0) := by
  match k, hk with
  | 0, _ => exact ⟨rfl, rfl, rfl, rfl⟩
  | 1, _ => exact ⟨rfl, rfl, rfl, rfl⟩
  | 2, _ => exact ⟨rfl, rfl, rfl, rfl⟩
  | 3, _ => exact ⟨rfl, rfl, rfl, rfl⟩
  | 4, _ => exact ⟨rfl, rfl, rfl, rfl⟩
  | 5, _ => exact ⟨rfl, rfl, rfl, rfl⟩
  | 6, _ => exact ⟨rfl, rfl, rfl, rfl⟩
  | 7, _ => exact ⟨rfl, rfl, rfl, rfl⟩
theorem TVr.cell {a : ByteArray} {w : World} {tb : Nat} (h : TVr a w tb) (k : Nat) (hk : k < 8) : ∃ p n c, w.cell? ⟨tb, k * 4, none⟩ = some (.string (tname k)) ∧ w.cell? ⟨tb, k * 4 + 1, none⟩ = some (.slice p n c) ∧ w.cell? ⟨tb, k * 4 + 2, none⟩ = some (.int .i64 (tkey k)) ∧ w.cell? ⟨tb, k * 4 + 3, none⟩ = some (.slice none 0 0) := by
  obtain ⟨ts, t0, hL, h0, rfl⟩ := h
  obtain ⟨e0, e1, e2, e3⟩ := tab_cells k hk
  obtain ⟨c0, a0, b0⟩ := spec_cell hL h0 rfl e0
  obtain ⟨c1, a1, b1⟩ := spec_cell hL h0 rfl e1
  obtain ⟨c2, a2, b2⟩ := spec_cell hL h0 rfl e2
  obtain ⟨c3, a3, b3⟩ := spec_cell hL h0 rfl e3
  cases b0; cases b1; cases b2; cases b3
  exact ⟨_, _, _, a0, a1, a2, a3⟩
end Go.Proofs.YtbjickdjkgefcaaGreatDoor
end
section
open Go Go.RowKit Go.Proofs.YtbjickdjkgefcaaGreatDoor.Vai
namespace Go.Proofs.YtbjickdjkgefcaaGreatDoor
set_option maxRecDepth 100000
noncomputable section
/-- The same blocks, only read. -/
def lockB : BSpec → BSpec
  | .cells e es l _ => .cells e es l true
  | .obj o => .obj o
def findRun (p : Nat) (l : List Nat) (j : Nat) : Option (Value × St) := aFunK Tryz.prog tb0 kn0 1000 100 (.func 33) [.pointer (some ⟨1, 0, none⟩), nameV j] (bSt ((specR p l).map lockB) (factsR p))
def isNone141 (u : Value) : Bool := veq u (.tuple #[.agg #[.string ⟨#[]⟩, .slice none 0 0, .int .i64 0, .slice none 0 0], .int .i64 141])
def findOk (p : Nat) (l : List Nat) (j : Nat) : Bool := runCheck (findRun p l j) (specR p l).length isNone141 [] [] noTau []
def allJ (p : Nat) (l : List Nat) : Bool := findOk p l 0 && findOk p l 1 && findOk p l 2 && findOk p l 3 && findOk p l 4 && findOk p l 5 && findOk p l 6 && findOk p l 7
theorem find_f : allJ 0 [] = true := by kernel_rfl
theorem find_t0 : allJ 0 [8] = true := by kernel_rfl
theorem find_t1 : allJ 1 [8] = true := by kernel_rfl
theorem find_t2 : allJ 2 [8] = true := by kernel_rfl
theorem find_t3 : allJ 3 [8] = true := by kernel_rfl
theorem find_t4 : allJ 4 [8] = true := by kernel_rfl
theorem find_t5 : allJ 5 [8] = true := by kernel_rfl
theorem find_t6 : allJ 6 [8] = true := by kernel_rfl
theorem find_t7 : allJ 7 [8] = true := by kernel_rfl
theorem find_t8 : allJ 8 [8] = true := by kernel_rfl
end
end Go.Proofs.YtbjickdjkgefcaaGreatDoor
end
section
open Go Go.RowKit Go.Proofs.YtbjickdjkgefcaaGreatDoor.Vai
namespace Go.Proofs.YtbjickdjkgefcaaGreatDoor
set_option linter.unusedVariables false
set_option linter.unusedSimpArgs false
theorem Lies.lock {w : World} {L : List BSpec} {ts : List Tgt} {sig : Sig} (h : Lies w L ts sig) : Lies w (L.map lockB) ts sig := by
  refine ⟨by rw [List.length_map]; exact h.len, h.nodup, fun k t sp ht hsp => ?_, h.lt⟩
  rw [List.getElem?_map] at hsp
  cases hL : L[k]? with
  | none => rw [hL] at hsp; cases hsp
  | some s0 =>
    rw [hL] at hsp
    cases hsp
    have := h.ok k t s0 ht hL
    cases s0 with
    | cells e es l ro => exact ⟨fun e => (by cases e), this.2⟩
    | obj o => exact this
theorem nameV_of {j : Nat} (hj : j < 8) : nameV j = .string (tname j) := by
  unfold nameV
  cases h : Nat.beq j 8 with
  | true => have := Nat.eq_of_beq_eq_true h; omega
  | false => rfl
theorem specR_locked (p : Nat) (l : List Nat) : ∀ (k : Nat) (sp : BSpec), ((specR p l).map lockB)[k]? = some sp → sp.owned = false := by
  intro k sp h
  have hm := List.mem_of_getElem? h
  obtain ⟨s0, h1, rfl⟩ := List.mem_map.1 hm
  cases s0 with
  | cells e es l ro => rfl
  | obj o =>
    exfalso
    cases l with
    | nil => simp [specR] at h1
    | cons x l =>
      simp only [specR, List.mem_cons] at h1
      have hno : ∀ (l : List Nat), BSpec.obj o ∉ colBs l := by
        intro l
        induction l with
        | nil => simp [colBs]
        | cons y l ih => simp [colBs, colB, ih]
      rcases h1 with h1 | h1 | h1 | h1 | h1
      · cases h1
      · cases h1
      · cases h1
      · cases h1
      · exact hno _ h1
end Go.Proofs.YtbjickdjkgefcaaGreatDoor
end
section
open Go Go.RowKit Go.Proofs.YtbjickdjkgefcaaGreatDoor.Vai
noncomputable section
namespace Go.Proofs.YtbjickdjkgefcaaGreatDoor
set_option linter.unusedVariables false
set_option linter.unusedSimpArgs false
set_option maxRecDepth 100000
theorem run_lock {kn : Known} (hkn : ∀ b, KnOk Tryz.prog b kn) {f : FuncId} {w : World} {L L' : List BSpec} {ts : List Tgt} {sig : Sig} {facts : List Fact} {args cargs : List Value} {chk : Value → Bool} {ids : List Nat} {links : List (Nat × Nat × Bool)} {M d ng : Nat}
    (h : Lies w L ts sig) (hf : ∀ g ∈ facts, g.ok sig) (hro : ∀ (k : Nat) (sp : BSpec), L[k]? = some sp → sp.owned = false) (hn : ng ≤ L.length) (hng : ∀ (g : Nat) (t : Tgt), g < ng → ts[g]? = some t → t.blk = g) (ha : VRL (bEmb ts sig) args cargs)
    (hc : runCheck (aFunK Tryz.prog tb0 kn M d (.func f) args (bSt L facts ng)) L.length chk L' ids noTau links = true) :
    Calls Tryz.prog f cargs.toArray w fun e w' => ∃ ψ u c ts', e = .returned c ∧ chk u = true ∧ VR ψ u c ∧ Ran (butL w []) L L' ids ts ts' sig ψ w' ∧ ψ.sig = sig ∧ Below w.heap.size w w' := by
  have r := h.rel (b := butL w []) (orc := facts) hf (fun k t sp ht hsp ho => by rw [hro k sp hsp] at ho; cases ho)
  have r2 : Rel (butL w []) (bEmb ts sig) (bSt L facts ng) w := Rel.withNg h.len r hn hng
  refine (run_specs (b := butL w []) tb0_ok mixed (hkn _) r2 h.len ha (sig' := sig) hc (fun i j h => by cases h) rfl).mono ?_
  rintro e w' ⟨ψ, u, c, ts', rfl, hu, hvr, hr, hs⟩
  exact ⟨ψ, u, c, ts', rfl, hu, hvr, hr, hs, (butL_keep hr.kept).below⟩
theorem lies_two {w : World} {s1 s2 : BSpec} {t1 t2 : Tgt} {sig : Sig} (h1 : s1.ok (Base.free w) (bEmb [t1, t2] sig) w t1) (h2 : s2.ok (Base.free w) (bEmb [t1, t2] sig) w t2) (l1 : t1.blk < w.heap.size) (l2 : t2.blk < w.heap.size) (hne : t1.blk ≠ t2.blk) : Lies w [s1, s2] [t1, t2] sig := by
  refine ⟨rfl, by simp [hne], fun k t sp ht hsp => ?_, fun k t ht => ?_⟩
  · match k with
    | 0 => cases ht; cases hsp; exact h1
    | 1 => cases ht; cases hsp; exact h2
    | k + 2 => simp at ht
  · match k with
    | 0 => cases ht; exact l1
    | 1 => cases ht; exact l2
    | k + 2 => simp at ht
/-- A number that may be. -/
def rgV : Value := .chan (some (rc 0 5001))
def rowAbs : Nat → List Value
  | 0 => []
  | n + 1 => .int .i64 2 :: rgV :: .complex .f64 0 0 :: .string ⟨#[]⟩ :: rowAbs n
def rowB (n : Nat) : BSpec := .cells 121 4 (rowAbs n) true
theorem rowAbs_len (n : Nat) : (rowAbs n).length = n * 4 := by
  induction n with
  | zero => rfl
  | succ n ih => simp only [rowAbs, List.length_cons, ih]; omega
theorem rowAbs_vr {φ : Emb} : ∀ (l : List Int), (∀ n ∈ l, 0 ≤ n ∧ n ≤ 5001) → ∀ (o : Nat) (a : Value), (rowAbs l.length)[o]? = some a → ∃ c, (vcells l)[o]? = some c ∧ VR φ a c := by
  intro l
  induction l with
  | nil => intro _ o a h; simp [rowAbs] at h
  | cons n l ih =>
    intro h o a ho
    have hn := h n (List.mem_cons_self ..)
    simp only [List.length_cons, rowAbs, vcells] at ho ⊢
    match o with
    | 0 => simp at ho; subst ho; exact ⟨_, rfl, .int _ _⟩
    | 1 => simp at ho; subst ho; exact ⟨_, rfl, VR.range (by decide) (by decide) hn.1 hn.2⟩
    | 2 => simp at ho; subst ho; exact ⟨_, rfl, .complex _ _ _⟩
    | 3 => simp at ho; subst ho; exact ⟨_, rfl, .string _⟩
    | o + 4 =>
      simp only [List.getElem?_cons_succ] at ho ⊢
      exact ih (fun m hm => h m (List.mem_cons_of_mem _ hm)) o a ho
/-- Blocks whose cells are no addresses stand by every reading. -/
def ColAt (w : World) (c : Cols) (j : Nat) : Prop := ∃ t : Tgt, c.p = some ⟨t.blk, 0, none⟩ ∧ c.n = lenOf j ∧ 0 + c.c * t.es = t.n ∧ ∀ φ : Emb, (lockB (colB j)).ok (Base.free w) φ w t
theorem ColAt.keep {w w' : World} {c : Cols} {j : Nat} (h : ColAt w c j) (k : KT [38] w w') : ColAt w' c j := by
  obtain ⟨t, h1, h2, h3, h4⟩ := h
  refine ⟨t, h1, h2, h3, fun φ => ?_⟩
  obtain ⟨_, q2, cs, fr, q3, q4, q5, q6, q7, q8⟩ := h4 φ
  exact ⟨(fun e => by cases e), q2, cs, fr, k _ _ _ _ q3 (by simp), q4, q5, q6, q7, q8⟩
def schA (j : Nat) : Value := .agg #[.string (tname j), .slice (some ⟨0, 0, none⟩) (lenOf j) INF, .int .i64 (Int.ofNat (tkey j)), .slice none 0 0]
def fitRun (f j : Nat) : Option (Value × St) := aFunK Tryz.prog tb0 kn0 1000 100 (.func f) [schA j, .slice (some ⟨1, 0, none⟩) (lenOf j) INF] (bSt [lockB (colB j), rowB (lenOf j)] [])
def isTrue (u : Value) : Bool := veq u (.bool true)
def fitOk (j : Nat) : Bool := runCheck (fitRun 178 j) 2 isZero [] [] noTau [] && runCheck (fitRun 192 j) 2 isTrue [] [] noTau []
theorem fit0 : fitOk 0 = true := by kernel_rfl
theorem fit1 : fitOk 1 = true := by kernel_rfl
theorem fit2 : fitOk 2 = true := by kernel_rfl
theorem fit3 : fitOk 3 = true := by kernel_rfl
theorem fit4 : fitOk 4 = true := by kernel_rfl
theorem fit_all : ∀ j, j < 5 → fitOk j = true := by
  intro j hj
  match j, hj with
  | 0, _ => exact fit0
  | 1, _ => exact fit1
  | 2, _ => exact fit2
  | 3, _ => exact fit3
  | 4, _ => exact fit4
theorem lenOf_pos (j : Nat) : 0 < lenOf j := by unfold lenOf; split <;> decide
theorem schA_vr {φ : Emb} {t : Tgt} {c : Cols} {j : Nat} (h0 : φ 0 = some t) (h1 : c.p = some ⟨t.blk, 0, none⟩) (h2 : c.n = lenOf j) (h3 : 0 + c.c * t.es = t.n) (hc : c.c ≤ maxLen) : VR φ (schA j) (.agg #[.string (tname j), .slice c.p c.n c.c, .int .i64 (tkey j), .slice none 0 0]) := by
  refine .agg _ _ rfl fun i x y hx hy => ?_
  match i with
  | 0 => cases hx; cases hy; exact .string _
  | 1 =>
    cases hx; cases hy
    rw [h1, h2]
    exact .slice 0 0 t _ _ _ h0 (fun h => absurd rfl h) (fun _ => h3)
  | 2 => cases hx; cases hy; exact .int _ _
  | 3 => cases hx; cases hy; exact .snil _ _
  | i + 4 => simp at hx
theorem fit_any {J : Type} {j : Nat} (hj : j < 5) {r : List Int} (hr : r.length = lenOf j) (ha : ∀ n ∈ r, 0 ≤ n ∧ n ≤ 5001) {c : Cols} (w : World) (rv : Value) (hc : ColAt w c j) (hv : VRow w rv r) :
    (Calls Tryz.prog 178 #[.agg #[.string (tname j), .slice c.p c.n c.c, .int .i64 (tkey j), .slice none 0 0], rv] w fun e w' => e = .returned (.int .i64 0) ∧ Below w.heap.size w w') ∧
    (Calls Tryz.prog 192 #[.agg #[.string (tname j), .slice c.p c.n c.c, .int .i64 (tkey j), .slice none 0 0], rv] w fun e w' => e = .returned (.bool true) ∧ Below w.heap.size w w') := by
  obtain ⟨t, h1, h2, h3, h4⟩ := hc
  have hk := fit_all j hj
  unfold fitOk at hk
  rw [Bool.and_eq_true] at hk
  obtain ⟨hne, ho⟩ := hv
  have hpos : 0 < r.length := by rw [hr]; exact lenOf_pos j
  rcases ho.2 with ⟨_, e0⟩ | ⟨g, cap, cur, rfl, _, hg, g1, g2, g3, g4⟩
  · omega
  obtain ⟨_, q2, cs, fr, q3, q4, q5, q6, q7, q8⟩ := h4 (bEmb [t, ⟨g, cap * 4, 4⟩] (sg ⟨#[]⟩))
  have hneq : t.blk ≠ g := fun e => by rw [e, hg] at q3; cases q3
  have hL : Lies w [lockB (colB j), rowB (lenOf j)] [t, ⟨g, cap * 4, 4⟩] (sg ⟨#[]⟩) := by
    refine lies_two (h4 _) ⟨(fun e => by cases e), rfl, cur, (0, 0), hg, rfl, Nat.zero_le _, g3, ?_, ?_⟩ (lt_of_heap q3) (lt_of_heap hg) hneq
    · rw [rowAbs_len, ← hr]; show r.length * 4 ≤ cap * 4; omega
    · intro o val hov
      rw [← hr] at hov
      obtain ⟨cv, e1, e2⟩ := rowAbs_vr (φ := bEmb [t, ⟨g, cap * 4, 4⟩] (sg ⟨#[]⟩)) r ha o val hov
      refine ⟨cv, ?_, e2⟩
      rw [← g4, List.getElem?_take] at e1
      split at e1
      · simpa using e1
      · cases e1
  have hargs : VRL (bEmb [t, ⟨g, cap * 4, 4⟩] (sg ⟨#[]⟩)) [schA j, .slice (some ⟨1, 0, none⟩) (lenOf j) INF] [.agg #[.string (tname j), .slice c.p c.n c.c, .int .i64 (tkey j), .slice none 0 0], .slice (some ⟨g, 0, none⟩) r.length cap] := by
    refine .cons _ _ _ _ ?_ (.cons _ _ _ _ ?_ .nil)
    · refine .agg _ _ rfl fun i x y hx hy => ?_
      match i with
      | 0 => cases hx; cases hy; exact .string _
      | 1 =>
        cases hx; cases hy
        rw [h1, h2]
        exact .slice 0 0 t _ _ _ rfl (fun h => absurd rfl h) (fun _ => h3)
      | 2 => cases hx; cases hy; exact .int _ _
      | 3 => cases hx; cases hy; exact .snil _ _
      | i + 4 => simp at hx
    · rw [hr]
      exact .slice 1 0 ⟨g, cap * 4, 4⟩ _ _ _ rfl (fun h => absurd rfl h) (fun _ => by show 0 + cap * 4 = cap * 4; omega)
  have hro : ∀ (k : Nat) (sp : BSpec), [lockB (colB j), rowB (lenOf j)][k]? = some sp → sp.owned = false := by
    intro k sp h
    match k with
    | 0 => cases h; rfl
    | 1 => cases h; rfl
    | k + 2 => simp at h
  constructor
  · refine (run_lock (L := [lockB (colB j), rowB (lenOf j)]) kn0_ok hL (facts := []) (fun g h => by cases h) hro (Nat.zero_le _) (fun g t h => absurd h (Nat.not_lt_zero _)) hargs (ng := 0) hk.1).mono ?_
    rintro e w' ⟨ψ, u, c, ts', rfl, hu, hvr, _, _, hb⟩
    obtain rfl := veq_sound _ _ hu
    cases hvr
    exact ⟨rfl, hb⟩
  · refine (run_lock (L := [lockB (colB j), rowB (lenOf j)]) kn0_ok hL (facts := []) (fun g h => by cases h) hro (Nat.zero_le _) (fun g t h => absurd h (Nat.not_lt_zero _)) hargs (ng := 0) hk.2).mono ?_
    rintro e w' ⟨ψ, u, c, ts', rfl, hu, hvr, _, _, hb⟩
    obtain rfl := veq_sound _ _ hu
    cases hvr
    exact ⟨rfl, hb⟩
end Go.Proofs.YtbjickdjkgefcaaGreatDoor
end
end
