import Derived.Test.YtcmlomjdkjcjpaaGreatDoorRA
import Derived.Test.YtcmlomjdkjcjpaaGreatDoorVaiB2
import Derived.Deep.QuietTactic
import Derived.BigQuiet
import Derived.Test.YtcmlomjdkjcjpaaGreatDoorVaiB4
open Go Go.RowKit Go.Proofs.YtcmlomjdkjcjpaaGreatDoor.Vai
namespace Go.Proofs.YtcmlomjdkjcjpaaGreatDoor
set_option linter.unusedVariables false
set_option linter.unusedSimpArgs false
/-- A value of a whole number. -/
def iv (x : Value) : Value := .agg #[.int .i64 2, x, .complex .f64 0 0, .string ⟨#[]⟩]
def findAdd (i j : Nat) : List Fact → Option Nat
  | [] => none
  | .add a b k :: l => bif Nat.beq a i && Nat.beq b j then some k else findAdd i j l
  | _ :: l => findAdd i j l
def findOvf (i j : Nat) : List Fact → Bool
  | [] => false
  | .ovf a b :: l => bif Nat.beq a i && Nat.beq b j then true else findOvf i j l
  | _ :: l => findOvf i j l
def isWord (i : Nat) (orc : List Fact) : Bool := (match findLt i (-9223372036854775808) orc with | some b => !b | none => false) && (match findLt i 9223372036854775808 orc with | some b => b | none => false)
def wordF (i : Nat) : List Fact := [.lt i (-9223372036854775808) false, .lt i 9223372036854775808 true]
/-- value.Add of two whole numbers. -/
def knAdd : Known := fun f args orc => bif Nat.beq f 59 then (match args with
  | [.agg ⟨[.int .i64 2, .chan (some c), .complex .f64 0 0, .string ⟨⟨[]⟩⟩]⟩, .agg ⟨[.int .i64 2, .chan (some d), .complex .f64 0 0, .string ⟨⟨[]⟩⟩]⟩] => match decSy c, decSy d with
    | .atom i, .atom j => bif isWord i orc && isWord j orc then match findAdd i j orc with
      | some k => some (.tuple #[iv (atomV k), .int .i64 0])
      | none => bif findOvf i j orc then some (.tuple #[.agg #[.int .i64 0, .int .i64 0, .complex .f64 0 0, .string ⟨#[]⟩], .int .i64 1]) else none
      else none
    | _, _ => none
  | _ => none) else none
def keyB : Value := .string ⟨#[3, 128, 0, 0, 0, 0, 0, 0, 7]⟩
def tabV (be : Value) : Value := .agg #[.string ⟨#[116]⟩, .slice (some ⟨2, 0, none⟩) 2 INF, .int .i64 1, .slice none 0 0, be]
/-- The data, of one row: 0 the data, 1 a key, 2 the columns, 3 the entries, 4 the row, 5 the tables. -/
def spec (x : Value) : List BSpec := [
  .cells 57 2 [topV, .map (some 5)] true,
  .cells 36 4 [.int .i64 2, .int .i64 7, .complex .f64 0 0, .string ⟨#[]⟩] true,
  .cells 25 2 [.string ⟨#[97]⟩, .int .i64 2, .string ⟨#[98]⟩, .int .i64 2] true,
  .cells 84 2 [keyB, .slice (some ⟨4, 0, none⟩) 2 INF] true,
  .cells 36 4 [.int .i64 2, .int .i64 7, .complex .f64 0 0, .string ⟨#[]⟩, .int .i64 2, x, .complex .f64 0 0, .string ⟨#[]⟩] true,
  .obj (.map [⟨.string ⟨#[116]⟩, tabV (.slice (some ⟨3, 0, none⟩) 1 INF), 0⟩] 1)]
def opA (x : Value) : Value := .agg #[.int .i64 7, .string ⟨#[116]⟩, .slice (some ⟨1, 0, none⟩) 1 1, .slice none 0 0, .slice none 0 0, .string ⟨#[]⟩, .int .i64 1, x, .int .i64 0]
noncomputable def doFit : Option (Value × St) := aFunK Tryz.prog tb0 knAdd 1000 100 (.func 16) [.pointer (some ⟨0, 0, none⟩), opA (atomV 1)] (bSt (spec (atomV 0)) (.add 0 1 2 :: wordF 0 ++ wordF 1))
noncomputable def doOvf : Option (Value × St) := aFunK Tryz.prog tb0 knAdd 1000 100 (.func 16) [.pointer (some ⟨0, 0, none⟩), opA (atomV 1)] (bSt (spec (atomV 0)) (.ovf 0 1 :: wordF 0 ++ wordF 1))
end Go.Proofs.YtcmlomjdkjcjpaaGreatDoor

open Go Go.RowKit Go.Proofs.YtcmlomjdkjcjpaaGreatDoor.Vai
namespace Go.Proofs.YtcmlomjdkjcjpaaGreatDoor
set_option linter.unusedVariables false
set_option linter.unusedSimpArgs false
set_option maxRecDepth 100000
theorem ivt (x : Int) (φ : Emb) : VR φ (iv topV) (.agg #[.int .i64 2, .int .i64 x, .complex .f64 0 0, .string ⟨#[]⟩]) := by
  refine .agg _ _ rfl fun i a c ha hc => ?_
  match i, ha, hc with
  | 0, ha, hc => cases ha; cases hc; exact .int _ _
  | 1, ha, hc => cases ha; cases hc; exact VR.topV rfl
  | 2, ha, hc => cases ha; cases hc; exact .complex _ _ _
  | 3, ha, hc => cases ha; cases hc; exact .string _
theorem numbers_any (a k : Int) (w : World) : Calls Tryz.prog 72 #[.agg #[.int .i64 2, .int .i64 a, .complex .f64 0 0, .string ⟨#[]⟩], .agg #[.int .i64 2, .int .i64 k, .complex .f64 0 0, .string ⟨#[]⟩]] w fun e w' => e = .returned (.int .i64 0) ∧ Below w.heap.size w w' :=
  calls_of_run tb0_ok mixed (rel0 w (fun _ => 0)) (L := 1000) (d := 100) (args := [iv topV, iv topV]) (cargs := [_, _]) (.cons _ _ _ _ (ivt a _) (.cons _ _ _ _ (ivt k _) .nil)) rfl (by kernel_rfl)
theorem bcell {W w1 : World} (hb : Below W.heap.size W w1) : (∀ b o, b < W.heap.size → w1.cell? ⟨b, o, none⟩ = W.cell? ⟨b, o, none⟩) ∧ (∀ b o, b < W.heap.size → w1.frozen? ⟨b, o, none⟩ = W.frozen? ⟨b, o, none⟩) :=
  ⟨fun b o h => hb.cell (p := ⟨b, o, none⟩) h, fun b o h => hb.frozen (p := ⟨b, o, none⟩) h⟩
theorem store_c0 (w : World) (a : Addr) (x y : Nat) : (store a (.complex .f64 x y)).run Tryz.prog w = match w.cell? a with
      | some _ => if w.frozen? a then .halt (.unsupported (.unsafePointer "a write to bytes that a string shares")) w else .ok () (w.setCell a (.complex .f64 x y))
      | none => match w.farStore Tryz.prog a (.complex .f64 x y) (Mode.plain == .atomic) with
        | .ok (w', _) => .ok () w'
        | .error h => .halt h w := run_store _ _ _ _ _ rfl
theorem below4 {w w1 : World} {o1 o2 o3 : Obj} (hb : Below (((w.alloc o1).alloc o2).alloc o3).heap.size (((w.alloc o1).alloc o2).alloc o3) w1) (a b c d : Value) {i j k l : Nat} :
    Below w.heap.size w ((((w1.setCell ⟨w.heap.size + 1 + 1, i, none⟩ a).setCell ⟨w.heap.size + 1 + 1, j, none⟩ b).setCell ⟨w.heap.size + 1 + 1, k, none⟩ c).setCell ⟨w.heap.size + 1 + 1, l, none⟩ d) := by
  have h1 : Below w.heap.size w w1 := ((((Below.refl _ _).alloc (Nat.le_refl _) o1).alloc (by simp) o2).alloc (by simp; omega) o3).trans (hb.mono (by simp; omega))
  exact (((h1.setCell (by simp; omega) a).setCell (by simp; omega) b).setCell (by simp; omega) c).setCell (by simp; omega) d
theorem add_fit (a k s : Int) (w : World) (h1 : wrap64 (a + k) = s) (hd : (decide (a < s) != decide (0 < k)) = false) :
    Calls Tryz.prog 59 #[.agg #[.int .i64 2, .int .i64 a, .complex .f64 0 0, .string ⟨#[]⟩], .agg #[.int .i64 2, .int .i64 k, .complex .f64 0 0, .string ⟨#[]⟩]] w fun e w' => e = .returned (.tuple #[.agg #[.int .i64 2, .int .i64 s, .complex .f64 0 0, .string ⟨#[]⟩], .int .i64 0]) ∧ Below w.heap.size w w' := by
  have hst := fun w a => store_c0 w a 0 0
  go_enter Tryz.func59, Tryz.ntmps59
  go_wp2_with (first
    | (go_at_call 72; refine (numbers_any _ _ _).mono ?_; rintro e w1 ⟨rfl, hb⟩
       obtain ⟨hc, hf⟩ := bcell hb
       have hz : w.heap.size + 1 + 1 < w1.heap.size := by have := hb.size; simp at this; omega))
  all_goals first
    | (exfalso; clear hst; by_cases q1 : a < s <;> by_cases q2 : 0 < k <;> simp_all; done)
    | exact bodyPost_ret (v := .tuple #[.agg #[.int .i64 2, .int .i64 s, .complex .f64 0 0, .string ⟨#[]⟩], .int .i64 0]) (by simp [results, Tryz.results59, go_sem, hc, hf, hz]) rfl ⟨rfl, below4 hb _ _ _ _⟩
theorem add_ovf (a k s : Int) (w : World) (h1 : wrap64 (a + k) = s) (hd : (decide (a < s) != decide (0 < k)) = true) (hk : ((k : Int) != 0) = true) (hk2 : ((k : Int) == 0) = false) :
    Calls Tryz.prog 59 #[.agg #[.int .i64 2, .int .i64 a, .complex .f64 0 0, .string ⟨#[]⟩], .agg #[.int .i64 2, .int .i64 k, .complex .f64 0 0, .string ⟨#[]⟩]] w fun e w' => e = .returned (.tuple #[.agg #[.int .i64 0, .int .i64 0, .complex .f64 0 0, .string ⟨#[]⟩], .int .i64 1]) ∧ Below w.heap.size w w' := by
  have hst := fun w a => store_c0 w a 0 0
  go_enter Tryz.func59, Tryz.ntmps59
  go_wp2_with (first
    | (go_at_call 72; refine (numbers_any _ _ _).mono ?_; rintro e w1 ⟨rfl, hb⟩
       obtain ⟨hc, hf⟩ := bcell hb
       have hz : w.heap.size + 1 + 1 < w1.heap.size := by have := hb.size; simp at this; omega))
  all_goals first
    | (exfalso; clear hst; by_cases q1 : a < s <;> by_cases q2 : 0 < k <;> simp_all; done)
    | exact bodyPost_ret (v := .tuple #[.agg #[.int .i64 0, .int .i64 0, .complex .f64 0 0, .string ⟨#[]⟩], .int .i64 1]) (by simp [results, Tryz.results59, go_sem, hc, hf, hz]) rfl ⟨rfl, below4 hb _ _ _ _⟩
theorem wrap_in {x : Int} (h1 : -9223372036854775808 ≤ x) (h2 : x ≤ 9223372036854775807) : wrap64 x = x := by
  unfold wrap64; omega
theorem add_any (a k : Int) (w : World) (ha1 : -9223372036854775808 ≤ a) (ha2 : a ≤ 9223372036854775807) (hk1 : -9223372036854775808 ≤ k) (hk2 : k ≤ 9223372036854775807) :
    Calls Tryz.prog 59 #[.agg #[.int .i64 2, .int .i64 a, .complex .f64 0 0, .string ⟨#[]⟩], .agg #[.int .i64 2, .int .i64 k, .complex .f64 0 0, .string ⟨#[]⟩]] w fun e w' =>
      ((-9223372036854775808 ≤ a + k ∧ a + k ≤ 9223372036854775807) → e = .returned (.tuple #[.agg #[.int .i64 2, .int .i64 (a + k), .complex .f64 0 0, .string ⟨#[]⟩], .int .i64 0])) ∧
      (¬ (-9223372036854775808 ≤ a + k ∧ a + k ≤ 9223372036854775807) → e = .returned (.tuple #[.agg #[.int .i64 0, .int .i64 0, .complex .f64 0 0, .string ⟨#[]⟩], .int .i64 1])) ∧ Below w.heap.size w w' := by
  by_cases h : -9223372036854775808 ≤ a + k ∧ a + k ≤ 9223372036854775807
  · refine (add_fit a k (a + k) w (wrap_in h.1 h.2) ?_).mono fun e w' ⟨h1, h2⟩ => ⟨fun _ => h1, fun hn => absurd h hn, h2⟩
    by_cases hp : 0 < k
    · rw [decide_eq_true hp, decide_eq_true (show a < a + k by omega)]; rfl
    · rw [decide_eq_false hp, decide_eq_false (show ¬ a < a + k by omega)]; rfl
  · have e0 : wrap64 (a + k) = (a + k + 9223372036854775808) % 18446744073709551616 - 9223372036854775808 := by unfold wrap64; rfl
    have hk0 : k ≠ 0 := by omega
    refine (add_ovf a k _ w rfl ?_ (by simpa using hk0) (by simpa using hk0)).mono fun e w' ⟨h1, h2⟩ => ⟨fun hy => absurd hy h, fun _ => h1, h2⟩
    rw [e0]
    by_cases hp : 0 < k
    · rw [decide_eq_true hp, decide_eq_false (by omega)]; rfl
    · rw [decide_eq_false hp, decide_eq_true (by omega)]; rfl
end Go.Proofs.YtcmlomjdkjcjpaaGreatDoor

open Go Go.RowKit Go.Proofs.YtcmlomjdkjcjpaaGreatDoor.Vai
namespace Go.Proofs.YtcmlomjdkjcjpaaGreatDoor
set_option linter.unusedVariables false
set_option linter.unusedSimpArgs false
set_option maxRecDepth 100000
/-- What is known of value.Add holds, if the atoms are numbers of eight bytes. -/
theorem findAdd_mem {i j k : Nat} : ∀ {l : List Fact}, findAdd i j l = some k → Fact.add i j k ∈ l := by
  intro l
  induction l with
  | nil => intro h; cases h
  | cons f l ih =>
    intro h
    cases f with
    | add a b c =>
      simp only [findAdd] at h
      cases hb : (Nat.beq a i && Nat.beq b j) with
      | true =>
        rw [hb] at h; cases h
        rw [Bool.and_eq_true] at hb
        rw [Nat.eq_of_beq_eq_true hb.1, Nat.eq_of_beq_eq_true hb.2]
        exact List.mem_cons_self ..
      | false => rw [hb] at h; exact List.mem_cons_of_mem _ (ih h)
    | _ => exact List.mem_cons_of_mem _ (ih h)
theorem findOvf_mem {i j : Nat} : ∀ {l : List Fact}, findOvf i j l = true → Fact.ovf i j ∈ l := by
  intro l
  induction l with
  | nil => intro h; cases h
  | cons f l ih =>
    intro h
    cases f with
    | ovf a b =>
      simp only [findOvf] at h
      cases hb : (Nat.beq a i && Nat.beq b j) with
      | true =>
        rw [Bool.and_eq_true] at hb
        rw [Nat.eq_of_beq_eq_true hb.1, Nat.eq_of_beq_eq_true hb.2]
        exact List.mem_cons_self ..
      | false => rw [hb] at h; exact List.mem_cons_of_mem _ (ih h)
    | _ => exact List.mem_cons_of_mem _ (ih h)
def word (x : Int) : Prop := -9223372036854775808 ≤ x ∧ x ≤ 9223372036854775807
theorem atom_dec (k : Nat) : decSy (Nat.add (Nat.mul 32 k) 31) = .atom k := by
  unfold decSy
  have e1 : Nat.mod (Nat.add (Nat.mul 32 k) 31) 2 = 1 := (by omega : (32 * k + 31) % 2 = 1)
  have e2 : Nat.mod (Nat.div (Nat.add (Nat.mul 32 k) 31) 2) 16 = 15 := (by omega : (32 * k + 31) / 2 % 16 = 15)
  have e3 : Nat.div (Nat.add (Nat.mul 32 k) 31) 32 = k := (by omega : (32 * k + 31) / 32 = k)
  rw [e1, e2, e3]; rfl
theorem VR.atom {φ : Emb} {k : Nat} : VR φ (atomV k) (.int .i64 (φ.sig k)) := .sy _ _ _ (by rw [atom_dec]; exact ⟨rfl, rfl⟩)
theorem iv_rel {φ : Emb} {x c : Value} (h : VR φ x c) : VR φ (iv x) (.agg #[.int .i64 2, c, .complex .f64 0 0, .string ⟨#[]⟩]) := by
  refine .agg _ _ rfl fun i a c' ha hc => ?_
  match i, ha, hc with
  | 0, ha, hc => cases ha; cases hc; exact .int _ _
  | 1, ha, hc => cases ha; cases hc; exact h
  | 2, ha, hc => cases ha; cases hc; exact .complex _ _ _
  | 3, ha, hc => cases ha; cases hc; exact .string _
theorem iv_inv {φ : Emb} {c0 : Nat} {i : Nat} (hi : decSy c0 = .atom i) {c : Value} (h : VR φ (.agg ⟨[.int .i64 2, .chan (some c0), .complex .f64 0 0, .string ⟨⟨[]⟩⟩]⟩) c) : c = .agg #[.int .i64 2, .int .i64 (φ.sig i), .complex .f64 0 0, .string ⟨#[]⟩] := by
  obtain ⟨cs, rfl, hc⟩ := h.agg_inv
  obtain ⟨c⟩ := cs
  have r := hc.list
  cases r with
  | cons _ a1 _ m1 r1 r =>
  cases r with
  | cons _ a2 _ m2 r2 r =>
  cases r with
  | cons _ a3 _ m3 r3 r =>
  cases r with
  | cons _ a4 _ m4 r4 r =>
  cases r
  cases r1; cases r3; cases r4
  cases r2 with
  | top _ _ ht _ => rw [hi] at ht; cases ht
  | sy _ k n hn =>
    rw [hi] at hn
    obtain ⟨rfl, rfl⟩ := hn
    rfl
theorem tup2 {φ : Emb} {a b c d : Value} (h1 : VR φ a c) (h2 : VR φ b d) : VR φ (.tuple #[a, b]) (.tuple #[c, d]) := by
  refine .tuple _ _ rfl fun i x y hx hy => ?_
  match i, hx, hy with
  | 0, hx, hy => cases hx; cases hy; exact h1
  | 1, hx, hy => cases hx; cases hy; exact h2
theorem isWord_ok {sig : Nat → Int} {i : Nat} {orc : List Fact} (ho : ∀ f ∈ orc, f.ok sig) (h : isWord i orc = true) : word (sig i) := by
  unfold isWord at h
  rw [Bool.and_eq_true] at h
  obtain ⟨h1, h2⟩ := h
  split at h1
  · rename_i b hb
    split at h2
    · rename_i c hc
      have k1 := findLt_sound _ ho hb
      have k2 := findLt_sound _ ho hc
      rw [h2] at k2
      rw [Bool.not_eq_true'] at h1
      rw [h1] at k1
      have k1 := of_decide_eq_false k1
      have k2 := of_decide_eq_true k2
      exact ⟨by omega, by omega⟩
    · cases h2
  · cases h1
theorem wordF_ok {sig : Nat → Int} {i : Nat} (h : word (sig i)) : ∀ f ∈ wordF i, f.ok sig := by
  intro f hf
  obtain ⟨h1, h2⟩ := h
  rcases List.mem_cons.1 hf with rfl | hf
  · exact decide_eq_false (by omega)
  · rcases List.mem_cons.1 hf with rfl | hf
    · exact decide_eq_true (by omega)
    · cases hf
theorem knAdd_ok {b : Base} : KnOk Tryz.prog b knAdd := by
  refine ⟨fun f args orc v h φ w cargs ho hk hargs => ?_⟩
  unfold knAdd at h
  cases hf : Nat.beq f 59 with
  | false => rw [hf] at h; cases h
  | true =>
    obtain rfl := Nat.eq_of_beq_eq_true hf
    rw [hf, cond_true] at h
    split at h
    · rename_i c d
      split at h
      · rename_i i j hi hj
        cases hw : (isWord i orc && isWord j orc) with
        | false => rw [hw] at h; cases h
        | true =>
          rw [hw, cond_true] at h
          rw [Bool.and_eq_true] at hw
          obtain ⟨a1, a2⟩ := isWord_ok ho hw.1
          obtain ⟨b1, b2⟩ := isWord_ok ho hw.2
          cases hargs with
          | cons _ x1 _ m1 r1 hargs =>
          cases hargs with
          | cons _ x2 _ m2 r2 hargs =>
          cases hargs
          rw [iv_inv hi r1, iv_inv hj r2]
          have K := add_any (φ.sig i) (φ.sig j) w a1 a2 b1 b2
          split at h
          · rename_i k hk
            cases h
            obtain ⟨e1, e2, e3⟩ := ho _ (findAdd_mem hk)
            refine K.mono fun e w' ⟨q1, q2, q3⟩ => ⟨_, q1 ⟨by omega, by omega⟩, ?_, q3⟩
            rw [← e1]
            exact tup2 (iv_rel VR.atom) (.int _ _)
          · cases hv : findOvf i j orc with
            | false => rw [hv] at h; cases h
            | true =>
              rw [hv] at h
              cases h
              have e1 := ho _ (findOvf_mem hv)
              refine K.mono fun e w' ⟨q1, q2, q3⟩ => ⟨_, q2 e1, VR.of_plain φ _ (by rfl), q3⟩
      · cases h
    · cases h
end Go.Proofs.YtcmlomjdkjcjpaaGreatDoor
