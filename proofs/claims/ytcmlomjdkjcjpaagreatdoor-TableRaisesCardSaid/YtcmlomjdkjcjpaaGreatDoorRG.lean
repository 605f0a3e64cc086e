import Derived.Test.YtcmlomjdkjcjpaaGreatDoorRE
import Derived.Test.YtcmlomjdkjcjpaaGreatDoorVaiB5
import Derived.Test.YtcmlomjdkjcjpaaGreatDoorVaiB6
open Go Go.RowKit Go.Proofs.YtcmlomjdkjcjpaaGreatDoor.Vai
namespace Go.Proofs.YtcmlomjdkjcjpaaGreatDoor
set_option linter.unusedVariables false
set_option linter.unusedSimpArgs false
set_option maxRecDepth 100000
def colsB : BSpec := .cells 25 2 [.string ⟨#[97]⟩, .int .i64 2, .string ⟨#[98]⟩, .int .i64 2] true
def specNew : List BSpec := [.cells 57 2 [.pointer (some ⟨1, 0, none⟩), .map (some 3)] true, .cells 73 1 [.map (some 2)] true, .obj (.map [] 0), .obj (.map [] 0)]
def tabEV : Value := .agg #[.string ⟨#[116]⟩, .slice (some ⟨1, 0, none⟩) 2 INF, .int .i64 1, .slice none 0 0, .slice none 0 0]
def specEmpty : List BSpec := [.cells 57 2 [topV, .map (some 2)] true, colsB, .obj (.map [⟨.string ⟨#[116]⟩, tabEV, 0⟩] 1)]
def keyS : BSpec := .cells 36 4 [.int .i64 2, .int .i64 7, .complex .f64 0 0, .string ⟨#[]⟩] true
def rowS (x : Value) : BSpec := .cells 36 4 [.int .i64 2, .int .i64 7, .complex .f64 0 0, .string ⟨#[]⟩, .int .i64 2, x, .complex .f64 0 0, .string ⟨#[]⟩] true
def opP (r : Nat) : List Value := [.int .i64 2, .string ⟨#[116]⟩, .slice none 0 0, .slice none 0 0, .slice (some ⟨r, 0, none⟩) 2 2, .string ⟨#[]⟩, .int .i64 0, .int .i64 0, .int .i64 0]
def specPut : List BSpec := specEmpty ++ [keyS, rowS (atomV 0), .cells 39 9 (opP 4) true]
def specRows (x : Value) : List BSpec := [.cells 37 1 [.slice (some ⟨1, 0, none⟩) 2 INF] true, rowS x]
def specTwo (x : Value) : List BSpec := [.cells 37 1 [.slice (some ⟨1, 0, none⟩) 2 INF] true, rowS x, .cells 37 1 [.slice (some ⟨3, 0, none⟩) 2 INF] true, rowS x]
noncomputable def rNew := aFunK Tryz.prog tb0 knAdd 1000 100 (.func 5) [] (bSt [] [])
noncomputable def rCre := aFunK Tryz.prog tb0 knAdd 1000 100 (.func 6) [.pointer (some ⟨0, 0, none⟩), .agg #[.string ⟨#[116]⟩, .slice (some ⟨4, 0, none⟩) 2 2, .int .i64 1, .slice none 0 0]] (bSt (specNew ++ [colsB]) [])
noncomputable def rPut := aFunK Tryz.prog tb0 knAdd 1000 100 (.func 7) [.pointer (some ⟨0, 0, none⟩), .slice (some ⟨5, 0, none⟩) 1 1] (bSt specPut [])
noncomputable def rRows := aFunK Tryz.prog tb0 knAdd 1000 100 (.func 8) [.pointer (some ⟨0, 0, none⟩), .string ⟨#[116]⟩] (bSt (spec (atomV 0)) [])
noncomputable def rSame := aFunK Tryz.prog tb0 knAdd 1000 100 (.func 9) [.slice (some ⟨0, 0, none⟩) 1 INF, .slice (some ⟨2, 0, none⟩) 1 INF] (bSt (specTwo (atomV 0)) [])
end Go.Proofs.YtcmlomjdkjcjpaaGreatDoor

open Go Go.RowKit Go.Proofs.YtcmlomjdkjcjpaaGreatDoor.Vai
namespace Go.Proofs.YtcmlomjdkjcjpaaGreatDoor
set_option linter.unusedVariables false
set_option linter.unusedSimpArgs false
set_option maxRecDepth 100000
def isPtr (u : Value) : Bool := match u with | .pointer (some ⟨3, 0, none⟩) => true | _ => false
def noTau (i : Nat) : Option Nat := none
theorem new_ok : runCheck rNew 0 isPtr specNew [3, 1, 0, 2] noTau [(3, 0, false), (3, 1, false), (1, 0, false)] = true := by kernel_rfl
def isZero (u : Value) : Bool := veq u (.int .i64 0)
theorem cre_ok : runCheck rCre (specNew ++ [colsB]).length isZero specEmpty [0, 30, 3] noTau [(3, 0, true)] = true := by kernel_rfl
def isDone (u : Value) : Bool := match u with | .tuple ⟨[.slice _ _ _, a, b]⟩ => veq a (.bool true) && veq b (.int .i64 0) | _ => false
theorem put_ok : runCheck rPut specPut.length isDone (spec (atomV 0)) [0, 3, 1, 68, 65, 2] (tau 0) [(2, 0, true), (68, 1, false)] = true := by kernel_rfl
def isRows (u : Value) : Bool := match u with | .tuple ⟨[.slice (some ⟨13, 0, none⟩) 1 cc, b]⟩ => veq b (.int .i64 0) && Nat.beq cc INF | _ => false
def specBoth : List BSpec := spec (atomV 0) ++ [.cells 37 1 [.slice (some ⟨7, 0, none⟩) 2 INF] true, rowS (atomV 0)]
theorem rows_ok : runCheck rRows (spec (atomV 0)).length isRows specBoth [0, 1, 2, 3, 4, 5, 13, 11] (tau 0) [(13, 0, false)] = true := by kernel_rfl
def isTrue (u : Value) : Bool := veq u (.bool true)
theorem same_ok : runCheck rSame (specTwo (atomV 0)).length isTrue [] [] (tau 0) [] = true := by kernel_rfl

theorem new_any (w : World) : Calls Tryz.prog 5 #[] w fun e w' => ∃ d ts, e = .returned (.pointer (some ⟨d, 0, none⟩)) ∧ Lies w' specNew ts (fun _ => 0) ∧ ts.head?.map (·.blk) = some d ∧ (∀ x ∈ ts.map (·.blk), w.heap.size ≤ x) ∧ Below w.heap.size w w' := by
  have h0 : Lies w [] [] (fun _ => 0) := ⟨rfl, by simp, fun k t sp h => by simp at h, fun k t h => by simp at h⟩
  refine (run_specs (b := butL w []) tb0_ok mixed knAdd_ok (butL_rel h0) rfl (args := []) (cargs := []) .nil (sig' := fun _ => 0) new_ok (fun i j h => by cases h)).mono ?_
  rintro e w' ⟨ψ, u, c, ts', rfl, hu, hvr, hr, hs⟩
  have hl : ts'.length = 4 := hr.len
  unfold isPtr at hu
  split at hu
  · cases hvr with
    | ptr _ _ t ht =>
      obtain ⟨h1, _⟩ := hr.at_ 0 3 (ts'[0]'(by omega)) rfl (List.getElem?_eq_getElem _)
      rw [ht] at h1
      cases h1
      refine ⟨ts'[0].blk, ts', rfl, hr.lies, ?_, fun x hx => ?_, (butL_keep hr.kept).below⟩
      · rw [List.head?_eq_getElem?, List.getElem?_eq_getElem (by omega)]; rfl
      · rcases hr.from_ (ts := []) rfl x hx with h | h
        · simp at h
        · exact h
  · cases hu
def colsCells : Array Value := #[.string ⟨#[97]⟩, .int .i64 2, .string ⟨#[98]⟩, .int .i64 2]
theorem colsB_ok {φ : Emb} {w : World} {c : Nat} (h : w.heap[c]? = some (.cells colsCells 25 (0, 0))) : colsB.ok (Base.free w) φ w ⟨c, 4, 2⟩ := by
  refine ⟨fun _ h => h, rfl, colsCells, (0, 0), h, rfl, Nat.zero_le _, rfl, Nat.le_refl _, fun o val ho => ?_⟩
  match o, ho with
  | 0, ho => cases ho; exact ⟨_, rfl, .string _⟩
  | 1, ho => cases ho; exact ⟨_, rfl, .int _ _⟩
  | 2, ho => cases ho; exact ⟨_, rfl, .string _⟩
  | 3, ho => cases ho; exact ⟨_, rfl, .int _ _⟩
  | _ + 4, ho => cases ho
theorem create_any {w : World} {d c : Nat} {ts : List Tgt} (h : Lies w specNew ts (fun _ => 0)) (hd : ts.head?.map (·.blk) = some d) (hc : w.heap[c]? = some (.cells colsCells 25 (0, 0))) (hn : c ∉ ts.map (·.blk)) :
    Calls Tryz.prog 6 #[.pointer (some ⟨d, 0, none⟩), .agg #[.string ⟨#[116]⟩, .slice (some ⟨c, 0, none⟩) 2 2, .int .i64 1, .slice none 0 0]] w fun e w' => ∃ ts', e = .returned (.int .i64 0) ∧ Lies w' specEmpty ts' (fun _ => 0) ∧ ts'.head?.map (·.blk) = some d ∧
      (∀ x ∈ ts'.map (·.blk), x ∈ ts.map (·.blk) ∨ w.heap.size ≤ x) ∧ KeepL (ts.map (·.blk)) w w' := by
  obtain ⟨t0, ht0, rfl⟩ := head_of hd
  have hcl : c < w.heap.size := (Array.getElem?_eq_some_iff.1 hc).1
  have h2 := h.snoc (t := ⟨c, 4, 2⟩) (colsB_ok hc) hn hcl
  have hlen : ts.length = 4 := h.len
  have r := h2.rel (b := butL w (ts.map (·.blk))) (orc := []) (fun f hf => by cases hf) (fun k t sp ht hsp hown hK => by
    by_cases e : k < 4
    · rw [List.getElem?_append_left (by omega)] at ht
      exact hK.2 (List.mem_map.2 ⟨t, List.mem_of_getElem? ht, rfl⟩)
    · rw [List.getElem?_append_right (by simp [specNew]; omega)] at hsp
      have hk := (List.getElem?_eq_some_iff.1 hsp).1
      simp at hk
      rw [show k - specNew.length = 0 by omega] at hsp
      cases hsp
      cases hown)
  have hT : (ts ++ [(⟨c, 4, 2⟩ : Tgt)])[0]? = some t0 := by rw [List.getElem?_append_left (by omega)]; exact ht0
  have hC : (ts ++ [(⟨c, 4, 2⟩ : Tgt)])[4]? = some ⟨c, 4, 2⟩ := by rw [List.getElem?_append_right (by omega), hlen]; rfl
  have harg : VR (bEmb (ts ++ [⟨c, 4, 2⟩]) (fun _ => 0)) (.agg #[.string ⟨#[116]⟩, .slice (some ⟨4, 0, none⟩) 2 2, .int .i64 1, .slice none 0 0]) (.agg #[.string ⟨#[116]⟩, .slice (some ⟨c, 0, none⟩) 2 2, .int .i64 1, .slice none 0 0]) := by
    refine .agg _ _ rfl fun i x y hx hy => ?_
    match i, hx, hy with
    | 0, hx, hy => cases hx; cases hy; exact .string _
    | 1, hx, hy => cases hx; cases hy; exact .slice _ _ ⟨c, 4, 2⟩ _ _ _ hC (fun _ => rfl) (fun h => by cases h)
    | 2, hx, hy => cases hx; cases hy; exact .int _ _
    | 3, hx, hy => cases hx; cases hy; exact .snil _ _
  refine (run_specs (b := butL w (ts.map (·.blk))) tb0_ok mixed knAdd_ok r (by simp [hlen, specNew]) (args := [_, _]) (cargs := [_, _]) (.cons _ _ _ _ (.ptr 0 0 t0 hT) (.cons _ _ _ _ harg .nil)) (sig' := fun _ => 0) cre_ok (fun i j h => by cases h)).mono ?_
  rintro e w' ⟨ψ, u, c', ts', rfl, hu, hvr, hr, hs⟩
  have hl : ts'.length = 3 := hr.len
  obtain rfl := veq_sound _ _ hu
  cases hvr
  have h3 := hr.at_ 0 0 (ts'[0]'(by omega)) rfl (List.getElem?_eq_getElem _)
  have e0 : ts'[0] = t0 := by
    rcases h3.2 with ⟨_, q⟩ | ⟨q, _⟩
    · rw [hT] at q; cases q; rfl
    · simp [specNew] at q
  refine ⟨ts', rfl, hr.lies, ?_, fun x hx => ?_, butL_keep hr.kept⟩
  · rw [List.head?_eq_getElem?, List.getElem?_eq_getElem (by omega), e0]; rfl
  · obtain ⟨t, ht, rfl⟩ := List.mem_map.1 hx
    obtain ⟨k, hk⟩ := List.getElem?_of_mem ht
    match k, hk with
    | 0, hk =>
      rw [List.getElem?_eq_getElem (by omega), e0] at hk
      cases hk
      exact .inl (List.mem_map.2 ⟨t0, List.mem_of_getElem? ht0, rfl⟩)
    | 1, hk =>
      obtain ⟨_, q⟩ := hr.at_ 1 30 t rfl hk
      rcases q with ⟨q, _⟩ | ⟨_, q⟩
      · simp [specNew] at q
      · by_cases e : t.blk < w.heap.size
        · by_cases m : t.blk ∈ ts.map (·.blk)
          · exact .inl m
          · exact absurd ⟨e, m⟩ q
        · exact .inr (by omega)
    | 2, hk =>
      obtain ⟨_, q⟩ := hr.at_ 2 3 t rfl hk
      rcases q with ⟨_, q⟩ | ⟨q, _⟩
      · rw [List.getElem?_append_left (by omega)] at q
        exact .inl (List.mem_map.2 ⟨t, List.mem_of_getElem? q, rfl⟩)
      · simp [specNew] at q
    | k + 3, hk => rw [List.getElem?_eq_none (by omega)] at hk; cases hk
def keyCells : Array Value := #[.int .i64 2, .int .i64 7, .complex .f64 0 0, .string ⟨#[]⟩]
def rowCells (v : Int) : Array Value := #[.int .i64 2, .int .i64 7, .complex .f64 0 0, .string ⟨#[]⟩, .int .i64 2, .int .i64 v, .complex .f64 0 0, .string ⟨#[]⟩]
def putCells (rb : Nat) : Array Value := #[.int .i64 2, .string ⟨#[116]⟩, .slice none 0 0, .slice none 0 0, .slice (some ⟨rb, 0, none⟩) 2 2, .string ⟨#[]⟩, .int .i64 0, .int .i64 0, .int .i64 0]
theorem keyS_ok {φ : Emb} {w : World} {c : Nat} (h : w.heap[c]? = some (.cells keyCells 36 (0, 0))) : keyS.ok (Base.free w) φ w ⟨c, 4, 4⟩ := by
  refine ⟨fun _ h => h, rfl, keyCells, (0, 0), h, rfl, Nat.zero_le _, rfl, Nat.le_refl _, fun o val ho => ?_⟩
  match o, ho with
  | 0, ho => cases ho; exact ⟨_, rfl, .int _ _⟩
  | 1, ho => cases ho; exact ⟨_, rfl, .int _ _⟩
  | 2, ho => cases ho; exact ⟨_, rfl, .complex _ _ _⟩
  | 3, ho => cases ho; exact ⟨_, rfl, .string _⟩
  | _ + 4, ho => cases ho
theorem rowS_ok {φ : Emb} {w : World} {c : Nat} {v : Int} (h : w.heap[c]? = some (.cells (rowCells v) 36 (0, 0))) (hv : φ.sig 0 = v) : (rowS (atomV 0)).ok (Base.free w) φ w ⟨c, 8, 4⟩ := by
  refine ⟨fun _ h => h, rfl, rowCells v, (0, 0), h, rfl, Nat.zero_le _, rfl, Nat.le_refl _, fun o val ho => ?_⟩
  match o, ho with
  | 0, ho => cases ho; exact ⟨_, rfl, .int _ _⟩
  | 1, ho => cases ho; exact ⟨_, rfl, .int _ _⟩
  | 2, ho => cases ho; exact ⟨_, rfl, .complex _ _ _⟩
  | 3, ho => cases ho; exact ⟨_, rfl, .string _⟩
  | 4, ho => cases ho; exact ⟨_, rfl, .int _ _⟩
  | 5, ho => cases ho; exact ⟨_, rfl, by rw [← hv]; exact VR.atom⟩
  | 6, ho => cases ho; exact ⟨_, rfl, .complex _ _ _⟩
  | 7, ho => cases ho; exact ⟨_, rfl, .string _⟩
  | _ + 8, ho => cases ho
theorem putS_ok {φ : Emb} {w : World} {c rb : Nat} {t : Tgt} (h : w.heap[c]? = some (.cells (putCells rb) 39 (0, 0))) (ht : φ 4 = some t) (hb : t.blk = rb) : (BSpec.cells 39 9 (opP 4) true).ok (Base.free w) φ w ⟨c, 9, 9⟩ := by
  subst hb
  refine ⟨fun _ h => h, rfl, putCells t.blk, (0, 0), h, rfl, Nat.zero_le _, rfl, Nat.le_refl _, fun o val ho => ?_⟩
  match o, ho with
  | 0, ho => cases ho; exact ⟨_, rfl, .int _ _⟩
  | 1, ho => cases ho; exact ⟨_, rfl, .string _⟩
  | 2, ho => cases ho; exact ⟨_, rfl, .snil _ _⟩
  | 3, ho => cases ho; exact ⟨_, rfl, .snil _ _⟩
  | 4, ho => cases ho; exact ⟨_, rfl, .slice _ _ t _ _ _ ht (fun _ => rfl) (fun h => by cases h)⟩
  | 5, ho => cases ho; exact ⟨_, rfl, .string _⟩
  | 6, ho => cases ho; exact ⟨_, rfl, .int _ _⟩
  | 7, ho => cases ho; exact ⟨_, rfl, .int _ _⟩
  | 8, ho => cases ho; exact ⟨_, rfl, .int _ _⟩
  | _ + 9, ho => cases ho
theorem emptySelf : spAll [(0, 0), (1, 1), (2, 2), (3, 3), (4, 4), (5, 5)] noTau specEmpty specEmpty = true := by kernel_rfl
theorem isDone_inv {φ : Emb} {u c : Value} (h : isDone u = true) (r : VR φ u c) : ∃ p, c = .tuple #[p, .bool true, .int .i64 0] := by
  unfold isDone at h
  split at h
  · rename_i base l cc a b
    rw [Bool.and_eq_true] at h
    obtain rfl := veq_sound _ _ h.1
    obtain rfl := veq_sound _ _ h.2
    obtain ⟨cs, rfl, hc⟩ := r.tuple_inv
    obtain ⟨c⟩ := cs
    have q := hc.list
    cases q with
    | cons _ a1 _ m1 r1 q =>
    cases q with
    | cons _ a2 _ m2 r2 q =>
    cases q with
    | cons _ a3 _ m3 r3 q =>
    cases q
    cases r2; cases r3
    exact ⟨_, rfl⟩
  · cases h
theorem put_any {w : World} {d kb rb ob : Nat} {v : Int} {ts : List Tgt} (h : Lies w specEmpty ts (fun _ => 0)) (hd : ts.head?.map (·.blk) = some d) (hk : w.heap[kb]? = some (.cells keyCells 36 (0, 0))) (hr : w.heap[rb]? = some (.cells (rowCells v) 36 (0, 0))) (ho : w.heap[ob]? = some (.cells (putCells rb) 39 (0, 0)))
    (n1 : kb ∉ ts.map (·.blk)) (n2 : rb ∉ ts.map (·.blk)) (n3 : ob ∉ ts.map (·.blk)) (n4 : kb ≠ rb) (n5 : kb ≠ ob) (n6 : rb ≠ ob) :
    Calls Tryz.prog 7 #[.pointer (some ⟨d, 0, none⟩), .slice (some ⟨ob, 0, none⟩) 1 1] w fun e w' => ∃ res m l, e = .returned (.tuple #[res, .bool true, .int .i64 0]) ∧ DataAt w' d kb m l v ∧ m ∈ ts.map (·.blk) ∧
      (∀ x ∈ l, x < w'.heap.size ∧ (x ∈ ts.map (·.blk) ∨ x = kb ∨ w.heap.size ≤ x)) ∧ KeepL (ts.map (·.blk)) w w' := by
  obtain ⟨t0, ht0, rfl⟩ := head_of hd
  have hlen : ts.length = 3 := h.len
  have hm : ∀ {k : Nat} {t : Tgt}, ts[k]? = some t → t.blk ∈ ts.map (·.blk) := fun hk => List.mem_map.2 ⟨_, List.mem_of_getElem? hk, rfl⟩
  have h1 := (h.sig (sig' := fun _ => v) (fun a b e => rlook_same _ (by decide) e) (fun i j e => by cases e) emptySelf).snoc (t := ⟨kb, 4, 4⟩) (keyS_ok hk) n1 (Array.getElem?_eq_some_iff.1 hk).1
  have h2 := h1.snoc (t := ⟨rb, 8, 4⟩) (rowS_ok hr rfl) (by simp; exact ⟨fun x hx e => n2 (List.mem_map.2 ⟨x, hx, e⟩), fun e => n4 e.symm⟩) (Array.getElem?_eq_some_iff.1 hr).1
  have hR : (((ts ++ [(⟨kb, 4, 4⟩ : Tgt)]) ++ [⟨rb, 8, 4⟩]) ++ [⟨ob, 9, 9⟩])[4]? = some ⟨rb, 8, 4⟩ := by
    rw [List.getElem?_append_left (by simp [hlen]), List.getElem?_append_right (by simp [hlen])]; simp [hlen]
  have h3 := h2.snoc (t := ⟨ob, 9, 9⟩) (putS_ok (t := ⟨rb, 8, 4⟩) ho hR rfl) (by simp; exact ⟨fun x hx e => n3 (List.mem_map.2 ⟨x, hx, e⟩), fun e => n5 e.symm, fun e => n6 e.symm⟩) (Array.getElem?_eq_some_iff.1 ho).1
  obtain ⟨T, hTd⟩ : ∃ T, T = ((ts ++ [(⟨kb, 4, 4⟩ : Tgt)]) ++ [⟨rb, 8, 4⟩]) ++ [⟨ob, 9, 9⟩] := ⟨_, rfl⟩
  rw [← hTd] at h3 hR
  have hold : ∀ (k : Nat), k < 3 → T[k]? = ts[k]? := fun k hk => by
    rw [hTd, List.getElem?_append_left (by simp; omega), List.getElem?_append_left (by simp; omega), List.getElem?_append_left (by omega)]
  have hK3 : T[3]? = some ⟨kb, 4, 4⟩ := by
    rw [hTd, List.getElem?_append_left (by simp [hlen]), List.getElem?_append_left (by simp [hlen]), List.getElem?_append_right (by omega)]; simp [hlen]
  have hO : T[5]? = some ⟨ob, 9, 9⟩ := by
    rw [hTd, List.getElem?_append_right (by simp [hlen])]; simp [hlen]
  have hTl : T.length = 6 := by rw [hTd]; simp [hlen]
  have r := h3.rel (b := butL w (ts.map (·.blk))) (orc := []) (fun f hf => by cases hf) (fun k t sp ht hsp hown hK => by
    match k, ht, hsp with
    | 0, ht, hsp => rw [hold 0 (by omega)] at ht; exact hK.2 (hm ht)
    | 1, ht, hsp => rw [hold 1 (by omega)] at ht; exact hK.2 (hm ht)
    | 2, ht, hsp => rw [hold 2 (by omega)] at ht; exact hK.2 (hm ht)
    | 3, ht, hsp => cases hsp; cases hown
    | 4, ht, hsp => cases hsp; cases hown
    | 5, ht, hsp => cases hsp; cases hown
    | k + 6, ht, hsp => rw [List.getElem?_eq_none (by omega)] at ht; cases ht)
  have hT0 : T[0]? = some t0 := by rw [hold 0 (by omega)]; exact ht0
  refine (run_specs (b := butL w (ts.map (·.blk))) tb0_ok mixed knAdd_ok r hTl (args := [_, _]) (cargs := [_, _]) (.cons _ _ _ _ (.ptr 0 0 t0 hT0) (.cons _ _ _ _ (.slice 5 0 ⟨ob, 9, 9⟩ 1 1 1 hO (fun _ => rfl) (fun h => by cases h)) .nil)) (sig' := fun _ => v) put_ok (fun i j h => rfl)).mono ?_
  rintro e w' ⟨ψ, u, c', ts', rfl, hu, hvr, hr, hs⟩
  have hl : ts'.length = 6 := hr.len
  obtain ⟨res, rfl⟩ := isDone_inv hu hvr
  have hg : ∀ (k : Nat) (hk : k < 6), ts'[k]? = some (ts'[k]'(by omega)) := fun k hk => List.getElem?_eq_getElem _
  have old : ∀ {k id : Nat} {t : Tgt}, [0, 3, 1, 68, 65, 2][k]? = some id → id < 6 → ts'[k]? = some t → T[id]? = some t := fun {k id t} h1 h2 h3 => by
    rcases (hr.at_ k id t h1 h3).2 with ⟨_, q⟩ | ⟨q, _⟩
    · exact q
    · have : specPut.length = 6 := rfl
      omega
  have new : ∀ {k id : Nat} {t : Tgt}, [0, 3, 1, 68, 65, 2][k]? = some id → 6 ≤ id → ts'[k]? = some t → t.blk ∈ ts.map (·.blk) ∨ w.heap.size ≤ t.blk := fun {k id t} h1 h2 h3 => by
    rcases (hr.at_ k id t h1 h3).2 with ⟨q, _⟩ | ⟨_, q⟩
    · have : specPut.length = 6 := rfl
      omega
    · by_cases e : t.blk < w.heap.size
      · by_cases m : t.blk ∈ ts.map (·.blk)
        · exact .inl m
        · exact absurd ⟨e, m⟩ q
      · exact .inr (by omega)
  have e0 := old (k := 0) rfl (by omega) (hg 0 (by omega))
  have e1 := old (k := 1) rfl (by omega) (hg 1 (by omega))
  have e2 := old (k := 2) rfl (by omega) (hg 2 (by omega))
  have e5 := old (k := 5) rfl (by omega) (hg 5 (by omega))
  have f3 := new (k := 3) rfl (by omega) (hg 3 (by omega))
  have f4 := new (k := 4) rfl (by omega) (hg 4 (by omega))
  rw [hT0] at e0
  rw [hK3] at e1
  rw [hold 1 (by omega)] at e2
  rw [hold 2 (by omega)] at e5
  have hsix : ts' = six ts'[0] ts'[1] ts'[2] ts'[3] ts'[4] ts'[5] := by
    apply List.ext_getElem (by simp [hl, six])
    intro i h1 h2
    match i, h1 with
    | 0, _ => rfl
    | 1, _ => rfl
    | 2, _ => rfl
    | 3, _ => rfl
    | 4, _ => rfl
    | 5, _ => rfl
    | k + 6, h1 => omega
  refine ⟨res, ts'[5].blk, ts'.map (·.blk), rfl, ⟨ts'[0], ts'[1], ts'[2], ts'[3], ts'[4], ts'[5], ?_, ?_, rfl, ?_, hr.nodup, ?_⟩, hm e5, fun x hx => ?_, butL_keep hr.kept⟩
  · rw [← Option.some.inj e0]
  · rw [← Option.some.inj e1]
  · rw [← hsix]
  · rw [← hsix]; exact hr.ok
  · obtain ⟨t, ht, rfl⟩ := List.mem_map.1 hx
    obtain ⟨k, hk⟩ := List.getElem?_of_mem ht
    refine ⟨hr.lt k t hk, ?_⟩
    match k, hk with
    | 0, hk => rw [hg 0 (by omega)] at hk; cases hk; rw [← Option.some.inj e0]; exact .inl (hm ht0)
    | 1, hk => rw [hg 1 (by omega)] at hk; cases hk; rw [← Option.some.inj e1]; exact .inr (.inl rfl)
    | 2, hk => rw [hg 2 (by omega)] at hk; cases hk; exact .inl (hm e2)
    | 3, hk => rw [hg 3 (by omega)] at hk; cases hk; exact f3.elim .inl (fun f => .inr (.inr f))
    | 4, hk => rw [hg 4 (by omega)] at hk; cases hk; exact f4.elim .inl (fun f => .inr (.inr f))
    | 5, hk => rw [hg 5 (by omega)] at hk; cases hk; exact .inl (hm e5)
    | k + 6, hk => rw [List.getElem?_eq_none (by omega)] at hk; cases hk
/-- A table's rows that came out: one row. -/
def RowsAt (w : World) (x cap : Nat) (l : List Nat) (v : Int) : Prop :=
  ∃ t0 t1 : Tgt, t0.blk = x ∧ l = [t0.blk, t1.blk] ∧ 0 + cap * t0.es = t0.n ∧ Lies w (specRows (atomV 0)) [t0, t1] (fun _ => v)
theorem isRows_inv {φ : Emb} {u c : Value} (h : isRows u = true) (r : VR φ u c) : ∃ t cap, φ 13 = some t ∧ c = .tuple #[.slice (some ⟨t.blk, 0, none⟩) 1 cap, .int .i64 0] ∧ 0 + cap * t.es = t.n := by
  unfold isRows at h
  split at h
  · rename_i cc b
    rw [Bool.and_eq_true] at h
    obtain rfl := veq_sound _ _ h.1
    obtain rfl := Nat.eq_of_beq_eq_true h.2
    obtain ⟨cs, rfl, hc⟩ := r.tuple_inv
    obtain ⟨c⟩ := cs
    have q := hc.list
    cases q with
    | cons _ a1 _ m1 r1 q =>
    cases q with
    | cons _ a2 _ m2 r2 q =>
    cases q
    cases r2
    cases r1 with
    | slice _ _ t _ _ c' ht g1 g2 => exact ⟨t, c', ht, rfl, g2 rfl⟩
  · cases h
theorem rows_any {w : World} {d kb m : Nat} {l : List Nat} {v : Int} (h : DataAt w d kb m l v) :
    Calls Tryz.prog 8 #[.pointer (some ⟨d, 0, none⟩), .string ⟨#[116]⟩] w fun e w' => ∃ x cap lr, e = .returned (.tuple #[.slice (some ⟨x, 0, none⟩) 1 cap, .int .i64 0]) ∧ RowsAt w' x cap lr v ∧ (∀ q ∈ lr, q < w'.heap.size ∧ w.heap.size ≤ q) ∧ DataAt w' d kb m l v ∧ w.grownBy w' (some m) := by
  obtain ⟨t0, t1, t2, t3, t4, t5, rfl, rfl, rfl, rfl, hnd, hok⟩ := h
  have r := DataAt.rel hnd hok (sig := fun _ => v) rfl (orc := []) (fun f hf => by cases hf)
  refine (run_specs (b := butM w t5.blk) tb0_ok mixed knAdd_ok r rfl (args := [_, _]) (cargs := [_, _]) (.cons _ _ _ _ (.ptr 0 0 t0 rfl) (.cons _ _ _ _ (.string _) .nil)) (sig' := fun _ => v) rows_ok (fun i j h => rfl)).mono ?_
  rintro e w' ⟨ψ, u, c', ts', rfl, hu, hvr, hr, hs⟩
  have hl : ts'.length = 8 := hr.len
  obtain ⟨t, cap, ht13, rfl, hcap⟩ := isRows_inv hu hvr
  have hg : ∀ (k : Nat) (hk : k < 8), ts'[k]? = some (ts'[k]'(by omega)) := fun k hk => List.getElem?_eq_getElem _
  have old : ∀ {k : Nat} {t : Tgt}, k < 6 → ts'[k]? = some t → (six t0 t1 t2 t3 t4 t5)[k]? = some t := fun {k t} h1 h3 => by
    have hid : [0, 1, 2, 3, 4, 5, 13, 11][k]? = some k := by
      match k, h1 with
      | 0, _ => rfl
      | 1, _ => rfl
      | 2, _ => rfl
      | 3, _ => rfl
      | 4, _ => rfl
      | 5, _ => rfl
    rcases (hr.at_ k k t hid h3).2 with ⟨_, q⟩ | ⟨q, _⟩
    · exact q
    · have : (spec (atomV 0)).length = 6 := rfl
      omega
  have new : ∀ {k id : Nat} {t : Tgt}, [0, 1, 2, 3, 4, 5, 13, 11][k]? = some id → 6 ≤ id → ts'[k]? = some t → t.blk ≠ t5.blk → w.heap.size ≤ t.blk := fun {k id t} h1 h2 h3 hne => by
    rcases (hr.at_ k id t h1 h3).2 with ⟨q, _⟩ | ⟨_, q⟩
    · have : (spec (atomV 0)).length = 6 := rfl
      omega
    · exact Nat.le_of_not_lt fun hlt => q ⟨hlt, hne⟩
  have e0 := Option.some.inj (old (k := 0) (by omega) (hg 0 (by omega)))
  have e1 := Option.some.inj (old (k := 1) (by omega) (hg 1 (by omega)))
  have e2 := Option.some.inj (old (k := 2) (by omega) (hg 2 (by omega)))
  have e3 := Option.some.inj (old (k := 3) (by omega) (hg 3 (by omega)))
  have e4 := Option.some.inj (old (k := 4) (by omega) (hg 4 (by omega)))
  have e5 := Option.some.inj (old (k := 5) (by omega) (hg 5 (by omega)))
  obtain ⟨u0, hu0⟩ : ∃ u0, u0 = ts'[6] := ⟨_, rfl⟩
  obtain ⟨u1, hu1⟩ : ∃ u1, u1 = ts'[7] := ⟨_, rfl⟩
  have hT : ts' = [t0, t1, t2, t3, t4, t5, u0, u1] := by
    apply List.ext_getElem (by simp [hl])
    intro i h1 h2
    match i, h1 with
    | 0, _ => exact e0.symm
    | 1, _ => exact e1.symm
    | 2, _ => exact e2.symm
    | 3, _ => exact e3.symm
    | 4, _ => exact e4.symm
    | 5, _ => exact e5.symm
    | 6, _ => exact hu0.symm
    | 7, _ => exact hu1.symm
    | k + 8, h1 => omega
  have hnd' := hr.nodup
  have hok' := hr.ok
  have hlt' := hr.lt
  have e6 : u0 = t := by
    have := (hr.at_ 6 13 ts'[6] rfl (hg 6 (by omega))).1
    rw [ht13] at this
    rw [hu0]; exact (Option.some.inj this).symm
  have n6 := new (k := 6) rfl (by omega) (hg 6 (by omega))
  have n7 := new (k := 7) rfl (by omega) (hg 7 (by omega))
  rw [← hu0] at n6
  rw [← hu1] at n7
  clear hu0 hu1 e0 e1 e2 e3 e4 e5 hg old new
  subst hT
  subst e6
  have nd := hnd'
  simp only [List.map_cons, List.map_nil, List.nodup_cons, List.mem_cons, List.not_mem_nil, or_false, not_or, not_false_eq_true, and_true] at nd
  have b6 := n6 (fun e => nd.2.2.2.2.2.1.1 e.symm)
  have b7 := n7 (fun e => nd.2.2.2.2.2.1.2 e.symm)
  have l6 := hlt' 6 u0 rfl
  have l7 := hlt' 7 u1 rfl
  refine ⟨u0.blk, cap, [u0.blk, u1.blk], rfl, ⟨u0, u1, rfl, rfl, hcap, ?_⟩, ?_, ⟨t0, t1, t2, t3, t4, t5, rfl, rfl, rfl, rfl, hnd, ?_⟩, butM_grown hr.kept⟩
  · refine ⟨rfl, by simp; exact nd.2.2.2.2.2.2.1, fun k t sp ht hsp => ?_, fun k t ht => ?_⟩
    · have R : RenOk [(0, 6), (1, 7)] (tau 0) (bEmb [t0, t1, t2, t3, t4, t5, u0, u1] fun _ => v) (bEmb [u0, u1] fun _ => v) := by
        refine ⟨fun a b t e h => ?_, fun i j e => rfl⟩
        match a, e with
        | 0, e => cases e; exact h
        | 1, e => cases e; exact h
        | a + 2, e => cases (show (none : Option Nat) = some b from e)
      match k, ht, hsp with
      | 0, ht, hsp => cases ht; cases hsp; exact (hok' 6 u0 _ rfl rfl).conv R (by kernel_rfl) rfl (fun _ h => h)
      | 1, ht, hsp => cases ht; cases hsp; exact (hok' 7 u1 _ rfl rfl).conv R (by kernel_rfl) rfl (fun _ h => h)
      | k + 2, ht, hsp => cases ht
    · match k, ht with
      | 0, ht => cases ht; exact l6
      | 1, ht => cases ht; exact l7
      | k + 2, ht => cases ht
  · intro q hq
    simp at hq
    rcases hq with rfl | rfl
    · exact ⟨l6, b6⟩
    · exact ⟨l7, b7⟩
  · intro k t sp ht hsp
    have hk := (List.getElem?_eq_some_iff.1 ht).1
    have hk6 : k < 6 := hk
    have ht2 : ([t0, t1, t2, t3, t4, t5, u0, u1] : List Tgt)[k]? = some t := by
      rw [show [t0, t1, t2, t3, t4, t5, u0, u1] = six t0 t1 t2 t3 t4 t5 ++ [u0, u1] from rfl, List.getElem?_append_left hk]; exact ht
    have hsp2 : specBoth[k]? = some sp := by
      rw [show specBoth = spec (atomV 0) ++ [.cells 37 1 [.slice (some ⟨7, 0, none⟩) 2 INF] true, rowS (atomV 0)] from rfl, List.getElem?_append_left (by exact hk6)]; exact hsp
    obtain ⟨sp', q1, q2⟩ := spAll_at _ _ selfMatch k sp hsp
    rw [hsp] at q1
    cases q1
    refine (hok' k t sp ht2 hsp2).conv (ρ := [(0, 0), (1, 1), (2, 2), (3, 3), (4, 4), (5, 5)]) (τ := tau 0) ⟨fun a b t e h => ?_, fun i j e => rfl⟩ q2 rfl (fun _ h => h)
    obtain rfl := rlook_same _ (by decide) e
    match b, e, h with
    | 0, e, h => exact h
    | 1, e, h => exact h
    | 2, e, h => exact h
    | 3, e, h => exact h
    | 4, e, h => exact h
    | 5, e, h => exact h
    | b + 6, e, h => cases (show (none : Option Nat) = some _ from e)
theorem RowsAt.keep {w w' : World} {x cap : Nat} {l : List Nat} {v : Int} (h : RowsAt w x cap l v) (hs : w.heap.size ≤ w'.heap.size) (hw : ∀ b ∈ l, w'.heap[b]? = w.heap[b]?) : RowsAt w' x cap l v := by
  obtain ⟨t0, t1, rfl, rfl, hc, hL⟩ := h
  exact ⟨t0, t1, rfl, rfl, hc, hL.keep hs fun k t ht => hw _ (List.mem_map.2 ⟨t, List.mem_of_getElem? ht, rfl⟩)⟩
theorem RowsAt.cells {w : World} {x cap : Nat} {l : List Nat} {v : Int} (h : RowsAt w x cap l v) : ∃ y c, w.cell? ⟨x, 0, none⟩ = some (.slice (some ⟨y, 0, none⟩) 2 c) ∧ w.cell? ⟨y, 5, none⟩ = some (.int .i64 v) := by
  obtain ⟨t0, t1, rfl, rfl, hc, hL⟩ := h
  obtain ⟨_, _, c, fr, h1, _, _, _, _, h6⟩ := hL.ok 0 t0 _ rfl rfl
  obtain ⟨c0, a1, a2⟩ := h6 0 _ rfl
  obtain ⟨_, _, c2, fr2, g1, _, _, _, _, g6⟩ := hL.ok 1 t1 _ rfl rfl
  obtain ⟨c5, b1, b2⟩ := g6 5 _ rfl
  cases a2 with
  | slice _ _ t _ _ c' ht _ _ =>
    have : t = t1 := by have h : ([t0, t1] : List Tgt)[1]? = some t := ht; cases h; rfl
    subst this
    refine ⟨t.blk, c', by simp [World.cell?, h1, a1], ?_⟩
    cases b2 with
    | top _ _ ht _ => rw [atom_dec] at ht; cases ht
    | sy _ k n hn =>
      rw [atom_dec] at hn
      obtain ⟨rfl, rfl⟩ := hn
      simp [World.cell?, g1, b1]
theorem same_any {w : World} {x cx y cy : Nat} {lx ly : List Nat} {v : Int} (hx : RowsAt w x cx lx v) (hy : RowsAt w y cy ly v) (hd : ∀ q ∈ lx, q ∉ ly) :
    Calls Tryz.prog 9 #[.slice (some ⟨x, 0, none⟩) 1 cx, .slice (some ⟨y, 0, none⟩) 1 cy] w fun e w' => e = .returned (.bool true) ∧ Below w.heap.size w w' := by
  obtain ⟨t0, t1, rfl, rfl, hcx, hX⟩ := hx
  obtain ⟨u0, u1, rfl, rfl, hcy, hY⟩ := hy
  have nx := hX.nodup
  have ny := hY.nodup
  have hL : Lies w (specTwo (atomV 0)) [t0, t1, u0, u1] (fun _ => v) := by
    refine ⟨rfl, ?_, fun k t sp ht hsp => ?_, fun k t ht => ?_⟩
    · rw [show [t0, t1, u0, u1].map (·.blk) = [t0, t1].map (·.blk) ++ [u0, u1].map (·.blk) from rfl]
      exact List.nodup_append.2 ⟨nx, ny, fun a ha b hb e => hd a (by simpa using ha) (by rw [e]; simpa using hb)⟩
    · have R1 : RenOk [(0, 0), (1, 1)] (tau 0) (bEmb [t0, t1] fun _ => v) (bEmb [t0, t1, u0, u1] fun _ => v) := by
        refine ⟨fun a b t e h => ?_, fun i j e => rfl⟩
        match a, e with
        | 0, e => cases e; exact h
        | 1, e => cases e; exact h
        | a + 2, e => cases (show (none : Option Nat) = some b from e)
      have R2 : RenOk [(2, 0), (3, 1)] (tau 0) (bEmb [u0, u1] fun _ => v) (bEmb [t0, t1, u0, u1] fun _ => v) := by
        refine ⟨fun a b t e h => ?_, fun i j e => rfl⟩
        match a, e with
        | 0, e => cases (show (none : Option Nat) = some b from e)
        | 1, e => cases (show (none : Option Nat) = some b from e)
        | 2, e => cases e; exact h
        | 3, e => cases e; exact h
        | a + 4, e => cases (show (none : Option Nat) = some b from e)
      match k, ht, hsp with
      | 0, ht, hsp => cases ht; cases hsp; exact (hX.ok 0 t0 _ rfl rfl).conv R1 (by kernel_rfl) rfl (fun _ h => h)
      | 1, ht, hsp => cases ht; cases hsp; exact (hX.ok 1 t1 _ rfl rfl).conv R1 (by kernel_rfl) rfl (fun _ h => h)
      | 2, ht, hsp => cases ht; cases hsp; exact (hY.ok 0 u0 _ rfl rfl).conv R2 (by kernel_rfl) rfl (fun _ h => h)
      | 3, ht, hsp => cases ht; cases hsp; exact (hY.ok 1 u1 _ rfl rfl).conv R2 (by kernel_rfl) rfl (fun _ h => h)
      | k + 4, ht, hsp => cases ht
    · match k, ht with
      | 0, ht => cases ht; exact hX.lt 0 t0 rfl
      | 1, ht => cases ht; exact hX.lt 1 t1 rfl
      | 2, ht => cases ht; exact hY.lt 0 u0 rfl
      | 3, ht => cases ht; exact hY.lt 1 u1 rfl
      | k + 4, ht => cases ht
  have r := hL.rel (b := Base.all w) (orc := []) (fun f hf => by cases hf) (fun k t sp ht hsp hown hK => by
    match k, hsp with
    | 0, hsp => cases hsp; cases hown
    | 1, hsp => cases hsp; cases hown
    | 2, hsp => cases hsp; cases hown
    | 3, hsp => cases hsp; cases hown
    | k + 4, hsp => cases hsp)
  refine (run_specs (b := Base.all w) tb0_ok mixed knAdd_ok r rfl (args := [_, _]) (cargs := [_, _]) (.cons _ _ _ _ (.slice 0 0 t0 1 INF cx rfl (fun h => absurd rfl h) (fun _ => hcx)) (.cons _ _ _ _ (.slice 2 0 u0 1 INF cy rfl (fun h => absurd rfl h) (fun _ => hcy)) .nil)) (sig' := fun _ => v) same_ok (fun i j h => rfl)).mono ?_
  rintro e w' ⟨ψ, u, c', ts', rfl, hu, hvr, hr, hs⟩
  obtain rfl := veq_sound _ _ hu
  cases hvr
  exact ⟨rfl, hr.kept.all⟩
end Go.Proofs.YtcmlomjdkjcjpaaGreatDoor
