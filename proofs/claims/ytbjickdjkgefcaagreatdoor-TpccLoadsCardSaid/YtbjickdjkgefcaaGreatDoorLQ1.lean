/- works(): what its calls do, by the evaluations. -/
import Derived.Test.YtbjickdjkgefcaaGreatDoorLP4
import Derived.Test.YtbjickdjkgefcaaGreatDoorLP3
import Derived.Test.YtbjickdjkgefcaaGreatDoorLP7
import Derived.Test.YtbjickdjkgefcaaGreatDoorLP8
import Derived.Test.YtbjickdjkgefcaaGreatDoorLP9
import Derived.Test.YtbjickdjkgefcaaGreatDoorLN6
section
open Go Go.RowKit Go.Proofs.YtbjickdjkgefcaaGreatDoor.Vai
noncomputable section
namespace Go.Proofs.YtbjickdjkgefcaaGreatDoor
set_option linter.unusedVariables false
set_option linter.unusedSimpArgs false
set_option maxRecDepth 100000
theorem run_ownT {f : FuncId} {w : World} {L L' : List BSpec} {ts : List Tgt} {sig : Sig} {args cargs : List Value} {chk : Value → Bool} {ids : List Nat} {links : List (Nat × Nat × Bool)} {M d : Nat} (own : List Nat) (hT : Tabs w) (h0 : 0 ∉ own)
    (h : Lies w L ts sig) (hown : ∀ (k : Nat) (t : Tgt) (sp : BSpec), ts[k]? = some t → L[k]? = some sp → sp.owned = true → t.blk ∈ own) (g0 : ts[0]? = some ⟨0, zsp.length, 1⟩) (ha : VRL (bEmb ts sig) args cargs)
    (hc : runCheck (aFunT Tryz.prog tb0 mkT M d (.func f) args (bSt L [] 1)) L.length chk L' ids noTau links = true) :
    Calls Tryz.prog f cargs.toArray w fun e w' => ∃ ψ u c ts', e = .returned c ∧ chk u = true ∧ VR ψ u c ∧ Ran (butL w own) L L' ids ts ts' sig ψ w' ∧ ψ.sig = sig ∧ KeepL own w w' := by
  have hn : 1 ≤ L.length := by rw [← h.len]; exact (List.getElem?_eq_some_iff.1 g0).1
  obtain ⟨c0, hz⟩ := tabs_zero hT
  have r := h.rel (b := butL w own) (orc := []) (fun g h => by cases h) (fun k t sp ht hsp ho hK => hK.2 (hown k t sp ht hsp ho))
  have r2 : Rel (butL w own) (bEmb ts sig) (bSt L [] 1) w := Rel.withNg h.len r hn (fun g t hg ht => by
    obtain rfl : g = 0 := by omega
    rw [g0] at ht; cases ht; rfl)
  refine (run_specsC (b := butL w own) (fun_soundT tb0_ok mixed (mkT_ok (b := butL w own) hT ⟨lt_of_heap hz, h0⟩) M d) r2 h.len ha (sig' := sig) hc (fun i j h => by cases h) rfl).mono ?_
  rintro e w' ⟨ψ, u, c, ts', rfl, hu, hvr, hr, hs⟩
  exact ⟨ψ, u, c, ts', rfl, hu, hvr, hr, hs, butL_keep hr.kept⟩
def Maps (own : List Nat) (w : World) : Prop := ∀ x ∈ own, ∃ es k, w.heap[x]? = some (.map es k)
theorem Maps.no0 {own : List Nat} {w : World} (h : Maps own w) (hT : Tabs w) : 0 ∉ own := fun hx => by
  obtain ⟨es, k, e⟩ := h 0 hx
  obtain ⟨c0, hz⟩ := tabs_zero hT
  rw [hz] at e; cases e
theorem Maps.below {own : List Nat} {w w' : World} (h : Maps own w) (hb : Below w.heap.size w w') : Maps own w' := fun x hx => by
  obtain ⟨es, k, e⟩ := h x hx
  exact ⟨es, k, by rw [hb.block x (lt_of_heap e)]; exact e⟩
theorem RowIs.keepL {l : List Int} {v : Value} {t : Tgt} {w w' : World} {own : List Nat} (h : RowIs w l v t) (hM : Maps own w) (hk : KeepL own w w') : RowIs w' l v t := by
  obtain ⟨h1, h2, h3⟩ := h
  have hx : t.blk ∉ own := fun hx => by
    obtain ⟨es, k, e⟩ := hM _ hx
    obtain ⟨_, _, cs, fr, q3, _⟩ := h3 (bEmb [] (sg ⟨#[]⟩))
    rw [e] at q3; cases q3
  refine ⟨h1, by have := hk.size; omega, fun φ => ?_⟩
  obtain ⟨_, q2, cs, fr, q3, q4⟩ := h3 φ
  exact ⟨(fun e => by cases e), q2, cs, fr, by rw [hk.block _ h2 hx]; exact q3, q4⟩
theorem cell_keepL {w w' : World} {own : List Nat} (hk : KeepL own w w') {b o : Nat} {v : Value} (hb : b ∉ own) (h : w.cell? ⟨b, o, none⟩ = some v) : w'.cell? ⟨b, o, none⟩ = some v := by
  have e := hk.block b (cell_lt h) hb
  unfold World.cell? at h ⊢
  simp only [e]; exact h
/-- A row of the results. -/
theorem res_row {w : World} {L : List BSpec} {ts : List Tgt} {sig : Sig} (hL : Lies w L ts sig) {k : Nat} {tk : Tgt} (hk : ts[k]? = some tk) {vals : List Value} (hs : L[k]? = some (.cells 71 1 vals true)) {i j n : Nat} {l : List Int} (hn : n = l.length) (hv : vals[i]? = some (.slice (some ⟨j, 0, none⟩) n INF)) (hj : L[j]? = some (rowN l)) :
    ∃ v t, w.cell? ⟨tk.blk, i, none⟩ = some v ∧ RowIs w l v t := by
  subst hn
  obtain ⟨cv, h1, h2⟩ := spec_cell hL hk hs hv
  cases h2 with
  | slice v o t l' c c' h' g1 g2 => exact ⟨_, t, h1, ⟨_, rfl, g2 rfl⟩, hL.lt _ _ h', fun φ => cells_any (hL.ok _ _ _ h' hj) (vcells_plain _) φ⟩
theorem same_rows {l : List Int} (hl : sameNOk l = true) {u v : Value} {t s : Tgt} {w : World} (hu : RowIs w l u t) (hv : RowIs w l v s) (hne : t.blk ≠ s.blk) : Calls Tryz.prog 52 #[u, v] w fun e w' => e = .returned (.bool true) ∧ Below w.heap.size w w' := by
  obtain ⟨⟨cu, rfl, hcu⟩, h2, h3⟩ := hu
  obtain ⟨⟨cv, rfl, hcv⟩, k2, k3⟩ := hv
  have hL : Lies w [rowN l, rowN l] [t, s] (sg ⟨#[]⟩) := lies_two (h3 _) (k3 _) h2 k2 hne
  have hro : ∀ (k : Nat) (sp : BSpec), [rowN l, rowN l][k]? = some sp → sp.owned = false := by
    intro k sp h
    match k with
    | 0 => cases h; rfl
    | 1 => cases h; rfl
    | k + 2 => simp at h
  have hargs : VRL (bEmb [t, s] (sg ⟨#[]⟩)) [.slice (some ⟨0, 0, none⟩) l.length INF, .slice (some ⟨1, 0, none⟩) l.length INF] [.slice (some ⟨t.blk, 0, none⟩) l.length cu, .slice (some ⟨s.blk, 0, none⟩) l.length cv] :=
    .cons _ _ _ _ (.slice 0 0 t _ _ _ rfl (fun h => absurd rfl h) (fun _ => hcu)) (.cons _ _ _ _ (.slice 1 0 s _ _ _ rfl (fun h => absurd rfl h) (fun _ => hcv)) .nil)
  unfold sameNOk sameNRun at hl
  refine (run_lock kn0_ok hL (facts := []) (fun g h => by cases h) hro (ng := 0) (Nat.zero_le _) (fun g t hg => absurd hg (Nat.not_lt_zero _)) hargs hl).mono ?_
  rintro e w' ⟨ψ, u, c, ts', rfl, hu, hvr, hr, hs, hb⟩
  obtain rfl := veq_sound _ _ hu
  exact ⟨by rw [hvr.eq_of_plain (by rfl)], hb⟩
end Go.Proofs.YtbjickdjkgefcaaGreatDoor
end
end
section
open Go Go.RowKit Go.Proofs.YtbjickdjkgefcaaGreatDoor.Vai
noncomputable section
namespace Go.Proofs.YtbjickdjkgefcaaGreatDoor
set_option linter.unusedVariables false
set_option linter.unusedSimpArgs false
set_option maxRecDepth 100000
/-- The data of works(), as the evaluations tell them. -/
structure WData (sp : List BSpec) (d m s : Nat) (w : World) : Prop where
  tabs : Tabs w
  both : ∃ ts t1 t3 t12, Lies w sp ts (sg ⟨#[]⟩) ∧ ts[0]? = some ⟨0, zsp.length, 1⟩ ∧ ts[1]? = some t1 ∧ t1.blk = d ∧ ts[3]? = some t3 ∧ t3.blk = m ∧ ts[12]? = some t12 ∧ t12.blk = s
theorem WData.below {sp : List BSpec} {d m s : Nat} {w w' : World} (h : WData sp d m s w) (hb : Below w.heap.size w w') : WData sp d m s w' := by
  obtain ⟨hT, ts, t1, t3, t12, h1, h2⟩ := h
  exact ⟨hT.keepL (KeepL.of_below (l := []) hb) (by simp), ts, t1, t3, t12, h1.below hb, h2⟩
def isMapB : Option BSpec → Bool
  | some (.obj (.map _ _)) => true
  | _ => false
def spGood (sp : List BSpec) : Bool := allUp (fun k => match sp[k]? with
  | some s => !s.owned || Nat.beq k 3 || Nat.beq k 12
  | none => true) sp.length && isMapB sp[3]? && isMapB sp[12]?
theorem WData.maps {sp : List BSpec} {d m s : Nat} {w : World} (h : WData sp d m s w) (hg : spGood sp = true) : Maps [m, s] w := by
  obtain ⟨hT, ts, t1, t3, t12, h1, h2, h3, h4, h5, rfl, h7, rfl⟩ := h
  unfold spGood at hg
  simp only [Bool.and_eq_true] at hg
  obtain ⟨⟨_, g3⟩, g12⟩ := hg
  have key : ∀ (k : Nat) (t : Tgt), ts[k]? = some t → isMapB sp[k]? = true → ∃ es c, w.heap[t.blk]? = some (.map es c) := by
    intro k t ht hm
    cases hs : sp[k]? with
    | none => rw [hs] at hm; cases hm
    | some b =>
      rw [hs] at hm
      have ok := h1.ok k t b ht hs
      match b, hm, ok with
      | .obj (.map es c), _, ok =>
        obtain ⟨_, o, ho, hR⟩ := ok
        cases hR
        exact ⟨_, _, ho⟩
  intro x hx
  simp only [List.mem_cons, List.mem_nil_iff, or_false] at hx
  rcases hx with rfl | rfl
  · exact key 3 _ h5 g3
  · exact key 12 _ h7 g12
theorem WData.own {sp : List BSpec} (hg : spGood sp = true) {ts : List Tgt} {t3 t12 : Tgt} (h3 : ts[3]? = some t3) (h12 : ts[12]? = some t12) : ∀ (k : Nat) (t : Tgt) (s : BSpec), ts[k]? = some t → sp[k]? = some s → s.owned = true → t.blk ∈ [t3.blk, t12.blk] := by
  intro k t s ht hs ho
  unfold spGood at hg
  simp only [Bool.and_eq_true] at hg
  have h := allUp_at _ hg.1.1 k (List.getElem?_eq_some_iff.1 hs).1
  rw [hs] at h
  simp only [ho, Bool.not_true, Bool.false_or, Bool.or_eq_true] at h
  rcases h with h | h
  · obtain rfl := Nat.eq_of_beq_eq_true h
    rw [h3] at ht; cases ht; simp
  · obtain rfl := Nat.eq_of_beq_eq_true h
    rw [h12] at ht; cases ht; simp
/-- What is there behind a run: its data. -/
theorem data_of {w : World} {sp' : List BSpec} {N : Nat} {ts' : List Tgt} {d m s : Nat} (hT : Tabs w) (hL : Lies w sp' ts' (sg ⟨#[]⟩)) (hs : subOk sp' (sp'.take N) (upTo N 0) = true) (hN : 12 < N)
    (h0 : ts'[0]? = some ⟨0, zsp.length, 1⟩) {t1 t3 t12 : Tgt} (h1 : ts'[1]? = some t1) (b1 : t1.blk = d) (h3 : ts'[3]? = some t3) (b3 : t3.blk = m) (h12 : ts'[12]? = some t12) (b12 : t12.blk = s) : WData (sp'.take N) d m s w := by
  obtain ⟨vs, hV, hv⟩ := hL.sub hs
  have g : ∀ k, k < N → vs[k]? = ts'[k]? := fun k hk => hv k k (by rw [upTo_at _ _ k hk, Nat.zero_add])
  exact ⟨hT, vs, t1, t3, t12, hV, by rw [g 0 (by omega)]; exact h0, by rw [g 1 (by omega)]; exact h1, b1, by rw [g 3 (by omega)]; exact h3, b3, by rw [g 12 hN]; exact h12, b12⟩
theorem res_vr {φ : Emb} {b n : Nat} {c : Value} (h : VR φ (.tuple #[.agg #[.int .i64 0, .slice (some ⟨b, 0, none⟩) n INF], .bool true]) c) : ∃ (cap : Nat) (t : Tgt), φ b = some t ∧ c = .tuple #[.agg #[.int .i64 0, .slice (some ⟨t.blk, 0, none⟩) n cap], .bool true] := by
  cases h with
  | tuple ls cs hs h =>
    have hsz : cs.size = 2 := hs.symm
    have g : ∀ i (hi : i < 2), ∃ y, cs[i]? = some y := fun i hi => ⟨cs[i]'(by omega), Array.getElem?_eq_getElem _⟩
    obtain ⟨y0, e0⟩ := g 0 (by omega)
    obtain ⟨y1, e1⟩ := g 1 (by omega)
    have v0 := h 0 _ y0 rfl e0
    have v1 := h 1 _ y1 rfl e1
    cases v1
    have hcs : cs = #[y0, .bool true] := by
      apply Array.ext_getElem?
      intro i
      match i with
      | 0 => exact e0
      | 1 => exact e1
      | i + 2 => rw [Array.getElem?_eq_none (by omega), Array.getElem?_eq_none (by simp)]
    subst hcs
    cases v0 with
    | agg ks ds hs2 h2 =>
      have hsz2 : ds.size = 2 := hs2.symm
      have g2 : ∀ i (hi : i < 2), ∃ y, ds[i]? = some y := fun i hi => ⟨ds[i]'(by omega), Array.getElem?_eq_getElem _⟩
      obtain ⟨x0, f0⟩ := g2 0 (by omega)
      obtain ⟨x1, f1⟩ := g2 1 (by omega)
      have u0 := h2 0 _ x0 rfl f0
      have u1 := h2 1 _ x1 rfl f1
      cases u0
      cases u1 with
      | slice v o t l c c' h' g1 g2 =>
        have hds : ds = #[.int .i64 0, .slice (some ⟨t.blk, 0, none⟩) n c'] := by
          apply Array.ext_getElem?
          intro i
          match i with
          | 0 => exact f0
          | 1 => exact f1
          | i + 2 => rw [Array.getElem?_eq_none (by omega), Array.getElem?_eq_none (by simp)]
        subst hds
        exact ⟨c', t, h', rfl⟩
theorem call_run {sp sp' : List BSpec} {ids : List Nat} {links : List (Nat × Nat × Bool)} {nm : ByteArray} {l : List Int} {N N' n rid nres : Nat} (hg : spGood sp = true) (hn : n = l.length) (hNl : sp.length = N)
    (hc : runCheck (aFunT Tryz.prog tb0 mkT 1000 100 (.func 50) [.pointer (some ⟨1, 0, none⟩), .string nm, .slice (some ⟨N, 0, none⟩) n INF] (bSt (sp ++ [rowN l]) [] 1)) (N + 1) (isCall rid nres) sp' ids noTau links = true)
    (hs : subOk sp' (sp'.take N') (upTo N' 0) = true) (hN : 12 < N) (hN' : 12 < N') (hl' : N' < sp'.length) (i0 : ids[0]? = some 0) (i1 : ids[1]? = some 1) (i3 : ids[3]? = some 3) (i12 : ids[12]? = some 12) (ir : ids[N']? = some rid)
    {d m s : Nat} {w0 w : World} (h : WData sp d m s w0) (hb : Below w0.heap.size w0 w) {v : Value} {t : Tgt} (hr : RowIs w l v t) (hnew : w0.heap.size ≤ t.blk) :
    Calls Tryz.prog 50 #[.pointer (some ⟨d, 0, none⟩), .string nm, v] w fun e w' => ∃ ts' tr cap, e = .returned (.tuple #[.agg #[.int .i64 0, .slice (some ⟨tr.blk, 0, none⟩) nres cap], .bool true]) ∧ Lies w' sp' ts' (sg ⟨#[]⟩) ∧ ts'[N']? = some tr ∧ WData (sp'.take N') d m s w' ∧ KeepL [m, s] w w' := by
  subst hn
  have hM := (h.maps hg).below hb
  have hT := (h.below hb).tabs
  obtain ⟨_, ts, t1, t3, t12, h1, h2, h3, rfl, h5, rfl, h7, rfl⟩ := h
  obtain ⟨⟨cap, rfl, hcap⟩, r2, r3⟩ := hr
  have h1' := h1.below hb
  have hnm : t.blk ∉ ts.map (·.blk) := fun hx => by have := h1.ltm _ hx; omega
  have hS := h1'.snoc (sp := rowN l) (t := t) (r3 _) hnm r2
  have hlen : ts.length = N := by rw [h1.len, hNl]
  have old : ∀ k, k < N → (ts ++ [t])[k]? = ts[k]? := fun k hk => List.getElem?_append_left (by omega)
  have hat : (ts ++ [t])[N]? = some t := by rw [List.getElem?_append_right (by omega), hlen]; simp
  have hL1 : (sp ++ [rowN l]).length = N + 1 := by rw [List.length_append, hNl]; rfl
  rw [← hL1] at hc
  refine (run_ownT [t3.blk, t12.blk] hT (hM.no0 hT) hS (fun k u b hu hb2 ho => ?_) (by rw [old 0 (by omega)]; exact h2) (args := [.pointer (some ⟨1, 0, none⟩), .string nm, .slice (some ⟨N, 0, none⟩) l.length INF]) (cargs := [.pointer (some ⟨t1.blk, 0, none⟩), .string nm, .slice (some ⟨t.blk, 0, none⟩) l.length cap]) (.cons _ _ _ _ (.ptr 1 0 t1 (by show (ts ++ [t])[1]? = _; rw [old 1 (by omega)]; exact h3)) (.cons _ _ _ _ (.string _) (.cons _ _ _ _ (.slice N 0 t _ _ _ hat (fun h => absurd rfl h) (fun _ => hcap)) .nil))) hc).mono ?_
  · by_cases hk : k < N
    · rw [old k hk] at hu
      rw [List.getElem?_append_left (by omega)] at hb2
      exact WData.own hg h5 h7 k u b hu hb2 ho
    · have hkl := (List.getElem?_eq_some_iff.1 hb2).1
      obtain rfl : k = N := by omega
      rw [List.getElem?_append_right (by omega), hNl] at hb2
      simp at hb2
      subst hb2
      cases ho
  · rintro e w' ⟨ψ, u, c, ts', rfl, hu, hvr, hran, hsg, hk⟩
    have hlen' := hran.len
    have at' : ∀ k u, k < N → ids[k]? = some k → ts[k]? = some u → k < ts'.length → ts'[k]? = some u := fun k u hk hid hu hkl => by
      have h4 : ts'[k]? = some (ts'[k]'hkl) := List.getElem?_eq_getElem _
      obtain ⟨_, h5⟩ := hran.at_own hid h4
      rcases h5 with ⟨_, h5⟩ | ⟨h5, _⟩
      · rw [old k hk, hu] at h5; rw [h4, ← h5]
      · rw [hL1] at h5; omega
    have hk0 := hk
    have hT' := hT.keepL hk (hM.no0 hT)
    have hidl : N' < ts'.length := by rw [hlen']; exact hl'
    have htr : ts'[N']? = some (ts'[N']'hidl) := List.getElem?_eq_getElem _
    obtain rfl := veq_sound _ _ hu
    obtain ⟨q1, _⟩ := hran.at_own ir htr
    obtain ⟨cv, t9, z1, rfl⟩ := res_vr hvr
    rw [q1] at z1
    cases z1
    exact ⟨ts', _, cv, rfl, hran.lies, htr, data_of hT' hran.lies hs hN' (at' 0 _ (by omega) i0 h2 (by omega)) (at' 1 _ (by omega) i1 h3 (by omega)) rfl (at' 3 _ (by omega) i3 h5 (by omega)) rfl (at' 12 _ (by omega) i12 h7 (by omega)) rfl, hk⟩
end Go.Proofs.YtbjickdjkgefcaaGreatDoor
end
end
section
open Go Go.RowKit Go.Proofs.YtbjickdjkgefcaaGreatDoor.Vai
noncomputable section
namespace Go.Proofs.YtbjickdjkgefcaaGreatDoor
set_option linter.unusedVariables false
set_option linter.unusedSimpArgs false
set_option maxRecDepth 100000
theorem g1 : spGood spW1 = true := by kernel_rfl
theorem g2 : spGood (spW2.take 39) = true := by kernel_rfl
theorem g3 : spGood (spW3.take 38) = true := by kernel_rfl
theorem s1 : subOk spW1 (spW1.take 33) (upTo 33 0) = true := by kernel_rfl
theorem s2 : subOk spW2 (spW2.take 39) (upTo 39 0) = true := by kernel_rfl
theorem s3 : subOk spW3 (spW3.take 38) (upTo 38 0) = true := by kernel_rfl
theorem s4 : subOk spW4 (spW4.take 38) (upTo 38 0) = true := by kernel_rfl
theorem wload_run {q : Four} {w : World} {ts : List Tgt} (hT : Tabs w) (hL : Lies w (specP []) ts (sg ⟨#[]⟩)) (h4 : (ts.map (·.blk)).take 4 = q.l) :
    Calls Tryz.prog 9 #[.pointer (some ⟨q.d, 0, none⟩), .int .i64 1, .int .i64 1, .int .i64 1, .int .i64 2] w fun e w' => e = .returned (.int .i64 0) ∧ WData spW1 q.d q.s q.m w' ∧ KeepL [q.s, q.m] w w' := by
  have hC : CSP false ⟨#[]⟩ q w 0 w ts := ⟨hL, h4, KeepL.refl _ _, hT⟩
  obtain ⟨⟨t0, e0, b0⟩, ⟨t1, e1, b1⟩, ⟨t2, e2, b2⟩, ⟨t3, e3, b3⟩⟩ := hC.at_
  have hlt0 : 0 < w.heap.size := lt_of_heap (tabs_zero hT).choose_spec
  have hS := hL.snoc (sp := spG) (t := ⟨0, zsp.length, 1⟩) (spG_ok hT _) hC.no0 hlt0
  obtain ⟨vs, hV, hv⟩ := hS.sub (subP1 false)
  have hlen : ts.length = 4 := hL.len
  have g0 : vs[0]? = some ⟨0, zsp.length, 1⟩ := by
    rw [hv 0 4 rfl, List.getElem?_append_right (by omega), hlen]; rfl
  have g : ∀ i, i < 4 → vs[i + 1]? = ts[i]? := fun i hi => by
    have h1 : (idsQ1 (tabsP false 0))[i + 1]? = some i := by
      show (upTo (specP (tabsP false 0)).length 0)[i]? = some i
      rw [upTo_at _ _ i (by exact hi)]; simp
    rw [hv _ _ h1, List.getElem?_append_left (by omega)]
  have hc := wload_ok
  unfold wLoad at hc
  refine (run_ownT q.own hT hC.own0 hV (fun k t sp ht hsp ho => ?_) g0 (args := [.pointer (some ⟨1, 0, none⟩), .int .i64 1, .int .i64 1, .int .i64 1, .int .i64 2]) (cargs := [.pointer (some ⟨q.d, 0, none⟩), .int .i64 1, .int .i64 1, .int .i64 1, .int .i64 2]) (.cons _ _ _ _ (by rw [← b0]; exact .ptr 1 0 t0 ((g 0 (by omega)).trans e0)) (.cons _ _ _ _ (.int _ _) (.cons _ _ _ _ (.int _ _) (.cons _ _ _ _ (.int _ _) (.cons _ _ _ _ (.int _ _) .nil))))) hc).mono ?_
  · match k with
    | 0 => cases hsp; cases ho
    | 1 => cases hsp; cases ho
    | 2 => cases hsp; cases ho
    | 3 => rw [g 2 (by omega), e2] at ht; cases ht; simp [Four.own, b2]
    | 4 => rw [g 3 (by omega), e3] at ht; cases ht; simp [Four.own, b3]
    | k + 5 => exact absurd (show (none : Option BSpec) = some sp from hsp) (by simp)
  · rintro e w' ⟨ψ, u, c, ts', rfl, hu, hvr, hran, hsg, hk⟩
    obtain rfl := veq_sound _ _ hu
    have hlen' : ts'.length = 33 := hran.len
    have at' : ∀ k id u, spW1ids[k]? = some id → id < 5 → vs[id]? = some u → k < 33 → ts'[k]? = some u := fun k id u hid hi hu hkl => by
      have h4 : ts'[k]? = some (ts'[k]'(by omega)) := List.getElem?_eq_getElem _
      obtain ⟨_, h5⟩ := hran.at_own hid h4
      rcases h5 with ⟨_, h5⟩ | ⟨h5, _⟩
      · rw [hu] at h5; rw [h4, ← h5]
      · have : (specP1 []).length = 5 := rfl
        have h5 : 5 ≤ id := h5
        omega
    have hT' := hT.keepL hk hC.own0
    refine ⟨by rw [hvr.eq_of_plain (by rfl)], ?_, hk.mono (fun x hx => by simp [Four.own] at hx ⊢; omega)⟩
    have := data_of hT' hran.lies s1 (by omega) (at' 0 0 _ rfl (by omega) g0 (by omega)) (at' 1 1 _ rfl (by omega) ((g 0 (by omega)).trans e0) (by omega)) b0 (at' 3 4 _ rfl (by omega) ((g 3 (by omega)).trans e3) (by omega)) b3 (at' 12 3 _ rfl (by omega) ((g 2 (by omega)).trans e2) (by omega)) b2
    exact this
theorem wsound_run {d m s : Nat} {w : World} (h : WData (spW3.take 38) d m s w) : Calls Tryz.prog 14 #[.pointer (some ⟨d, 0, none⟩)] w fun e w' => e = .returned (.int .i64 0) ∧ KeepL [m, s] w w' := by
  have hM := h.maps g3
  obtain ⟨hT, ts, t1, t3, t12, h1, h2, h3, rfl, h5, rfl, h7, rfl⟩ := h
  have hc := wsound_ok
  unfold wSound at hc
  refine (run_ownT [t3.blk, t12.blk] hT (hM.no0 hT) h1 (WData.own g3 h5 h7) h2 (args := [.pointer (some ⟨1, 0, none⟩)]) (cargs := [.pointer (some ⟨t1.blk, 0, none⟩)]) (.cons _ _ _ _ (.ptr 1 0 t1 h3) .nil) hc).mono ?_
  rintro e w' ⟨ψ, u, c, ts', rfl, hu, hvr, hr, hs, hk⟩
  obtain rfl := veq_sound _ _ hu
  refine ⟨by rw [hvr.eq_of_plain (by rfl)], ?_⟩
  exact hk
/-- The order: one row, what it costs. -/
theorem wcall1_run {d m s : Nat} {w0 w : World} (h : WData spW1 d m s w0) (hb : Below w0.heap.size w0 w) {v : Value} {t : Tgt} (hr : RowIs w [1, 1, 1, 2, 1, 3] v t) (hnew : w0.heap.size ≤ t.blk) :
    Calls Tryz.prog 50 #[.pointer (some ⟨d, 0, none⟩), .string ⟨#[110, 101, 119]⟩, v] w fun e w' => ∃ rb cap u t, e = .returned (.tuple #[.agg #[.int .i64 0, .slice (some ⟨rb, 0, none⟩) 1 cap], .bool true]) ∧ w'.cell? ⟨rb, 0, none⟩ = some u ∧ RowIs w' [1, 606] u t ∧ rb ∉ [m, s] ∧ WData (spW2.take 39) d m s w' ∧ KeepL [m, s] w w' := by
  refine (call_run (N := 33) (N' := 39) g1 rfl rfl wcall1_ok s2 (by omega) (by omega) (by decide) rfl rfl rfl rfl rfl h hb hr hnew).mono ?_
  rintro e w' ⟨ts', tr, cap, rfl, hL, htr, hD, hk⟩
  obtain ⟨u, t, c1, c2⟩ := res_row (i := 0) (j := 40) (l := [1, 606]) hL htr rfl rfl rfl rfl
  refine ⟨tr.blk, cap, u, t, rfl, c1, c2, fun hx => ?_, hD, hk⟩
  obtain ⟨es, k, e⟩ := hD.maps g2 _ hx
  simp [World.cell?, e] at c1
theorem wcall2_run {d m s : Nat} {w0 w : World} (h : WData (spW2.take 39) d m s w0) (hb : Below w0.heap.size w0 w) {v : Value} {t : Tgt} (hr : RowIs w [1, 7] v t) (hnew : w0.heap.size ≤ t.blk) :
    Calls Tryz.prog 50 #[.pointer (some ⟨d, 0, none⟩), .string ⟨#[98, 114, 105, 110, 103]⟩, v] w fun e w' => ∃ rb cap, e = .returned (.tuple #[.agg #[.int .i64 0, .slice (some ⟨rb, 0, none⟩) 1 cap], .bool true]) ∧ WData (spW3.take 38) d m s w' ∧ KeepL [m, s] w w' := by
  refine (call_run (N := 39) (N' := 38) g2 rfl rfl wcall2_ok s3 (by omega) (by omega) (by decide) rfl rfl rfl rfl rfl h hb hr hnew).mono ?_
  rintro e w' ⟨ts', tr, cap, rfl, hL, htr, hD, hk⟩
  exact ⟨tr.blk, cap, rfl, hD, hk⟩
theorem wcall3_run {d m s : Nat} {w0 w : World} (h : WData (spW3.take 38) d m s w0) (hb : Below w0.heap.size w0 w) {v : Value} {t : Tgt} (hr : RowIs w [1, 1, 1] v t) (hnew : w0.heap.size ≤ t.blk) :
    Calls Tryz.prog 50 #[.pointer (some ⟨d, 0, none⟩), .string ⟨#[115, 116, 97, 116, 101]⟩, v] w fun e w' => ∃ rb cap u t u2 t2, e = .returned (.tuple #[.agg #[.int .i64 0, .slice (some ⟨rb, 0, none⟩) 3 cap], .bool true]) ∧ w'.cell? ⟨rb, 0, none⟩ = some u ∧ RowIs w' [603] u t ∧ w'.cell? ⟨rb, 2, none⟩ = some u2 ∧ RowIs w' [2, 1, 3, 603] u2 t2 ∧ rb ∉ [m, s] ∧ WData (spW3.take 38) d m s w' ∧ KeepL [m, s] w w' := by
  refine (call_run (N := 38) (N' := 38) g3 rfl rfl wcall3_ok s4 (by omega) (by omega) (by decide) rfl rfl rfl rfl rfl h hb hr hnew).mono ?_
  rintro e w' ⟨ts', tr, cap, rfl, hL, htr, hD, hk⟩
  rw [spW4_data] at hD
  obtain ⟨u, t, c1, c2⟩ := res_row (i := 0) (j := 39) (l := [603]) hL htr rfl rfl rfl rfl
  obtain ⟨u2, t2, d1, d2⟩ := res_row (i := 2) (j := 41) (l := [2, 1, 3, 603]) hL htr rfl rfl rfl rfl
  refine ⟨tr.blk, cap, u, t, u2, t2, rfl, c1, c2, d1, d2, fun hx => ?_, hD, hk⟩
  obtain ⟨es, k, e⟩ := hD.maps g3 _ hx
  simp [World.cell?, e] at c1
end Go.Proofs.YtbjickdjkgefcaaGreatDoor
end
end
