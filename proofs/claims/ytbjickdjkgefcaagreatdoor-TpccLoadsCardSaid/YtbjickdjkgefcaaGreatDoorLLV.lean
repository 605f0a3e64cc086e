/- The document's side: Do on the data. -/
import Derived.Test.YtbjickdjkgefcaaGreatDoorLLS
import Derived.Deep.DeepCutAuto
import Derived.Test.YtbjickdjkgefcaaGreatDoorLLN
import Derived.Test.YtbjickdjkgefcaaGreatDoorLLI
section
open Go Go.RowKit Go.Proofs.YtbjickdjkgefcaaGreatDoor.Vai
namespace Go.Proofs.YtbjickdjkgefcaaGreatDoor
set_option linter.unusedVariables false
set_option linter.unusedSimpArgs false
set_option maxRecDepth 20000
attribute [local go_sem ↓] Go.wp_at_zero Go.wp_at_succ
theorem app_keep {wc w3 : World} {o : Obj} {r : Option Nat} (h : (wc.alloc o).grownBy w3 r) (hr : r = some wc.heap.size := by rfl) (k : Nat) (hk : k < wc.heap.size) : w3.heap[k]? = wc.heap[k]? := by
  subst hr
  have hs : (wc.alloc o).heap.size = wc.heap.size + 1 := by simp
  exact (h.block k (by omega) (fun e => by injection e; omega)).trans (Below.heap_alloc _ _ _ hk)
theorem rcells_one : ∀ (l : List RTab), (∀ t ∈ l, t.v.oneCell' = true) → ∀ u ∈ rcells l, u.oneCell' = true := by
  intro l h u hu
  simp only [rcells, List.mem_flatMap] at hu
  obtain ⟨t, ht, hu⟩ := hu
  simp only [RTab.cells, List.mem_cons, List.mem_nil_iff, or_false] at hu
  rcases hu with rfl | rfl | rfl | rfl | rfl <;> first | rfl | exact h t ht
theorem rdo_bel (w : World) (o1 o2 : Obj) : Below w.heap.size w ((w.alloc o1).alloc o2) := ((Below.refl _ _).alloc (Nat.le_refl _) _).alloc (by simp) _
/-- What the drawn region of Do reads. -/
structure RdoS (w : World) (d b q : Nat) (nm : ByteArray) (g n cap : Nat) (pc : Option Addr) (nc cc kn : Nat) (v rv : Value) : Prop where
  hd : w.cell? ⟨d, 1, none⟩ = some (.slice (some ⟨g, 0, none⟩) n cap)
  c0 : w.cell? ⟨g, q * 5 + 0, none⟩ = some (.string nm)
  c1 : w.cell? ⟨g, q * 5 + 1, none⟩ = some (.slice pc nc cc)
  c2 : w.cell? ⟨g, q * 5 + 2, none⟩ = some (.int .i64 kn)
  c3 : w.cell? ⟨g, q * 5 + 3, none⟩ = some (.slice none 0 0)
  c4 : w.cell? ⟨g, q * 5 + 4, none⟩ = some v
  x0 : w.cell? ⟨b, 0, none⟩ = some (.int .i64 2)
  x1 : w.cell? ⟨b, 1, none⟩ = some (.string nm)
  x2 : w.cell? ⟨b, 2, none⟩ = some (.slice none 0 0)
  x3 : w.cell? ⟨b, 3, none⟩ = some (.slice none 0 0)
  x4 : w.cell? ⟨b, 4, none⟩ = some rv
  x5 : w.cell? ⟨b, 5, none⟩ = some (.string ⟨#[]⟩)
  x6 : w.cell? ⟨b, 6, none⟩ = some (.int .i64 0)
  x7 : w.cell? ⟨b, 7, none⟩ = some (.int .i64 0)
  x8 : w.cell? ⟨b, 8, none⟩ = some (.int .i64 0)
theorem RdoS.below {w w' : World} {d b q : Nat} {nm : ByteArray} {g n cap : Nat} {pc : Option Addr} {nc cc kn : Nat} {v rv : Value} (h : RdoS w d b q nm g n cap pc nc cc kn v rv) {B : Nat} (hB : B = w.heap.size) (hb : Below B w w') : RdoS w' d b q nm g n cap pc nc cc kn v rv := by
  subst hB
  have hc : ∀ {a : Nat} {o : Nat} {u : Value}, w.cell? ⟨a, o, none⟩ = some u → w'.cell? ⟨a, o, none⟩ = some u := fun {a o u} h => (World.cell?_of_block (w := w) (hb.block _ (cell_lt h))).trans h
  exact ⟨hc h.hd, hc h.c0, hc h.c1, hc h.c2, hc h.c3, hc h.c4, hc h.x0, hc h.x1, hc h.x2, hc h.x3, hc h.x4, hc h.x5, hc h.x6, hc h.x7, hc h.x8⟩
theorem RdoS.all {w : World} {d b q : Nat} {nm : ByteArray} {g n cap : Nat} {pc : Option Addr} {nc cc kn : Nat} {v rv : Value} (h : RdoS w d b q nm g n cap pc nc cc kn v rv) : w.cell? ⟨d, 1, none⟩ = some (.slice (some ⟨g, 0, none⟩) n cap) ∧ w.cell? ⟨g, q * 5, none⟩ = some (.string nm) ∧ w.cell? ⟨g, q * 5 + 1, none⟩ = some (.slice pc nc cc) ∧ w.cell? ⟨g, q * 5 + 2, none⟩ = some (.int .i64 kn) ∧ w.cell? ⟨g, q * 5 + 3, none⟩ = some (.slice none 0 0) ∧ w.cell? ⟨g, q * 5 + 4, none⟩ = some v ∧ w.cell? ⟨b, 0, none⟩ = some (.int .i64 2) ∧ w.cell? ⟨b, 1, none⟩ = some (.string nm) ∧ w.cell? ⟨b, 2, none⟩ = some (.slice none 0 0) ∧ w.cell? ⟨b, 3, none⟩ = some (.slice none 0 0) ∧ w.cell? ⟨b, 4, none⟩ = some rv ∧ w.cell? ⟨b, 5, none⟩ = some (.string ⟨#[]⟩) ∧ w.cell? ⟨b, 6, none⟩ = some (.int .i64 0) ∧ w.cell? ⟨b, 7, none⟩ = some (.int .i64 0) ∧ w.cell? ⟨b, 8, none⟩ = some (.int .i64 0) := ⟨h.hd, h.c0, h.c1, h.c2, h.c3, h.c4, h.x0, h.x1, h.x2, h.x3, h.x4, h.x5, h.x6, h.x7, h.x8⟩
theorem two_facts {w : World} {b : Nat} {a0 a1 : Value} {t : TypeId} (Z : w.heap[b]? = some (.cells #[a0, a1] t (0, 0))) : w.cell? ⟨b, 0, none⟩ = some a0 ∧ w.cell? ⟨b, 1, none⟩ = some a1 ∧ (∀ i, w.frozen? ⟨b, i, none⟩ = false) :=
  ⟨cell_of_heap Z 0 _ rfl, cell_of_heap Z 1 _ rfl, fun i => frozen_not Z (by simp)⟩
theorem fz1 {B q : Nat} {W w2 : World} {cs : Array Value} {t : TypeId} (h : Below B (World.drew (W.alloc (.cells cs t))) w2) (hB : B = (World.drew (W.alloc (.cells cs t))).heap.size) (hq : q = W.heap.size) : w2.heap[q]? = some (.cells cs t (0, 0)) := by
  subst hB hq
  exact (h.block _ (by simp)).trans (show (W.alloc (.cells cs t)).heap[W.heap.size]? = _ from heap_alloc_at)
theorem fz2 {B q : Nat} {W w2 : World} {cs : Array Value} {t : TypeId} {o : Obj} (h : Below B (World.drew ((W.alloc (.cells cs t)).alloc o)) w2) (hB : B = (World.drew ((W.alloc (.cells cs t)).alloc o)).heap.size) (hq : q = W.heap.size) : w2.heap[q]? = some (.cells cs t (0, 0)) := by
  subst hB hq
  exact (h.block _ (by simp; omega)).trans (show ((W.alloc (.cells cs t)).alloc o).heap[W.heap.size]? = _ from (Below.heap_alloc _ _ _ (by simp)).trans heap_alloc_at)
theorem five_factsA {w : World} {b : Nat} {v0 v1 v2 v3 v4 : Value} {t : TypeId} (T : w.heap[b]? = some (.cells #[v0, v1, v2, v3, v4] t (0, 0))) (o : Obj) :
    (w.alloc o).cell? ⟨b, 0, none⟩ = some v0 ∧ (w.alloc o).cell? ⟨b, 1, none⟩ = some v1 ∧ (w.alloc o).cell? ⟨b, 2, none⟩ = some v2 ∧ (w.alloc o).cell? ⟨b, 3, none⟩ = some v3 ∧ (w.alloc o).cell? ⟨b, 4, none⟩ = some v4 ∧ ∀ i, (w.alloc o).frozen? ⟨b, i, none⟩ = false := five_facts ((Below.heap_alloc _ _ _ (lt_of_heap T)).trans T)
theorem two_factsA {w : World} {b : Nat} {a0 a1 : Value} {t : TypeId} (Z : w.heap[b]? = some (.cells #[a0, a1] t (0, 0))) (o : Obj) : (w.alloc o).cell? ⟨b, 0, none⟩ = some a0 ∧ (w.alloc o).cell? ⟨b, 1, none⟩ = some a1 ∧ (∀ i, (w.alloc o).frozen? ⟨b, i, none⟩ = false) := two_facts ((Below.heap_alloc _ _ _ (lt_of_heap Z)).trans Z)
/-- What the drawn region of Do leaves. -/
def RdoE (w0 : World) (B : Nat) (nm : ByteArray) (pc : Option Addr) (nc cc kn : Nat) (L : List (List Int)) (s6 s7 : Value) (wE : World) : Prop :=
  ∃ b6 b7 p2 n2 c2, s6 = .pointer (some ⟨b6, 0, none⟩) ∧ s7 = .pointer (some ⟨b7, 0, none⟩) ∧ wE.heap[b6]? = some (.cells #[.string nm, .slice pc nc cc, .int .i64 kn, .slice none 0 0, .slice p2 n2 c2] 87 (0, 0)) ∧ wE.heap[b7]? = some (.cells #[.int .i64 0, .slice none 0 0] 106 (0, 0)) ∧ B ≤ b6 ∧ VRows wE (.slice p2 n2 c2) L ∧ Below B w0 wE
theorem rdo_fin {w0 w2 w3 : World} {B b6 b7 : Nat} {nm : ByteArray} {pc : Option Addr} {nc cc kn : Nat} {L : List (List Int)} {p2 : Option Addr} {n2 c2 : Nat} {a0 a1 a2 a3 a4 e0 e1 : Value} (hv : VRows w2 (.slice p2 n2 c2) L) (hb : Below B w0 w2) (hb3 : Below w2.heap.size w2 w3) (hB : B ≤ w2.heap.size)
    (h6 : w3.heap[b6]? = some (.cells #[a0, a1, a2, a3, a4] 87 (0, 0))) (h7 : w3.heap[b7]? = some (.cells #[e0, e1] 106 (0, 0))) (l6 : B ≤ b6) (l7 : B ≤ b7) :
    RdoE w0 B nm pc nc cc kn L (.pointer (some ⟨b6, 0, none⟩)) (.pointer (some ⟨b7, 0, none⟩)) (((((((w3.setCell ⟨b6, 0, none⟩ (.string nm)).setCell ⟨b6, 1, none⟩ (.slice pc nc cc)).setCell ⟨b6, 2, none⟩ (.int .i64 kn)).setCell ⟨b6, 3, none⟩ (.slice none 0 0)).setCell ⟨b6, 4, none⟩ (.slice p2 n2 c2)).setCell ⟨b7, 0, none⟩ (.int .i64 0)).setCell ⟨b7, 1, none⟩ (.slice none 0 0)) ∧
    RdoE w0 B nm pc nc cc kn L (.pointer (some ⟨b6, 0, none⟩)) (.pointer (some ⟨b7, 0, none⟩)) (((((((w3.setCell ⟨b7, 0, none⟩ (.int .i64 0)).setCell ⟨b7, 1, none⟩ (.slice none 0 0)).setCell ⟨b6, 0, none⟩ (.string nm)).setCell ⟨b6, 1, none⟩ (.slice pc nc cc)).setCell ⟨b6, 2, none⟩ (.int .i64 kn)).setCell ⟨b6, 3, none⟩ (.slice none 0 0)).setCell ⟨b6, 4, none⟩ (.slice p2 n2 c2)) := by
  have hne : b6 ≠ b7 := fun e => by subst e; rw [h6] at h7; simp at h7
  have k3 : KT [121, 71] w2 w3 := KT.below hb3 (Nat.le_refl _)
  have b3 : Below B w0 w3 := hb.trans (hb3.mono hB)
  constructor
  · obtain ⟨Z6, kt6, bel6⟩ := set5 (T := [121, 71]) (v0 := .string nm) (v1 := .slice pc nc cc) (v2 := .int .i64 kn) (v3 := .slice none 0 0) (v4 := .slice p2 n2 c2) h6 (by decide)
    have hZ : (((((w3.setCell ⟨b6, 0, none⟩ (.string nm)).setCell ⟨b6, 1, none⟩ (.slice pc nc cc)).setCell ⟨b6, 2, none⟩ (.int .i64 kn)).setCell ⟨b6, 3, none⟩ (.slice none 0 0)).setCell ⟨b6, 4, none⟩ (.slice p2 n2 c2)).heap[b7]? = some (.cells #[e0, e1] 106 (0, 0)) := by
      rw [Below.heap_setCell _ _ _ _ (Ne.symm hne), Below.heap_setCell _ _ _ _ (Ne.symm hne), Below.heap_setCell _ _ _ _ (Ne.symm hne), Below.heap_setCell _ _ _ _ (Ne.symm hne), Below.heap_setCell _ _ _ _ (Ne.symm hne), h7]
    obtain ⟨Z7, kt7, bel7⟩ := set2 (T := [121, 71]) (v0 := .int .i64 0) (v1 := .slice none 0 0) hZ (by decide)
    exact ⟨b6, b7, p2, n2, c2, rfl, rfl, (Below.heap_setCell _ _ _ _ hne).trans ((Below.heap_setCell _ _ _ _ hne).trans Z6), Z7, l6, hv.keep (k3.trans (kt6.trans kt7)) (by simp) (by simp), (b3.trans (bel6 _ l6)).trans (bel7 _ l7)⟩
  · obtain ⟨Z7, kt7, bel7⟩ := set2 (T := [121, 71]) (v0 := .int .i64 0) (v1 := .slice none 0 0) h7 (by decide)
    have hZ : (((w3.setCell ⟨b7, 0, none⟩ (.int .i64 0)).setCell ⟨b7, 1, none⟩ (.slice none 0 0))).heap[b6]? = some (.cells #[a0, a1, a2, a3, a4] 87 (0, 0)) := by
      rw [Below.heap_setCell _ _ _ _ hne, Below.heap_setCell _ _ _ _ hne, h6]
    obtain ⟨Z6, kt6, bel6⟩ := set5 (T := [121, 71]) (v0 := .string nm) (v1 := .slice pc nc cc) (v2 := .int .i64 kn) (v3 := .slice none 0 0) (v4 := .slice p2 n2 c2) hZ (by decide)
    exact ⟨b6, b7, p2, n2, c2, rfl, rfl, Z6, (Below.heap_setCell _ _ _ _ (Ne.symm hne)).trans ((Below.heap_setCell _ _ _ _ (Ne.symm hne)).trans ((Below.heap_setCell _ _ _ _ (Ne.symm hne)).trans ((Below.heap_setCell _ _ _ _ (Ne.symm hne)).trans ((Below.heap_setCell _ _ _ _ (Ne.symm hne)).trans Z7)))), l6, hv.keep (k3.trans (kt7.trans kt6)) (by simp) (by simp), (b3.trans (bel7 _ l7)).trans (bel6 _ l6)⟩
section
variable {w0 w2 : World} {B b6 b7 : Nat} {nm : ByteArray} {pc : Option Addr} {nc cc kn : Nat} {L : List (List Int)} {p2 : Option Addr} {n2 c2 : Nat} {a0 a1 a2 a3 a4 e0 e1 : Value}
theorem rdo_f1 (hv : VRows w2 (.slice p2 n2 c2) L) (hb : Below B w0 w2) (hB : B ≤ w2.heap.size) : RdoE w0 B nm pc nc cc kn L (.pointer (some ⟨w2.heap.size, 0, none⟩)) (.pointer (some ⟨w2.heap.size + 1, 0, none⟩)) ((w2.alloc (.cells #[.string nm, .slice pc nc cc, .int .i64 kn, .slice none 0 0, .slice p2 n2 c2] 87)).alloc (.cells #[.int .i64 0, .slice none 0 0] 106)) :=
  ⟨_, _, p2, n2, c2, rfl, rfl, (Below.heap_alloc _ _ _ (by simp)).trans heap_alloc_at, by simpa using @heap_alloc_at (w2.alloc (.cells #[.string nm, .slice pc nc cc, .int .i64 kn, .slice none 0 0, .slice p2 n2 c2] 87)) (.cells #[.int .i64 0, .slice none 0 0] 106), hB, hv.keep ((KT.alloc [121, 71] _ _).trans (KT.alloc _ _ _)) (by simp) (by simp), (hb.alloc hB _).alloc (by simp; omega) _⟩
theorem rdo_f2 (hv : VRows w2 (.slice p2 n2 c2) L) (hb : Below B w0 w2) (hB : B ≤ w2.heap.size) : RdoE w0 B nm pc nc cc kn L (.pointer (some ⟨w2.heap.size + 1, 0, none⟩)) (.pointer (some ⟨w2.heap.size, 0, none⟩)) ((w2.alloc (.cells #[.int .i64 0, .slice none 0 0] 106)).alloc (.cells #[.string nm, .slice pc nc cc, .int .i64 kn, .slice none 0 0, .slice p2 n2 c2] 87)) :=
  ⟨_, _, p2, n2, c2, rfl, rfl, by simpa using @heap_alloc_at (w2.alloc (.cells #[.int .i64 0, .slice none 0 0] 106)) (.cells #[.string nm, .slice pc nc cc, .int .i64 kn, .slice none 0 0, .slice p2 n2 c2] 87), (Below.heap_alloc _ _ _ (by simp)).trans heap_alloc_at, by omega, hv.keep ((KT.alloc [121, 71] _ _).trans (KT.alloc _ _ _)) (by simp) (by simp), (hb.alloc hB _).alloc (by simp; omega) _⟩
theorem rdo_f3 (hv : VRows w2 (.slice p2 n2 c2) L) (hb : Below B w0 w2) (hB : B ≤ w2.heap.size) (h6 : w2.heap[b6]? = some (.cells #[a0, a1, a2, a3, a4] 87 (0, 0))) (l6 : B ≤ b6) : RdoE w0 B nm pc nc cc kn L (.pointer (some ⟨b6, 0, none⟩)) (.pointer (some ⟨w2.heap.size, 0, none⟩)) ((((((w2.alloc (.cells #[.int .i64 0, .slice none 0 0] 106)).setCell ⟨b6, 0, none⟩ (.string nm)).setCell ⟨b6, 1, none⟩ (.slice pc nc cc)).setCell ⟨b6, 2, none⟩ (.int .i64 kn)).setCell ⟨b6, 3, none⟩ (.slice none 0 0)).setCell ⟨b6, 4, none⟩ (.slice p2 n2 c2)) := by
  have hl := lt_of_heap h6
  have hZ : (w2.alloc (.cells #[.int .i64 0, .slice none 0 0] 106)).heap[b6]? = _ := (Below.heap_alloc _ _ _ hl).trans h6
  have hne : w2.heap.size ≠ b6 := by omega
  obtain ⟨Z6, kt6, bel6⟩ := set5 (T := [121, 71]) (v0 := .string nm) (v1 := .slice pc nc cc) (v2 := .int .i64 kn) (v3 := .slice none 0 0) (v4 := .slice p2 n2 c2) hZ (by decide)
  exact ⟨b6, w2.heap.size, p2, n2, c2, rfl, rfl, Z6, (Below.heap_setCell _ _ _ _ hne).trans ((Below.heap_setCell _ _ _ _ hne).trans ((Below.heap_setCell _ _ _ _ hne).trans ((Below.heap_setCell _ _ _ _ hne).trans ((Below.heap_setCell _ _ _ _ hne).trans heap_alloc_at)))), l6, hv.keep ((KT.alloc [121, 71] _ _).trans kt6) (by simp) (by simp), (hb.alloc hB _).trans (bel6 _ l6)⟩
theorem rdo_f4 (hv : VRows w2 (.slice p2 n2 c2) L) (hb : Below B w0 w2) (hB : B ≤ w2.heap.size) (h7 : w2.heap[b7]? = some (.cells #[e0, e1] 106 (0, 0))) (l7 : B ≤ b7) : RdoE w0 B nm pc nc cc kn L (.pointer (some ⟨w2.heap.size, 0, none⟩)) (.pointer (some ⟨b7, 0, none⟩)) (((w2.alloc (.cells #[.string nm, .slice pc nc cc, .int .i64 kn, .slice none 0 0, .slice p2 n2 c2] 87)).setCell ⟨b7, 0, none⟩ (.int .i64 0)).setCell ⟨b7, 1, none⟩ (.slice none 0 0)) := by
  have hl := lt_of_heap h7
  have hZ : (w2.alloc (.cells #[.string nm, .slice pc nc cc, .int .i64 kn, .slice none 0 0, .slice p2 n2 c2] 87)).heap[b7]? = _ := (Below.heap_alloc _ _ _ hl).trans h7
  have hne : w2.heap.size ≠ b7 := by omega
  obtain ⟨Z7, kt7, bel7⟩ := set2 (T := [121, 71]) (v0 := .int .i64 0) (v1 := .slice none 0 0) hZ (by decide)
  exact ⟨w2.heap.size, b7, p2, n2, c2, rfl, rfl, (Below.heap_setCell _ _ _ _ hne).trans ((Below.heap_setCell _ _ _ _ hne).trans heap_alloc_at), Z7, hB, hv.keep ((KT.alloc [121, 71] _ _).trans kt7) (by simp) (by simp), (hb.alloc hB _).trans (bel7 _ l7)⟩
end
set_option maxHeartbeats 8000000 in
theorem rdo_any (J : World → Prop) (w : World) (d : Nat) (x : Value) (l : List RTab) (R : Nat → List (List Int)) (q : Nat) (t : RTab) (r : List Int) (rv : Value) (hD : RDat w d x l R) (hq : l[q]? = some t) (hne : ∀ i x, i < q → l[i]? = some x → (x.nm.toList == t.nm.toList) = false) (hl : l.length ≤ 100)
    (F : RFitK J t.nm t.c.p t.c.n t.c.c t.kn r) (hJ : J w) (hk : Last t.kn (R q) (r.take t.kn)) (hr : VRow w rv r) (hrl : r.length ≤ 100) (hkl : t.kn ≤ r.length) (hlk : ∀ l ∈ R q, t.kn ≤ l.length) :
    Calls Tryz.prog 65 #[.pointer (some ⟨d, 0, none⟩), opPut t.nm rv] w fun e w' => ∃ v', e = .returned (.agg #[.int .i64 0, .slice none 0 0]) ∧ RDat w' d x (l.set q { t with v := v' }) (updL R q (R q ++ [r])) ∧ w.grownBy w' (some d) := by
  have hql : q < l.length := (List.getElem?_eq_some_iff.1 hq).1
  have K1 : ∀ w1, Below w.heap.size w w1 → Calls Tryz.prog 68 #[.pointer (some ⟨d, 0, none⟩), .string t.nm] w1 fun e w' => e = .returned (.int .i64 q) ∧ w' = w1 := fun w1 hb => rplace_any w1 d l q t hq hne hl (hD.keep (KT.below hb (Nat.le_refl _) : KT [66, 87, 121, 71] _ _) (by simp) (by simp) (by simp) (by simp)).data
  have K2 : ∀ w1, Below w.heap.size w w1 → Calls Tryz.prog 108 #[tabV t.nm t.c.p t.c.n t.c.c t.kn t.v, opPut t.nm rv] w1 _ := fun w1 hw1 => one_any J w1 t.nm t.c.p t.c.n t.c.c t.kn t.v (R q) r rv F (F.keep _ _ hJ hw1) ((hD.rows q t hq).1.keep (KT.below hw1 (Nat.le_refl _) : KT [121, 71] _ _) (by simp) (by simp)) ((hD.rows q t hq).2) hk (hr.keep (KT.below hw1 (Nat.le_refl _) : KT [121] _ _) (by simp)) hrl hkl hlk
  obtain ⟨p, n, cap, hv⟩ := VRows_slice (hD.rows q t hq).1
  obtain ⟨pr, nr, cr, hrv⟩ := ownsRow_slice hr.2
  obtain ⟨g, gcap, hd1, hd2, hg, hgc, hcell⟩ := hD.data.read (by omega)
  have HD := Lib.hid hD
  have HQ := Lib.hid hq
  have S0 : ∀ w1, Below w.heap.size w w1 → RdoS (w1.alloc (.cells #[.int .i64 2, .string t.nm, .slice none 0 0, .slice none 0 0, rv, .string ⟨#[]⟩, .int .i64 0, .int .i64 0, .int .i64 0] 74)) d w1.heap.size q t.nm g l.length gcap t.c.p t.c.n t.c.c t.kn t.v rv := by
    intro w1 hb
    have hd0 : d < w.heap.size := cell_lt hd1
    have hh : ((w1.alloc (.cells #[.int .i64 2, .string t.nm, .slice none 0 0, .slice none 0 0, rv, .string ⟨#[]⟩, .int .i64 0, .int .i64 0, .int .i64 0] 74))).heap[w1.heap.size]? = _ := heap_alloc_at
    have s := hb.size
    refine ⟨?_, ?_, ?_, ?_, ?_, ?_, cell_of_heap hh 0 _ rfl, cell_of_heap hh 1 _ rfl, cell_of_heap hh 2 _ rfl, cell_of_heap hh 3 _ rfl, cell_of_heap hh 4 _ rfl, cell_of_heap hh 5 _ rfl, cell_of_heap hh 6 _ rfl, cell_of_heap hh 7 _ rfl, cell_of_heap hh 8 _ rfl⟩
    · rw [cellA (by show d < _; omega), World.cell?_of_block (w := w) (hb.block _ hd0)]; exact hd1
    all_goals (rw [cellA (by show g < _; omega), World.cell?_of_block (w := w) (hb.block _ hg)]; exact hcell q _ t _ hq rfl)
  obtain ⟨nm, hnm⟩ : ∃ x, x = t.nm := ⟨_, rfl⟩
  obtain ⟨pc, hpc⟩ : ∃ x, x = t.c.p := ⟨_, rfl⟩
  obtain ⟨nc, hnc⟩ : ∃ x, x = t.c.n := ⟨_, rfl⟩
  obtain ⟨cc, hcc⟩ : ∃ x, x = t.c.c := ⟨_, rfl⟩
  obtain ⟨kn, hkn⟩ : ∃ x, x = t.kn := ⟨_, rfl⟩
  simp only [← hnm, ← hpc, ← hnc, ← hcc, ← hkn, hv] at K1 K2 S0 ⊢
  have HNM := Lib.hid (And.intro hnm (And.intro hpc (And.intro hnc (And.intro hcc (And.intro hkn hv)))))
  subst hrv
  clear hD hq hne F hJ hk hr hlk hnm hpc hnc hcc hkn hv hcell hd2
  unfold tabV opPut at *
  have S1 := (S0 w (Below.refl _ _)).below rfl ((Below.refl _ _).alloc (Nat.le_refl _) (.cells #[.int .i64 0, .slice none 0 0] 106))
  go_enter Tryz.func65, Tryz.ntmps65
  go_wp2_with (first
    | (go_at_call 68; refine (K1 _ (rdo_bel w _ _)).mono ?_; rintro e w1 ⟨rfl, rfl⟩))
  clear S0 K1 hd1
  have BT : ∀ wX w2, Below ((w.alloc (.cells #[.int .i64 2, .string nm, .slice none 0 0, .slice none 0 0, .slice pr nr cr, .string ⟨#[]⟩, .int .i64 0, .int .i64 0, .int .i64 0] 74)).alloc (.cells #[.int .i64 0, .slice none 0 0] 106)).heap.size ((w.alloc (.cells #[.int .i64 2, .string nm, .slice none 0 0, .slice none 0 0, .slice pr nr cr, .string ⟨#[]⟩, .int .i64 0, .int .i64 0, .int .i64 0] 74)).alloc (.cells #[.int .i64 0, .slice none 0 0] 106)) wX → Below wX.heap.size wX w2 → Below ((w.alloc (.cells #[.int .i64 2, .string nm, .slice none 0 0, .slice none 0 0, .slice pr nr cr, .string ⟨#[]⟩, .int .i64 0, .int .i64 0, .int .i64 0] 74)).alloc (.cells #[.int .i64 0, .slice none 0 0] 106)).heap.size ((w.alloc (.cells #[.int .i64 2, .string nm, .slice none 0 0, .slice none 0 0, .slice pr nr cr, .string ⟨#[]⟩, .int .i64 0, .int .i64 0, .int .i64 0] 74)).alloc (.cells #[.int .i64 0, .slice none 0 0] 106)) w2 := fun _ _ a b => a.trans (b.mono a.size)
  have e1 : ∀ o1 o2, w.heap.size + 1 + 1 = ((w.alloc o1).alloc o2).heap.size := fun _ _ => by simp
  have e2 : ∀ o1 o2 o3, w.heap.size + 1 + 1 + 1 = (((w.alloc o1).alloc o2).alloc o3).heap.size := fun _ _ _ => by simp
  go_upto_region 6 with fail
  go_cut [6, 7] (fun s6 s7 wx => RdoE ((w.alloc (.cells #[.int .i64 2, .string nm, .slice none 0 0, .slice none 0 0, .slice pr nr cr, .string ⟨#[]⟩, .int .i64 0, .int .i64 0, .int .i64 0] 74)).alloc (.cells #[.int .i64 0, .slice none 0 0] 106)) (w.heap.size + 1 + 1) nm pc nc cc kn (R q ++ [r]) s6 s7 wx)
  case first =>
   go_region_held3 (fun w' => w'.cell? ⟨d, 1, none⟩ = some (.slice (some ⟨g, 0, none⟩) l.length gcap) ∧ w'.cell? ⟨g, q * 5, none⟩ = some (.string nm) ∧ w'.cell? ⟨g, q * 5 + 1, none⟩ = some (.slice pc nc cc) ∧ w'.cell? ⟨g, q * 5 + 2, none⟩ = some (.int .i64 kn) ∧ w'.cell? ⟨g, q * 5 + 3, none⟩ = some (.slice none 0 0) ∧ w'.cell? ⟨g, q * 5 + 4, none⟩ = some (.slice p n cap) ∧ w'.cell? ⟨w.heap.size, 0, none⟩ = some (.int .i64 2) ∧ w'.cell? ⟨w.heap.size, 1, none⟩ = some (.string nm) ∧ w'.cell? ⟨w.heap.size, 2, none⟩ = some (.slice none 0 0) ∧ w'.cell? ⟨w.heap.size, 3, none⟩ = some (.slice none 0 0) ∧ w'.cell? ⟨w.heap.size, 4, none⟩ = some (.slice pr nr cr) ∧ w'.cell? ⟨w.heap.size, 5, none⟩ = some (.string ⟨#[]⟩) ∧ w'.cell? ⟨w.heap.size, 6, none⟩ = some (.int .i64 0) ∧ w'.cell? ⟨w.heap.size, 7, none⟩ = some (.int .i64 0) ∧ w'.cell? ⟨w.heap.size, 8, none⟩ = some (.int .i64 0))
    (first
      | with_reducible exact S1.all
      | (refine (S1.below rfl ?_).all; (repeat' first | with_reducible exact Below.refl _ _ | with_reducible assumption | with_reducible refine Below.drew ?_ | with_reducible refine Below.alloc ?_ ?_ _ | with_reducible refine Below.setCell ?_ ?_ _ | (simp; done) | (simp; omega)); done))
    ((
      go_at_call 108
      refine (K2 _ ?hbel).mono ?_
      ((case hbel => (repeat' first | with_reducible exact Below.refl _ _ | with_reducible assumption | with_reducible refine Below.drew ?_ | with_reducible refine Below.alloc ?_ ?_ _ | with_reducible refine Below.setCell ?_ ?_ _ | (simp; done) | (simp; omega))))
      rintro e w2 ⟨v2, rfl, hv2, hb2⟩; obtain ⟨p2, n2, cc2, rfl⟩ := VRows_slice hv2
      first
      | (have h6 := fz2 hb2 rfl (e1 _ _); have h7 := fz1 hb2 rfl (e2 _ _ _); obtain ⟨z0, z1, z2, z3, z4, zf⟩ := five_facts h6; obtain ⟨u0, u1, uf⟩ := two_facts h7; have H6 := Lib.hid h6; have H7 := Lib.hid h7; clear h6 h7)
      | (have h7 := fz2 hb2 rfl (e1 _ _); have h6 := fz1 hb2 rfl (e2 _ _ _); obtain ⟨z0, z1, z2, z3, z4, zf⟩ := five_facts h6; obtain ⟨u0, u1, uf⟩ := two_facts h7; have H6 := Lib.hid h6; have H7 := Lib.hid h7; clear h6 h7)
      | (have zz := fz1 hb2 rfl (e1 _ _); obtain ⟨z0, z1, z2, z3, z4, zf⟩ := five_facts zz; have y := five_factsA zz; have y0 := fun o => (y o).1; have y1 := fun o => (y o).2.1; have y2 := fun o => (y o).2.2.1; have y3 := fun o => (y o).2.2.2.1; have y4 := fun o => (y o).2.2.2.2.1; have yf := fun o i => (y o).2.2.2.2.2 i; have H6 := Lib.hid zz; clear y zz)
      | (have zz := fz1 hb2 rfl (e1 _ _); obtain ⟨u0, u1, uf⟩ := two_facts zz; have y := two_factsA zz; have y0 := fun o => (y o).1; have y1 := fun o => (y o).2.1; have yf := fun o i => (y o).2.2 i; have H7 := Lib.hid zz; clear y zz)
      | skip
      have s2 := hb2.size; simp at s2; have b2 := BT _ _ (by (repeat' first | with_reducible exact Below.refl _ _ | with_reducible assumption | with_reducible refine Below.drew ?_ | with_reducible refine Below.alloc ?_ ?_ _ | with_reducible refine Below.setCell ?_ ?_ _ | (simp; done) | (simp; omega))) hb2; have b3 := b2.mono (Nat.le_of_eq (e1 _ _)); have HV2 := Lib.hid hv2; clear hv2))
   all_goals (
    go_wp2_with fail
    go_meet
    first
    | with_reducible exact rdo_f1 HV2.out b3 s2
    | with_reducible exact rdo_f2 HV2.out b3 s2
    | (with_reducible refine rdo_f3 HV2.out b3 ?_ H6.out (Nat.le_refl _); omega)
    | (with_reducible refine rdo_f4 HV2.out b3 ?_ H7.out (Nat.le_refl _); omega)
    | (with_reducible refine (rdo_fin HV2.out b3 (Below.refl _ _) ?_ H6.out H7.out ?_ ?_).1 <;> omega)
    | (with_reducible refine (rdo_fin HV2.out b3 (Below.refl _ _) ?_ H6.out H7.out ?_ ?_).2 <;> omega)
    | exact (rdo_fin HV2.out b3 ((Below.refl _ _).alloc (Nat.le_refl _) _) (by omega) ((Below.heap_alloc _ _ _ (lt_of_heap H6.out)).trans H6.out) heap_alloc_at (Nat.le_refl _) (by omega)).1
    | (with_reducible exact trivial))
  case rest =>
   obtain ⟨b6, b7, p2, n2, c2, rfl, rfl, h6, h7, l6, hv2, hb⟩ := hcut
   have hDc := HD.out.keep (((KT.alloc [66, 87, 121, 71] w _).trans (KT.alloc _ _ _)).trans (KT.below hb (by simp))) (by simp) (by simp) (by simp) (by simp)
   obtain ⟨vd, ⟨csD, hd0, hx0, hx1⟩, hdo⟩ := hDc.blk
   obtain ⟨g1, gc1, rfl, hg1, hgc1, hrc⟩ := hdo.read
   obtain ⟨d0, d1, df⟩ := two_of hd0 hx0 hx1
   have hres : wc.heap[w.heap.size + 1]? = some (.cells #[.int .i64 0, .slice none 0 0] 106 (0, 0)) := (hb.block _ (by omega)).trans (by simpa using @heap_alloc_at (w.alloc (.cells #[.int .i64 2, .string nm, .slice none 0 0, .slice none 0 0, .slice pr nr cr, .string ⟨#[]⟩, .int .i64 0, .int .i64 0, .int .i64 0] 74)) (.cells #[.int .i64 0, .slice none 0 0] 106))
   obtain ⟨i0, z0, hi0, hz0, hs0, hb0, hc0⟩ := info87
   have HRC := Lib.hid hrc
   have HDC := Lib.hid hDc
   have HV := Lib.hid hv2
   have H6 := Lib.hid h6
   have H7 := Lib.hid h7
   have HB := Lib.hid hb
   have HR := Lib.hid hres
   have HD0 := Lib.hid hd0
   clear hrc hDc hv2 h6 h7 hb hres hd0 hdo S1 K2 e1 e2 BT hg hgc
   have HN1 : Hid (∀ j u, (rcells l)[j]? = some u → (wc.alloc (.cells #[] 87)).cell? ((⟨g1, 0, none⟩ : Addr).add j) = some u) := by
    intro j u hj
    rw [Addr.add_lit, Nat.zero_add, cellA (by show g1 < _; omega)]
    exact HRC.out j u hj
   have dA : (wc.alloc (.cells #[] 87)).cell? ⟨d, 1, none⟩ = some (.slice (some ⟨g1, 0, none⟩) l.length gc1) := by rw [cellA (show d < _ from cell_lt d1)]; exact d1
   have hown0 : (wc.alloc (.cells #[] 87)).ownsRow wc.heap.size 87 5 (.slice (some ⟨wc.heap.size, 0, none⟩) 0 0) 0 [] := World.ownsRow_lit wc #[] 0 (Nat.le_refl _) (Nat.zero_le _) rfl
   have HO := Lib.hid hown0
   clear hown0
   have HU1 : Hid (∀ u ∈ rcells l, u.oneCell' = true) := rcells_one l fun t ht => by
    obtain ⟨i, hi⟩ := List.getElem?_of_mem ht
    obtain ⟨p, n, c, h⟩ := VRows_slice (HDC.out.rows i t hi).1
    rw [h]; rfl
   have hpos : 0 < l.length := by omega
   clear HRC
   go_wp2_with (first
      | (at_builtin
         refine wpList_append_lies _ rfl (.tmp 37) (.tmp 41) _ rfl wc.heap.size 87 i0 z0 5 96 Tryz.underlying64 hi0 hz0 hs0 hb0 hc0 (by omega) _ 0 [] (by rfl) HO.out _ l.length gc1 (rcells l) (by rfl) (rcells_length l) HN1.out HU1.out hpos (by simp only [maxLen]; omega) (by omega) (by simp) (wc.heap.size + 1) (by simp) ?_
         intro g3 cap3 w3 hown3 hgrow3 hat3 hlt3
         go_loud (
           rw [Nat.zero_add] at hown3
           simp only [Nat.zero_add, List.nil_append] at hown3 ⊢
           have hlow := (hown3.lt g3 rfl).1
           have hsz : w.heap.size + 1 + 1 ≤ wc.heap.size := by have := HB.out.size; simpa using this
           have keepW := app_keep hgrow3
           have e6 := (keepW b6 (lt_of_heap H6.out)).trans H6.out
           have e7 := (keepW b7 (lt_of_heap H7.out)).trans H7.out
           have eD := (keepW d (lt_of_heap HD0.out)).trans HD0.out
           have eR := (keepW (w.heap.size + 1) (lt_of_heap HR.out)).trans HR.out
           obtain ⟨z0, z1, z2, z3, z4, zf⟩ := five_facts e6
           obtain ⟨v0, v1, vf⟩ := two_facts e7
           obtain ⟨d30, d31, d3f⟩ := two_of eD hx0 hx1
           obtain ⟨r0, r1, rf⟩ := two_facts eR
           have n1 : d ≠ g3 := fun e => by have := lt_of_heap HD0.out; omega
           have n2' : b7 ≠ g3 := fun e => by have := lt_of_heap H7.out; omega
           have n3 : w.heap.size + 1 ≠ g3 := fun e => by have := lt_of_heap HR.out; omega
           have n4 : b7 ≠ d := fun e => by rw [e] at e7; rw [eD] at e7; cases e7
           have n5 : w.heap.size + 1 ≠ d := fun e => by rw [e] at eR; rw [eD] at eR; cases eR
           have n6 : w.heap.size + 1 ≠ b6 := fun e => by omega
           have gf := fun j => hown3.frozenAt j
           have hrl5 : (rcells l).length = l.length * 5 := rcells_length l
           have g0 := (hown3.cellAt (q * 5) (by omega)).trans (rcells_at l q 0 t _ HQ.out rfl)
           have g1' := (hown3.cellAt (q * 5 + 1) (by omega)).trans (rcells_at l q 1 t _ HQ.out rfl)
           have g2 := (hown3.cellAt (q * 5 + 2) (by omega)).trans (rcells_at l q 2 t _ HQ.out rfl)
           have g3' := (hown3.cellAt (q * 5 + 3) (by omega)).trans (rcells_at l q 3 t _ HQ.out rfl)
           have g4 := (hown3.cellAt (q * 5 + 4) (by omega)).trans (rcells_at l q 4 t _ HQ.out rfl)
           have HO3 := Lib.hid hown3
           have HK := Lib.hid keepW
           have HG := Lib.hid hgrow3
           have EE := Lib.hid (And.intro eD eR)
           clear hown3 keepW hgrow3 hat3 e6 e7 eD eR HO HN1 HU1 dA d0 d1 df)))
   obtain ⟨e1, e2, e3, e4, e5, e6⟩ := HNM.out
   have hwb : w.grownBy w3 (some d) := by
     have hb := HB.out
     have hs : ((w.alloc (.cells #[.int .i64 2, .string nm, .slice none 0 0, .slice none 0 0, .slice pr nr cr, .string ⟨#[]⟩, .int .i64 0, .int .i64 0, .int .i64 0] 74)).alloc (.cells #[.int .i64 0, .slice none 0 0] 106)).heap.size = w.heap.size + 1 + 1 := by simp
     have hb0 : Below w.heap.size w wc := (rdo_bel w _ _).trans (hb.mono (by omega))
     have hg := HG.out
     refine ⟨hg.os.trans hb0.os, hg.tape.trans hb0.tape, hg.output.trans hb0.output, ?_, fun k hk hne => (HK.out k (by omega)).trans (hb0.block k hk)⟩
     have h1 := hg.size
     have h2 : (wc.alloc (.cells #[] 87)).heap.size = wc.heap.size + 1 := by simp
     omega
   have kt : KT [121, 71] wc w3 := fun k cs ty fr h hm => by rw [HK.out k (lt_of_heap h)]; exact h
   obtain ⟨wE, hE, y0, y1, hD', hG'⟩ := rdo_end (b := w.heap.size + 1) (p2 := p2) (n2 := n2) (c2 := c2) (r := r) HQ.out (fun i t' hi => ⟨(HDC.out.rows i t' hi).1.keep kt (by simp) (by simp), (HDC.out.rows i t' hi).2⟩) (HV.out.keep kt (by simp) (by simp)) HO3.out ⟨csD, EE.out.1, hx0, hx1⟩ EE.out.2 hwb (by omega) (by omega)
   rw [← e1, ← e2, ← e3, ← e4, ← e5] at hE
   rw [hE]
   have HF := Lib.hid (And.intro hD' hG')
   clear hE hD' hG' hwb kt
   exact bodyPost_ret (v := .agg #[.int .i64 0, .slice none 0 0]) (by simp [results, Tryz.results65, go_sem, y0, y1]) rfl ⟨.slice p2 n2 c2, rfl, by have := HF.out.1; rw [e1, e5]; exact this, HF.out.2⟩
end Go.Proofs.YtbjickdjkgefcaaGreatDoor
end
section
open Go Go.RowKit Go.Proofs.YtbjickdjkgefcaaGreatDoor.Vai
namespace Go.Proofs.YtbjickdjkgefcaaGreatDoor
set_option linter.unusedVariables false
set_option linter.unusedSimpArgs false
set_option maxRecDepth 20000
attribute [local go_sem ↓] Go.wp_at_zero Go.wp_at_succ
/-- What the drawn region of a put leaves. -/
def BputE (Q : World → Prop) (w : World) (b d : Nat) (s6 : Value) (wE : World) : Prop :=
  ∃ b6, s6 = .pointer (some ⟨b6, 0, none⟩) ∧ wE.heap[b6]? = some (.cells #[.int .i64 0, .slice none 0 0] 106 (0, 0)) ∧ w.heap.size ≤ b6 ∧ wE.heap[b]? = some (.cells #[.pointer (some ⟨d, 0, none⟩), .int .i64 0] 90 (0, 0)) ∧ Q wE ∧ w.grownBy wE (some d)
theorem bput_f1 {Q : World → Prop} (hQ : ∀ w w', Q w → KT [66, 87, 121, 71] w w' → Q w') {w w3 : World} {b d b6 : Nat} {a0 a1 : Value} (hq : Q w3) (h6 : w3.heap[b6]? = some (.cells #[a0, a1] 106 (0, 0))) (l6 : w.heap.size ≤ b6) (hb : w3.heap[b]? = some (.cells #[.pointer (some ⟨d, 0, none⟩), .int .i64 0] 90 (0, 0))) (hg : w.grownBy w3 (some d)) :
    BputE Q w b d (.pointer (some ⟨b6, 0, none⟩)) ((w3.setCell ⟨b6, 0, none⟩ (.int .i64 0)).setCell ⟨b6, 1, none⟩ (.slice none 0 0)) := by
  obtain ⟨Z, kt, bel⟩ := set2 (T := [66, 87, 121, 71, 90]) (v0 := .int .i64 0) (v1 := .slice none 0 0) h6 (by decide)
  have bl := bel _ l6
  exact ⟨b6, rfl, Z, l6, kt _ _ _ _ hb (by simp), hQ _ _ hq (kt.sub (by simp)), bl.os.trans hg.os, bl.tape.trans hg.tape, bl.output.trans hg.output, Nat.le_trans hg.size bl.size, fun k hk hne => (bl.block k hk).trans (hg.block k hk hne)⟩
theorem bput_f2 {Q : World → Prop} (hQ : ∀ w w', Q w → KT [66, 87, 121, 71] w w' → Q w') {w w3 : World} {b d : Nat} (hq : Q w3) (hb : w3.heap[b]? = some (.cells #[.pointer (some ⟨d, 0, none⟩), .int .i64 0] 90 (0, 0))) (hg : w.grownBy w3 (some d)) :
    BputE Q w b d (.pointer (some ⟨w3.heap.size, 0, none⟩)) (w3.alloc (.cells #[.int .i64 0, .slice none 0 0] 106)) := by
  have bl := (Below.refl w3.heap.size w3).alloc (Nat.le_refl _) (.cells #[.int .i64 0, .slice none 0 0] 106)
  have hs := hg.size
  exact ⟨_, rfl, heap_alloc_at, hs, (Below.heap_alloc _ _ _ (lt_of_heap hb)).trans hb, hQ _ _ hq (KT.alloc _ _ _), bl.os.trans hg.os, bl.tape.trans hg.tape, bl.output.trans hg.output, Nat.le_trans hg.size bl.size, fun k hk hne => (bl.block k (by omega)).trans (hg.block k hk hne)⟩
theorem bput_g {w wX w3 : World} {b d : Nat} (hb : Below w.heap.size w wX) (hg : wX.grownBy w3 (some d)) : w.grownBy w3 (some d) :=
  ⟨hg.os.trans hb.os, hg.tape.trans hb.tape, hg.output.trans hb.output, Nat.le_trans hb.size hg.size, fun k hk hne => (hg.block k (Nat.lt_of_lt_of_le hk hb.size) hne).trans (hb.block k hk)⟩
set_option maxHeartbeats 1000000 in
theorem bput_any (Q : World → Prop) (hQ : ∀ w w', Q w → KT [66, 87, 121, 71] w w' → Q w') (w : World) (b d : Nat) (nm : ByteArray) (l : List Int) (bb o cap : Nat) (hblk : w.heap[b]? = some (.cells #[.pointer (some ⟨d, 0, none⟩), .int .i64 0] 90 (0, 0))) (hne : b ≠ d) (hdl : d < w.heap.size) (hl : l.length ≤ 100) (hl0 : l ≠ [])
    (hc : ∀ i n, l[i]? = some n → w.cell? ⟨bb, o + i, none⟩ = some (.int .i64 n))
    (HD : ∀ w1 rv, Below w.heap.size w w1 → VRow w1 rv l → Calls Tryz.prog 65 #[.pointer (some ⟨d, 0, none⟩), opPut nm rv] w1 fun e w' => e = .returned (.agg #[.int .i64 0, .slice none 0 0]) ∧ Q w' ∧ w1.grownBy w' (some d)) :
    Calls Tryz.prog 34 #[.pointer (some ⟨b, 0, none⟩), .string nm, .slice (some ⟨bb, o, none⟩) l.length cap] w fun e w' => e = .returned (.tuple #[]) ∧ w'.heap[b]? = some (.cells #[.pointer (some ⟨d, 0, none⟩), .int .i64 0] 90 (0, 0)) ∧ Q w' ∧ w.grownBy w' (some d) := by
  have K1 : ∀ w1, Below w.heap.size w w1 → Calls Tryz.prog 66 #[.slice (some ⟨bb, o, none⟩) l.length cap] w1 fun e w' => ∃ v, e = .returned v ∧ VRow w' v l ∧ Below w1.heap.size w1 w' := fun w1 hb => (values_any l bb o cap w1 hl (fun i n h => (World.cell?_of_block (w := w) (hb.block _ (cell_lt (hc i n h)))).trans (hc i n h))).mono fun e w' ⟨v, h1, h2, h3⟩ => ⟨v, h1, VRow.of_own hl0 h2, h3⟩
  obtain ⟨c0, c1, cf⟩ := two_facts hblk
  have lb := lt_of_heap hblk
  have HB := Lib.hid hblk
  have kb : ∀ w', Below w.heap.size w w' → w'.cell? ⟨b, 0, none⟩ = some (.pointer (some ⟨d, 0, none⟩)) := fun _ h => (h.cell (p := ⟨b, 0, none⟩) lb).trans c0
  have KG : ∀ wX w3, Below w.heap.size w wX → wX.grownBy w3 (some d) → w.grownBy w3 (some d) := fun _ _ h g => bput_g (b := b) h g
  have BT : ∀ wX w2, Below w.heap.size w wX → Below wX.heap.size wX w2 → Below w.heap.size w w2 := fun _ _ a b => a.trans (b.mono a.size)
  clear hblk hc hl0
  unfold opPut at *
  go_enter Tryz.func34, Tryz.ntmps34
  go_upto_region 0 with fail
  go_cut [6] (fun s6 wx => BputE Q w b d s6 wx)
  case first =>
   go_region_held3 (fun w' => w'.cell? ⟨b, 0, none⟩ = some (.pointer (some ⟨d, 0, none⟩)))
    (first
      | with_reducible assumption
      | (refine kb _ ?_; (repeat' first | with_reducible exact Below.refl _ _ | with_reducible assumption | with_reducible refine Below.drew ?_ | with_reducible refine Below.alloc ?_ ?_ _ | with_reducible refine Below.setCell ?_ ?_ _ | (simp; done) | (simp; omega)); done)
      | (rw [cellA (by show b < _; omega)]; with_reducible assumption)
      | (rw [cellS (by dsimp only; omega)]; with_reducible assumption)
      | (rw [cellS (by dsimp only; omega), cellS (by dsimp only; omega)]; with_reducible assumption))
    ((first
      | (go_at_call 66; refine (K1 _ ?hbel).mono ?_; ((case hbel => (repeat' first | with_reducible exact Below.refl _ _ | with_reducible assumption | with_reducible refine Below.drew ?_ | with_reducible refine Below.alloc ?_ ?_ _ | with_reducible refine Below.setCell ?_ ?_ _ | (simp; done) | (simp; omega)))); rintro e w2 ⟨v2, rfl, hv2, hb2⟩; obtain ⟨p2, n2, cc2, rfl⟩ := ownsRow_slice hv2.2
         have hbw := BT _ _ (by (repeat' first | with_reducible exact Below.refl _ _ | with_reducible assumption | with_reducible refine Below.drew ?_ | with_reducible refine Below.alloc ?_ ?_ _ | with_reducible refine Below.setCell ?_ ?_ _ | (simp; done) | (simp; omega))) hb2
         have s2 := hbw.size
         first
         | (have h6 := Lib.hid (fz1 hb2 rfl rfl))
         | skip)
      | (go_at_call 65; refine (HD _ _ ?hbel ?hvr).mono ?_; ((case hbel => (repeat' first | with_reducible exact Below.refl _ _ | with_reducible assumption | with_reducible refine Below.drew ?_ | with_reducible refine Below.alloc ?_ ?_ _ | with_reducible refine Below.setCell ?_ ?_ _ | (simp; done) | (simp; omega)))); ((case hvr => first | exact hv2 | exact hv2.keep (KT.alloc [121] _ _) (by simp))); rintro e w3 ⟨rfl, hQ3, hg3⟩
         have hgw := Lib.hid (KG _ _ (by (repeat' first | with_reducible exact Below.refl _ _ | with_reducible assumption | with_reducible refine Below.drew ?_ | with_reducible refine Below.alloc ?_ ?_ _ | with_reducible refine Below.setCell ?_ ?_ _ | (simp; done) | (simp; omega))) hg3)
         have hB3 := (hgw.out.block b lb (fun e => hne (by injection e))).trans HB.out
         obtain ⟨cb3, _, _⟩ := two_facts hB3
         have s3 := hgw.out.size
         have HB3 := Lib.hid hB3
         have HQ3 := Lib.hid hQ3
         first
         | (have h63 := (hg3.block _ (lt_of_heap h6.out) (fun e => by have := Option.some.inj e; omega)).trans h6.out; obtain ⟨u0, u1, uf⟩ := two_facts h63; have H63 := Lib.hid h63; clear h63)
         | (have h63 := (hg3.block w2.heap.size (by simp) (fun e => by have := Option.some.inj e; omega)).trans (@heap_alloc_at w2 _); obtain ⟨u0, u1, uf⟩ := two_facts h63; have H63 := Lib.hid h63; clear h63)
         | skip
         clear hg3 hB3 hQ3)))
   all_goals (
    go_wp2_with fail
    go_meet
    first
    | with_reducible exact bput_f1 hQ HQ3.out H63.out (Nat.le_refl _) HB3.out hgw.out
    | with_reducible exact bput_f1 hQ HQ3.out H63.out s2 HB3.out hgw.out
    | with_reducible exact bput_f2 hQ HQ3.out HB3.out hgw.out)
  case rest =>
   obtain ⟨b6, rfl, h6, l6, hb, hq, hg⟩ := hcut
   obtain ⟨u0, u1, uf⟩ := two_facts h6
   obtain ⟨v0, v1, vf⟩ := two_facts hb
   have hs := heap_setCell_at (o := 1) (v := .int .i64 0) hb
   have kt : KT [66, 87, 121, 71] wc (wc.setCell ⟨b, 1, none⟩ (.int .i64 0)) := KT.setCell hb (by decide)
   have HF : Hid ((wc.setCell ⟨b, 1, none⟩ (.int .i64 0)).heap[b]? = some (.cells #[.pointer (some ⟨d, 0, none⟩), .int .i64 0] 90 (0, 0)) ∧ Q (wc.setCell ⟨b, 1, none⟩ (.int .i64 0)) ∧ w.grownBy (wc.setCell ⟨b, 1, none⟩ (.int .i64 0)) (some d)) := by
     refine ⟨hs, hQ _ _ hq kt, hg.os, hg.tape, hg.output, by simpa using hg.size, fun k hk hne => ?_⟩
     by_cases e : k = b
     · subst e; exact Eq.trans hs HB.out.symm
     · rw [Below.heap_setCell _ _ _ _ e]; exact hg.block k hk hne
   clear hs kt h6 hb hq hg
   go_wp2_with fail
   go_end0
   exact ⟨rfl, HF.out⟩

def RTab.hd (t : RTab) : ByteArray × Cols × Nat := (t.nm, t.c, t.kn)
/-- The rows of the document's tables: the eight stand behind 'off' others. -/
def Rof (off : Nat) (P : List (Nat × List Int)) : Nat → List (List Int) := fun i => if i < off then [] else rowsOf P (i - off)
theorem Rof_snoc (off : Nat) (P : List (Nat × List Int)) (y : Nat × List Int) : updL (Rof off P) (off + y.1) (Rof off P (off + y.1) ++ [y.2]) = Rof off (P ++ [y]) := by
  funext i
  unfold updL Rof
  by_cases h : i = off + y.1
  · subst h
    rw [if_pos rfl, if_neg (by omega), if_neg (by omega), Nat.add_sub_cancel_left, rowsOf_snoc, if_pos rfl]
  · rw [if_neg h]
    by_cases h2 : i < off
    · rw [if_pos h2, if_pos h2]
    · rw [if_neg h2, if_neg h2, rowsOf_snoc, if_neg (by omega)]
/-- The document's data and the load's books. -/
structure RB (w0 w : World) (b d : Nat) (x : Value) (H : List (ByteArray × Cols × Nat)) (off : Nat) (P : List (Nat × List Int)) : Prop where
  blk : w.heap[b]? = some (.cells #[.pointer (some ⟨d, 0, none⟩), .int .i64 0] 90 (0, 0))
  dat : ∃ l, l.map RTab.hd = H ∧ RDat w d x l (Rof off P)
  bel : w0.grownBy w (some d)
theorem RB.alloc {w0 w : World} {b d : Nat} {x : Value} {H : List (ByteArray × Cols × Nat)} {off : Nat} {P : List (Nat × List Int)} (h : RB w0 w b d x H off P) (o : Obj) : RB w0 (w.alloc o) b d x H off P := by
  obtain ⟨l, h1, h2⟩ := h.dat
  have hg := h.bel
  exact ⟨(Below.heap_alloc _ _ _ (lt_of_heap h.blk)).trans h.blk, ⟨l, h1, h2.keep (KT.alloc [66, 87, 121, 71] _ _) (by simp) (by simp) (by simp) (by simp)⟩, hg.os, hg.tape, hg.output, by have := hg.size; simp; omega, fun k hk hne => (Below.heap_alloc _ _ _ (by have := hg.size; omega)).trans (hg.block k hk hne)⟩
/-- What is asked of a put. -/
structure RNext (J : World → Prop) (H : List (ByteArray × Cols × Nat)) (off : Nat) (P : List (Nat × List Int)) (y : Nat × List Int) : Prop where
  tab : ∃ c, H[off + y.1]? = some (tname y.1, c, tkey y.1) ∧ RFitK J (tname y.1) c.p c.n c.c (tkey y.1) y.2
  ne : ∀ i h, i < off + y.1 → H[i]? = some h → (h.1.toList == (tname y.1).toList) = false
  last : Last (tkey y.1) (rowsOf P y.1) (y.2.take (tkey y.1))
  len : y.2.length ≤ 100
  pos : y.2 ≠ []
  key : tkey y.1 ≤ y.2.length
theorem RB.put {J : World → Prop} (hJt : ∀ w w', J w → KT [38] w w' → J w') {w0 w : World} {b d : Nat} {x : Value} {H : List (ByteArray × Cols × Nat)} {off : Nat} {P : List (Nat × List Int)} {y : Nat × List Int} (h : RB w0 w b d x H off P) (hJ : J w) (hn : RNext J H off P y) (hH : H.length ≤ 100) (hdl : d < w0.heap.size) {bb o cap : Nat} (hc : ∀ i n, y.2[i]? = some n → w.cell? ⟨bb, o + i, none⟩ = some (.int .i64 n)) :
    Calls Tryz.prog 34 #[.pointer (some ⟨b, 0, none⟩), .string (tname y.1), .slice (some ⟨bb, o, none⟩) y.2.length cap] w fun e w' => e = .returned (.tuple #[]) ∧ RB w0 w' b d x H off (P ++ [y]) ∧ J w' := by
  obtain ⟨l, h1, h2⟩ := h.dat
  obtain ⟨c, hq, F⟩ := hn.tab
  have hg := h.bel
  obtain ⟨t, ht, hth⟩ : ∃ t, l[off + y.1]? = some t ∧ t.hd = (tname y.1, c, tkey y.1) := by
    rw [← h1, List.getElem?_map] at hq
    cases hl : l[off + y.1]? with
    | none => rw [hl] at hq; cases hq
    | some t => rw [hl] at hq; exact ⟨t, rfl, by simpa using hq⟩
  have e1 : t.nm = tname y.1 := congrArg (·.1) hth
  have e2 : t.c = c := congrArg (·.2.1) hth
  have e3 : t.kn = tkey y.1 := congrArg (·.2.2) hth
  have hne : b ≠ d := fun e => by
    obtain ⟨v, ⟨csD, hd, _, _⟩, _⟩ := h2.blk
    have := h.blk
    rw [e, hd] at this; cases this
  have hR : Rof off P (off + y.1) = rowsOf P y.1 := by unfold Rof; rw [if_neg (by omega), Nat.add_sub_cancel_left]
  refine (bput_any (fun w' => (∃ l, l.map RTab.hd = H ∧ RDat w' d x l (Rof off (P ++ [y])))) (fun w w' ⟨l, a, b⟩ k => ⟨l, a, b.keep k (by simp) (by simp) (by simp) (by simp)⟩) w b d (tname y.1) y.2 bb o cap h.blk hne (Nat.lt_of_lt_of_le hdl hg.size) hn.len hn.pos hc ?_).mono ?_
  · intro w1 rv hb hr
    have := rdo_any J w1 d x l (Rof off P) (off + y.1) t y.2 rv (h2.keep (KT.below hb (Nat.le_refl _) : KT [66, 87, 121, 71] _ _) (by simp) (by simp) (by simp) (by simp)) ht (fun i z hi hz => by
      rw [e1]
      refine hn.ne i z.hd hi ?_
      rw [← h1, List.getElem?_map, hz]; rfl) (by rw [← h1, List.length_map] at hH; exact hH) (by rw [e1, e2, e3]; exact F) (hJt _ _ hJ (KT.below hb (Nat.le_refl _))) (by rw [e3, hR]; exact hn.last) hr hn.len (by rw [e3]; exact hn.key) (by
        rw [hR, e3]
        intro l' hl'
        have := (hn.last.2.2.2 l' hl').2.1
        rw [List.length_take] at this
        omega)
    rw [e1] at this
    refine this.mono ?_
    rintro e w' ⟨v', rfl, q1, q2⟩
    refine ⟨rfl, ⟨_, ?_, by rw [← Rof_snoc]; exact q1⟩, q2⟩
    rw [List.map_set, ← h1]
    apply List.ext_getElem?
    intro i
    rw [List.getElem?_set]
    split
    · rename_i e; subst e
      rw [if_pos (by rw [List.length_map]; exact (List.getElem?_eq_some_iff.1 ht).1), List.getElem?_map, ht]; simp [RTab.hd, e1]
    · rfl
  · rintro e w' ⟨rfl, q1, q2, q3⟩
    refine ⟨rfl, ⟨q1, q2, ⟨q3.os.trans hg.os, q3.tape.trans hg.tape, q3.output.trans hg.output, Nat.le_trans hg.size q3.size, fun k hk hne => (q3.block k (Nat.lt_of_lt_of_le hk hg.size) hne).trans (hg.block k hk hne)⟩⟩, ?_⟩
    obtain ⟨v, ⟨csD, hd, _, _⟩, _⟩ := h2.blk
    exact hJt _ _ hJ (KT.grownAt q3 hd (by decide))
end Go.Proofs.YtbjickdjkgefcaaGreatDoor
end
section
open Go Go.RowKit Go.Proofs.YtbjickdjkgefcaaGreatDoor.Vai
namespace Go.Proofs.YtbjickdjkgefcaaGreatDoor
set_option linter.unusedVariables false
set_option linter.unusedSimpArgs false
theorem flat_split {α : Type} (f : Nat → List α) : ∀ (n k : Nat), k < n → ∃ S, (List.range n).flatMap f = (List.range k).flatMap f ++ (f k ++ S) := by
  intro n
  induction n with
  | zero => intro k h; omega
  | succ n ih =>
    intro k h
    rw [List.range_succ, List.flatMap_append]
    by_cases e : k = n
    · subst e; exact ⟨[], by simp⟩
    · obtain ⟨S, hS⟩ := ih k (by omega)
      exact ⟨S ++ f n, by rw [hS]; simp⟩
theorem map_split {α : Type} (f : Nat → α) : ∀ (n k : Nat), k < n → ∃ S, (List.range n).map f = (List.range k).map f ++ f k :: S := by
  intro n
  induction n with
  | zero => intro k h; omega
  | succ n ih =>
    intro k h
    rw [List.range_succ, List.map_append]
    by_cases e : k = n
    · subst e; exact ⟨[], by simp⟩
    · obtain ⟨S, hS⟩ := ih k (by omega)
      exact ⟨S ++ [f n], by rw [hS]; simp⟩
section
variable {W D C I wk k c : Nat}
theorem pre_house (h : wk < W) : ∃ S, puts W D C I = houses D C I wk ++ (0, rHouse wk) :: S := by
  obtain ⟨S, hS⟩ := flat_split (house D C I) W wk h
  exact ⟨(dists wk C D ++ stocks wk I) ++ S ++ items I, by
    have e : houses D C I W = houses D C I wk ++ (house D C I wk ++ S) := hS
    simp [puts, e, house]⟩
theorem pre_dist (h : wk < W) (h2 : k < D) : ∃ S, puts W D C I = ((houses D C I wk ++ [(0, rHouse wk)]) ++ dists wk C k) ++ (1, rDist wk k) :: S := by
  obtain ⟨S, hS⟩ := flat_split (house D C I) W wk h
  obtain ⟨S2, hS2⟩ := flat_split (dist wk C) D k h2
  have e : houses D C I W = houses D C I wk ++ (house D C I wk ++ S) := hS
  have e2 : dists wk C D = dists wk C k ++ (dist wk C k ++ S2) := hS2
  exact ⟨custs wk k C ++ S2 ++ stocks wk I ++ S ++ items I, by simp [puts, e, house, e2, dist]⟩
theorem pre_cust (h : wk < W) (h2 : k < D) (h3 : c < C) : ∃ S, puts W D C I = ((((houses D C I wk ++ [(0, rHouse wk)]) ++ dists wk C k) ++ [(1, rDist wk k)]) ++ custs wk k c) ++ (2, rCust wk k c) :: S := by
  obtain ⟨S, hS⟩ := flat_split (house D C I) W wk h
  obtain ⟨S2, hS2⟩ := flat_split (dist wk C) D k h2
  obtain ⟨S3, hS3⟩ := map_split (fun c => (2, rCust wk k c)) C c h3
  have e : houses D C I W = houses D C I wk ++ (house D C I wk ++ S) := hS
  have e2 : dists wk C D = dists wk C k ++ (dist wk C k ++ S2) := hS2
  have e3 : custs wk k C = custs wk k c ++ (2, rCust wk k c) :: S3 := hS3
  exact ⟨S3 ++ S2 ++ stocks wk I ++ S ++ items I, by simp [puts, e, house, e2, dist, e3]⟩
theorem pre_stock (h : wk < W) (h2 : c < I) : ∃ S, puts W D C I = (((houses D C I wk ++ [(0, rHouse wk)]) ++ dists wk C D) ++ stocks wk c) ++ (4, rStock wk c) :: S := by
  obtain ⟨S, hS⟩ := flat_split (house D C I) W wk h
  obtain ⟨S3, hS3⟩ := map_split (fun c => (4, rStock wk c)) I c h2
  have e : houses D C I W = houses D C I wk ++ (house D C I wk ++ S) := hS
  have e3 : stocks wk I = stocks wk c ++ (4, rStock wk c) :: S3 := hS3
  exact ⟨S3 ++ S ++ items I, by simp [puts, e, house, e3]⟩
theorem pre_item (h : c < I) : ∃ S, puts W D C I = (houses D C I W ++ items c) ++ (3, rItem c) :: S := by
  obtain ⟨S3, hS3⟩ := map_split (fun c => (3, rItem c)) I c h
  have e3 : items I = items c ++ (3, rItem c) :: S3 := hS3
  exact ⟨S3, by simp [puts, e3]⟩
end
end Go.Proofs.YtbjickdjkgefcaaGreatDoor
end
