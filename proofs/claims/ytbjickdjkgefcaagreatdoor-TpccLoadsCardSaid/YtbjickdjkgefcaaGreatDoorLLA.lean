/- Facts on the program's form for the statement on TpccLoads: the functions without a body, their meanings in the model. -/
import Derived.Test.YtbjickdjkgefcaaGreatDoorVX
import Derived.Test.YtbjickdjkgefcaaGreatDoorCards
import Derived.Test.YtbjickdjkgefcaaGreatDoorTie
import Derived.WalkKit
import Derived.WalkSmall
import Derived.ProofKit
import Derived.Lib.LaidTab
import Derived.Stop.LaidErr
import Derived.Laws.AppendOwnNone
import Derived.Deep.QuietTactic
import Derived.Deep.AppendLies
import Derived.BigQuiet
import Derived.Lib.Hide
import Derived.Deep.RegionHeld3
import Derived.WalkSpells
import Derived.Deep.DrawnRows
import Derived.Deep.RegionLaw
import Derived.IntWalk
section
open Go Go.RowKit Go.Proofs.YtbjickdjkgefcaaGreatDoor.Vai
namespace Go.Proofs.YtbjickdjkgefcaaGreatDoor
set_option linter.unusedVariables false
set_option linter.unusedSimpArgs false
def sNil : St := { ng := 0, next := 0, views := .nil, roots := .nil, objs := .nil }
theorem rel0 (w : World) (sig : Sig) : Rel (Base.all w) ⟨fun _ => none, sig⟩ sNil w :=
  ⟨Kept.refl (Base.all w), fun _ _ h => (by cases h), fun _ _ h => (by cases h), fun _ _ _ h => (by cases h), fun _ _ _ h => (by cases h), fun _ _ _ _ h => (by cases h), fun _ _ h => (by cases h), fun _ _ h => (by cases h), fun _ _ h _ => absurd h (Nat.not_lt_zero _), Nat.le_refl _, fun _ h => (by cases h)⟩
def add64 : Array Value → Sem Value := fun args => do
  let (x, y, c) ← Extern.MathBitsCarry.three "Add64" args
  pure (Extern.MathBitsCarry.pair ((x + y + c) % Extern.MathBitsCarry.m64) ((x + y + c) / Extern.MathBitsCarry.m64))
noncomputable def ext0 : T ExtK := ((((((((T.nil.set 92 .mapsClone).set 128 (.pure Extern.MathFloatBits.float64bits)).set 131 (.pure Extern.BytealgCount.count)).set 170 (.pure Extern.BytealgIndexByte.indexByte)).set 233 (.pure add64)).set 261 (.pure Extern.BytealgCompare.compare)).set 263 .same).set 275 (.makeNoZero #[3] #[216]))
noncomputable def tb0 : Tb := tables Tryz.prog ext0
set_option maxRecDepth 100000
theorem names_ok : (Tryz.prog.funcs.toList.all fun fn => !(fn.name == "runtime.NumGoroutine")) = true := by kernel_rfl
theorem mixed : Tryz.prog.follows .mixedOrders = true := by kernel_rfl
theorem own : ownKnob Tryz.prog.godebug = none := by kernel_rfl
theorem e92 : ExtOk Tryz.prog 92 .mapsClone := ⟨⟨Tryz.f92, by kernel_rfl, by kernel_rfl, by kernel_rfl, by kernel_rfl, by kernel_rfl⟩⟩
theorem e128 : ExtOk Tryz.prog 128 (.pure Extern.MathFloatBits.float64bits) := ⟨⟨Tryz.f128, by kernel_rfl, by kernel_rfl, by kernel_rfl, by kernel_rfl, by kernel_rfl⟩⟩
theorem e131 : ExtOk Tryz.prog 131 (.pure Extern.BytealgCount.count) := ⟨⟨Tryz.f131, by kernel_rfl, by kernel_rfl, by kernel_rfl, by kernel_rfl, by kernel_rfl⟩⟩
theorem e170 : ExtOk Tryz.prog 170 (.pure Extern.BytealgIndexByte.indexByte) := ⟨⟨Tryz.f170, by kernel_rfl, by kernel_rfl, by kernel_rfl, by kernel_rfl, by kernel_rfl⟩⟩
theorem e233 : ExtOk Tryz.prog 233 (.pure add64) := ⟨⟨Tryz.f233, by kernel_rfl, by kernel_rfl, by kernel_rfl, by kernel_rfl, by kernel_rfl⟩⟩
theorem e261 : ExtOk Tryz.prog 261 (.pure Extern.BytealgCompare.compare) := ⟨⟨Tryz.f261, by kernel_rfl, by kernel_rfl, by kernel_rfl, by kernel_rfl, by kernel_rfl⟩⟩
theorem e263 : ExtOk Tryz.prog 263 .same := ⟨⟨Tryz.f263, by kernel_rfl, by kernel_rfl, by kernel_rfl, by kernel_rfl, by kernel_rfl⟩⟩
theorem e275 : ExtOk Tryz.prog 275 (.makeNoZero #[3] #[216]) := ⟨⟨Tryz.f275, by kernel_rfl, by kernel_rfl, by kernel_rfl, by kernel_rfl, by kernel_rfl⟩⟩
theorem tb0_ok : TbOk Tryz.prog tb0 := tables_ok names_ok fun f k h => by
  have step : ∀ {t : T ExtK} {n : Nat} {x : ExtK}, ExtOk Tryz.prog n x → (∀ f k, t.get f = some k → ExtOk Tryz.prog f k) → ∀ f k, (t.set n x).get f = some k → ExtOk Tryz.prog f k := by
    intro t n x hx ht f k h
    by_cases e : f = n
    · subst e; rw [T.get_set_same] at h; cases h; exact hx
    · rw [T.get_set_other _ _ e] at h; exact ht f k h
  have base : ∀ f k, (T.nil : T ExtK).get f = some k → ExtOk Tryz.prog f k := fun f k h => (by rw [T.get_nil] at h; cases h)
  exact (step e275 (step e263 (step e261 (step e233 (step e170 (step e131 (step e128 (step e92 base)))))))) f k h
end Go.Proofs.YtbjickdjkgefcaaGreatDoor
end
section
open Go Go.RowKit Go.Proofs.YtbjickdjkgefcaaGreatDoor.Vai
set_option linter.unusedVariables false
namespace Go.Proofs.YtbjickdjkgefcaaGreatDoor
set_option maxRecDepth 100000
noncomputable def intsOf : List (DataW Unit) → List Int
  | [] => []
  | .lit (.int _ z) :: r => z :: intsOf r
  | _ :: r => intsOf r
noncomputable def tabOf : DataW Unit → List Int
  | .agg p => intsOf p
  | _ => []
noncomputable def zsp : List Int := tabOf Rows.laid_strings_asciiSpace
noncomputable def globs : List Glob := [⟨0, 112, zsp.map (Value.int .u8)⟩]
/-- The table of spaces lies in the world. -/
def Tabs (w : World) : Prop := ∀ x ∈ globs, w.heap[x.g]? = some (.cells x.cells.toArray x.t (0, 0))
theorem Tabs.below {a b : World} (h : Tabs a) (hs : 12 ≤ a.heap.size) (k : Below a.heap.size a b) : Tabs b := fun x hx => by
  have := h x hx
  rw [k.block x.g (Array.getElem?_eq_some_iff.1 this).1]; exact this
theorem glob_side : ∀ x ∈ globs, x.g < 12 ∧ plainL x.cells = true := by
  intro x hx
  simp only [globs, List.mem_cons, List.mem_nil_iff, or_false] at hx
  rcases hx with rfl
  exact ⟨by decide, by kernel_rfl⟩
def sig0 : Sig := ⟨fun _ => 0, fun _ => ⟨#[]⟩⟩
theorem relT {w : World} (h : Tabs w) {sig : Sig} {orc : List Fact} (ho : ∀ f ∈ orc, f.ok sig) : Rel (Base.all w) (gEmb sig globs) (gStart 12 globs orc) w :=
  Rel.globs (ng := 12) (l := globs) ho fun x hx => ⟨(glob_side x hx).1, (glob_side x hx).2, h x hx⟩
end Go.Proofs.YtbjickdjkgefcaaGreatDoor
end
section
open Go Go.RowKit Go.Proofs.YtbjickdjkgefcaaGreatDoor.Vai
namespace Go.Proofs.YtbjickdjkgefcaaGreatDoor
set_option linter.unusedVariables false
set_option linter.unusedSimpArgs false
set_option maxRecDepth 4000
/-- The cells of a row of whole numbers. -/
def vcells : List Int → List Value
  | [] => []
  | n :: l => .int .i64 2 :: .int .i64 n :: .complex .f64 0 0 :: .string ⟨#[]⟩ :: vcells l
theorem vcells_append (a b : List Int) : vcells (a ++ b) = vcells a ++ vcells b := by
  induction a with
  | nil => rfl
  | cons x a ih => simp [vcells, ih]
theorem vcells_length (l : List Int) : (vcells l).length = l.length * 4 := by
  induction l with
  | nil => rfl
  | cons x l ih => simp [vcells, ih]; omega
theorem vcells_one (l : List Int) : ∀ v ∈ vcells l, v.oneCell' = true := by
  induction l with
  | nil => intro v h; simp [vcells] at h
  | cons x l ih =>
    intro v h
    simp only [vcells, List.mem_cons] at h
    rcases h with rfl | rfl | rfl | rfl | h
    · rfl
    · rfl
    · rfl
    · rfl
    · exact ih v h
theorem info121' : (Tryz.prog.info? 121).map (fun i => (i.zero, i.size, i.bytes)) = some (some (.agg #[.int .i64 0, .int .i64 0, .complex .f64 0 0, .string ⟨#[]⟩]), 4, 48) := by kernel_rfl
theorem info121 : ∃ i z, Tryz.prog.info? 121 = some i ∧ i.zero = some z ∧ i.size = 4 ∧ i.bytes = 48 ∧ z.cells.size = 4 := by
  have h := info121'
  cases hi : Tryz.prog.info? 121 with
  | none => rw [hi] at h; cases h
  | some i =>
    rw [hi] at h
    simp only [Option.map_some, Option.some.injEq, Prod.mk.injEq] at h
    exact ⟨i, _, rfl, h.1, h.2.1, h.2.2, rfl⟩
/-- Whole numbers lie in memory as a slice. -/
def IRow (w : World) (v : Value) (l : List Int) : Prop :=
  ∃ b o cap, v = .slice (some ⟨b, o, none⟩) l.length cap ∧ ∀ i n, l[i]? = some n → w.cell? ⟨b, o + i, none⟩ = some (.int .i64 n)
theorem cell_lt {w : World} {p : Addr} {v : Value} (h : w.cell? p = some v) : p.block < w.heap.size := by
  unfold World.cell? at h
  cases hb : w.heap[p.block]? with
  | none => rw [hb] at h; cases h
  | some o => exact (Array.getElem?_eq_some_iff.1 hb).1
theorem news_lit (w : World) (l : List Value) (t : TypeId) (H : Nat) (h : w.heap.size = H) : ∀ j u, l[j]? = some u → (w.alloc (.cells l.toArray t (0, 0))).cell? ((⟨H, 0, none⟩ : Addr).add j) = some u := by
  intro j u hu
  subst h
  unfold Addr.add
  have : (w.alloc (.cells l.toArray t (0, 0))).heap[w.heap.size]? = some (.cells l.toArray t (0, 0)) := heap_alloc_at
  split <;> simp_all [World.cell?]
theorem row_any (l : List Int) (b o cap : Nat) (w : World) (hl : l.length ≤ 100) (hc : ∀ i n, l[i]? = some n → w.cell? ⟨b, o + i, none⟩ = some (.int .i64 n)) :
    Calls Tryz.prog 27 #[.slice (some ⟨b, o, none⟩) l.length cap] w fun e w' => ∃ v, e = .returned v ∧ w'.ownsRow w.heap.size 121 4 v l.length (vcells l) ∧ Below w.heap.size w w' := by
  obtain ⟨i0, z0, hi0, hz0, hs0, hb0, hc0⟩ := info121
  go_enter Tryz.func27, Tryz.ntmps27
  go_wp2
  go_loopw [3, 8] (fun out i wr => ∃ k : Nat, i = .int .i64 k ∧ k ≤ l.length ∧ wr.ownsRow w.heap.size 121 4 out k (vcells (l.take k)) ∧ Below w.heap.size w wr) (fun _ i _ => l.length - (intOf i).toNat)
  case atStart => exact ⟨0, rfl, Nat.zero_le _, World.ownsRow_nil _ _ _ _, Below.refl _ _⟩
  case round =>
    obtain ⟨k, rfl, hk, hown, hbel⟩ := hrel
    by_cases hlt : k < l.length
    · obtain ⟨x, hx⟩ : ∃ x, l[k]? = some x := ⟨_, List.getElem?_eq_getElem hlt⟩
      have hcell : wr.cell? ⟨b, o + k, none⟩ = some (.int .i64 x) := by
        have h1 := hc k x hx
        rw [World.cell?_of_block (w := w) (hbel.block b (cell_lt h1)), h1]
      have hn : vcells (l.take (k + 1)) = vcells (l.take k) ++ [.int .i64 2, .int .i64 x, .complex .f64 0 0, .string ⟨#[]⟩] := by
        rw [List.take_succ_eq_append_getElem hlt, vcells_append]
        rw [List.getElem?_eq_getElem hlt] at hx; cases hx; simp [vcells]
      have HN := Lib.hid hn
      have hbs := hbel.size
      clear hc hn hx
      go_wp2_with (first
        | (at_builtin
           refine wpList_append_lies _ rfl (.tmp 12) (.tmp 15) _ rfl w.heap.size 121 i0 z0 4 48 Tryz.underlying71 hi0 hz0 hs0 hb0 hc0 (by omega) _ k (vcells (l.take k)) (by rfl) (hown.alloc _) _ 1 1 [.int .i64 2, .int .i64 x, .complex .f64 0 0, .string ⟨#[]⟩] (by rfl) rfl (news_lit _ _ _ _ rfl) (by simp [Value.oneCell']) (by omega) (by simp only [maxLen]; omega) (by omega) (by simp; omega) (wr.heap.size + 1) (by simp) ?_
           intro g4 cap4 w4 hown4 hgrow hat hlt4))
      refine ⟨⟨k + 1, by go_num, hlt, by rw [HN.out]; exact hown4, ?_⟩, by simp [intOf]; omega⟩
      exact (hbel.alloc (by omega) _).grown hgrow (by simp; omega) (fun q hq => (hown.lt q hq).1)
    · have hk' : k = l.length := by omega
      subst hk'
      rw [List.take_length] at hown
      go_wp2
      exact bodyPost_ret (by simp [results, Tryz.results27, go_sem]) rfl ⟨_, rfl, hown, hbel⟩
theorem values_any (l : List Int) (b o cap : Nat) (w : World) (hl : l.length ≤ 100) (hc : ∀ i n, l[i]? = some n → w.cell? ⟨b, o + i, none⟩ = some (.int .i64 n)) :
    Calls Tryz.prog 66 #[.slice (some ⟨b, o, none⟩) l.length cap] w fun e w' => ∃ v, e = .returned v ∧ w'.ownsRow w.heap.size 121 4 v l.length (vcells l) ∧ Below w.heap.size w w' := by
  obtain ⟨i0, z0, hi0, hz0, hs0, hb0, hc0⟩ := info121
  go_enter Tryz.func66, Tryz.ntmps66
  go_wp2
  go_loopw [3, 4] (fun out i wr => ∃ k : Nat, i = .int .i64 k ∧ k ≤ l.length ∧ wr.ownsRow w.heap.size 121 4 out k (vcells (l.take k)) ∧ Below w.heap.size w wr) (fun _ i _ => l.length - (intOf i).toNat)
  case atStart => exact ⟨0, rfl, Nat.zero_le _, World.ownsRow_nil _ _ _ _, Below.refl _ _⟩
  case round =>
    obtain ⟨k, rfl, hk, hown, hbel⟩ := hrel
    by_cases hlt : k < l.length
    · obtain ⟨x, hx⟩ : ∃ x, l[k]? = some x := ⟨_, List.getElem?_eq_getElem hlt⟩
      have hcell : wr.cell? ⟨b, o + k, none⟩ = some (.int .i64 x) := by
        have h1 := hc k x hx
        rw [World.cell?_of_block (w := w) (hbel.block b (cell_lt h1)), h1]
      have hn : vcells (l.take (k + 1)) = vcells (l.take k) ++ [.int .i64 2, .int .i64 x, .complex .f64 0 0, .string ⟨#[]⟩] := by
        rw [List.take_succ_eq_append_getElem hlt, vcells_append]
        rw [List.getElem?_eq_getElem hlt] at hx; cases hx; simp [vcells]
      have HN := Lib.hid hn
      have hbs := hbel.size
      clear hc hn hx
      go_wp2_with (first
        | (at_builtin
           refine wpList_append_lies _ rfl (.tmp 11) (.tmp 17) _ rfl w.heap.size 121 i0 z0 4 48 Tryz.underlying71 hi0 hz0 hs0 hb0 hc0 (by omega) _ k (vcells (l.take k)) (by rfl) (hown.alloc _) _ 1 1 [.int .i64 2, .int .i64 x, .complex .f64 0 0, .string ⟨#[]⟩] (by rfl) rfl (news_lit _ _ _ _ rfl) (by simp [Value.oneCell']) (by omega) (by simp only [maxLen]; omega) (by omega) (by simp; omega) (wr.heap.size + 1) (by simp) ?_
           intro g4 cap4 w4 hown4 hgrow hat hlt4))
      refine ⟨⟨k + 1, by go_num, hlt, by rw [HN.out]; exact hown4, ?_⟩, by simp [intOf]; omega⟩
      exact (hbel.alloc (by omega) _).grown hgrow (by simp; omega) (fun q hq => (hown.lt q hq).1)
    · have hk' : k = l.length := by omega
      subst hk'
      rw [List.take_length] at hown
      go_wp2
      exact bodyPost_ret (by simp [results, Tryz.results66, go_sem]) rfl ⟨_, rfl, hown, hbel⟩
end Go.Proofs.YtbjickdjkgefcaaGreatDoor
end
section
open Go Go.RowKit Go.Proofs.YtbjickdjkgefcaaGreatDoor.Vai
namespace Go.Proofs.YtbjickdjkgefcaaGreatDoor
set_option linter.unusedVariables false
set_option linter.unusedSimpArgs false
set_option maxRecDepth 4000
/-- Blocks of some element types stay as they are. -/
def KT (T : List TypeId) (w w' : World) : Prop := ∀ (b : Nat) (cs : Array Value) (ty : TypeId) (fr : Nat × Nat), w.heap[b]? = some (Obj.cells cs ty fr) → ty ∈ T → w'.heap[b]? = some (Obj.cells cs ty fr)
theorem KT.trans {T : List TypeId} {a b c : World} (h : KT T a b) (k : KT T b c) : KT T a c := fun q cs ty fr e m => k _ _ _ _ (h _ _ _ _ e m) m
theorem KT.refl (T : List TypeId) (w : World) : KT T w w := fun _ _ _ _ h _ => h
theorem KT.sub {T T' : List TypeId} {a b : World} (h : KT T a b) (hs : ∀ t ∈ T', t ∈ T) : KT T' a b := fun q cs ty fr e m => h _ _ _ _ e (hs _ m)
theorem lt_of_heap {w : World} {b : Nat} {o : Obj} (h : w.heap[b]? = some o) : b < w.heap.size := (Array.getElem?_eq_some_iff.1 h).1
theorem KT.below {T : List TypeId} {w w' : World} {B : Nat} (h : Below B w w') (hB : w.heap.size ≤ B) : KT T w w' := fun q cs ty fr e _ => by
  rw [h.block q (by have := lt_of_heap e; omega)]; exact e
theorem KT.alloc (T : List TypeId) (w : World) (o : Obj) : KT T w (w.alloc o) := fun q cs ty fr e _ => by
  rw [Below.heap_alloc _ _ _ (lt_of_heap e)]; exact e
theorem KT.drew (T : List TypeId) (w : World) : KT T w w.drew := fun q cs ty fr e _ => e
theorem KT.grown {T : List TypeId} {w w' : World} {base n size : Nat} {e : TypeId} {v : Value} {xs : List Value} (hg : w.grownBy w' v.ownBlock) (h : w.ownsRow base e size v n xs) (hT : e ∉ T) : KT T w w' := by
  intro q cs ty fr hq hm
  rw [hg.block q (lt_of_heap hq) ?_]; exact hq
  intro e1
  rcases h.2 with ⟨rfl, _⟩ | ⟨g, cap, cur, rfl, _, hc, _⟩
  · cases e1
  · simp only [Value.ownBlock, Option.some.injEq] at e1
    subst e1
    rw [hc] at hq
    cases hq
    exact hT hm
theorem KT.grownMap {T : List TypeId} {w w' : World} {m : Nat} {cs : Array MapEntry} {k : Nat} (hg : w.grownBy w' (some m)) (h : w.heap[m]? = some (.map cs k)) : KT T w w' := by
  intro q c ty fr hq hm
  rw [hg.block q (lt_of_heap hq) ?_]; exact hq
  intro e1
  cases e1
  rw [h] at hq; cases hq
theorem ownsRow_keep {w w' : World} {base n size : Nat} {e : TypeId} {v : Value} {xs : List Value} {T : List TypeId} (h : w.ownsRow base e size v n xs) (k : KT T w w') (he : e ∈ T) : w'.ownsRow base e size v n xs := by
  refine ⟨h.1, ?_⟩
  rcases h.2 with hn | ⟨g, cap, cur, rfl, hb, hg, rest⟩
  · exact .inl hn
  · exact .inr ⟨g, cap, cur, rfl, hb, k _ _ _ _ hg he, rest⟩
theorem ownsRow_base {w : World} {base base' n size : Nat} {e : TypeId} {v : Value} {xs : List Value} (h : w.ownsRow base e size v n xs) (hb : base' ≤ base) : w.ownsRow base' e size v n xs := by
  refine ⟨h.1, ?_⟩
  rcases h.2 with hn | ⟨g, cap, cur, rfl, hb', rest⟩
  · exact .inl hn
  · exact .inr ⟨g, cap, cur, rfl, by omega, rest⟩
/-- What a slice of the own reads. -/
theorem ownsRow_read {w : World} {base n size : Nat} {e : TypeId} {v : Value} {xs : List Value} (h : w.ownsRow base e size v n xs) (hn : 0 < n) :
    ∃ g cap, v = .slice (some ⟨g, 0, none⟩) n cap ∧ base ≤ g ∧ g < w.heap.size ∧ n ≤ cap ∧ cap ≤ maxLen ∧ ∀ j u, xs[j]? = some u → w.cell? ⟨g, j, none⟩ = some u := by
  rcases h.2 with ⟨_, h0⟩ | ⟨g, cap, cur, rfl, hb, hg, h1, h2, h3, h4⟩
  · omega
  · refine ⟨g, cap, rfl, hb, lt_of_heap hg, h1, h2, fun j u hj => ?_⟩
    have h5 : cur.toList[j]? = some u := by
      rw [← h4, List.getElem?_take] at hj
      split at hj
      · exact hj
      · cases hj
    simp only [World.cell?, hg]
    simpa using h5
def VRow (w : World) (v : Value) (l : List Int) : Prop := l ≠ [] ∧ w.ownsRow 0 121 4 v l.length (vcells l)
def VRows (w : World) (v : Value) (L : List (List Int)) : Prop := ∃ us, w.ownsRow 0 71 1 v L.length us ∧ ∀ (i : Nat) (u : Value) (l : List Int), us[i]? = some u → L[i]? = some l → VRow w u l
theorem VRow.keep {w w' : World} {v : Value} {l : List Int} {T : List TypeId} (h : VRow w v l) (k : KT T w w') (hT : 121 ∈ T) : VRow w' v l := ⟨h.1, ownsRow_keep h.2 k hT⟩
theorem VRows.keep {w w' : World} {v : Value} {L : List (List Int)} {T : List TypeId} (h : VRows w v L) (k : KT T w w') (hT : 121 ∈ T) (hT2 : 71 ∈ T) : VRows w' v L := by
  obtain ⟨us, h1, h2⟩ := h
  exact ⟨us, ownsRow_keep h1 k hT2, fun i u l hu hl => (h2 i u l hu hl).keep k hT⟩
theorem VRow.read {w : World} {v : Value} {l : List Int} (h : VRow w v l) : ∃ g cap, v = .slice (some ⟨g, 0, none⟩) l.length cap ∧ g < w.heap.size ∧ l.length ≤ cap ∧ cap ≤ maxLen ∧ ∀ j u, (vcells l)[j]? = some u → w.cell? ⟨g, j, none⟩ = some u := by
  have hn : 0 < l.length := by cases hl : l with
    | nil => exact absurd hl h.1
    | cons => simp
  obtain ⟨g, cap, h1, _, h2, h3, h4, h5⟩ := ownsRow_read h.2 hn
  exact ⟨g, cap, h1, h2, h3, h4, h5⟩
theorem vcells_at : ∀ (l : List Int) (i : Nat) (n : Int), l[i]? = some n → (vcells l)[i * 4]? = some (.int .i64 2) ∧ (vcells l)[i * 4 + 1]? = some (.int .i64 n) ∧ (vcells l)[i * 4 + 2]? = some (.complex .f64 0 0) ∧ (vcells l)[i * 4 + 3]? = some (.string ⟨#[]⟩) := by
  intro l
  induction l with
  | nil => intro i n h; simp at h
  | cons x l ih =>
    intro i n h
    cases i with
    | zero => simp at h; subst h; exact ⟨rfl, rfl, rfl, rfl⟩
    | succ i =>
      have := ih i n (by simpa using h)
      rw [show (i + 1) * 4 = i * 4 + 4 by omega]
      exact this
/-- A copy of a slice of rows' values. -/
theorem clone_any (w : World) (v : Value) (l : List Int) (h : VRow w v l) (hl : l.length ≤ 100) :
    Calls Tryz.prog 109 #[v] w fun e w' => ∃ v', e = .returned v' ∧ w'.ownsRow w.heap.size 121 4 v' l.length (vcells l) ∧ Below w.heap.size w w' := by
  obtain ⟨g, cap, rfl, hg, h1, h2, hc⟩ := h.read
  obtain ⟨i0, z0, hi0, hz0, hs0, hb0, hc0⟩ := info121
  have A : Hid (∀ j u, (vcells l)[j]? = some u → w.cell? ⟨g, 0 + j, none⟩ = some u) := fun j u hj => by rw [Nat.zero_add]; exact hc j u hj
  clear hc h
  have q : ∀ (w : World) (a : Option Addr) (n c n' c' : Nat), (binOp .eql 71 (.slice a n c) (.slice none n' c')).run Tryz.prog w = .ok (.bool a.isNone) w := fun w a n c n' c' => Lib.run_eql_slice_nil w _ _ a n c n' c' Tryz.underlying71
  go_enter Tryz.func109, Tryz.ntmps109
  go_wp2_with (at_builtin; refine wpList_append_own _ rfl _ _ 71 rfl w.heap.size 121 i0 z0 4 48 Tryz.underlying71 hi0 hz0 hs0 hb0 hc0 (by omega) _ _ _ rfl (World.ownsRow_made w #[] 0 (Nat.le_refl _) (Nat.zero_le _) (by simp)) ⟨g, 0, none⟩ l.length cap (vcells l) rfl ?qc1 ?qc2 ?qc3 ?qc4 ?qc5 ?qc6 ?_)
  case qc1 => exact vcells_length l
  case qc2 =>
    intro j u hj
    rw [Addr.add_lit]
    exact Lib.cell?_alloc_some _ (A.out j u hj)
  case qc3 => exact vcells_one l
  case qc4 => simp only [maxLen]; omega
  case qc5 => omega
  case qc6 => simp
  intro v' w1 hown hgrow hnil
  go_wp2
  exact bodyPost_ret (v := v') (by simp [results, Tryz.results109, go_sem]) rfl ⟨_, rfl, by simpa using hown, ((Below.refl _ _).alloc (Nat.le_refl _) _).grown hgrow (by simp) (fun q hq => by simp [Value.ownBlock] at hq; omega)⟩
theorem copyRow_any (w : World) (v : Value) (l : List Int) (h : VRow w v l) (hl : l.length ≤ 100) :
    Calls Tryz.prog 110 #[v] w fun e w' => ∃ v', e = .returned v' ∧ w'.ownsRow w.heap.size 121 4 v' l.length (vcells l) ∧ Below w.heap.size w w' := by
  obtain ⟨g, cap, rfl, hg, h1, h2, hc⟩ := h.read
  obtain ⟨i0, z0, hi0, hz0, hs0, hb0, hc0⟩ := info121
  have A : Hid (∀ j u, (vcells l)[j]? = some u → w.cell? ⟨g, 0 + j, none⟩ = some u) := fun j u hj => by rw [Nat.zero_add]; exact hc j u hj
  clear hc h
  go_enter Tryz.func110, Tryz.ntmps110
  go_wp2_with (at_builtin; refine wpList_append_own _ rfl _ _ 71 rfl w.heap.size 121 i0 z0 4 48 Tryz.underlying71 hi0 hz0 hs0 hb0 hc0 (by omega) _ _ _ rfl (World.ownsRow_made w #[] 0 (Nat.le_refl _) (Nat.zero_le _) (by simp)) ⟨g, 0, none⟩ l.length cap (vcells l) rfl ?qc1 ?qc2 ?qc3 ?qc4 ?qc5 ?qc6 ?_)
  case qc1 => exact vcells_length l
  case qc2 =>
    intro j u hj
    rw [Addr.add_lit]
    exact Lib.cell?_alloc_some _ (A.out j u hj)
  case qc3 => exact vcells_one l
  case qc4 => simp only [maxLen]; omega
  case qc5 => omega
  case qc6 => simp
  intro v' w1 hown hgrow hnil
  go_wp2
  exact bodyPost_ret (v := v') (by simp [results, Tryz.results110, go_sem]) rfl ⟨_, rfl, by simpa using hown, ((Below.refl _ _).alloc (Nat.le_refl _) _).grown hgrow (by simp) (fun q hq => by simp [Value.ownBlock] at hq; omega)⟩
theorem info71' : (Tryz.prog.info? 71).map (fun i => (i.zero, i.size, i.bytes)) = some (some (.slice none 0 0), 1, 24) := by kernel_rfl
theorem info71 : ∃ i z, Tryz.prog.info? 71 = some i ∧ i.zero = some z ∧ i.size = 1 ∧ i.bytes = 24 ∧ z.cells.size = 1 := by
  have h := info71'
  cases hi : Tryz.prog.info? 71 with
  | none => rw [hi] at h; cases h
  | some i =>
    rw [hi] at h
    simp only [Option.map_some, Option.some.injEq, Prod.mk.injEq] at h
    exact ⟨i, _, rfl, h.1, h.2.1, h.2.2, rfl⟩
/-- A list of rows as a slice of slices: what reads where. -/
theorem VRows.read {w : World} {v : Value} {L : List (List Int)} (h : VRows w v L) (hn : 0 < L.length) : ∃ g cap, v = .slice (some ⟨g, 0, none⟩) L.length cap ∧ g < w.heap.size ∧ ∀ (i : Nat) (l : List Int), L[i]? = some l → ∃ u, w.cell? ⟨g, i, none⟩ = some u ∧ VRow w u l := by
  obtain ⟨us, h1, h2⟩ := h
  obtain ⟨g, cap, e1, _, e2, _, _, e3⟩ := ownsRow_read h1 hn
  refine ⟨g, cap, e1, e2, fun i l hl => ?_⟩
  have hi : i < us.length := by
    have := (List.getElem?_eq_some_iff.1 hl).1
    have := h1.1; omega
  exact ⟨_, e3 i _ (List.getElem?_eq_getElem hi), h2 i _ l (List.getElem?_eq_getElem hi) hl⟩
/-- One more row. -/
theorem VRows.snoc {w w' : World} {v v' : Value} {us : List Value} {L : List (List Int)} {u : Value} {l : List Int} (h2 : ∀ (i : Nat) (u : Value) (l : List Int), us[i]? = some u → L[i]? = some l → VRow w u l) (hlen : us.length = L.length) (hu : VRow w u l) :
    ∀ (i : Nat) (u' : Value) (l' : List Int), (us ++ [u])[i]? = some u' → (L ++ [l])[i]? = some l' → VRow w u' l' := by
  intro i u' l' h3 h4
  by_cases hi : i < us.length
  · rw [List.getElem?_append_left hi] at h3
    rw [List.getElem?_append_left (by omega)] at h4
    exact h2 i u' l' h3 h4
  · rw [List.getElem?_append_right (by omega)] at h3
    rw [List.getElem?_append_right (by omega)] at h4
    have e : i - us.length = 0 := by
      have := (List.getElem?_eq_some_iff.1 h3).1; simp at this; omega
    rw [e] at h3
    rw [show i - L.length = 0 by omega] at h4
    cases h3; cases h4
    exact hu
theorem VRow.of_own {w : World} {base : Nat} {v : Value} {l : List Int} (hn : l ≠ []) (h : w.ownsRow base 121 4 v l.length (vcells l)) : VRow w v l := ⟨hn, ownsRow_base h (Nat.zero_le _)⟩
theorem ownsRow_one {w : World} {base n size : Nat} {e : TypeId} {v : Value} {xs : List Value} (h : w.ownsRow base e size v n xs) : ∀ x ∈ [v], x.oneCell' = true := by
  intro x hx
  rw [List.mem_singleton] at hx
  subst hx
  rcases h.2 with ⟨rfl, _⟩ | ⟨_, _, _, rfl, _⟩ <;> rfl
theorem ownsRow_slice {w : World} {base n size : Nat} {e : TypeId} {v : Value} {xs : List Value} (h : w.ownsRow base e size v n xs) : ∃ p m c, v = .slice p m c := by
  rcases h.2 with ⟨rfl, _⟩ | ⟨_, _, _, rfl, _⟩ <;> exact ⟨_, _, _, rfl⟩
theorem copyRows_any (w : World) (v : Value) (L : List (List Int)) (h : VRows w v L) (hn : L.length ≤ 10000) (hl : ∀ l ∈ L, l.length ≤ 100) (hv : L = [] → v = .slice none 0 0) :
    Calls Tryz.prog 69 #[v] w fun e w' => ∃ v', e = .returned v' ∧ VRows w' v' L ∧ (L = [] → v' = .slice none 0 0) ∧ Below w.heap.size w w' := by
  obtain ⟨i0, z0, hi0, hz0, hs0, hb0, hc0⟩ := info71
  obtain ⟨p, cap, rfl, hcell⟩ : ∃ p cap, v = .slice p L.length cap ∧ ∀ (i : Nat) (l : List Int), L[i]? = some l → ∃ g u, p = some ⟨g, 0, none⟩ ∧ g < w.heap.size ∧ w.cell? ⟨g, i, none⟩ = some u ∧ VRow w u l := by
    by_cases hL : L = []
    · subst hL; exact ⟨none, 0, hv rfl, fun i l h => by simp at h⟩
    · obtain ⟨g, cap, e1, e2, e3⟩ := h.read (List.length_pos_iff.2 hL)
      exact ⟨_, cap, e1, fun i l hl => let ⟨u, a, b⟩ := e3 i l hl; ⟨g, u, rfl, e2, a, b⟩⟩
  clear h hv
  go_enter Tryz.func69, Tryz.ntmps69
  go_wp2
  go_loopw [3, 4] (fun out i wr => ∃ (k : Nat) (us : List Value), i = .int .i64 k ∧ k ≤ L.length ∧ wr.ownsRow w.heap.size 71 1 out k us ∧ (∀ (i : Nat) (u : Value) (l : List Int), us[i]? = some u → (L.take k)[i]? = some l → VRow wr u l) ∧ (k = 0 → out = .slice none 0 0) ∧ Below w.heap.size w wr) (fun _ i _ => L.length - (intOf i).toNat)
  case atStart => exact ⟨0, [], rfl, Nat.zero_le _, World.ownsRow_nil _ _ _ _, fun i u l h => by simp at h, fun _ => rfl, Below.refl _ _⟩
  case round =>
    obtain ⟨k, us, rfl, hk, hown, hrows, h0, hbel⟩ := hrel
    by_cases hlt : k < L.length
    · obtain ⟨l, hx⟩ : ∃ x, L[k]? = some x := ⟨_, List.getElem?_eq_getElem hlt⟩
      obtain ⟨g, u, rfl, hg, hcu, hu⟩ := hcell k l hx
      have hcell1 : wr.cell? ⟨g, k, none⟩ = some u := by rw [World.cell?_of_block (w := w) (hbel.block g hg), hcu]
      have hu2 : VRow wr u l := hu.keep (KT.below hbel (Nat.le_refl _)) (List.mem_singleton.2 rfl : 121 ∈ [121])
      have K := copyRow_any wr u l hu2 (hl l (List.mem_of_getElem? hx))
      have hbs := hbel.size
      have hlne := hu2.1
      have HX := Lib.hid hx
      have HR := Lib.hid hrows
      have HL := Lib.hid hl
      clear hcell hl hx hrows h0 hu hu2
      go_wp2_with (first
        | (go_at_call 110; refine K.mono ?_; rintro e w1 ⟨v1, rfl, hv1, hb1⟩; obtain ⟨p1, n1, c1, rfl⟩ := ownsRow_slice hv1)
        | (at_builtin
           refine wpList_append_lies _ rfl (.tmp 11) (.tmp 17) _ rfl w.heap.size 71 i0 z0 1 24 Tryz.underlying85 hi0 hz0 hs0 hb0 hc0 (by omega) _ k us (by rfl) ((ownsRow_keep hown (KT.below hb1 (Nat.le_refl _)) (List.mem_singleton.2 rfl : 71 ∈ [71])).alloc _) _ 1 1 [.slice p1 n1 c1] (by rfl) rfl (news_lit _ _ _ _ rfl) (ownsRow_one hv1) (by omega) (by simp only [maxLen]; omega) (by omega) (by have := hb1.size; simp; omega) (w1.heap.size + 1) (by simp) ?_
           intro g4 cap4 w4 hown4 hgrow hat hlt4))
      have hs1 := hb1.size
      have hown1 := ownsRow_keep hown (KT.below hb1 (Nat.le_refl _)) (List.mem_singleton.2 rfl : 71 ∈ [71])
      have kt2 : KT [121] w1 w4 := (KT.alloc _ _ _).trans (KT.grown hgrow (hown1.alloc _) (by decide))
      have kt1 : KT [121] wr w4 := (KT.below hb1 (Nat.le_refl _)).trans kt2
      refine ⟨⟨k + 1, us ++ [.slice p1 n1 c1], by go_num, hlt, hown4, ?_, fun h => by omega, ?_⟩, by simp [intOf]; omega⟩
      · have e1 : L.take (k + 1) = L.take k ++ [l] := by
          have := HX.out
          rw [List.take_succ_eq_append_getElem hlt]; rw [List.getElem?_eq_getElem hlt] at this; cases this; rfl
        rw [e1]
        refine VRows.snoc (w := w4) (w' := w4) (v := u) (v' := u) (fun i u l hu hl => (HR.out i u l hu hl).keep kt1 (by simp)) ?_ ((VRow.of_own hlne hv1).keep kt2 (by simp))
        have := hown.1; simp; omega
      · refine ((hbel.trans (hb1.mono (by omega))).alloc (by omega) _).grown hgrow (by simp; omega) (fun q hq => (hown.lt q hq).1)
    · have hk' : k = L.length := by omega
      subst hk'
      rw [List.take_length] at hrows
      clear hcell hl
      have HR := Lib.hid hrows
      clear hrows
      go_wp2
      exact bodyPost_ret (v := u3) (by simp [results, Tryz.results69, go_sem]) rfl ⟨_, rfl, ⟨us, ownsRow_base hown (Nat.zero_le _), HR.out⟩, fun h => h0 (by rw [h]; rfl), hbel⟩
end Go.Proofs.YtbjickdjkgefcaaGreatDoor
end
section
open Go Go.RowKit Go.Proofs.YtbjickdjkgefcaaGreatDoor.Vai
namespace Go.Proofs.YtbjickdjkgefcaaGreatDoor
set_option linter.unusedVariables false
set_option linter.unusedSimpArgs false
set_option maxRecDepth 4000
attribute [local go_sem ↓] Go.wp_at_zero Go.wp_at_succ
/-- The bytes of a key. -/
def encL : List Int → List UInt8
  | [] => []
  | n :: l => 3 :: 128 :: 0 :: 0 :: 0 :: 0 :: 0 :: 0 :: UInt8.ofNat n.toNat :: encL l
def keyV (k : List Int) : Value := .string ⟨(encL k).toArray⟩
def ecells (kn : Nat) : List (List Int) → List Value → List Value
  | l :: L, u :: us => keyV (l.take kn) :: u :: ecells kn L us
  | _, _ => []
theorem ecells_length (kn : Nat) : ∀ (L : List (List Int)) (us : List Value), us.length = L.length → (ecells kn L us).length = L.length * 2 := by
  intro L
  induction L with
  | nil => intro us _; rfl
  | cons l L ih =>
    intro us h
    cases us with
    | nil => cases h
    | cons u us => simp only [ecells, List.length_cons]; rw [ih us (by simpa using h)]; omega
theorem ecells_append (kn : Nat) : ∀ (L : List (List Int)) (us : List Value) (M : List (List Int)) (vs : List Value), us.length = L.length → ecells kn (L ++ M) (us ++ vs) = ecells kn L us ++ ecells kn M vs := by
  intro L
  induction L with
  | nil => intro us M vs h; obtain rfl := List.eq_nil_of_length_eq_zero h; rfl
  | cons l L ih =>
    intro us M vs h
    cases us with
    | nil => cases h
    | cons u us => simp only [List.cons_append, ecells]; rw [ih us M vs (by simpa using h)]
theorem ecells_at (kn : Nat) : ∀ (L : List (List Int)) (us : List Value) (i : Nat) (l : List Int) (u : Value), L[i]? = some l → us[i]? = some u → (ecells kn L us)[i * 2]? = some (keyV (l.take kn)) ∧ (ecells kn L us)[i * 2 + 1]? = some u := by
  intro L
  induction L with
  | nil => intro us i l u h; simp at h
  | cons x L ih =>
    intro us i l u h1 h2
    cases us with
    | nil => simp at h2
    | cons y us =>
      cases i with
      | zero => simp at h1 h2; subst h1; subst h2; exact ⟨rfl, rfl⟩
      | succ i =>
        have := ih us i l u (by simpa using h1) (by simpa using h2)
        rw [show (i + 1) * 2 = i * 2 + 2 by omega]
        exact this
/-- The entries of a table: rows by keys of so many numbers. -/
def ERows (w : World) (v : Value) (kn : Nat) (L : List (List Int)) : Prop := ∃ us, us.length = L.length ∧ w.ownsRow 0 183 2 v L.length (ecells kn L us) ∧ ∀ (i : Nat) (u : Value) (l : List Int), us[i]? = some u → L[i]? = some l → VRow w u l
theorem ERows.keep {w w' : World} {v : Value} {kn : Nat} {L : List (List Int)} {T : List TypeId} (h : ERows w v kn L) (k : KT T w w') (hT : 121 ∈ T) (hT2 : 183 ∈ T) : ERows w' v kn L := by
  obtain ⟨us, h0, h1, h2⟩ := h
  exact ⟨us, h0, ownsRow_keep h1 k hT2, fun i u l hu hl => (h2 i u l hu hl).keep k hT⟩
theorem ERows.shape {w : World} {v : Value} {kn : Nat} {L : List (List Int)} (h : ERows w v kn L) : ∃ p cap, v = .slice p L.length cap ∧ ∀ (i : Nat) (l : List Int), L[i]? = some l → ∃ g u, p = some ⟨g, 0, none⟩ ∧ g < w.heap.size ∧ w.cell? ⟨g, i * 2, none⟩ = some (keyV (l.take kn)) ∧ w.cell? ⟨g, i * 2 + 1, none⟩ = some u ∧ VRow w u l := by
  obtain ⟨us, h0, h1, h2⟩ := h
  by_cases hL : L = []
  · subst hL
    rcases h1.2 with ⟨rfl, _⟩ | ⟨g, cap, cur, rfl, _⟩
    · exact ⟨none, 0, rfl, fun i l h => by simp at h⟩
    · exact ⟨_, cap, rfl, fun i l h => by simp at h⟩
  · obtain ⟨g, cap, e1, _, e2, _, _, e3⟩ := ownsRow_read h1 (List.length_pos_iff.2 hL)
    refine ⟨_, cap, e1, fun i l hl => ?_⟩
    have hi : i < us.length := by have := (List.getElem?_eq_some_iff.1 hl).1; omega
    obtain ⟨c1, c2⟩ := ecells_at kn L us i l _ hl (List.getElem?_eq_getElem hi)
    exact ⟨g, us[i], rfl, e2, e3 _ _ c1, e3 _ _ c2, h2 i _ l (List.getElem?_eq_getElem hi) hl⟩
theorem cellA {w : World} {o : Obj} {a : Addr} (h : a.block < w.heap.size) : (w.alloc o).cell? a = w.cell? a := World.cell?_of_block (w := w) (Below.heap_alloc _ _ _ h)
theorem frozA {w : World} {o : Obj} {a : Addr} (h : a.block < w.heap.size) : (w.alloc o).frozen? a = w.frozen? a := World.frozen?_of_block (w := w) (Below.heap_alloc _ _ _ h)
theorem cellS {w : World} {a b : Addr} {v : Value} (h : b.block ≠ a.block) : (w.setCell a v).cell? b = w.cell? b := World.cell?_of_block (w := w) (Below.heap_setCell _ _ _ _ h)
theorem KT.setCell {T : List TypeId} {w : World} {b o : Nat} {cs : Array Value} {ty : TypeId} {fr : Nat × Nat} {v : Value} (h : w.heap[b]? = some (.cells cs ty fr)) (hT : ty ∉ T) : KT T w (w.setCell ⟨b, o, none⟩ v) := by
  intro q c t f hq hm
  rw [Below.heap_setCell _ _ _ _ (fun e => ?_)]
  · exact hq
  · have e : q = b := e
    subst e; rw [h] at hq; cases hq; exact hT hm
theorem rows_round {w wr w1 w4 : World} {L : List (List Int)} {k : Nat} {us : List Value} {out u v1 : Value} {l : List Int} {o : Obj} {o2 : Obj} {gg cap4 : Nat} (hB1 : wr.heap[w.heap.size]? = some (.cells #[.int .i64 0, .slice none 0 0] 106 (0, 0))) (hB2 : wr.heap[w.heap.size + 1]? = some (.cells #[.int .i64 0, out] 106 (0, 0)))
    (hown : wr.ownsRow (w.heap.size + 2) 71 1 out k us) (hbel : Below w.heap.size w wr) (hlt : k < L.length) (HR : ∀ (i : Nat) (u : Value) (l : List Int), us[i]? = some u → (L.take k)[i]? = some l → VRow wr u l) (HX : L[k]? = some l)
    (hb1 : Below (wr.alloc o).drew.heap.size (wr.alloc o).drew w1) (hv1 : w1.ownsRow (wr.alloc o).drew.heap.size 121 4 v1 l.length (vcells l)) (hown4 : w4.ownsRow (w.heap.size + 2) 71 1 (.slice (some ⟨gg, 0, none⟩) (k + 1) cap4) (k + 1) (us ++ [v1])) (hgrow : (w1.alloc o2).grownBy w4 out.ownBlock) (HU : VRow wr u l) :
    (w4.setCell ⟨w.heap.size + 1, 1, none⟩ (.slice (some ⟨gg, 0, none⟩) (k + 1) cap4)).heap[w.heap.size]? = some (.cells #[.int .i64 0, .slice none 0 0] 106 (0, 0)) ∧
    (w4.setCell ⟨w.heap.size + 1, 1, none⟩ (.slice (some ⟨gg, 0, none⟩) (k + 1) cap4)).heap[w.heap.size + 1]? = some (.cells #[.int .i64 0, .slice (some ⟨gg, 0, none⟩) (k + 1) cap4] 106 (0, 0)) ∧
    (w4.setCell ⟨w.heap.size + 1, 1, none⟩ (.slice (some ⟨gg, 0, none⟩) (k + 1) cap4)).ownsRow (w.heap.size + 2) 71 1 (.slice (some ⟨gg, 0, none⟩) (k + 1) cap4) (k + 1) (us ++ [v1]) ∧
    (∀ (i : Nat) (u : Value) (l : List Int), (us ++ [v1])[i]? = some u → (L.take (k + 1))[i]? = some l → VRow (w4.setCell ⟨w.heap.size + 1, 1, none⟩ (.slice (some ⟨gg, 0, none⟩) (k + 1) cap4)) u l) ∧
    Below w.heap.size w (w4.setCell ⟨w.heap.size + 1, 1, none⟩ (.slice (some ⟨gg, 0, none⟩) (k + 1) cap4)) := by
  have s1 := hb1.size
  have s2 := hgrow.size
  have s3 := hbel.size
  have s4 := lt_of_heap hB2
  simp at s1 s2
  have step : ∀ b, b < wr.heap.size → out.ownBlock ≠ some b → w4.heap[b]? = wr.heap[b]? := fun b hb hne => by
    rw [hgrow.block b (by simp; omega) (fun e => hne e.symm), Below.heap_alloc _ _ _ (by omega), hb1.block b (by simp; omega)]
    exact Below.heap_alloc _ _ _ hb
  have ne : ∀ b, b < w.heap.size + 2 → out.ownBlock ≠ some b := fun b hb e => by have := (hown.lt _ e).1; omega
  have e1 := (step w.heap.size (by omega) (ne _ (by omega))).trans hB1
  have e2 := (step (w.heap.size + 1) s4 (ne _ (by omega))).trans hB2
  have hown1 : (w1.alloc o2).ownsRow (w.heap.size + 2) 71 1 out k us := (ownsRow_keep hown ((((KT.alloc [71] _ o).trans (KT.drew _ _)).trans (KT.below hb1 (Nat.le_refl _)))) (by simp)).alloc _
  have kt2 : KT [121] w1 (w4.setCell ⟨w.heap.size + 1, 1, none⟩ (.slice (some ⟨gg, 0, none⟩) (k + 1) cap4)) := ((KT.alloc _ _ _).trans (KT.grown hgrow hown1 (by decide))).trans (KT.setCell e2 (by decide))
  have kt1 : KT [121] wr (w4.setCell ⟨w.heap.size + 1, 1, none⟩ (.slice (some ⟨gg, 0, none⟩) (k + 1) cap4)) := (((KT.alloc _ _ o).trans (KT.drew _ _)).trans (KT.below hb1 (Nat.le_refl _))).trans kt2
  refine ⟨?_, heap_setCell_at e2, ownsRow_setCell_below hown4 (by show w.heap.size + 1 < w.heap.size + 2; omega) _, ?_, ?_⟩
  · rw [Below.heap_setCell _ _ _ _ (by simp), e1]
  · have e3 : L.take (k + 1) = L.take k ++ [l] := by
      rw [List.take_succ_eq_append_getElem hlt]; rw [List.getElem?_eq_getElem hlt] at HX; cases HX; rfl
    rw [e3]
    refine VRows.snoc (w' := w4) (v := u) (v' := u) (fun i u l hu hl => (HR i u l hu hl).keep kt1 (by simp)) ?_ ((VRow.of_own HU.1 hv1).keep kt2 (by simp))
    have := hown.1; simp; omega
  · refine ⟨hgrow.os.trans (hb1.os.trans hbel.os), hgrow.tape.trans (hb1.tape.trans hbel.tape), hgrow.output.trans (hb1.output.trans hbel.output), by simp [World.setCell]; omega, fun b hb => ?_⟩
    rw [Below.heap_setCell _ _ _ _ (show b ≠ w.heap.size + 1 by omega), step b (by omega) (ne _ (by omega)), hbel.block b hb]
theorem rows_any (w : World) (v : Value) (kn : Nat) (L : List (List Int)) (h : ERows w v kn L) (hn : L.length ≤ 10000) (hl : ∀ l ∈ L, l.length ≤ 100) :
    Calls Tryz.prog 67 #[v] w fun e w' => ∃ v', e = .returned (.agg #[.int .i64 0, v']) ∧ VRows w' v' L ∧ (L = [] → v' = .slice none 0 0) ∧ Below w.heap.size w w' := by
  obtain ⟨i0, z0, hi0, hz0, hs0, hb0, hc0⟩ := info71
  obtain ⟨p, cap, rfl, hcell⟩ := h.shape
  clear h
  go_enter Tryz.func67, Tryz.ntmps67
  go_wp2
  go_loopw [8] (fun i wr => ∃ (k : Nat) (us : List Value) (out : Value), i = .int .i64 k ∧ k ≤ L.length ∧ wr.heap[w.heap.size]? = some (.cells #[.int .i64 0, .slice none 0 0] 106 (0, 0)) ∧ wr.heap[w.heap.size + 1]? = some (.cells #[.int .i64 0, out] 106 (0, 0)) ∧ wr.ownsRow (w.heap.size + 2) 71 1 out k us ∧ (∀ (i : Nat) (u : Value) (l : List Int), us[i]? = some u → (L.take k)[i]? = some l → VRow wr u l) ∧ (k = 0 → out = .slice none 0 0) ∧ Below w.heap.size w wr) (fun i _ => L.length - (intOf i).toNat)
  case atStart =>
    refine ⟨0, [], .slice none 0 0, rfl, Nat.zero_le _, ?_, ?_, World.ownsRow_nil _ _ _ _, fun i u l h => by simp at h, fun _ => rfl, ((Below.refl _ _).alloc (Nat.le_refl _) _).alloc (by simp) _⟩
    · rw [Below.heap_alloc _ _ _ (by simp)]; exact heap_alloc_at
    · have := @heap_alloc_at (w.alloc (.cells #[.int .i64 0, .slice none 0 0] 106)) (.cells #[.int .i64 0, .slice none 0 0] 106)
      simpa using this
  case round =>
    obtain ⟨k, us, out, rfl, hk, hB1, hB2, hown, hrows, h0, hbel⟩ := hrel
    by_cases hlt : k < L.length
    · obtain ⟨l, hx⟩ : ∃ x, L[k]? = some x := ⟨_, List.getElem?_eq_getElem hlt⟩
      obtain ⟨g, u, rfl, hg, hck, hcu, hu⟩ := hcell k l hx
      have hcell0 : wr.cell? ⟨g, k * 2, none⟩ = some (keyV (l.take kn)) := by rw [World.cell?_of_block (w := w) (hbel.block g hg), hck]
      have hcell1 : wr.cell? ⟨g, k * 2 + 1, none⟩ = some u := by rw [World.cell?_of_block (w := w) (hbel.block g hg), hcu]
      have hu2 : VRow wr u l := hu.keep (KT.below hbel (Nat.le_refl _)) (List.mem_singleton.2 rfl : 121 ∈ [121])
      have hll := hl l (List.mem_of_getElem? hx)
      have hbs := hbel.size
      have hlne := hu2.1
      have hsz2 := lt_of_heap hB2
      have HX := Lib.hid hx
      have HR := Lib.hid hrows
      have HL := Lib.hid hl
      have HU := Lib.hid hu2
      obtain ⟨gu, capu, rfl, _, _, _, _⟩ := hu2.read
      clear hcell hl hx hrows h0 hu hu2
      unfold keyV at hcell0
      have K := fun w' (h : VRow w' (.slice (some ⟨gu, 0, none⟩) l.length capu) l) => clone_any w' _ l h hll
      have c1 : wr.cell? ⟨w.heap.size + 1, 1, none⟩ = some out := by simp [World.cell?, hB2]
      have c2 : wr.frozen? ⟨w.heap.size + 1, 1, none⟩ = false := frozen_not hB2 (by simp)
      have c3 : ∀ o, (wr.alloc o).frozen? ⟨w.heap.size + 1, 1, none⟩ = false := fun o => by rw [World.frozen?_of_block (w := wr) (Below.heap_alloc _ _ _ hsz2), c2]
      have c5 : ∀ o, (wr.alloc o).cell? ⟨w.heap.size + 1, 1, none⟩ = some out := fun o => by rw [cellA hsz2, c1]
      have hne : out.ownBlock ≠ some (w.heap.size + 1) := fun e => by have := (hown.lt _ e).1; omega
      have hne2 : out.ownBlock ≠ some wr.heap.size := fun e => by have := (hown.lt _ e).2; omega
      go_wp2_with fail
      go_region_law
        ((first
          | (go_simp; go_at_call 109; refine (K _ (HU.out.keep ((KT.alloc [121] _ _).trans (KT.drew _ _)) (by simp))).mono ?_; rintro e w1 ⟨v1, rfl, hv1, hb1⟩; obtain ⟨p1, n1, cc1, rfl⟩ := ownsRow_slice hv1; have c4 : w1.cell? ⟨w.heap.size + 1, 1, none⟩ = some out := (World.cell?_of_block (w := wr) ((hb1.block _ (by simp; omega)).trans (Below.heap_alloc _ _ _ hsz2))).trans c1; have c6 : ∀ o, (w1.alloc o).cell? ⟨w.heap.size + 1, 1, none⟩ = some out := fun o => by rw [cellA (by have := hb1.size; simp at this; simp; omega), c4]; go_wp2_with fail)
          | (refine step_append_lies _ (by rfl) (.tmp 13) (.tmp 17) _ (by rfl) (w.heap.size + 2) 71 i0 _ 1 24 Tryz.underlying85 hi0 hz0 hs0 hb0 hc0 (by omega) out k us (by rfl) ((ownsRow_keep hown (((KT.alloc _ _ _).trans (KT.drew _ _)).trans (KT.below hb1 (Nat.le_refl _))) (List.mem_singleton.2 rfl : 71 ∈ [71])).alloc _) ⟨w1.heap.size, 0, none⟩ 1 1 [.slice p1 n1 cc1] (by rfl) (by rfl) (news_lit _ _ _ _ rfl) (ownsRow_one hv1) (by omega) (by simp only [maxLen]; omega) (by omega) (by have := hb1.size; simp at this; simp; omega) (w1.heap.size + 1) (by simp) ?_; intro gg cap4 w4 hown4 hgrow hat hlt4; have c7 : w4.cell? ⟨w.heap.size + 1, 1, none⟩ = some out := by rw [hgrow.cell_far _ (by have := hb1.size; simp at this; simp; omega) (Ne.symm hne)]; simp [*]
             have f7 : w4.frozen? ⟨w.heap.size + 1, 1, none⟩ = false := by rw [hgrow.frozen_far _ (by have := hb1.size; simp at this; simp; omega) (Ne.symm hne), frozA (by have := hb1.size; simp at this; simp; omega), hb1.frozen (by simp; omega)]; exact c3 _)))
      all_goals go_wp2
      all_goals (obtain ⟨q1, q2, q3, q4, q5⟩ := rows_round hB1 hB2 hown hbel hlt HR.out HX.out hb1 hv1 hown4 hgrow HU.out; exact ⟨⟨k + 1, _, _, by go_num, hlt, q1, q2, q3, q4, fun h => by omega, q5⟩, by simp [intOf]; omega⟩)
    · have hk' : k = L.length := by omega
      subst hk'
      rw [List.take_length] at hrows
      have c1 : wr.cell? ⟨w.heap.size + 1, 0, none⟩ = some (.int .i64 0) := by simp [World.cell?, hB2]
      have c2 : wr.cell? ⟨w.heap.size + 1, 1, none⟩ = some out := by simp [World.cell?, hB2]
      have c3 : wr.cell? ⟨w.heap.size, 0, none⟩ = some (.int .i64 0) := by simp [World.cell?, hB1]
      have c4 : wr.cell? ⟨w.heap.size, 1, none⟩ = some (.slice none 0 0) := by simp [World.cell?, hB1]
      have c5 : wr.frozen? ⟨w.heap.size, 0, none⟩ = false := frozen_not hB1 (by simp)
      have c6 : wr.frozen? ⟨w.heap.size, 1, none⟩ = false := frozen_not hB1 (by simp)
      clear hcell hl
      have HR := Lib.hid hrows
      clear hrows
      obtain ⟨po, no, co, rfl⟩ := ownsRow_slice hown
      go_wp2
      have e1 := heap_setCell_at (o := 0) (v := .int .i64 0) hB1
      have e2 := heap_setCell_at (o := 1) (v := .slice po no co) e1
      have kt : KT [121, 71] wr ((wr.setCell ⟨w.heap.size, 0, none⟩ (.int .i64 0)).setCell ⟨w.heap.size, 1, none⟩ (.slice po no co)) := (KT.setCell hB1 (by decide)).trans (KT.setCell e1 (by decide))
      have f1 : ((wr.setCell ⟨w.heap.size, 0, none⟩ (.int .i64 0)).setCell ⟨w.heap.size, 1, none⟩ (.slice po no co)).cell? ⟨w.heap.size, 0, none⟩ = some (.int .i64 0) := by simp [World.cell?, e2]
      have f2 : ((wr.setCell ⟨w.heap.size, 0, none⟩ (.int .i64 0)).setCell ⟨w.heap.size, 1, none⟩ (.slice po no co)).cell? ⟨w.heap.size, 1, none⟩ = some (.slice po no co) := by simp [World.cell?, e2]
      refine bodyPost_ret (v := .agg #[.int .i64 0, .slice po no co]) (by simp [results, Tryz.results67, go_sem, f1, f2]) rfl ⟨_, rfl, ?_, fun h => h0 (by rw [h]; rfl), (hbel.setCell (Nat.le_refl _) _).setCell (Nat.le_refl _) _⟩
      exact ⟨us, ownsRow_keep (ownsRow_base hown (Nat.zero_le _)) kt (by simp), fun i u l hu hl => (HR.out i u l hu hl).keep kt (by simp)⟩
end Go.Proofs.YtbjickdjkgefcaaGreatDoor
end
section
open Go Go.RowKit Go.Proofs.YtbjickdjkgefcaaGreatDoor.Vai
namespace Go.Proofs.YtbjickdjkgefcaaGreatDoor
set_option linter.unusedVariables false
set_option linter.unusedSimpArgs false
set_option maxRecDepth 4000
/-- One row's key is less than another one's. -/
def KLt (a b : List Int) : Prop := ∃ (i : Nat) (x y : Int), a[i]? = some x ∧ b[i]? = some y ∧ x < y ∧ ∀ j, j < i → a[j]? = b[j]?
/-- Numbers of one byte. -/
def Small (l : List Int) : Prop := ∀ n ∈ l, 0 ≤ n ∧ n < 256
def encB (n : Int) (r : Nat) : UInt8 := if r = 0 then 3 else if r = 1 then 128 else if r = 8 then UInt8.ofNat n.toNat else 0
theorem encL_get : ∀ (l : List Int) (q r : Nat), r < 9 → (encL l)[9 * q + r]? = (l[q]?).map (encB · r) := by
  intro l
  induction l with
  | nil => intro q r _; simp [encL]
  | cons n l ih =>
    intro q r hr
    cases q with
    | zero =>
      simp only [Nat.mul_zero, Nat.zero_add, encL]
      match r, hr with
      | 0, _ => rfl
      | 1, _ => rfl
      | 2, _ => rfl
      | 3, _ => rfl
      | 4, _ => rfl
      | 5, _ => rfl
      | 6, _ => rfl
      | 7, _ => rfl
      | 8, _ => rfl
    | succ q =>
      rw [show 9 * (q + 1) + r = 9 * q + r + 9 by omega]
      simp only [encL, List.getElem?_cons_succ]
      exact ih q r hr
theorem encL_length (l : List Int) : (encL l).length = 9 * l.length := by
  induction l with
  | nil => rfl
  | cons n l ih => simp only [encL, List.length_cons, ih]; omega
theorem bytes_get (l : List UInt8) (j : Nat) : (⟨l.toArray⟩ : ByteArray)[j]! = (l[j]?).getD default := by
  rw [getElem!_def]
  have : (⟨l.toArray⟩ : ByteArray)[j]? = l[j]? := by
    by_cases h : j < l.length
    · have h2 : j < (⟨l.toArray⟩ : ByteArray).size := by show j < l.toArray.size; simpa using h
      rw [getElem?_pos (⟨l.toArray⟩ : ByteArray) j h2, List.getElem?_eq_getElem h]; rfl
    · have h2 : ¬ j < (⟨l.toArray⟩ : ByteArray).size := by show ¬ j < l.toArray.size; simpa using h
      rw [getElem?_neg (⟨l.toArray⟩ : ByteArray) j h2, List.getElem?_eq_none (by omega)]
  rw [this]
  cases l[j]? <;> rfl
theorem cmp_lt {a b : List Int} (h : KLt a b) (hl : a.length = b.length) (ha : Small a) (hb : Small b) : Extern.BytealgCompare.cmp ⟨(encL a).toArray⟩ ⟨(encL b).toArray⟩ = -1 := by
  obtain ⟨i, x, y, h1, h2, h3, h4⟩ := h
  have hi : i < a.length := (List.getElem?_eq_some_iff.1 h1).1
  obtain ⟨x0, x1⟩ := ha x (List.mem_of_getElem? h1)
  obtain ⟨y0, y1⟩ := hb y (List.mem_of_getElem? h2)
  have ga : ∀ j : Nat, (⟨(encL a).toArray⟩ : ByteArray)[j]! = ((encL a)[j]?).getD default := fun j => bytes_get _ j
  have gb : ∀ j : Nat, (⟨(encL b).toArray⟩ : ByteArray)[j]! = ((encL b)[j]?).getD default := fun j => bytes_get _ j
  have hat : ∀ j, j < 9 * i + 8 → (encL a)[j]? = (encL b)[j]? := fun j hj => by
    have e : j = 9 * (j / 9) + j % 9 := by omega
    rw [e, encL_get _ _ _ (Nat.mod_lt _ (by omega)), encL_get _ _ _ (Nat.mod_lt _ (by omega))]
    by_cases hq : j / 9 < i
    · rw [h4 _ hq]
    · have hq2 : j / 9 = i := by omega
      rw [hq2, h1, h2]
      have hr : j % 9 < 8 := by omega
      simp only [Option.map_some, encB]
      rw [if_neg (by omega : ¬ j % 9 = 8)]
      rw [if_neg (by omega : ¬ j % 9 = 8)]
  have f : (List.range (min (9 * a.length) (9 * b.length))).find? (fun j => (⟨(encL a).toArray⟩ : ByteArray)[j]! != (⟨(encL b).toArray⟩ : ByteArray)[j]!) = some (9 * i + 8) := by
    rw [List.find?_range_eq_some]
    refine ⟨?_, by simp; omega, fun j hj => ?_⟩
    · rw [ga, gb, encL_get _ _ _ (by omega), encL_get _ _ _ (by omega), h1, h2]
      simp only [Option.map_some, Option.getD_some, encB]
      simp
      intro e
      have := congrArg UInt8.toNat e
      simp at this
      omega
    · rw [ga, gb, hat j hj]; simp
  unfold Extern.BytealgCompare.cmp
  have sa : (⟨(encL a).toArray⟩ : ByteArray).size = 9 * a.length := by show (encL a).toArray.size = _; simp [encL_length]
  have sb : (⟨(encL b).toArray⟩ : ByteArray).size = 9 * b.length := by show (encL b).toArray.size = _; simp [encL_length]
  rw [sa, sb, f]
  simp only
  rw [ga, gb, encL_get _ _ _ (by omega), encL_get _ _ _ (by omega), h1, h2]
  simp only [Option.map_some, Option.getD_some, encB]
  rw [if_pos]
  simp
  rw [UInt8.lt_iff_toNat_lt]
  simp
  omega
theorem run_cmp (a b : ByteArray) (w : World) : (callFunc 261 #[.string a, .string b]).run Tryz.prog w = .ok (.value (.int .i64 (Extern.BytealgCompare.cmp a b))) w := by
  rw [callFunc_ext e261]
  rfl
theorem cmpString_any (a b : ByteArray) (w : World) : Calls Tryz.prog 220 #[.string a, .string b] w fun e w' => e = .returned (.int .i64 (Extern.BytealgCompare.cmp a b)) ∧ w' = w := by
  go_enter Tryz.func220, Tryz.ntmps220
  go_wp2
  rw [run_cmp]
  rw [Oper.upon_value]
  go_wp2
  go_ret
  exact ⟨rfl, rfl⟩
theorem cmpKey_any (a k : ByteArray) (u : Value) (hu : ∃ p n c, u = .slice p n c) (w : World) : Calls Tryz.prog 219 #[.agg #[.string a, u], .string k] w fun e w' => e = .returned (.int .i64 (Extern.BytealgCompare.cmp a k)) ∧ Below w.heap.size w w' := by
  obtain ⟨p, n, c, rfl⟩ := hu
  have K := cmpString_any a k
  go_enter Tryz.func219, Tryz.ntmps219
  go_wp2_with (go_at_call 220; refine (K _).mono ?_; rintro e w1 ⟨rfl, rfl⟩)
  go_ret
  exact ⟨rfl, (Below.refl _ _).alloc (Nat.le_refl _) _⟩
/-- A key that is greater than all stands at the end. -/
theorem search_any (w : World) (v : Value) (kn : Nat) (L : List (List Int)) (k : List Int) (h : ERows w v kn L) (hn : L.length ≤ 10000) (hk : Small k) (hkn : k.length = kn) (hL : ∀ l ∈ L, KLt (l.take kn) k ∧ (l.take kn).length = kn ∧ Small (l.take kn)) :
    Calls Tryz.prog 218 #[v, keyV k, .func (.func 219) #[] #[]] w fun e w' => e = .returned (.tuple #[.int .i64 L.length, .bool false]) ∧ Below w.heap.size w w' := by
  obtain ⟨p, cap, rfl, hcell⟩ := h.shape
  clear h
  unfold keyV
  go_enter Tryz.func218, Tryz.ntmps218
  go_wp2
  go_loopw [9, 10] (fun i j wr => ∃ a : Nat, i = .int .i64 a ∧ j = .int .i64 L.length ∧ a ≤ L.length ∧ Below w.heap.size w wr) (fun i j _ => L.length - (intOf i).toNat)
  case atStart => exact ⟨0, rfl, rfl, Nat.zero_le _, Below.refl _ _⟩
  case round =>
    obtain ⟨a, rfl, rfl, ha, hbel⟩ := hrel
    by_cases hlt : a < L.length
    · obtain ⟨m, hm⟩ : ∃ m, m = (a + L.length) / 2 := ⟨_, rfl⟩
      have hml : m < L.length := by omega
      obtain ⟨l, hx⟩ : ∃ x, L[m]? = some x := ⟨_, List.getElem?_eq_getElem hml⟩
      obtain ⟨g, u, rfl, hg, hck, hcu, hu⟩ := hcell m l hx
      have hcell0 : wr.cell? ⟨g, (a + L.length) / 2 * 2, none⟩ = some (.string ⟨(encL (l.take kn)).toArray⟩) := by rw [← hm, World.cell?_of_block (w := w) (hbel.block g hg), hck]; rfl
      have hcell1 : wr.cell? ⟨g, (a + L.length) / 2 * 2 + 1, none⟩ = some u := by rw [← hm]; rw [World.cell?_of_block (w := w) (hbel.block g hg), hcu]
      obtain ⟨h1, h2, h3⟩ := hL l (List.mem_of_getElem? hx)
      obtain ⟨gu, cu, rfl, _⟩ := hu.read
      have K := cmpKey_any ⟨(encL (l.take kn)).toArray⟩ ⟨(encL k).toArray⟩ (.slice (some ⟨gu, 0, none⟩) l.length cu) ⟨_, _, _, rfl⟩
      rw [cmp_lt h1 (by rw [h2, hkn]) h3 hk] at K
      have s1 := hbel.size
      clear hcell hL hx hu h1 h2 h3 hck hcu hm
      go_wp2_with (go_at_call 219; refine (K _).mono ?_; rintro e w1 ⟨rfl, hb1⟩)
      refine ⟨⟨(a + L.length) / 2 + 1, by go_num, rfl, by omega, ?_⟩, by simp [intOf]; omega⟩
      exact hbel.trans (hb1.mono s1)
    · obtain rfl : a = L.length := by omega
      clear hcell hL
      go_wp2
      exact bodyPost_ret (v := .tuple #[.int .i64 L.length, .bool false]) (by simp [results, Tryz.results218, go_sem]) rfl ⟨rfl, hbel⟩
end Go.Proofs.YtbjickdjkgefcaaGreatDoor
end
section
open Go Go.RowKit Go.Proofs.YtbjickdjkgefcaaGreatDoor.Vai
namespace Go.Proofs.YtbjickdjkgefcaaGreatDoor
set_option linter.unusedVariables false
set_option linter.unusedSimpArgs false
set_option maxRecDepth 4000
/-- A table: its name, its columns, how many are the key, no indexes, its entries. -/
def tabV (nm : ByteArray) (pc : Option Addr) (nc cc kn : Nat) (v : Value) : Value := .agg #[.string nm, .slice pc nc cc, .int .i64 kn, .slice none 0 0, v]
/-- What is asked of a key that is to stand at the end. -/
def Last (kn : Nat) (L : List (List Int)) (k : List Int) : Prop := L.length ≤ 4000 ∧ Small k ∧ k.length = kn ∧ ∀ l ∈ L, KLt (l.take kn) k ∧ (l.take kn).length = kn ∧ Small (l.take kn)
theorem place_any (w : World) (nm : ByteArray) (pc : Option Addr) (nc cc kn : Nat) (v : Value) (L : List (List Int)) (k : List Int) (h : ERows w v kn L) (hk : Last kn L k) :
    Calls Tryz.prog 176 #[tabV nm pc nc cc kn v, keyV k] w fun e w' => e = .returned (.tuple #[.int .i64 L.length, .bool false]) ∧ Below w.heap.size w w' := by
  obtain ⟨h1, h2, h3, h4⟩ := hk
  have K := fun w' (h' : ERows w' v kn L) => search_any w' v kn L k h' (by omega) h2 h3 h4
  have hA : ∀ o, ERows (w.alloc o) v kn L := fun o => h.keep (KT.alloc [121, 183] _ _) (by simp) (by simp)
  obtain ⟨p, cap, rfl, _⟩ := h.shape
  have HA := Lib.hid hA
  clear h hA h2 h4
  unfold tabV
  unfold keyV at *
  go_enter Tryz.func176, Tryz.ntmps176
  go_wp2_with (go_at_call 218; refine (K _ (HA.out _)).mono ?_; rintro e w1 ⟨rfl, hb1⟩)
  exact bodyPost_ret (v := .tuple #[.int .i64 L.length, .bool false]) (by simp [results, Tryz.results176, go_sem]) rfl ⟨rfl, ((Below.refl _ _).alloc (Nat.le_refl _) _).trans (hb1.mono (by simp))⟩
theorem info183' : (Tryz.prog.info? 183).map (fun i => (i.zero, i.size, i.bytes)) = some (some (.agg #[.string ⟨#[]⟩, .slice none 0 0]), 2, 40) := by kernel_rfl
theorem info183 : ∃ i z, Tryz.prog.info? 183 = some i ∧ i.zero = some z ∧ i.size = 2 ∧ i.bytes = 40 ∧ z.cells.size = 2 := by
  have h := info183'
  cases hi : Tryz.prog.info? 183 with
  | none => rw [hi] at h; cases h
  | some i =>
    rw [hi] at h
    simp only [Option.map_some, Option.some.injEq, Prod.mk.injEq] at h
    exact ⟨i, _, rfl, h.1, h.2.1, h.2.2, rfl⟩
theorem ecells_one {w : World} {kn : Nat} : ∀ (L : List (List Int)) (us : List Value), us.length = L.length → (∀ (i : Nat) (u : Value) (l : List Int), us[i]? = some u → L[i]? = some l → VRow w u l) → ∀ x ∈ ecells kn L us, x.oneCell' = true := by
  intro L
  induction L with
  | nil => intro us _ _ x hx; cases us <;> simp [ecells] at hx
  | cons l L ih =>
    intro us h1 h2 x hx
    cases us with
    | nil => cases h1
    | cons u us =>
      simp only [ecells, List.mem_cons] at hx
      rcases hx with rfl | rfl | hx
      · rfl
      · obtain ⟨g, c, rfl, _⟩ := (h2 0 x l rfl rfl).read; rfl
      · exact ih us (by simpa using h1) (fun i u l hu hl => h2 (i + 1) u l (by simpa using hu) (by simpa using hl)) x hx
/-- A copy of the entries, of the call's own. -/
theorem cloneE_any (w : World) (v : Value) (kn : Nat) (L : List (List Int)) (h : ERows w v kn L) (hl : L.length ≤ 4000) :
    Calls Tryz.prog 182 #[v] w fun e w' => ∃ v' us, e = .returned v' ∧ us.length = L.length ∧ w'.ownsRow w.heap.size 183 2 v' L.length (ecells kn L us) ∧ (∀ (i : Nat) (u : Value) (l : List Int), us[i]? = some u → L[i]? = some l → VRow w' u l) ∧ Below w.heap.size w w' := by
  obtain ⟨us, e0, e1, e2⟩ := h
  have q : ∀ (w : World) (a : Option Addr) (n c n' c' : Nat), (binOp .eql 81 (.slice a n c) (.slice none n' c')).run Tryz.prog w = .ok (.bool a.isNone) w := fun w a n c n' c' => Lib.run_eql_slice_nil w _ _ a n c n' c' Tryz.underlying81
  obtain ⟨i0, z0, hi0, hz0, hs0, hb0, hc0⟩ := info183
  rcases e1.2 with ⟨rfl, hn0⟩ | ⟨g, cap, cur, rfl, _, hg, h1, h2, h3, h4⟩
  · have : L = [] := List.eq_nil_of_length_eq_zero hn0
    subst this
    go_enter Tryz.func182, Tryz.ntmps182
    go_wp2
    exact bodyPost_ret (v := .slice none 0 0) (by simp [results, Tryz.results182, go_sem]) rfl ⟨_, [], rfl, rfl, World.ownsRow_nil _ _ _ _, fun i u l h => by simp at h, Below.refl _ _⟩
  · have A : Hid (∀ j u, (ecells kn L us)[j]? = some u → w.cell? ⟨g, 0 + j, none⟩ = some u) := fun j u hj => by
      have h5 : cur.toList[j]? = some u := by
        rw [← h4, List.getElem?_take] at hj
        split at hj
        · exact hj
        · cases hj
      rw [Nat.zero_add]
      simp only [World.cell?, hg]
      simpa using h5
    have B : Hid (∀ x ∈ ecells kn L us, x.oneCell' = true) := ecells_one L us e0 e2
    have C := Lib.hid e1
    have D := Lib.hid e2
    have e3 := ecells_length kn L us e0
    clear e1 e2 hg h3 h4
    go_enter Tryz.func182, Tryz.ntmps182
    go_wp2_with (at_builtin; refine wpList_append_own _ rfl _ _ 81 rfl w.heap.size 183 i0 z0 2 40 Tryz.underlying81 hi0 hz0 hs0 hb0 hc0 (by omega) _ _ _ rfl (World.ownsRow_made w #[] 0 (Nat.le_refl _) (Nat.zero_le _) (by simp)) ⟨g, 0, none⟩ L.length cap (ecells kn L us) rfl ?qc1 ?qc2 ?qc3 ?qc4 ?qc5 ?qc6 ?_)
    case qc1 => exact e3
    case qc2 =>
      intro j u hj
      rw [Addr.add_lit]
      exact Lib.cell?_alloc_some _ (A.out j u hj)
    case qc3 => exact B.out
    case qc4 => simp only [maxLen]; omega
    case qc5 => omega
    case qc6 => simp
    intro v' w1 hown hgrow hnil
    go_wp2
    have hb : Below w.heap.size w w1 := ((Below.refl _ _).alloc (Nat.le_refl _) _).grown hgrow (by simp) (fun q hq => by simp [Value.ownBlock] at hq; omega)
    exact bodyPost_ret (v := v') (by simp [results, Tryz.results182, go_sem]) rfl ⟨_, us, rfl, e0, by simpa using hown, fun i u l hu hl => (D.out i u l hu hl).keep (KT.below hb (Nat.le_refl _) : KT [121] _ _) (by simp), hb⟩
end Go.Proofs.YtbjickdjkgefcaaGreatDoor
end
