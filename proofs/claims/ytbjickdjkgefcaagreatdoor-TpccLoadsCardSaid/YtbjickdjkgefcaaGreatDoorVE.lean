/- A part of an evaluator of the model's code whose answers are proved sound: no statement on the program stands here. -/
import Derived.Test.YtbjickdjkgefcaaGreatDoorVA
import Derived.ChangeKeysEq
import Derived.IntWalk
section
open Go Go.RowKit
noncomputable section
namespace Go.Proofs.YtbjickdjkgefcaaGreatDoor.Vai
set_option linter.unusedVariables false
set_option linter.unusedSimpArgs false

/-- Functions without a Go body that the evaluator knows. -/
inductive ExtK where
  | pure (g : Array Value → Sem Value)
  | same
  | makeNoZero (params results : Array TypeId)
  | mapsClone

def ExtK.impl : ExtK → Array Value → Sem Value
  | .pure g => g
  | .same => Extern.AbiNoEscape.same
  | .makeNoZero ps rs => Extern.BytealgMakeNoZero.makeNoZero ps rs
  | .mapsClone => Extern.MapsClone.clone

structure Tb where
  und : T TypeDesc
  info : T TypeInfo
  fns : T Func
  ext : T ExtK

structure ExtOk (P : Program) (f : FuncId) (k : ExtK) : Prop where
  ok : ∃ fn, P.funcs[f]? = some fn ∧ (fn.name == "runtime.NumGoroutine") = false ∧ fn.body = none ∧ Extern.findNext fn = none ∧ Extern.find fn = some k.impl

structure TbOk (P : Program) (tb : Tb) : Prop where
  und : ∀ t d, tb.und.get t = some d → P.underlying t = some d
  info : ∀ t i, tb.info.get t = some i → P.info? t = some i
  fns : ∀ f fn, tb.fns.get f = some fn → P.funcs[f]? = some fn ∧ (fn.name == "runtime.NumGoroutine") = false
  ext : ∀ f k, tb.ext.get f = some k → ExtOk P f k

/-! ### what needs no world -/
def pureRun {α : Type} (P : Program) : Sem α → Option α
  | .pure a => some a
  | .program k => pureRun P (k P)
  | .mark _ k => pureRun P k
  | _ => none

theorem pureRun_run {α : Type} {P : Program} (m : Sem α) {a : α} (h : pureRun P m = some a) (w : World) : m.run P w = .ok a w := by
  induction m with
  | pure b => simp only [pureRun, Option.some.injEq] at h; rw [h]; rfl
  | program k ih => simp only [pureRun] at h; simp only [Sem.run]; exact ih P h
  | mark m k ih => simp only [pureRun] at h; simp only [Sem.run]; exact ih h
  | _ => simp [pureRun] at h

section
variable {P : Program} {w : World}
theorem run_und {t : TypeId} {d : TypeDesc} (h : P.underlying t = some d) : (underlying t).run P w = .ok d w := run_underlying h w
theorem run_info {t : TypeId} {i : TypeInfo} (h : P.info? t = some i) : (typeInfo t).run P w = .ok i w := by
  simp [typeInfo, h]
theorem run_size {t : TypeId} {i : TypeInfo} (h : P.info? t = some i) : (sizeOf t).run P w = .ok i.size w := by
  simp [sizeOf, run_info h]
theorem run_zero {t : TypeId} {i : TypeInfo} {v : Value} (h : P.info? t = some i) (hz : i.zero = some v) : (zeroValue t).run P w = .ok v w := by
  simp [zeroValue, run_info h, hz]
def aggDesc : TypeDesc → Bool
  | .struct _ => true
  | .array _ _ => true
  | _ => false
theorem run_agg {t : TypeId} {d : TypeDesc} (h : P.underlying t = some d) : (isAgg t).run P w = .ok (aggDesc d) w := by
  simp only [isAgg, Sem.run_bind, run_und h, Result.andThen_ok]
  cases d <;> rfl
end

theorem add_mk (b o j : Nat) : (⟨b, o, none⟩ : Addr).add j = ⟨b, o + j, none⟩ := by
  unfold Addr.add
  split
  · rename_i h; subst h; simp
  · rfl

/-! ### loads -/
def aloadN (s : St) (v : Nat) : Nat → Nat → Option (List Value)
  | _, 0 => some []
  | o, n + 1 => match aload s v o with
    | none => none
    | some x => match aloadN s v (o + 1) n with
      | none => none
      | some l => some (x :: l)

theorem Rel.loadN {w0 : Base} {φ : Emb} {s : St} {w : World} (r : Rel w0 φ s w) {v : Nat} {t : Tgt} (hv : φ v = some t) :
    ∀ (n o : Nat) (l : List Value), aloadN s v o n = some l → ∃ cs, VRL φ l cs ∧ cs.length = n ∧ ∀ j c, cs[j]? = some c → w.cell? ((⟨t.blk, o, none⟩ : Addr).add j) = some c := by
  intro n
  induction n with
  | zero => intro o l h; simp only [aloadN, Option.some.injEq] at h; subst h; exact ⟨[], .nil, rfl, fun j c h => by simp at h⟩
  | succ n ih =>
    intro o l h
    simp only [aloadN] at h
    split at h
    · cases h
    · rename_i x hx
      split at h
      · cases h
      · rename_i l' hl
        cases h
        obtain ⟨c, hc, hr⟩ := r.load hv hx
        obtain ⟨cs, h1, h2, h3⟩ := ih (o + 1) l' hl
        refine ⟨c :: cs, .cons _ _ _ _ hr h1, by simp [h2], ?_⟩
        intro j c' hj
        rw [add_mk]
        cases j with
        | zero => simp at hj; subst hj; exact hc
        | succ j =>
          have := h3 j c' (by simpa using hj)
          rw [add_mk] at this
          rw [show o + (j + 1) = o + 1 + j by omega]; exact this

theorem Rel.run_loadN {P : Program} {w0 : Base} {φ : Emb} {s : St} {w : World} (r : Rel w0 φ s w) {v : Nat} {t : Tgt} (hv : φ v = some t) {n o : Nat} {l : List Value} (h : aloadN s v o n = some l) :
    ∃ cs, VRL φ l cs ∧ cs.length = n ∧ (loadCells ⟨t.blk, o, none⟩ n).run P w = .ok cs.toArray w := by
  obtain ⟨cs, h1, h2, h3⟩ := r.loadN hv n o l h
  refine ⟨cs, h1, h2, ?_⟩
  have := run_loadCells_list (P := P) w ⟨t.blk, o, none⟩ cs h3
  rwa [h2] at this

def aloadVar (tb : Tb) (s : St) (t : TypeId) (v o : Nat) : Option Value :=
  match tb.und.get t with
  | none => none
  | some d => bif aggDesc d then
      match tb.info.get t with
      | none => none
      | some i => match aloadN s v o i.size with
        | none => none
        | some l => some (.agg l.toArray)
    else aload s v o

theorem Rel.run_loadVar {P : Program} {tb : Tb} (hP : TbOk P tb) {w0 : Base} {φ : Emb} {s : St} {w : World} (r : Rel w0 φ s w) {ty v o : Nat} {t : Tgt} {x : Value} (hv : φ v = some t) (h : aloadVar tb s ty v o = some x) :
    ∃ c, (loadVar ty ⟨t.blk, o, none⟩).run P w = .ok c w ∧ VR φ x c := by
  unfold aloadVar at h
  split at h
  · cases h
  · rename_i d hd
    have hu := hP.und _ _ hd
    cases ha : aggDesc d with
    | true =>
      rw [ha] at h
      simp only [cond_true] at h
      split at h
      · cases h
      · rename_i i hi
        split at h
        · cases h
        · rename_i l hl
          cases h
          obtain ⟨cs, h1, h2, h3⟩ := r.run_loadN (P := P) hv hl
          refine ⟨.agg cs.toArray, ?_, ?_⟩
          · simp [loadVar, run_agg hu, ha, run_size (hP.info _ _ hi), h3]
          · exact .agg _ _ h1.array.size h1.array.at_
    | false =>
      rw [ha] at h
      simp only [cond_false] at h
      obtain ⟨c, h1, h2⟩ := r.load hv h
      exact ⟨c, by simp [loadVar, run_agg hu, ha, h1], h2⟩

/-! ### aggregates -/
theorem VRA.extract {φ : Emb} {as cs : Array Value} (h : VRA φ as cs) (i j : Nat) : VRA φ (as.extract i j) (cs.extract i j) := by
  refine ⟨by simp [h.size], ?_⟩
  intro k x y hx hy
  rw [Array.getElem?_extract] at hx hy
  split at hx
  · split at hy
    · exact h.at_ _ _ _ hx hy
    · cases hy
  · cases hx
theorem VRA.get {φ : Emb} {as cs : Array Value} (h : VRA φ as cs) {i : Nat} {x : Value} (hx : as[i]? = some x) : ∃ y, cs[i]? = some y ∧ VR φ x y := by
  have hi : i < cs.size := by rw [← h.size]; exact (Array.getElem?_eq_some_iff.1 hx).1
  exact ⟨cs[i], Array.getElem?_eq_getElem hi, h.at_ i x _ hx (Array.getElem?_eq_getElem hi)⟩
theorem VRA.agg {φ : Emb} {as cs : Array Value} (h : VRA φ as cs) : VR φ (.agg as) (.agg cs) := .agg _ _ h.size h.at_
theorem VR.agg_inv {φ : Emb} {as : Array Value} {c : Value} (h : VR φ (.agg as) c) : ∃ cs, c = .agg cs ∧ VRA φ as cs := by
  cases h with
  | agg _ cs hs ha => exact ⟨cs, rfl, hs, ha⟩
theorem VR.tuple_inv {φ : Emb} {as : Array Value} {c : Value} (h : VR φ (.tuple as) c) : ∃ cs, c = .tuple cs ∧ VRA φ as cs := by
  cases h with
  | tuple _ cs hs ha => exact ⟨cs, rfl, hs, ha⟩
theorem VRA.one {φ : Emb} {a c : Value} (h : VR φ a c) : VRA φ #[a] #[c] := by
  refine ⟨rfl, fun i x y hx hy => ?_⟩
  cases i with
  | zero => simp at hx hy; subst hx; subst hy; exact h
  | succ i => simp at hx
theorem VR.cells {φ : Emb} {a c : Value} (h : VR φ a c) : VRA φ a.cells c.cells := by
  cases h with
  | agg as cs hs ha => exact ⟨hs, ha⟩
  | sy c k n h => exact VRA.one (.sy c k n h)
  | str n i e => exact VRA.one (.str n i e)
  | empty n a k e => exact VRA.one (.empty n a k e)
  | top n _ e e1 => cases c <;> first | exact VRA.one (.top _ _ e e1) | cases e1
  | bool b => exact VRA.one (.bool b)
  | int k n => exact VRA.one (.int k n)
  | float k n => exact VRA.one (.float k n)
  | complex k a b => exact VRA.one (.complex k a b)
  | string s => exact VRA.one (.string s)
  | nilFunc => exact VRA.one .nilFunc
  | nilIface => exact VRA.one .nilIface
  | pnil => exact VRA.one .pnil
  | ptr v o t h => exact VRA.one (.ptr v o t h)
  | snil l c => exact VRA.one (.snil l c)
  | slice v o t l c c' h h1 h2 => exact VRA.one (.slice v o t l c c' h h1 h2)
  | mnil => exact VRA.one .mnil
  | map r t h => exact VRA.one (.map r t h)
  | cnil => exact VRA.one .cnil
  | func fn fn' f1 f2 c1 c2 hf s1 s2 h1 h2 => exact VRA.one (.func fn fn' f1 f2 c1 c2 hf s1 s2 h1 h2)
  | iface t a c h => exact VRA.one (.iface t a c h)
  | tuple as cs hs h => exact VRA.one (.tuple as cs hs h)

def apart_ (tb : Tb) (t : TypeId) (cs : Array Value) (off : Nat) : Option Value :=
  match tb.und.get t with
  | none => none
  | some d => bif aggDesc d then
      match tb.info.get t with
      | none => none
      | some i => some (.agg (cs.extract off (off + i.size)))
    else cs[off]?

theorem run_part {P : Program} {tb : Tb} (hP : TbOk P tb) {φ : Emb} {w : World} {t : TypeId} {as cs : Array Value} {off : Nat} {x : Value} (hc : VRA φ as cs) (h : apart_ tb t as off = some x) :
    ∃ c, (part t cs off).run P w = .ok c w ∧ VR φ x c := by
  unfold apart_ at h
  split at h
  · cases h
  · rename_i d hd
    have hu := hP.und _ _ hd
    cases ha : aggDesc d with
    | true =>
      rw [ha] at h
      simp only [cond_true] at h
      split at h
      · cases h
      · rename_i i hi
        cases h
        exact ⟨.agg (cs.extract off (off + i.size)), by simp [part, run_agg hu, ha, run_size (hP.info _ _ hi)], (hc.extract _ _).agg⟩
    | false =>
      rw [ha] at h
      simp only [cond_false] at h
      obtain ⟨c, h1, h2⟩ := hc.get h
      exact ⟨c, by simp [part, run_agg hu, ha, h1], h2⟩

/-- Parts side by side: the same places. -/
inductive PartsR (φ : Emb) : List (Nat × Value) → List (Nat × Value) → Prop where
  | nil : PartsR φ [] []
  | cons (i : Nat) (a c : Value) (l m : List (Nat × Value)) (h : VR φ a c) (t : PartsR φ l m) : PartsR φ ((i, a) :: l) ((i, c) :: m)

theorem VRA.set {φ : Emb} {as cs : Array Value} (h : VRA φ as cs) (i : Nat) {a c : Value} (hv : VR φ a c) : VRA φ (as.setIfInBounds i a) (cs.setIfInBounds i c) := by
  refine ⟨by simp [h.size], ?_⟩
  intro k x y hx hy
  by_cases e : k = i
  · subst e
    by_cases hk : k < as.size
    · rw [Array.getElem?_setIfInBounds_self_of_lt hk] at hx
      rw [Array.getElem?_setIfInBounds_self_of_lt (by rw [← h.size]; exact hk)] at hy
      cases hx; cases hy; exact hv
    · have := (Array.getElem?_eq_some_iff.1 hx).1
      simp at this; omega
  · rw [Array.getElem?_setIfInBounds_ne (fun x => e x.symm)] at hx hy
    exact h.at_ _ _ _ hx hy

theorem fill_fold {φ : Emb} (off : Nat) : ∀ (l m : List Value) (k : Nat) (as cs : Array Value), VRL φ l m → VRA φ as cs →
    VRA φ ((l.zipIdx k).foldl (fun cs (x : Value × Nat) => cs.setIfInBounds (off + x.2) x.1) as) ((m.zipIdx k).foldl (fun cs (x : Value × Nat) => cs.setIfInBounds (off + x.2) x.1) cs) := by
  intro l
  induction l with
  | nil => intro m k as cs h hc; cases h; exact hc
  | cons a l ih =>
    intro m k as cs h hc
    cases h with
    | cons _ c _ m h t =>
      simp only [List.zipIdx_cons, List.foldl_cons]
      exact ih m (k + 1) _ _ t (hc.set _ h)

theorem fill_rel {φ : Emb} (place : Nat → Option (Nat × Nat)) : ∀ (ps qs : List (Nat × Value)) (as cs out : Array Value), PartsR φ ps qs → VRA φ as cs → Instr.fill place as ps = some out →
    ∃ out', Instr.fill place cs qs = some out' ∧ VRA φ out out' := by
  intro ps
  induction ps with
  | nil => intro qs as cs out h hc hf; cases h; simp only [Instr.fill, Option.some.injEq] at hf; subst hf; exact ⟨cs, rfl, hc⟩
  | cons p ps ih =>
    intro qs as cs out h hc hf
    cases h with
    | cons i a c _ qs h t =>
      have hz := h.cells
      simp only [Instr.fill] at hf ⊢
      cases hp : place i with
      | none => rw [hp] at hf; cases hf
      | some x =>
        obtain ⟨off, size⟩ := x
        rw [hp] at hf
        simp only at hf ⊢
        by_cases hb : (decide (a.cells.size ≠ size) || decide (off + a.cells.size > as.size)) = true
        · rw [if_pos hb] at hf; cases hf
        · rw [if_neg hb] at hf
          rw [if_neg (by rw [← hz.size, ← hc.size]; exact hb)]
          refine ih qs _ _ out t ?_ hf
          have := fill_fold off a.cells.toList c.cells.toList 0 as cs hz.list hc
          rw [← Array.foldl_toList, ← Array.foldl_toList, Array.toList_zipIdx, Array.toList_zipIdx]
          exact this
end Go.Proofs.YtbjickdjkgefcaaGreatDoor.Vai
end
end
section
open Go Go.RowKit
noncomputable section
namespace Go.Proofs.YtbjickdjkgefcaaGreatDoor.Vai
set_option linter.unusedVariables false
set_option linter.unusedSimpArgs false

inductive Shp where
  | ptr
  | slice (l c : Nat)
def Shp.val : Shp → Nat → Value
  | .ptr, b => .pointer (some ⟨b, 0, none⟩)
  | .slice l c, b => .slice (some ⟨b, 0, none⟩) l c

/-- What a quiet operation comes to: a value; a new block of cells and how it is handed on; a new object (a map). -/
inductive QOut where
  | val (v : Value)
  | new (elem es : Nat) (cells : List Value) (sh : Shp)
  | obj (o : AObj)

def QR (φ : Emb) (w : World) : QOut → Result Next → Prop
  | .val v, res => ∃ c, res = .ok (.value c) w ∧ VR φ v c
  | .new elem es cells sh, res => (∀ l c, sh = .slice l c → c ≠ INF) ∧ ∃ cs, VRL φ cells cs ∧ res = .ok (.value (sh.val w.heap.size)) (w.alloc (.cells cs.toArray elem))
  | .obj o, res => ∃ c, ObjR φ o c ∧ res = .ok (.value (.map (some w.heap.size))) (w.alloc c)

/-- The same of a Sem that yields a value. -/
def QV (φ : Emb) (w : World) : QOut → Result Value → Prop
  | .val v, res => ∃ c, res = .ok c w ∧ VR φ v c
  | .new elem es cells sh, res => (∀ l c, sh = .slice l c → c ≠ INF) ∧ ∃ cs, VRL φ cells cs ∧ res = .ok (sh.val w.heap.size) (w.alloc (.cells cs.toArray elem))
  | .obj o, res => ∃ c, ObjR φ o c ∧ res = .ok (.map (some w.heap.size)) (w.alloc c)

theorem QV.lift {P : Program} {φ : Emb} {w : World} {out : QOut} {m : Sem Value} (h : QV φ w out (m.run P w)) : QR φ w out ((do pure (Next.value (← m)) : Sem Next).run P w) := by
  cases out with
  | val v => obtain ⟨c, h1, h2⟩ := h; exact ⟨c, by simp [h1], h2⟩
  | new elem es cells sh => obtain ⟨h0, cs, h1, h2⟩ := h; exact ⟨h0, cs, h1, by simp [h2]⟩
  | obj o => obtain ⟨c, h1, h2⟩ := h; exact ⟨c, h1, by simp [h2]⟩

def pureVal (P : Program) (m : Sem Value) : Option QOut :=
  match pureRun P m with
  | some v => bif plain v then some (.val v) else none
  | none => none
theorem pureVal_sound {P : Program} {m : Sem Value} {out : QOut} (h : pureVal P m = some out) (φ : Emb) (w : World) : QV φ w out (m.run P w) := by
  unfold pureVal at h
  split at h
  · rename_i v hv
    cases hp : plain v with
    | false => rw [hp] at h; cases h
    | true => rw [hp] at h; cases h; exact ⟨v, pureRun_run m hv w, VR.of_plain φ v hp⟩
  · cases h

/-! ### slices of slices -/
def abound (v : Value) (y : Nat) : Option Nat :=
  match v with
  | .int _ i => match i with
    | .ofNat n => bif Nat.ble n y then some n else none
    | .negSucc _ => none
  | _ => none

theorem abound_sound {P : Program} {φ : Emb} {w : World} {v c : Value} {y y' n : Nat} (h : abound v y = some n) (hv : VR φ v c) (hy : y ≤ y') (code : BoundsCode) :
    (Instr.sliceBound c y' code).run P w = .ok n w ∧ n ≤ y := by
  unfold abound at h
  split at h
  · rename_i k i
    split at h
    · rename_i m
      cases hb : Nat.ble m y with
      | false => rw [hb] at h; cases h
      | true =>
        rw [hb] at h
        cases h
        have hle : n ≤ y := Nat.le_of_ble_eq_true hb
        cases hv
        refine ⟨?_, hle⟩
        have h2 : (0 : Int) ≤ Int.ofNat n ∧ Int.ofNat n ≤ (y' : Int) := ⟨by simp, by simp; omega⟩
        simp only [Instr.sliceBound, asIntOf, pure_bind]
        rw [if_pos h2]
        rfl
    · cases h
  · cases h

/-- Values that may be missing. -/
inductive VRO (φ : Emb) : Option Value → Option Value → Prop where
  | none : VRO φ none none
  | some (a c : Value) (h : VR φ a c) : VRO φ (some a) (some c)

def abounds (len g : Nat) (lo hi mx : Option Value) : Option (Nat × Nat × Option Nat) :=
  match (match mx with | some v => (match abound v g with | some m => some (some m) | none => none) | none => some none : Option (Option Nat)) with
  | none => none
  | some m => match (match hi with | some v => abound v (m.getD g) | none => (match mx with | some _ => none | none => some len) : Option Nat) with
    | none => none
    | some h => match (match lo with | some v => abound v h | none => some 0 : Option Nat) with
      | none => none
      | some l => some (l, h, m)

theorem abounds_sound {P : Program} {φ : Emb} {w : World} {len g g' : Nat} {lo hi mx lo' hi' mx' : Option Value} {l h : Nat} {m : Option Nat} (hh : abounds len g lo hi mx = some (l, h, m))
    (h1 : VRO φ lo lo') (h2 : VRO φ hi hi') (h3 : VRO φ mx mx') (hg : g ≤ g') (b : Bool) :
    (Instr.sliceBounds b len g' lo' hi' mx').run P w = .ok (l, h, m.getD g') w ∧ (lo = none → l = 0) ∧ (hi ≠ none ∨ lo = none ∨ l ≤ len) ∧ l ≤ h ∧ (hi ≠ none → h ≤ m.getD g) ∧ (∀ x, m = some x → x ≤ g ∧ h ≤ x) ∧ (hi = none → h = len) := by
  unfold abounds at hh
  split at hh
  · cases hh
  · rename_i m' hm
    split at hh
    · cases hh
    · rename_i h' hh'
      split at hh
      · cases hh
      · rename_i l' hl'
        simp only [Option.some.injEq, Prod.mk.injEq] at hh
        obtain ⟨rfl, rfl, rfl⟩ := hh
        have key : ∀ code, (match mx' with | some v => Instr.sliceBound v g' code | none => pure g' : Sem Nat).run P w = .ok (m'.getD g') w ∧ (∀ x, m' = some x → x ≤ g) ∧ (mx = none → m' = none) := by
          intro code
          cases h3 with
          | none => simp only [Option.some.injEq] at hm; subst hm; exact ⟨rfl, fun x h => (by cases h), fun _ => rfl⟩
          | some a c hv =>
            simp only at hm
            cases ha : abound a g with
            | none => rw [ha] at hm; cases hm
            | some x => rw [ha] at hm; cases hm; have := abound_sound (P := P) (w := w) ha hv hg code; exact ⟨this.1, fun y hy => (by cases hy; exact this.2), fun h => (by cases h)⟩
        have hlow : ∀ code, (match lo' with | some v => Instr.sliceBound v h' code | none => pure 0 : Sem Nat).run P w = .ok l' w ∧ (lo = none → l' = 0) ∧ l' ≤ h' := by
          intro code
          cases h1 with
          | none => simp only [Option.some.injEq] at hl'; subst hl'; exact ⟨rfl, fun _ => rfl, Nat.zero_le _⟩
          | some a c hv => have := abound_sound (P := P) (w := w) hl' hv (Nat.le_refl _) code; exact ⟨this.1, fun h => (by cases h), this.2⟩
        cases h2 with
        | none =>
          cases h3 with
          | some a c hv => simp at hh'
          | none =>
            simp only [Option.some.injEq] at hm hh'
            subst hm; subst hh'
            refine ⟨?_, (hlow .sliceB).2.1, .inr (.inr (hlow .sliceB).2.2), (hlow .sliceB).2.2, fun h => absurd rfl h, fun x h => (by cases h), fun _ => rfl⟩
            have hl0 := (hlow .sliceB).1
            cases lo' with
            | none => simp only [Sem.run_pure, Result.ok.injEq, and_true] at hl0; subst hl0; simp [Instr.sliceBounds]
            | some v => simp only at hl0; simp [Instr.sliceBounds, hl0]
        | some a c hv =>
          simp only at hh'
          have hx := fun code => abound_sound (P := P) (w := w) (y' := m'.getD g') hh' hv (by cases m' <;> simp [hg]) code
          refine ⟨?_, (hlow .sliceB).2.1, .inl (by simp), (hlow .sliceB).2.2, fun _ => (hx .slice3B).2, fun x h => ⟨(key .slice3Acap).2.1 x h, (by have := (hx .slice3B).2; subst h; exact this)⟩, fun h => (by cases h)⟩
          cases h3 with
          | none =>
            simp only [Option.some.injEq] at hm
            subst hm
            have hl0 := (hlow .sliceB).1
            have hx0 := fun code => (hx code).1
            simp only [Option.getD_none] at hx0
            cases lo' with
            | none => simp only [Sem.run_pure, Result.ok.injEq, and_true] at hl0; subst hl0; simp [Instr.sliceBounds, hx0]
            | some v => simp only at hl0; simp [Instr.sliceBounds, hl0, hx0]
          | some a2 c2 hv2 =>
            have hm0 := fun code => (key code).1
            simp only at hm0
            have hl0 := (hlow .slice3C).1
            have hx0 := fun code => (hx code).1
            cases lo' with
            | none => simp only [Sem.run_pure, Result.ok.injEq, and_true] at hl0; subst hl0; simp [Instr.sliceBounds, hm0, hx0]
            | some v => simp only at hl0; simp [Instr.sliceBounds, hm0, hl0, hx0]
end Go.Proofs.YtbjickdjkgefcaaGreatDoor.Vai
end
end
section
open Go Go.RowKit
noncomputable section
namespace Go.Proofs.YtbjickdjkgefcaaGreatDoor.Vai
set_option linter.unusedVariables false
set_option linter.unusedSimpArgs false

def sliceTo (v o l h mm size : Nat) : Option Value :=
  bif Nat.blt (mm - l) INF then some (.slice (some ⟨v, bif Nat.beq mm l then o else o + l * size, none⟩) (h - l) (mm - l)) else none

/-- It may be anything of one cell. -/
def topV : Value := .chan (some 29)
def emptyV : Value := .chan (some 25)
theorem VR.emptyV {φ : Emb} (a : Option Addr) (n : Nat) : VR φ emptyV (.slice a 0 n) := .empty 25 a n rfl
theorem VR.topV {φ : Emb} {c : Value} (h : oneCell c = true) : VR φ topV c := .top 29 c rfl h
def asliceS (tb : Tb) (s : St) (elem : TypeId) (x : Value) (lo hi mx : Option Value) : Option Value :=
  match x with
  | .slice none len cap => match tb.info.get elem with
    | none => none
    | some _ => match abounds len cap lo hi mx with
      | some (l, h, m) => some (.slice none (h - l) (m.getD cap - l))
      | none => none
  | .slice (some ⟨v, o, none⟩) len cap => match tb.info.get elem with
    | none => none
    | some i => bif Nat.beq cap INF then
        match s.views.get v with
        | none => none
        | some V => match s.roots.get V.root with
          | none => none
          | some R => bif Nat.beq R.es i.size && Nat.blt 0 i.size then
              match abounds len ((V.ext - o) / i.size) lo hi mx with
              | none => none
              | some (l, h, none) => bif Nat.beq l 0 || Nat.blt l ((V.ext - o) / i.size) then some (.slice (some ⟨v, o + l * i.size, none⟩) (h - l) INF) else some (bif Nat.beq h l then emptyV else topV)
              | some (l, h, some mm) => sliceTo v o l h mm i.size
            else none
      else match abounds len cap lo hi mx with
        | none => none
        | some (l, h, m) => sliceTo v o l h (m.getD cap) i.size
  | _ => none

theorem beq_iff {a b : Nat} : Nat.beq a b = true ↔ a = b := ⟨Nat.eq_of_beq_eq_true, fun h => by subst h; exact Nat.beq_refl a⟩

theorem sliceTo_sound {φ : Emb} {v o l h mm size : Nat} {t : Tgt} {x : Value} (hv : φ v = some t) (hx : sliceTo v o l h mm size = some x) :
    VR φ x (.slice (if mm = l then some ⟨t.blk, o, none⟩ else some ((⟨t.blk, o, none⟩ : Addr).add (l * size))) (h - l) (mm - l)) := by
  unfold sliceTo at hx
  cases hb : Nat.blt (mm - l) INF with
  | false => rw [hb] at hx; cases hx
  | true =>
    rw [hb] at hx
    simp only [cond_true, Option.some.injEq] at hx
    subst hx
    have hlt := blt_iff.1 hb
    by_cases e : mm = l
    · rw [if_pos e, beq_iff.2 e]
      exact .slice _ _ _ _ _ _ hv (fun _ => rfl) (fun h => by omega)
    · rw [if_neg e]
      have : Nat.beq mm l = false := by
        cases hq : Nat.beq mm l with
        | false => rfl
        | true => exact absurd (beq_iff.1 hq) e
      rw [this, add_mk]
      exact .slice _ _ _ _ _ _ hv (fun _ => rfl) (fun h => by omega)

theorem asliceS_sound {P : Program} {tb : Tb} (hP : TbOk P tb) {w0 : Base} {φ : Emb} {s : St} {w : World} (r : Rel w0 φ s w) {t elem : TypeId} (ht : P.underlying t = some (.slice elem)) {x c : Value} {lo hi mx lo' hi' mx' : Option Value} {out : Value}
    (h : asliceS tb s elem x lo hi mx = some out) (hx : VR φ x c) (h1 : VRO φ lo lo') (h2 : VRO φ hi hi') (h3 : VRO φ mx mx') :
    ∃ c', (Instr.slice t c lo' hi' mx').run P w = .ok c' w ∧ VR φ out c' := by
  unfold asliceS at h
  split at h
  · rename_i len cap
    split at h
    · cases h
    · rename_i i hi
      split at h
      · rename_i l h' m hb
        cases h
        cases hx
        have hs := (abounds_sound (P := P) (w := w) hb h1 h2 h3 (Nat.le_refl _) true).1
        exact ⟨.slice none (h' - l) (m.getD cap - l), by simp [Instr.slice, run_und ht, hs, run_size (hP.info _ _ hi)], .snil _ _⟩
      · cases h
  · rename_i v o len cap
    split at h
    · cases h
    · rename_i i hi0
      have hsz := hP.info _ _ hi0
      cases hx with
      | slice _ _ t' _ _ c' hv g1 g2 =>
      cases hc : Nat.beq cap INF with
      | true =>
        rw [hc] at h
        simp only [cond_true] at h
        have hcap := beq_iff.1 hc
        split at h
        · cases h
        · rename_i V hV
          split at h
          · cases h
          · rename_i R hR
            obtain ⟨R', hR', b⟩ := r.view v t' V hv hV
            rw [hR] at hR'; cases hR'
            cases hk : (Nat.beq R.es i.size && Nat.blt 0 i.size) with
            | false => rw [hk] at h; cases h
            | true =>
              rw [hk] at h
              simp only [cond_true] at h
              rw [Bool.and_eq_true] at hk
              have hes : t'.es = i.size := by rw [← b.es]; exact beq_iff.1 hk.1
              have hpos := blt_iff.1 hk.2
              have heq := g2 hcap
              rw [hes] at heq
              have hle : (V.ext - o) / i.size ≤ c' := by
                have := b.ext
                have h5 : V.ext - o ≤ c' * i.size := by omega
                calc (V.ext - o) / i.size ≤ (c' * i.size) / i.size := Nat.div_le_div_right h5
                  _ = c' := Nat.mul_div_cancel _ hpos
              split at h
              · cases h
              · rename_i l h' hb
                have hs := abounds_sound (P := P) (w := w) hb h1 h2 h3 hle true
                cases hq : (Nat.beq l 0 || Nat.blt l ((V.ext - o) / i.size)) with
                | false =>
                  rw [hq] at h
                  simp only [cond_false, Option.some.injEq] at h
                  subst h
                  refine ⟨.slice (if c' = l then some ⟨t'.blk, o, none⟩ else some ⟨t'.blk, o + l * i.size, none⟩) (h' - l) (c' - l), ?_, by
                    cases he : Nat.beq h' l with
                    | true => rw [beq_iff.1 he, Nat.sub_self]; exact VR.emptyV _ _
                    | false => exact VR.topV rfl⟩
                  simp only [Instr.slice, Sem.run_bind, run_und ht, Result.andThen_ok, hs.1, run_size hsz, Option.getD_none, Option.map_some, Sem.run_pure, add_mk]
                | true =>
                  rw [hq] at h
                  simp only [cond_true, Option.some.injEq] at h
                  subst h
                  rw [Bool.or_eq_true] at hq
                  have hl : l = 0 ∨ l < c' := by
                    rcases hq with hq | hq
                    · exact .inl (beq_iff.1 hq)
                    · exact .inr (Nat.lt_of_lt_of_le (blt_iff.1 hq) hle)
                  refine ⟨.slice (some ⟨t'.blk, o + l * i.size, none⟩) (h' - l) (c' - l), ?_, ?_⟩
                  · simp only [Instr.slice, Sem.run_bind, run_und ht, Result.andThen_ok, hs.1, run_size hsz, Option.getD_none, Option.map_some, Sem.run_pure, add_mk]
                    rcases hl with rfl | hl
                    · simp
                    · rw [if_neg (by omega)]
                  · refine .slice _ _ _ _ _ _ hv (fun h => absurd rfl h) (fun _ => ?_)
                    rw [hes]
                    have hll : l ≤ c' := by omega
                    have : (c' - l) * i.size = c' * i.size - l * i.size := Nat.sub_mul _ _ _
                    have h6 : l * i.size ≤ c' * i.size := Nat.mul_le_mul_right _ hll
                    omega
              · rename_i l h' mm hb
                have hs := abounds_sound (P := P) (w := w) hb h1 h2 h3 hle true
                refine ⟨_, ?_, sliceTo_sound hv h⟩
                simp only [Instr.slice, Sem.run_bind, run_und ht, Result.andThen_ok, hs.1, run_size hsz, Option.getD_some, Option.map_some, Sem.run_pure]
      | false =>
        rw [hc] at h
        simp only [cond_false] at h
        have hcap : cap ≠ INF := fun e => by rw [beq_iff.2 e] at hc; cases hc
        have hcc := g1 hcap
        subst hcc
        split at h
        · cases h
        · rename_i l h' m hb
          have hs := abounds_sound (P := P) (w := w) hb h1 h2 h3 (Nat.le_refl _) true
          refine ⟨_, ?_, sliceTo_sound hv h⟩
          simp only [Instr.slice, Sem.run_bind, run_und ht, Result.andThen_ok, hs.1, run_size hsz, Option.map_some, Sem.run_pure]
  · cases h
end Go.Proofs.YtbjickdjkgefcaaGreatDoor.Vai
end
end
section
open Go Go.RowKit
noncomputable section
namespace Go.Proofs.YtbjickdjkgefcaaGreatDoor.Vai
set_option linter.unusedVariables false
set_option linter.unusedSimpArgs false

section
variable {P : Program} {tb : Tb} {w0 : Base} {φ : Emb} {s : St} {w : World}

/-! ### addresses -/
def afieldAddr (tb : Tb) (t : TypeId) (x : Value) (f : Nat) : Option Value :=
  match x with
  | .pointer (some ⟨v, o, none⟩) => match tb.und.get t with
    | some (.struct fields) => match fields.toList[f]? with
      | some fld => match tb.info.get fld.type with
        | some i => bif Nat.beq i.size 0 then none else some (.pointer (some ⟨v, o + fld.offset, none⟩))
        | none => none
      | none => none
    | _ => none
  | _ => none

theorem afieldAddr_sound (hP : TbOk P tb) {t : TypeId} {x c out : Value} {f : Nat} (h : afieldAddr tb t x f = some out) (hx : VR φ x c) :
    ∃ c', (Instr.fieldAt t c f).run P w = .ok c' w ∧ VR φ out c' := by
  unfold afieldAddr at h
  split at h
  · rename_i v o
    split at h
    · rename_i fields hu
      split at h
      · rename_i fld hf
        split at h
        · rename_i i hi
          cases hz : Nat.beq i.size 0 with
          | true => rw [hz] at h; cases h
          | false =>
            rw [hz] at h
            cases h
            cases hx with
            | ptr _ _ t' hv =>
              have hne : i.size ≠ 0 := fun e => by rw [beq_iff.2 e] at hz; cases hz
              have hf' : fields[f]? = some fld := by simpa using hf
              refine ⟨_, ?_, .ptr _ _ _ hv⟩
              simp [Instr.fieldAt, run_und (hP.und _ _ hu), hf', Instr.sureAddr, fieldPlace, run_size (hP.info _ _ hi), hne, add_mk]
        · cases h
      · cases h
    · cases h
  · cases h

def aindexOf (i : Value) (n : Nat) : Option Nat :=
  match i with
  | .int _ z => match z with
    | .ofNat k => bif Nat.blt k n then some k else none
    | .negSucc _ => none
  | _ => none

theorem aindexOf_spec {i c : Value} {n k : Nat} (h : aindexOf i n = some k) (hi : VR φ i c) : ∃ kd, c = .int kd (k : Int) ∧ k < n := by
  unfold aindexOf at h
  split at h
  · rename_i kd z
    split at h
    · rename_i m
      cases hb : Nat.blt m n with
      | false => rw [hb] at h; cases h
      | true => rw [hb] at h; cases h; cases hi; exact ⟨kd, rfl, blt_iff.1 hb⟩
    · cases h
  · cases h

def aindexAddr (tb : Tb) (t : TypeId) (x ix : Value) : Option Value :=
  match tb.und.get t with
  | some (.slice elem) => match x with
    | .slice (some ⟨v, o, none⟩) len _ => match tb.info.get elem with
      | some i => match aindexOf ix len with
        | some k => some (.pointer (some ⟨v, o + k * i.size, none⟩))
        | none => none
      | none => none
    | _ => none
  | some (.array len elem) => match x with
    | .pointer (some ⟨v, o, none⟩) => match tb.info.get elem with
      | some i => match aindexOf ix len with
        | some k => some (.pointer (some ⟨v, o + k * i.size, none⟩))
        | none => none
      | none => none
    | _ => none
  | _ => none

theorem aindexAddr_sound (hP : TbOk P tb) {t : TypeId} {x c ix ci out : Value} (h : aindexAddr tb t x ix = some out) (hx : VR φ x c) (hi : VR φ ix ci) :
    ∃ c', (Instr.indexAt t c ci).run P w = .ok c' w ∧ VR φ out c' := by
  unfold aindexAddr at h
  split at h
  · rename_i elem hu
    split at h
    · rename_i v o len cap
      split at h
      · rename_i i hinf
        split at h
        · rename_i k hk
          cases h
          obtain ⟨kd, rfl, hlt⟩ := aindexOf_spec hk hi
          cases hx with
          | slice _ _ t' _ _ c' hv g1 g2 =>
            refine ⟨_, ?_, .ptr _ _ _ hv⟩
            have h2 : (0 : Int) ≤ (k : Int) ∧ (k : Int) < (len : Int) := by omega
            simp [Instr.indexAt, asIntOf, run_und (hP.und _ _ hu), h2, hlt, run_size (hP.info _ _ hinf), add_mk]
        · cases h
      · cases h
    · cases h
  · rename_i len elem hu
    split at h
    · rename_i v o
      split at h
      · rename_i i hinf
        split at h
        · rename_i k hk
          cases h
          obtain ⟨kd, rfl, hlt⟩ := aindexOf_spec hk hi
          cases hx with
          | ptr _ _ t' hv =>
            refine ⟨_, ?_, .ptr _ _ _ hv⟩
            have h2 : (0 : Int) ≤ (k : Int) ∧ (k : Int) < (len : Int) := by omega
            by_cases hl : len ≤ 1
            · simp [Instr.indexAt, asIntOf, run_und (hP.und _ _ hu), h2, hlt, run_size (hP.info _ _ hinf), add_mk, Instr.sureAddr, hl]
            · simp [Instr.indexAt, asIntOf, run_und (hP.und _ _ hu), h2, hlt, run_size (hP.info _ _ hinf), add_mk, Instr.sureAddr, hl]
        · cases h
      · cases h
    · cases h
  · cases h

/-! ### parts of aggregates -/
def afield (tb : Tb) (t : TypeId) (x : Value) (f : Nat) : Option Value :=
  match x with
  | .agg cs => match tb.und.get t with
    | some (.struct fields) => match fields.toList[f]? with
      | some fld => apart_ tb fld.type cs fld.offset
      | none => none
    | _ => none
  | _ => none

theorem afield_sound (hP : TbOk P tb) {t : TypeId} {x c out : Value} {f : Nat} (h : afield tb t x f = some out) (hx : VR φ x c) :
    ∃ c', (Instr.field t c f).run P w = .ok c' w ∧ VR φ out c' := by
  unfold afield at h
  split at h
  · rename_i cs
    obtain ⟨cs', rfl, ha⟩ := hx.agg_inv
    split at h
    · rename_i fields hu
      split at h
      · rename_i fld hf
        obtain ⟨c', h1, h2⟩ := run_part (P := P) (w := w) hP ha h
        have hf' : fields[f]? = some fld := by simpa using hf
        exact ⟨c', by simp [Instr.field, run_und (hP.und _ _ hu), hf', asAgg, h1], h2⟩
      · cases h
    · cases h
  · cases h

def aindexA (tb : Tb) (t : TypeId) (x ix : Value) : Option Value :=
  match x with
  | .agg cs => match tb.und.get t with
    | some (.array len elem) => match tb.info.get elem with
      | some i => match aindexOf ix len with
        | some k => apart_ tb elem cs (k * i.size)
        | none => none
      | none => none
    | _ => none
  | _ => none

theorem aindexA_sound (hP : TbOk P tb) {t : TypeId} {x c ix ci out : Value} (h : aindexA tb t x ix = some out) (hx : VR φ x c) (hi : VR φ ix ci) :
    ∃ c', (Instr.index t c ci).run P w = .ok c' w ∧ VR φ out c' := by
  unfold aindexA at h
  split at h
  · rename_i cs
    obtain ⟨cs', rfl, ha⟩ := hx.agg_inv
    split at h
    · rename_i len elem hu
      split at h
      · rename_i i hinf
        split at h
        · rename_i k hk
          obtain ⟨kd, rfl, hlt⟩ := aindexOf_spec hk hi
          obtain ⟨c', h1, h2⟩ := run_part (P := P) (w := w) hP ha h
          have h3 : (0 : Int) ≤ (k : Int) ∧ (k : Int) < (len : Int) := by omega
          exact ⟨c', by simp [Instr.index, asIntOf, run_und (hP.und _ _ hu), h3, hlt, run_size (hP.info _ _ hinf), h1], h2⟩
        · cases h
      · cases h
    · cases h
  · cases h

def aextract (x : Value) (k : Nat) : Option Value :=
  match x with
  | .tuple vs => vs.toList[k]?
  | _ => none
theorem aextract_sound {x c out : Value} {k : Nat} (h : aextract x k = some out) (hx : VR φ x c) : ∃ c', (Instr.extract c k).run P w = .ok c' w ∧ VR φ out c' := by
  unfold aextract at h
  split at h
  · obtain ⟨cs', rfl, ha⟩ := hx.tuple_inv
    obtain ⟨c', h1, h2⟩ := ha.get (by simpa using h)
    exact ⟨c', by simp [Instr.extract, h1], h2⟩
  · cases h

def amakeIface (tb : Tb) (t : TypeId) (x : Value) : Option Value :=
  match tb.und.get t with
  | some (.interface _) => none
  | some _ => some (.iface t x)
  | none => none
theorem amakeIface_sound (hP : TbOk P tb) {t : TypeId} {x c out : Value} (h : amakeIface tb t x = some out) (hx : VR φ x c) : ∃ c', (Instr.makeInterface t c).run P w = .ok c' w ∧ VR φ out c' := by
  unfold amakeIface at h
  split at h
  · cases h
  · rename_i d hd hu
    cases h
    refine ⟨_, ?_, .iface t _ _ hx⟩
    simp only [Instr.makeInterface, Sem.run_bind, run_und (hP.und _ _ hu), Result.andThen_ok]
    cases d <;> first | rfl | exact absurd rfl (hd _)
  · cases h

/-! ### new values -/
def aplaces (tb : Tb) : List Field → Option (List (Nat × Nat))
  | [] => some []
  | f :: l => match tb.info.get f.type with
    | none => none
    | some i => match aplaces tb l with
      | none => none
      | some r => some ((f.offset, i.size) :: r)
theorem aplaces_sound (hP : TbOk P tb) : ∀ (l : List Field) (r : List (Nat × Nat)), aplaces tb l = some r →
    (l.mapM fun f => do pure (f.offset, ← sizeOf f.type) : Sem (List (Nat × Nat))).run P w = .ok r w := by
  intro l
  induction l with
  | nil => intro r h; simp only [aplaces, Option.some.injEq] at h; subst h; simp
  | cons f l ih =>
    intro r h
    simp only [aplaces] at h
    split at h
    · cases h
    · rename_i i hi
      split at h
      · cases h
      · rename_i r' hr
        cases h
        simp only [List.mapM_cons, Sem.run_bind, run_size (hP.info _ _ hi), Result.andThen_ok, Sem.run_pure, ih r' hr]
theorem run_mapM_array {α β : Type} (f : α → Sem β) (a : Array α) {r : List β} {w' : World} (h : (a.toList.mapM f).run P w = .ok r w') : (a.mapM f).run P w = .ok r.toArray w' := by
  have : a.mapM f = List.toArray <$> a.toList.mapM f := by rw [Array.mapM_eq_mapM_toList]
  rw [this, Sem.run_map, h]; rfl

def abuild (tb : Tb) (t : TypeId) (parts : List (Nat × Value)) : Option Value :=
  match tb.info.get t with
  | none => none
  | some i => match i.zero with
    | none => none
    | some z => bif plainA z.cells then
        match tb.und.get t with
        | some (.struct fields) => match aplaces tb fields.toList with
          | none => none
          | some pl => match Instr.fill (fun k => pl[k]?) z.cells parts with
            | some cells => some (.agg cells)
            | none => none
        | some (.array _ elem) => match tb.info.get elem with
          | none => none
          | some ie => match Instr.fill (fun k => some (k * ie.size, ie.size)) z.cells parts with
            | some cells => some (.agg cells)
            | none => none
        | _ => none
      else none

theorem VRA.plain (φ : Emb) (a : Array Value) (h : plainA a = true) : VRA φ a a := by
  obtain ⟨l⟩ := a
  exact (VRL.plain l (by simpa [plainA] using h)).array

theorem abuild_sound (hP : TbOk P tb) {t : TypeId} {ps : List (Nat × Value)} {qs : Array (Nat × Value)} {out : Value} (h : abuild tb t ps = some out) (hx : PartsR φ ps qs.toList) :
    ∃ c', (Instr.build t qs).run P w = .ok c' w ∧ VR φ out c' := by
  unfold abuild at h
  split at h
  · cases h
  · rename_i i hi
    split at h
    · cases h
    · rename_i z hz
      cases hp : plainA z.cells with
      | false => rw [hp] at h; cases h
      | true =>
        rw [hp] at h
        simp only [cond_true] at h
        have hzr := VRA.plain φ z.cells hp
        have hrz := run_zero (w := w) (hP.info _ _ hi) hz
        split at h
        · rename_i fields hu
          split at h
          · cases h
          · rename_i pl hpl
            have hm := run_mapM_array (w := w) (fun f : Field => (do pure (f.offset, ← sizeOf f.type) : Sem (Nat × Nat))) fields (aplaces_sound hP _ _ hpl)
            split at h
            · rename_i cells hf
              cases h
              obtain ⟨out', h1, h2⟩ := fill_rel _ _ _ _ _ _ hx hzr hf
              refine ⟨.agg out', ?_, h2.agg⟩
              have h1' : Instr.fill (fun x => pl.toArray[x]?) z.cells qs.toList = some out' := by
                have : (fun x : Nat => pl.toArray[x]?) = (fun k : Nat => pl[k]?) := by funext k; simp
                rw [this]; exact h1
              simp only [Instr.build, Sem.run_bind, hrz, Result.andThen_ok, run_und (hP.und _ _ hu), hm, h1', Sem.run_pure]
            · cases h
        · rename_i n elem hu
          split at h
          · cases h
          · rename_i ie hie
            split at h
            · rename_i cells hf
              cases h
              obtain ⟨out', h1, h2⟩ := fill_rel _ _ _ _ _ _ hx hzr hf
              refine ⟨.agg out', ?_, h2.agg⟩
              simp [Instr.build, hrz, run_und (hP.und _ _ hu), run_size (hP.info _ _ hie), h1]
            · cases h
        · cases h
end
end Go.Proofs.YtbjickdjkgefcaaGreatDoor.Vai
end
end
section
open Go Go.RowKit
noncomputable section
namespace Go.Proofs.YtbjickdjkgefcaaGreatDoor.Vai
set_option linter.unusedVariables false
set_option linter.unusedSimpArgs false

section
variable {P : Program} {tb : Tb} {w0 : Base} {φ : Emb} {s : St} {w : World}

/-! ### rows of zero values -/
def repl : Nat → List Value → List Value
  | 0, _ => []
  | n + 1, l => l ++ repl n l
theorem repl_length (n : Nat) (l : List Value) : (repl n l).length = n * l.length := by
  induction n with
  | zero => simp [repl]
  | succ n ih => simp [repl, ih, Nat.succ_mul, Nat.add_comm]
theorem repl_get (n : Nat) (l : List Value) : ∀ i, i < n * l.length → (repl n l)[i]? = l[i % l.length]? := by
  induction n with
  | zero => intro i h; simp at h
  | succ n ih =>
    intro i h
    simp only [repl]
    by_cases hi : i < l.length
    · rw [List.getElem?_append_left hi, Nat.mod_eq_of_lt hi]
    · have hm : (n + 1) * l.length = n * l.length + l.length := Nat.succ_mul n l.length
      rw [List.getElem?_append_right (by omega), ih _ (by omega), ← Nat.mod_eq_sub_mod (by omega)]
theorem repl_range (n : Nat) (z : Array Value) (m : Nat) (hm : m = n * z.size) : ((Array.range m).map fun i => z[i % z.size]!) = (repl n z.toList).toArray := by
  subst hm
  apply Array.ext_getElem?
  intro i
  by_cases hi : i < n * z.size
  · have hpos : 0 < z.size := by
      rcases Nat.eq_zero_or_pos z.size with h | h
      · rw [h] at hi; simp at hi
      · exact h
    have hr := repl_get n z.toList i (by simpa using hi)
    have hlt : i % z.size < z.size := Nat.mod_lt _ hpos
    simp only [Array.getElem?_map, List.getElem?_toArray, hr, Array.length_toList, Array.getElem?_toList]
    rw [Array.getElem?_eq_getElem hlt]
    simp [hi, hlt]
  · rw [Array.getElem?_eq_none (by simp; omega), List.getElem?_toArray, List.getElem?_eq_none (by rw [repl_length]; simpa using hi)]
theorem plainA_list {a : Array Value} (h : plainA a = true) : plainL a.toList = true := by
  obtain ⟨l⟩ := a
  exact h
theorem plainL_append : ∀ (a b : List Value), plainL a = true → plainL b = true → plainL (a ++ b) = true := by
  intro a
  induction a with
  | nil => intro b _ h; exact h
  | cons v a ih => intro b h1 h2; simp only [plainL, List.cons_append, Bool.and_eq_true] at *; exact ⟨h1.1, ih b h1.2 h2⟩
theorem plainL_repl (n : Nat) (l : List Value) (h : plainL l = true) : plainL (repl n l) = true := by
  induction n with
  | zero => rfl
  | succ n ih => exact plainL_append _ _ h ih

/-! ### new blocks -/
def aalloc_ (tb : Tb) (t : TypeId) : Option QOut :=
  match tb.info.get t with
  | none => none
  | some i => match i.zero with
    | none => none
    | some z => bif plainA z.cells then some (.new t i.size z.cells.toList .ptr) else none
theorem aalloc_sound (hP : TbOk P tb) {t : TypeId} {out : QOut} (h : aalloc_ tb t = some out) (φ : Emb) (w : World) : QV φ w out ((Instr.alloc t true (.tuple #[])).run P w) := by
  unfold aalloc_ at h
  split at h
  · cases h
  · rename_i i hi
    split at h
    · cases h
    · rename_i z hz
      cases hp : plainA z.cells with
      | false => rw [hp] at h; cases h
      | true =>
        rw [hp] at h
        cases h
        have hl : VRL φ z.cells.toList z.cells.toList := (VRA.plain φ _ hp).list
        refine ⟨fun l c h => (by cases h), z.cells.toList, hl, ?_⟩
        simp [Instr.alloc, run_zero (hP.info _ _ hi) hz, newVar, newRow, Shp.val]

def abox (tb : Tb) (t : TypeId) (x : Value) : Option QOut :=
  match tb.info.get t with
  | none => none
  | some i => some (.new t i.size x.cells.toList .ptr)
theorem abox_sound {t : TypeId} {x c : Value} {out : QOut} (h : abox tb t x = some out) (hx : VR φ x c) (w : World) : QV φ w out ((Instr.box t c).run P w) := by
  unfold abox at h
  split at h
  · cases h
  · rename_i i hi
    cases h
    refine ⟨fun l c h => (by cases h), c.cells.toList, hx.cells.list, ?_⟩
    simp [Instr.box, newVar, newRow, Shp.val]

def amakeSlice (tb : Tb) (t : TypeId) (l c : Value) : Option QOut :=
  match tb.und.get t with
  | some (.slice elem) => match tb.info.get elem with
    | none => none
    | some i => match l, c with
      | .int _ (.ofNat l), .int _ (.ofNat c) =>
        bif Nat.ble l c && Nat.ble (i.bytes * c) 281474976710656 && Nat.blt c INF then
          match i.zero with
          | none => none
          | some z => bif plainA z.cells && Nat.beq z.cells.size i.size then some (.new elem i.size (repl c z.cells.toList) (.slice l c)) else none
        else none
      | _, _ => none
  | _ => none
theorem amakeSlice_sound (hP : TbOk P tb) {t : TypeId} {l c l' c' : Value} {out : QOut} (h : amakeSlice tb t l c = some out) (hl : VR φ l l') (hc : VR φ c c') (w : World) :
    QV φ w out ((Instr.makeSlice t l' c').run P w) := by
  unfold amakeSlice at h
  split at h
  · rename_i elem hu
    split at h
    · cases h
    · rename_i i hi
      split at h
      · rename_i k1 l k2 c
        cases hb : (Nat.ble l c && Nat.ble (i.bytes * c) 281474976710656 && Nat.blt c INF) with
        | false => rw [hb] at h; cases h
        | true =>
          rw [hb] at h
          simp only [cond_true] at h
          rw [Bool.and_eq_true, Bool.and_eq_true] at hb
          obtain ⟨⟨b1, b2⟩, b3⟩ := hb
          have b1 := Nat.le_of_ble_eq_true b1
          have b2 := Nat.le_of_ble_eq_true b2
          have b3 := blt_iff.1 b3
          split at h
          · cases h
          · rename_i z hz
            cases hp : (plainA z.cells && Nat.beq z.cells.size i.size) with
            | false => rw [hp] at h; cases h
            | true =>
              rw [hp] at h
              simp only [cond_true, Option.some.injEq] at h
              rw [Bool.and_eq_true] at hp
              subst h
              have hzs := beq_iff.1 hp.2
              cases hl
              cases hc
              have w1 : IntKind.i64.wrap ((l : Nat) : Int) = l := IntWalk.i64_in _ (by simp only [INF] at b3; omega)
              have w2 : IntKind.i64.wrap ((c : Nat) : Int) = c := IntWalk.i64_in _ (by simp only [INF] at b3; omega)
              refine ⟨fun l c h => (by cases h; omega), repl c z.cells.toList, VRL.plain _ (plainL_repl _ _ (plainA_list hp.1)), ?_⟩
              have e1 : ¬ ((i.bytes : Int) * (c : Int) > 281474976710656) := by
                have : (i.bytes : Int) * (c : Int) ≤ 281474976710656 := by rw [← Int.natCast_mul]; exact Int.ofNat_le.2 b2
                omega
              have e2 : ¬ ((l : Nat) : Int) > (c : Nat) := by omega
              simp only [Instr.makeSlice, Sem.run_bind, run_und (hP.und _ _ hu), Result.andThen_ok, asInt, asIntOf, Sem.run_pure, Sem.run_map, run_info (hP.info _ _ hi)]
              have g1 : IntKind.i64.wrap (Int.ofNat l) = (l : Int) := w1
              have g2 : IntKind.i64.wrap (Int.ofNat c) = (c : Int) := w2
              rw [g1, g2]
              have hcond : ((decide ((c : Int) < 0) || decide ((i.bytes : Int) * (c : Int) > 2 ^ 48)) || decide ((l : Int) < 0) || decide ((l : Int) > (c : Int))) = false := by
                simp; omega
              simp only [hcond]
              by_cases hn : c * i.size = 0
              · have : repl c z.cells.toList = [] := by
                  apply List.eq_nil_of_length_eq_zero
                  rw [repl_length, Array.length_toList, hzs]; exact hn
                simp [run_size (hP.info _ _ hi), hn, newRow, Shp.val, this, Array.range_zero']
              · simp [run_size (hP.info _ _ hi), hn, run_zero (hP.info _ _ hi) hz, newRow, Shp.val, repl_range c z.cells (c * i.size) (by rw [hzs])]
      · cases h
  · cases h

def abuildSlice (tb : Tb) (t : TypeId) (len : Nat) (parts : List (Nat × Value)) : Option QOut :=
  match tb.und.get t with
  | some (.slice elem) => match tb.info.get elem with
    | none => none
    | some i => bif Nat.ble (len * i.size) 16777216 && Nat.blt len INF then
        match i.zero with
        | none => none
        | some z => bif plainA z.cells && Nat.beq z.cells.size i.size then
            match Instr.fill (fun k => some (k * i.size, i.size)) (repl len z.cells.toList).toArray parts with
            | some cells => some (.new elem i.size cells.toList (.slice len len))
            | none => none
          else none
      else none
  | _ => none
theorem abuildSlice_sound (hP : TbOk P tb) {t : TypeId} {len : Nat} {ps : List (Nat × Value)} {qs : Array (Nat × Value)} {out : QOut} (h : abuildSlice tb t len ps = some out) (hx : PartsR φ ps qs.toList) (w : World) :
    QV φ w out ((Instr.buildSlice t len qs).run P w) := by
  unfold abuildSlice at h
  split at h
  · rename_i elem hu
    split at h
    · cases h
    · rename_i i hi
      cases hb : (Nat.ble (len * i.size) 16777216 && Nat.blt len INF) with
      | false => rw [hb] at h; cases h
      | true =>
        rw [hb] at h
        simp only [cond_true] at h
        rw [Bool.and_eq_true] at hb
        have b1 := Nat.le_of_ble_eq_true hb.1
        have b2 := blt_iff.1 hb.2
        split at h
        · cases h
        · rename_i z hz
          cases hp : (plainA z.cells && Nat.beq z.cells.size i.size) with
          | false => rw [hp] at h; cases h
          | true =>
            rw [hp] at h
            simp only [cond_true] at h
            rw [Bool.and_eq_true] at hp
            have hzs := beq_iff.1 hp.2
            split at h
            · rename_i cells hf
              cases h
              have hzr : VRA φ (repl len z.cells.toList).toArray (repl len z.cells.toList).toArray :=
                (VRL.plain _ (plainL_repl _ _ (plainA_list hp.1))).array
              obtain ⟨out', h1, h2⟩ := fill_rel _ _ _ _ _ _ hx hzr hf
              refine ⟨fun l c h => (by cases h; omega), out'.toList, h2.list, ?_⟩
              have e0 : ¬ (len * i.size > 2 ^ 24) := by omega
              by_cases hn : len * i.size = 0
              · have e1 : repl len z.cells.toList = [] := by
                  apply List.eq_nil_of_length_eq_zero
                  rw [repl_length, Array.length_toList, hzs]; exact hn
                rw [e1] at h1
                simp [Instr.buildSlice, run_und (hP.und _ _ hu), run_size (hP.info _ _ hi), hn, h1, newRow, Shp.val, Array.range_zero']
              · simp [Instr.buildSlice, run_und (hP.und _ _ hu), run_size (hP.info _ _ hi), e0, hn, run_zero (hP.info _ _ hi) hz, repl_range len z.cells (len * i.size) (by rw [hzs]), h1, newRow, Shp.val]
            · cases h
  · cases h

/-! ### comparisons with nil -/
def aeqNil (d : TypeDesc) (x y : Value) : Option Bool :=
  match d with
  | .pointer _ => match x, y with
    | .pointer none, .pointer b => some b.isNone
    | .pointer (some _), .pointer none => some false
    | _, _ => none
  | .slice _ => match x, y with
    | .slice none _ _, .slice b _ _ => some b.isNone
    | .slice (some _) _ _, .slice none _ _ => some false
    | _, _ => none
  | .map _ _ => match x, y with
    | .map none, .map b => some b.isNone
    | .map (some _), .map none => some false
    | _, _ => none
  | .func _ _ _ => match x, y with
    | .nilFunc, .nilFunc => some true
    | .nilFunc, .func _ _ _ => some false
    | .func _ _ _, .nilFunc => some false
    | _, _ => none
  | .interface _ => match x, y with
    | .nilIface, .iface _ _ => some false
    | .iface _ _, .nilIface => some false
    | _, _ => none
  | _ => none

theorem aeqNil_sound {t : TypeId} {d : TypeDesc} (hu : P.underlying t = some d) {x y c e : Value} {b : Bool} (h : aeqNil d x y = some b) (hx : VR φ x c) (hy : VR φ y e) (w : World) :
    (Op.equal t c e).run P w = .ok b w := by
  obtain ⟨n, h0⟩ : ∃ n, Op.maxDepth = n + 1 := ⟨9999, rfl⟩
  unfold aeqNil at h
  unfold Op.equal
  rw [h0]
  simp only [Op.equalIn, Sem.run_bind, run_und hu, Result.andThen_ok]
  split at h <;> first | (cases h; done) | (split at h <;> first | (cases h; done) | (cases h; cases hx <;> cases hy <;> rfl))

def aeq (tb : Tb) (op : BinOp) (t : TypeId) (x y : Value) : Option Value :=
  match tb.und.get t with
  | none => none
  | some d => match aeqNil d x y with
    | none => none
    | some b => match op with
      | .eql => some (.bool b)
      | .neq => some (.bool !b)
      | _ => none
end
end Go.Proofs.YtbjickdjkgefcaaGreatDoor.Vai
end
end
