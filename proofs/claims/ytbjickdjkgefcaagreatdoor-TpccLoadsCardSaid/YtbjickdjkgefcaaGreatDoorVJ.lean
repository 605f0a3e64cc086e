/- A part of an evaluator of the model's code whose answers are proved sound: no statement on the program stands here. -/
import Derived.Test.YtbjickdjkgefcaaGreatDoorVE
import Derived.Laws.BytesString
import Derived.Lib.UnsafeStr
section
open Go Go.RowKit
noncomputable section
namespace Go.Proofs.YtbjickdjkgefcaaGreatDoor.Vai
set_option linter.unusedVariables false
set_option linter.unusedSimpArgs false

/-- What the operands hold. -/
def RhoR (φ : Emb) (ρ : Operand → Option Value) (σ : Operand → Value) : Prop := ∀ x v, ρ x = some v → VR φ v (σ x)

def amap (ρ : Operand → Option Value) : List Operand → Option (List Value)
  | [] => some []
  | x :: l => match ρ x with
    | none => none
    | some v => match amap ρ l with
      | none => none
      | some r => some (v :: r)
def aparts (ρ : Operand → Option Value) : List (Nat × Operand) → Option (List (Nat × Value))
  | [] => some []
  | (i, x) :: l => match ρ x with
    | none => none
    | some v => match aparts ρ l with
      | none => none
      | some r => some ((i, v) :: r)
def aopt (ρ : Operand → Option Value) : Option Operand → Option (Option Value)
  | none => some none
  | some x => match ρ x with
    | none => none
    | some v => some (some v)

section
variable {P : Program} {tb : Tb} {w0 : Base} {φ : Emb} {s : St} {w : World} {ρ : Operand → Option Value} {σ : Operand → Value}

theorem amap_sound (hρ : RhoR φ ρ σ) : ∀ (l : List Operand) (r : List Value), amap ρ l = some r → VRL φ r (l.map σ) := by
  intro l
  induction l with
  | nil => intro r h; simp only [amap, Option.some.injEq] at h; subst h; exact .nil
  | cons x l ih =>
    intro r h
    simp only [amap] at h
    split at h
    · cases h
    · rename_i v hv
      split at h
      · cases h
      · rename_i r' hr
        cases h
        exact .cons _ _ _ _ (hρ x v hv) (ih r' hr)
theorem aparts_sound (hρ : RhoR φ ρ σ) : ∀ (l : List (Nat × Operand)) (r : List (Nat × Value)), aparts ρ l = some r → PartsR φ r (l.map fun p => (p.1, σ p.2)) := by
  intro l
  induction l with
  | nil => intro r h; simp only [aparts, Option.some.injEq] at h; subst h; exact .nil
  | cons x l ih =>
    obtain ⟨i, x⟩ := x
    intro r h
    simp only [aparts] at h
    split at h
    · cases h
    · rename_i v hv
      split at h
      · cases h
      · rename_i r' hr
        cases h
        exact .cons _ _ _ _ _ (hρ x v hv) (ih r' hr)
theorem aopt_sound (hρ : RhoR φ ρ σ) {x : Option Operand} {r : Option Value} (h : aopt ρ x = some r) : VRO φ r (x.map σ) := by
  cases x with
  | none => simp only [aopt, Option.some.injEq] at h; subst h; exact .none
  | some x =>
    simp only [aopt] at h
    split at h
    · cases h
    · rename_i v hv; cases h; exact .some _ _ (hρ x v hv)

/-! ### builtins that read -/
def alen (tb : Tb) (s : St) (t : TypeId) (x : Value) : Option Value :=
  match tb.und.get t with
  | some .string => match x with
    | .string b => some (goInt b.size)
    | _ => none
  | some (.slice _) => match x with
    | .slice _ n _ => some (goInt n)
    | _ => none
  | some (.array n _) => some (goInt n)
  | some (.map _ _) => match x with
    | .map none => some (goInt 0)
    | .map (some r) => match s.objs.get r with
      | some (.map es _) => some (goInt es.length)
      | _ => none
    | _ => none
  | _ => none

theorem EntsR.length {a : List AEnt} {c : List MapEntry} (h : EntsR φ a c) : a.length = c.length := by
  induction h with
  | nil => rfl
  | cons _ _ _ _ _ _ _ _ ih => simp [ih]

theorem alen_sound (hP : TbOk P tb) (r : Rel w0 φ s w) {t : TypeId} {x c out : Value} (h : alen tb s t x = some out) (hx : VR φ x c) {ts : Array TypeId} (ht : ts[0]? = some t) {as : Array Value} (ha : as[0]? = some c) (t' : TypeId) :
    (Builtin.len_ ts t' as).run P w = .ok out w ∧ plain out = true := by
  unfold alen at h
  split at h
  · rename_i hu
    split at h
    · cases h; cases hx; exact ⟨by simp [Builtin.len_, ht, ha, run_und (hP.und _ _ hu)], rfl⟩
    · cases h
  · rename_i e hu
    split at h
    · cases h
      cases hx <;> exact ⟨by simp [Builtin.len_, ht, ha, run_und (hP.und _ _ hu)], rfl⟩
    · cases h
  · rename_i n e hu
    cases h
    exact ⟨by simp [Builtin.len_, ht, ha, run_und (hP.und _ _ hu)], rfl⟩
  · rename_i k e hu
    split at h
    · cases h; cases hx; exact ⟨by simp [Builtin.len_, ht, ha, run_und (hP.und _ _ hu)], rfl⟩
    · rename_i v
      split at h
      · rename_i es ck ho
        cases h
        cases hx with
        | map _ t' hv =>
          obtain ⟨c, h1, h2⟩ := r.getObj hv ho
          cases h2 with
          | map _ cs clock he =>
            refine ⟨?_, rfl⟩
            have hl : es.length = cs.size := by rw [he.length]; simp
            simp only [Builtin.len_, ht, ha, Sem.run_bind, run_und (hP.und _ _ hu), Result.andThen_ok, getObj, Sem.run, h1]
            rw [hl]; rfl
      · cases h
    · cases h
  · cases h

def acap (tb : Tb) (t : TypeId) (x : Value) : Option Value :=
  match tb.und.get t with
  | some (.slice _) => match x with
    | .slice _ _ n => bif Nat.beq n INF then none else some (goInt n)
    | _ => none
  | _ => none
theorem acap_sound (hP : TbOk P tb) {t : TypeId} {x c out : Value} (h : acap tb t x = some out) (hx : VR φ x c) {ts : Array TypeId} (ht : ts[0]? = some t) {as : Array Value} (ha : as[0]? = some c) (t' : TypeId) :
    (Builtin.cap_ ts t' as).run P w = .ok out w ∧ plain out = true := by
  unfold acap at h
  split at h
  · rename_i e hu
    split at h
    · rename_i a n k
      cases hb : Nat.beq k INF with
      | true => rw [hb] at h; cases h
      | false =>
        rw [hb] at h
        cases h
        have hne : k ≠ INF := fun e => by rw [beq_iff.2 e] at hb; cases hb
        cases hx with
        | snil => exact ⟨by simp [Builtin.cap_, ht, ha, run_und (hP.und _ _ hu)], rfl⟩
        | slice _ _ t' _ _ c' hv g1 g2 => rw [g1 hne] at ha; exact ⟨by simp [Builtin.cap_, ht, ha, run_und (hP.und _ _ hu)], rfl⟩
    · cases h
  · cases h

/-! ### bytes to a text -/
def byteVals (l : List UInt8) : List Value := l.map fun (c : UInt8) => Value.int .u8 (c.toNat : Int)

def abytes : List Value → Option (List UInt8)
  | [] => some []
  | v :: l => match v with
    | .int .u8 (.ofNat k) => bif Nat.blt k 256 then
        match abytes l with
        | none => none
        | some r => some (UInt8.ofNat k :: r)
      else none
    | _ => none

def abytesToString (tb : Tb) (s : St) (src dst : TypeId) (x : Value) : Option Value :=
  match tb.und.get src, tb.und.get dst with
  | some (.slice e), some .string => match tb.und.get e with
    | some (.int .u8) => match x with
      | .slice (some ⟨v, o, none⟩) len _ => match aloadN s v o len with
        | none => none
        | some l => match abytes l with
          | none => none
          | some b => some (.string ⟨b.toArray⟩)
      | _ => none
    | _ => none
  | _, _ => none

theorem foldl_push : ∀ (ns : List Int) (acc : ByteArray), ns.foldl (fun r n => r.push (UInt8.ofNat n.toNat)) acc = ⟨acc.data ++ (ns.map fun n => UInt8.ofNat n.toNat).toArray⟩ := by
  intro ns
  induction ns with
  | nil => intro acc; simp
  | cons n ns ih => intro acc; simp only [List.foldl_cons, ih]; simp [ByteArray.push]

theorem abytes_spec : ∀ (l cs : List Value) (b : List UInt8), abytes l = some b → VRL φ l cs → cs = byteVals b := by
  intro l
  induction l with
  | nil => intro cs b h hr; simp only [abytes, Option.some.injEq] at h; subst h; cases hr; rfl
  | cons v l ih =>
    intro cs b h hr
    simp only [abytes] at h
    split at h
    · rename_i k
      cases hb : Nat.blt k 256 with
      | false => rw [hb] at h; cases h
      | true =>
        rw [hb] at h
        simp only [cond_true] at h
        split at h
        · cases h
        · rename_i r hr'
          cases h
          cases hr with
          | cons _ c _ m hv ht =>
            cases hv
            rw [ih m r hr' ht]
            have hk := blt_iff.1 hb
            simp only [byteVals, List.map_cons]
            congr 2
            have : (UInt8.ofNat k).toNat = k := by simp [UInt8.toNat_ofNat']; omega
            rw [this]; rfl
    · cases h

theorem abytesToString_sound (hP : TbOk P tb) (r : Rel w0 φ s w) {src dst : TypeId} {x c out : Value} (h : abytesToString tb s src dst x = some out) (hx : VR φ x c) :
    (convert src dst c).run P w = .ok out w ∧ plain out = true := by
  unfold abytesToString at h
  split at h
  · rename_i e hs hd
    split at h
    · rename_i he
      split at h
      · rename_i v o len cap
        split at h
        · cases h
        · rename_i l hl
          split at h
          · cases h
          · rename_i b hb
            cases h
            cases hx with
            | slice _ _ t' _ _ c' hv g1 g2 =>
              obtain ⟨cs, h1, h2, h3⟩ := r.run_loadN (P := P) hv hl
              have hcs := abytes_spec l cs b hb h1
              refine ⟨?_, rfl⟩
              have h3' : (loadCells ⟨t'.blk, o, none⟩ len).run P w = .ok ((b.map fun (c : UInt8) => (c.toNat : Int)).map (Value.int .u8)).toArray w := by
                rw [h3, hcs, List.map_map]; rfl
              rw [run_convert_bytes_string w src dst e _ _ _ (hP.und _ _ hs) (hP.und _ _ he) (hP.und _ _ hd), run_bytesToString w _ _ _ _ h3', foldl_push]
              simp [List.map_map, Function.comp_def]
      · cases h
    · cases h
  · cases h

/-! ### unsafe.SliceData -/
def asliceData (s : St) (x : Value) : Option Value :=
  match x with
  | .slice none _ _ => some (.pointer none)
  | .slice (some ⟨v, o, none⟩) _ c => bif Nat.beq c INF then
      match s.views.get v with
      | some V => bif Nat.blt o V.ext then some (.pointer (some ⟨v, o, none⟩)) else none
      | none => none
    else bif Nat.beq c 0 then none else some (.pointer (some ⟨v, o, none⟩))
  | _ => none
theorem asliceData_sound (r : Rel w0 φ s w) {x c out : Value} (h : asliceData s x = some out) (hx : VR φ x c) (ts : Array TypeId) (t : TypeId) :
    ∃ c', (Builtin.unsafeSliceData_ ts t #[c]).run P w = .ok c' w ∧ VR φ out c' := by
  unfold asliceData at h
  split at h
  · cases h; cases hx; exact ⟨_, Lib.run_unsafeSliceData_nil w ts t _ _, .pnil⟩
  · rename_i v o l k
    cases hx with
    | slice _ _ t' _ _ c' hv g1 g2 =>
      cases hb : Nat.beq k INF with
      | true =>
        rw [hb] at h
        simp only [cond_true] at h
        split at h
        · rename_i V hV
          cases hq : Nat.blt o V.ext with
          | false => rw [hq] at h; cases h
          | true =>
            rw [hq] at h; cases h
            obtain ⟨R, hR, b⟩ := r.view v t' V hv hV
            have h1 := g2 (beq_iff.1 hb)
            have h2 := b.ext
            have h3 := blt_iff.1 hq
            have hc : c' ≠ 0 := by
              intro e; subst e; simp at h1; omega
            exact ⟨_, Lib.run_unsafeSliceData_row w ts t _ _ _ hc, .ptr _ _ _ hv⟩
        · cases h
      | false =>
        rw [hb] at h
        simp only [cond_false] at h
        cases hz : Nat.beq k 0 with
        | true => rw [hz] at h; cases h
        | false =>
          rw [hz] at h; cases h
          have hne : k ≠ INF := fun e => by rw [beq_iff.2 e] at hb; cases hb
          have hne0 : k ≠ 0 := fun e => by rw [beq_iff.2 e] at hz; cases hz
          rw [g1 hne]
          exact ⟨_, Lib.run_unsafeSliceData_row w ts t _ _ _ hne0, .ptr _ _ _ hv⟩
  · cases h
/-! ### pointers -/
theorem Rel.shape {w0 : Base} {φ : Emb} {s : St} {w : World} (r : Rel w0 φ s w) {v : Nat} {t : Tgt} {V : View} {R : Root} (hv : φ v = some t) (hV : s.views.get v = some V) (hR : s.roots.get V.root = some R) : w.shape? t.blk = some (R.elem, t.n) := by
  obtain ⟨R', hR', b⟩ := r.view v t V hv hV
  rw [hR] at hR'; cases hR'
  obtain ⟨c, fr, h1, h2, _⟩ := b.blk
  simp [World.shape?, h1, h2]

def aeqPtr (tb : Tb) (s : St) (t : TypeId) (x y : Value) : Option Bool :=
  match tb.und.get t with
  | some (.pointer e) => match tb.info.get e with
    | some i => bif Nat.beq i.size 0 then none else
      match x, y with
      | .pointer (some ⟨v, o, none⟩), .pointer (some ⟨u, k, none⟩) =>
        bif Nat.beq v u then some (Nat.beq o k) else
        match s.views.get v, s.views.get u with
        | some V, some U => bif Nat.beq V.root U.root then none else
          match s.roots.get V.root, s.roots.get U.root with
          | some R, some Q => bif !R.sish && Nat.beq R.flo R.fhi && !Q.sish && Nat.beq Q.flo Q.fhi then some false else none
          | _, _ => none
        | _, _ => none
      | _, _ => none
    | none => none
  | _ => none

theorem not_frozen {w : World} {b o : Nat} {c : Array Value} {e : TypeId} {fr : Nat × Nat} (h : w.heap[b]? = some (.cells c e fr)) (hn : fr.2 ≤ fr.1) : w.frozen? ⟨b, o, none⟩ = false := frozen_not h (fun ⟨x, y⟩ => by omega)

theorem aeqPtr_sound (hP : TbOk P tb) (r : Rel w0 φ s w) {t : TypeId} {x y c e : Value} {b : Bool} (h : aeqPtr tb s t x y = some b) (hx : VR φ x c) (hy : VR φ y e) :
    (Op.equal t c e).run P w = .ok b w ∧ (∃ a a', c = .pointer (some a) ∧ e = .pointer (some a')) := by
  unfold aeqPtr at h
  split at h
  · rename_i el hu
    split at h
    · rename_i i hi
      cases hz : Nat.beq i.size 0 with
      | true => rw [hz] at h; cases h
      | false =>
        rw [hz] at h
        simp only [cond_false] at h
        have hne : i.size ≠ 0 := fun e => by rw [beq_iff.2 e] at hz; cases hz
        split at h
        · rename_i v o u k
          cases hx with
          | ptr _ _ tv hv =>
          cases hy with
          | ptr _ _ tu hu' =>
          obtain ⟨n, h0⟩ : ∃ n, Op.maxDepth = n + 1 := ⟨9999, rfl⟩
          refine ⟨?_, _, _, rfl, rfl⟩
          have base : (Op.equal t (.pointer (some ⟨tv.blk, o, none⟩)) (.pointer (some ⟨tu.blk, k, none⟩))).run P w = (sameAddr ⟨tv.blk, o, none⟩ ⟨tu.blk, k, none⟩).run P w := by
            unfold Op.equal
            rw [h0]
            simp [Op.equalIn, run_und (hP.und _ _ hu), run_size (hP.info _ _ hi), hne]
          rw [base]
          cases hvu : Nat.beq v u with
          | true =>
            rw [hvu] at h
            cases h
            have e := beq_iff.1 hvu
            subst e
            rw [hv] at hu'; cases hu'
            simp only [sameAddr, beq_self_eq_true, if_true, Sem.run_pure]
            congr 1
            rw [Bool.eq_iff_iff, beq_iff]
            simp
          | false =>
            rw [hvu] at h
            simp only [cond_false] at h
            split at h
            · rename_i V U hV hU
              cases hr : Nat.beq V.root U.root with
              | true => rw [hr] at h; cases h
              | false =>
                rw [hr] at h
                simp only [cond_false] at h
                split at h
                · rename_i R Q hR hQ
                  cases hc : (!R.sish && Nat.beq R.flo R.fhi && !Q.sish && Nat.beq Q.flo Q.fhi) with
                  | false => rw [hc] at h; cases h
                  | true =>
                    rw [hc] at h
                    cases h
                    simp only [Bool.and_eq_true, Bool.not_eq_true'] at hc
                    obtain ⟨⟨⟨c1, c2⟩, c3⟩, c4⟩ := hc
                    have hb : tv.blk ≠ tu.blk := by
                      intro e
                      rcases r.inj v u tv tu hv hu' e with rfl | ⟨V1, V2, g1, g2, g3⟩
                      · rw [Nat.beq_refl] at hvu; cases hvu
                      · rw [hV] at g1; rw [hU] at g2; cases g1; cases g2
                        rw [beq_iff.2 g3] at hr; cases hr
                    obtain ⟨R1, hR1, b1⟩ := r.view v tv V hv hV
                    rw [hR] at hR1; cases hR1
                    obtain ⟨Q1, hQ1, b2⟩ := r.view u tu U hu' hU
                    rw [hQ] at hQ1; cases hQ1
                    obtain ⟨ca, fa, a1, a2, a3, _⟩ := b1.blk
                    obtain ⟨cb, fb, d1, d2, d3, _⟩ := b2.blk
                    have fA := fun o => not_frozen (o := o) a1 (by rw [a3.none c1 (beq_iff.1 c2)]; exact Nat.le_refl _)
                    have fB := fun o => not_frozen (o := o) d1 (by rw [d3.none c3 (beq_iff.1 c4)]; exact Nat.le_refl _)
                    have sA : w.shape? tv.blk = some (R.elem, tv.n) := r.shape hv hV hR
                    have sB : w.shape? tu.blk = some (Q.elem, tu.n) := r.shape hu' hU hQ
                    have hbeq : (tv.blk == tu.blk) = false := by simpa using hb
                    simp [sameAddr, hbeq, fA, fB, noView, viewAt, sA, sB, mayBeOne, stringish]
                · cases h
            · cases h
        · cases h
    · cases h
  · cases h

def aeqP (tb : Tb) (s : St) (op : BinOp) (t : TypeId) (x y : Value) : Option Value :=
  match aeqPtr tb s t x y with
  | none => none
  | some b => match op with
    | .eql => some (.bool b)
    | .neq => some (.bool !b)
    | _ => none

/-- unsafe.Pointer and back. -/
def aptrConv (P : Program) (tb : Tb) (s : St) (src dst : TypeId) (x : Value) : Option Value :=
  match x with
  | .pointer (some ⟨v, o, none⟩) => match s.views.get v with
    | none => none
    | some V => match s.roots.get V.root with
      | none => none
      | some R => match tb.und.get src, tb.und.get dst with
        | some (.pointer t), some .unsafePointer => match tb.info.get t with
          | none => none
          | some i => bif !(Nat.beq i.size 0) && Nat.blt o V.ext then some x else none
        | some .unsafePointer, some (.pointer u) => match tb.info.get u with
          | none => none
          | some i => bif V.exact && liesAt P P.depth R.elem (V.ext / P.cellsOf R.elem) o u 1 then some x else none
        | _, _ => none
  | _ => none

theorem aptrConv_sound (hP : TbOk P tb) (r : Rel w0 φ s w) {src dst : TypeId} {x c out : Value} (h : aptrConv P tb s src dst x = some out) (hx : VR φ x c) :
    ∃ c', (convert src dst c).run P w = .ok c' w ∧ VR φ out c' := by
  unfold aptrConv at h
  split at h
  · rename_i v o
    split at h
    · cases h
    · rename_i V hV
      split at h
      · cases h
      · rename_i R hR
        cases hx with
        | ptr _ _ t' hv =>
          have hsh : w.shape? t'.blk = some (R.elem, t'.n) := r.shape hv hV hR
          obtain ⟨R', hR', b⟩ := r.view v t' V hv hV
          rw [hR] at hR'; cases hR'
          split at h
          · rename_i t hs hd
            split at h
            · cases h
            · rename_i i hi
              cases hc : (!(Nat.beq i.size 0) && Nat.blt o V.ext) with
              | false => rw [hc] at h; cases h
              | true =>
                rw [hc] at h
                cases h
                rw [Bool.and_eq_true] at hc
                have hne : i.size ≠ 0 := fun e => by rw [beq_iff.2 e] at hc; cases hc.1
                have hlt : ¬ t'.n ≤ o := by have := blt_iff.1 hc.2; have := b.ext; omega
                refine ⟨_, ?_, .ptr _ _ _ hv⟩
                simp [convert, run_und (hP.und _ _ hs), run_und (hP.und _ _ hd), Conv.unsafePointer, Conv.seenAt, viewAt, cellsIn, hsh, run_size (hP.info _ _ hi), hne, hlt]
          · rename_i u hs hd
            split at h
            · cases h
            · rename_i i hi
              cases hc : (V.exact && liesAt P P.depth R.elem (V.ext / P.cellsOf R.elem) o u 1) with
              | false => rw [hc] at h; cases h
              | true =>
                rw [hc] at h
                cases h
                rw [Bool.and_eq_true] at hc
                have hn := b.exact hc.1
                refine ⟨_, ?_, .ptr _ _ _ hv⟩
                have hl := hc.2
                rw [← hn] at hl
                simp [convert, run_und (hP.und _ _ hs), run_und (hP.und _ _ hd), Conv.unsafePointer, Conv.seenAt, viewAt, hsh, variablesAt, hl, run_size (hP.info _ _ hi)]
          · cases h
  · cases h
end
end Go.Proofs.YtbjickdjkgefcaaGreatDoor.Vai
end
end
section
open Go Go.RowKit
noncomputable section
namespace Go.Proofs.YtbjickdjkgefcaaGreatDoor.Vai
set_option linter.unusedVariables false
set_option linter.unusedSimpArgs false

/-! ### keys of maps -/
def aeqKey (P : Program) (tb : Tb) (s : St) (kt : TypeId) (x y : Value) : Option Bool :=
  bif plain x && plain y then pureRun P (Op.equal kt x y) else aeqPtr tb s kt x y

def afindNow (kind : TypeDesc) (k : Value) : List AEnt → Nat → Option (Option (Nat × Value))
  | [], _ => some none
  | e :: es, i =>
    match Instr.sameNow kind k e.key with
    | some true => some (some (i, e.val))
    | some false => afindNow kind k es (i + 1)
    | none => none

def afindAsk (P : Program) (tb : Tb) (s : St) (kt : TypeId) (k : Value) : List AEnt → Nat → Option (Option (Nat × Value))
  | [], _ => some none
  | e :: es, i => match aeqKey P tb s kt k e.key with
    | none => none
    | some true => some (some (i, e.val))
    | some false => afindAsk P tb s kt k es (i + 1)

/-! texts with an identity -/
def findSeq (i : Nat) (c : ByteArray) : List Fact → Option Bool
  | [] => none
  | .seq j d b :: l => bif Nat.beq i j && decide (c = d) then some b else findSeq i c l
  | _ :: l => findSeq i c l
def findSlt (i : Nat) (c : ByteArray) : List Fact → Option Bool
  | [] => none
  | .slt j d b :: l => bif Nat.beq i j && decide (c = d) then some b else findSlt i c l
  | _ :: l => findSlt i c l
def findSgt (i : Nat) (c : ByteArray) : List Fact → Option Bool
  | [] => none
  | .sgt j d b :: l => bif Nat.beq i j && decide (c = d) then some b else findSgt i c l
  | _ :: l => findSgt i c l
def strOf (v : Value) : Option Nat :=
  match v with
  | .chan (some c) => match decSy c with
    | .str i => some i
    | _ => none
  | _ => none
def strEq (orc : List Fact) (a b : Value) : Option Bool :=
  match a, b with
  | .string x, .string y => Instr.sameNow .string (.string x) (.string y)
  | .string x, b => match strOf b with
    | some j => findSeq j x orc
    | none => none
  | a, .string y => match strOf a with
    | some i => findSeq i y orc
    | none => none
  | a, b => match strOf a, strOf b with
    | some i, some j => bif Nat.beq i j then some true else none
    | _, _ => none
def afindStr (orc : List Fact) (k : Value) : List AEnt → Nat → Option (Option (Nat × Value))
  | [], _ => some none
  | e :: es, i =>
    match strEq orc k e.key with
    | some true => some (some (i, e.val))
    | some false => afindStr orc k es (i + 1)
    | none => none

def afindKey (P : Program) (tb : Tb) (s : St) (kt : TypeId) (k : Value) (es : List AEnt) : Option (Option (Nat × Value)) :=
  match tb.und.get kt with
  | none => none
  | some d => bif isSy k || es.any (fun e => isSy e.key) then (match d with | .string => afindStr s.orc k es 0 | _ => none) else match afindNow d k es 0 with
    | some r => some r
    | none => afindAsk P tb s kt k es 0

def deepKey : TypeDesc → Bool
  | .interface _ => true
  | .array _ _ => true
  | .struct _ => true
  | _ => false

def acheckKey (P : Program) (tb : Tb) (empty : Bool) (kt : TypeId) (k : Value) : Bool :=
  match tb.und.get kt with
  | none => false
  | some d => bif deepKey d then (bif plain k then (match pureRun P (Instr.checkKey empty 10000 kt k) with | some _ => true | none => false) else false) else true

/-- A key that takes the place of one that equals it: are they the same to the bit? -/
def asameBits (x y : Value) : Bool :=
  bif plain x && plain y then Instr.sameBits 10000 x y else match x, y with
    | .pointer (some ⟨v, o, none⟩), .pointer (some ⟨u, k, none⟩) => Nat.beq v u && Nat.beq o k
    | _, _ => false

inductive FindR (φ : Emb) : Option (Nat × Value) → Option (Nat × Value) → Prop where
  | none : FindR φ none none
  | some (i : Nat) (v c : Value) (h : VR φ v c) : FindR φ (some (i, v)) (some (i, c))

section
variable {P : Program} {tb : Tb} {w0 : Base} {φ : Emb} {s : St} {w : World}

theorem aeqKey_sound (hP : TbOk P tb) (r : Rel w0 φ s w) {kt : TypeId} {x y c e : Value} {b : Bool} (h : aeqKey P tb s kt x y = some b) (hx : VR φ x c) (hy : VR φ y e) :
    (Op.equal kt c e).run P w = .ok b w := by
  unfold aeqKey at h
  cases hp : (plain x && plain y) with
  | true =>
    rw [hp] at h
    rw [Bool.and_eq_true] at hp
    rw [hx.eq_of_plain hp.1, hy.eq_of_plain hp.2]
    exact pureRun_run _ h w
  | false => rw [hp] at h; exact (aeqPtr_sound hP r h hx hy).1

theorem findSeq_sound {sig : Sig} {i : Nat} {c : ByteArray} {b : Bool} : ∀ (l : List Fact), (∀ f ∈ l, f.ok sig) → findSeq i c l = some b → decide (sig.str i = c) = b := by
  intro l
  induction l with
  | nil => intro _ h; cases h
  | cons f l ih =>
    intro ho h
    have h0 := ho f (List.mem_cons_self ..)
    have ih := ih fun g hg => ho g (List.mem_cons_of_mem _ hg)
    cases f with
    | seq j d t =>
      simp only [findSeq] at h
      cases hb : (Nat.beq i j && decide (c = d)) with
      | true =>
        rw [hb] at h
        cases h
        rw [Bool.and_eq_true, decide_eq_true_eq] at hb
        rw [Nat.eq_of_beq_eq_true hb.1, hb.2]
        exact h0
      | false => rw [hb] at h; exact ih h
    | _ => exact ih h
theorem findSlt_sound {sig : Sig} {i : Nat} {c : ByteArray} {b : Bool} : ∀ (l : List Fact), (∀ f ∈ l, f.ok sig) → findSlt i c l = some b → Op.bytesLess (sig.str i).toList c.toList = b := by
  intro l
  induction l with
  | nil => intro _ h; cases h
  | cons f l ih =>
    intro ho h
    have h0 := ho f (List.mem_cons_self ..)
    have ih := ih fun g hg => ho g (List.mem_cons_of_mem _ hg)
    cases f with
    | slt j d t =>
      simp only [findSlt] at h
      cases hb : (Nat.beq i j && decide (c = d)) with
      | true =>
        rw [hb] at h
        cases h
        rw [Bool.and_eq_true, decide_eq_true_eq] at hb
        rw [Nat.eq_of_beq_eq_true hb.1, hb.2]
        exact h0
      | false => rw [hb] at h; exact ih h
    | _ => exact ih h
theorem findSgt_sound {sig : Sig} {i : Nat} {c : ByteArray} {b : Bool} : ∀ (l : List Fact), (∀ f ∈ l, f.ok sig) → findSgt i c l = some b → Op.bytesLess c.toList (sig.str i).toList = b := by
  intro l
  induction l with
  | nil => intro _ h; cases h
  | cons f l ih =>
    intro ho h
    have h0 := ho f (List.mem_cons_self ..)
    have ih := ih fun g hg => ho g (List.mem_cons_of_mem _ hg)
    cases f with
    | sgt j d t =>
      simp only [findSgt] at h
      cases hb : (Nat.beq i j && decide (c = d)) with
      | true =>
        rw [hb] at h
        cases h
        rw [Bool.and_eq_true, decide_eq_true_eq] at hb
        rw [Nat.eq_of_beq_eq_true hb.1, hb.2]
        exact h0
      | false => rw [hb] at h; exact ih h
    | _ => exact ih h
theorem strOf_sound {v c : Value} {i : Nat} (h : strOf v = some i) (r : VR φ v c) : c = .string (φ.sig.str i) := by
  unfold strOf at h
  split at h
  · rename_i cc
    split at h
    · rename_i j hj
      cases h
      cases r with
      | top _ _ ht _ => rw [hj] at ht; cases ht
      | sy _ k n hn => rw [hj] at hn; exact hn.elim
      | str _ i' ht => rw [hj] at ht; cases ht; rfl
      | empty _ _ _ ht => rw [hj] at ht; cases ht
    · cases h
  · cases h
theorem beq_bytes (a b : ByteArray) : (a == b) = decide (a = b) := by
  obtain ⟨a⟩ := a
  obtain ⟨b⟩ := b
  show (a == b) = _
  by_cases h : a = b
  · subst h; simp
  · rw [decide_eq_false (by simpa using h)]; simpa using h
theorem strEq_sound {orc : List Fact} (ho : ∀ f ∈ orc, f.ok φ.sig) {x y c e : Value} {b : Bool} (h : strEq orc x y = some b) (hx : VR φ x c) (hy : VR φ y e) : Instr.sameNow .string c e = some b := by
  unfold strEq at h
  split at h
  · cases hx; cases hy; exact h
  · cases hx
    split at h
    · rename_i j hj
      rw [strOf_sound hj hy]
      show some (_ == _) = _
      rw [beq_bytes, ← findSeq_sound _ ho h]
      congr 1
      rw [decide_eq_decide]
      exact ⟨Eq.symm, Eq.symm⟩
    · cases h
  · cases hy
    split at h
    · rename_i j hj
      rw [strOf_sound hj hx]
      show some (_ == _) = _
      rw [beq_bytes, ← findSeq_sound _ ho h]
    · cases h
  · split at h
    · rename_i i j hi hj
      cases hb : Nat.beq i j with
      | false => rw [hb] at h; cases h
      | true =>
        rw [hb] at h
        cases h
        obtain rfl := Nat.eq_of_beq_eq_true hb
        rw [strOf_sound hi hx, strOf_sound hj hy]
        show some (_ == _) = _
        rw [beq_bytes]; simp
    · cases h
theorem afindStr_sound {orc : List Fact} (ho : ∀ f ∈ orc, f.ok φ.sig) {k kc : Value} (hk : VR φ k kc) {es : List AEnt} {cs : List MapEntry} (he : EntsR φ es cs) : ∀ (i : Nat) (r : Option (Nat × Value)),
    afindStr orc k es i = some r → ∃ r', Instr.findNow .string kc cs i = some r' ∧ FindR φ r r' := by
  induction he with
  | nil => intro i r h; cases h; exact ⟨none, rfl, .none⟩
  | cons a e l m h1 h2 h3 _ ih =>
    intro i r h
    simp only [afindStr] at h
    split at h
    · rename_i hq
      cases h
      exact ⟨_, by simp only [Instr.findNow, strEq_sound ho hq hk h1], .some _ _ _ h2⟩
    · rename_i hq
      obtain ⟨r', e1, e2⟩ := ih (i + 1) r h
      exact ⟨r', by simp only [Instr.findNow, strEq_sound ho hq hk h1]; exact e1, e2⟩
    · cases h

theorem sameNow_rel {d : TypeDesc} {x y c e : Value} (hx : VR φ x c) (hy : VR φ y e) (h1 : isSy x = false) (h2 : isSy y = false) : Instr.sameNow d c e = Instr.sameNow d x y := by
  cases d with
  | int k => cases hx <;> cases hy <;> first | rfl | (simp [isSy] at h1; done) | (simp [isSy] at h2; done)
  | string => cases hx <;> cases hy <;> first | rfl | (simp [isSy] at h1; done) | (simp [isSy] at h2; done)
  | bool => cases hx <;> cases hy <;> first | rfl | (simp [isSy] at h1; done) | (simp [isSy] at h2; done)
  | _ => rfl

theorem afindNow_sound {d : TypeDesc} {k kc : Value} (hk : VR φ k kc) {es : List AEnt} {cs : List MapEntry} (he : EntsR φ es cs) (hk0 : isSy k = false) : es.any (fun e => isSy e.key) = false → ∀ i : Nat,
    (∀ r, afindNow d k es i = some r → ∃ r', Instr.findNow d kc cs i = some r' ∧ FindR φ r r') ∧ (afindNow d k es i = none → Instr.findNow d kc cs i = none) := by
  induction he with
  | nil => intro _ i; exact ⟨fun r h => (by cases h; exact ⟨none, rfl, .none⟩), fun h => (by cases h)⟩
  | cons a e l m h1 h2 h3 _ ih =>
    intro hne i
    rw [List.any_cons, Bool.or_eq_false_iff] at hne
    have ih := ih hne.2
    have hs : Instr.sameNow d kc e.key = Instr.sameNow d k a.key := sameNow_rel hk h1 hk0 hne.1
    simp only [afindNow, Instr.findNow, hs]
    cases Instr.sameNow d k a.key with
    | none => exact ⟨fun r h => (by cases h), fun _ => rfl⟩
    | some b => cases b with
      | true => exact ⟨fun r h => (by cases h; exact ⟨_, rfl, .some _ _ _ h2⟩), fun h => (by cases h)⟩
      | false => exact ih (i + 1)

theorem afindAsk_sound (hP : TbOk P tb) (r : Rel w0 φ s w) {kt : TypeId} {k kc : Value} (hk : VR φ k kc) {es : List AEnt} {cs : List MapEntry} (he : EntsR φ es cs) : ∀ (i : Nat) (res : Option (Nat × Value)),
    afindAsk P tb s kt k es i = some res → ∃ r', (Instr.findAsking kt kc cs i).run P w = .ok r' w ∧ FindR φ res r' := by
  induction he with
  | nil => intro i res h; cases h; exact ⟨none, by simp [Instr.findAsking], .none⟩
  | cons a e l m h1 h2 h3 _ ih =>
    intro i res h
    simp only [afindAsk] at h
    split at h
    · cases h
    · rename_i hq
      cases h
      exact ⟨_, by simp [Instr.findAsking, aeqKey_sound hP r hq hk h1], .some _ _ _ h2⟩
    · rename_i hq
      obtain ⟨r', e1, e2⟩ := ih (i + 1) res h
      exact ⟨r', by simp [Instr.findAsking, aeqKey_sound hP r hq hk h1, e1], e2⟩

theorem afindKey_sound (hP : TbOk P tb) (r : Rel w0 φ s w) {kt : TypeId} {k kc : Value} (hk : VR φ k kc) {es : List AEnt} {cs : List MapEntry} (he : EntsR φ es cs) {res : Option (Nat × Value)}
    (h : afindKey P tb s kt k es = some res) : ∃ r', (Instr.findKey kt kc cs).run P w = .ok r' w ∧ FindR φ res r' := by
  unfold afindKey at h
  split at h
  · cases h
  · rename_i d hd
    cases hb : (isSy k || es.any (fun e => isSy e.key)) with
    | true =>
      rw [hb] at h
      simp only [cond_true] at h
      split at h
      · obtain ⟨r', e1, e2⟩ := afindStr_sound r.orc hk he 0 res h
        exact ⟨r', by simp [Instr.findKey, run_und (hP.und _ _ hd), e1], e2⟩
      · cases h
    | false =>
    rw [hb] at h
    rw [Bool.or_eq_false_iff] at hb
    simp only [cond_false] at h
    have hn := afindNow_sound (d := d) hk he hb.1 hb.2 0
    split at h
    · rename_i q hq
      cases h
      obtain ⟨r', e1, e2⟩ := hn.1 _ hq
      exact ⟨r', by simp [Instr.findKey, run_und (hP.und _ _ hd), e1], e2⟩
    · rename_i hq
      obtain ⟨r', e1, e2⟩ := afindAsk_sound hP r hk he 0 res h
      exact ⟨r', by simp [Instr.findKey, run_und (hP.und _ _ hd), hn.2 hq, e1], e2⟩

theorem acheckKey_sound (hP : TbOk P tb) {empty : Bool} {kt : TypeId} {k kc : Value} (h : acheckKey P tb empty kt k = true) (hk : VR φ k kc) (w : World) :
    (Instr.checkKey empty 10000 kt kc).run P w = .ok () w := by
  unfold acheckKey at h
  split at h
  · cases h
  · rename_i d hd
    cases hq : deepKey d with
    | true =>
      rw [hq] at h
      simp only [cond_true] at h
      cases hp : plain k with
      | false => rw [hp] at h; cases h
      | true =>
        rw [hp] at h
        rw [hk.eq_of_plain hp]
        simp only [cond_true] at h
        split at h
        · rename_i u hu; cases u; exact pureRun_run _ hu w
        · cases h
    | false =>
      have : ∀ n, (Instr.checkKey empty (n + 1) kt kc).run P w = .ok () w := by
        intro n
        unfold Instr.checkKey
        simp only [Sem.run_bind, run_und (hP.und _ _ hd), Result.andThen_ok]
        cases d <;> first | rfl | (cases hq; done)
      exact this 9999

theorem asameBits_sound {x y c e : Value} (h : asameBits x y = true) (hx : VR φ x c) (hy : VR φ y e) : Instr.sameBits 10000 c e = true := by
  unfold asameBits at h
  cases hp : (plain x && plain y) with
  | true =>
    rw [hp] at h
    rw [Bool.and_eq_true] at hp
    rw [hx.eq_of_plain hp.1, hy.eq_of_plain hp.2]; exact h
  | false =>
    rw [hp] at h
    simp only [cond_false] at h
    split at h
    · rename_i v o u k
      rw [Bool.and_eq_true] at h
      have e1 := beq_iff.1 h.1
      have e2 := beq_iff.1 h.2
      subst e1; subst e2
      cases hx with
      | ptr _ _ t1 h1 => cases hy with
        | ptr _ _ t2 h2 =>
          rw [h1] at h2; cases h2
          have : ∀ n, Instr.sameBits (n + 1) (.pointer (some ⟨t1.blk, o, none⟩)) (.pointer (some ⟨t1.blk, o, none⟩)) = true := by
            intro n; simp [Instr.sameBits]
          exact this 9999
    · cases h

/-! ### a map's entries -/
def aents (s : St) (m : Value) : Option (List AEnt) :=
  match m with
  | .map none => some []
  | .map (some r) => match s.objs.get r with
    | some (.map es _) => some es
    | _ => none
  | _ => none

def alookup (P : Program) (tb : Tb) (s : St) (t : TypeId) (x ix : Value) (commaOk : Bool) : Option Value :=
  match tb.und.get t with
  | some (.map key elem) => match aents s x with
    | none => none
    | some es => bif acheckKey P tb es.isEmpty key ix then
        match afindKey P tb s key ix es with
        | none => none
        | some (some (_, v)) => some (bif commaOk then .tuple #[v, .bool true] else v)
        | some none => match tb.info.get elem with
          | none => none
          | some i => match i.zero with
            | none => none
            | some z => bif plain z then some (bif commaOk then .tuple #[z, .bool false] else z) else none
      else none
  | _ => none

theorem VR.pair {a c : Value} (h : VR φ a c) (b : Bool) : VR φ (.tuple #[a, .bool b]) (.tuple #[c, .bool b]) := by
  refine .tuple _ _ rfl (fun i x y hx hy => ?_)
  match i with
  | 0 => simp at hx hy; subst hx; subst hy; exact h
  | 1 => simp at hx hy; subst hx; subst hy; exact .bool b
  | n + 2 => simp at hx

theorem EntsR.isEmpty {a : List AEnt} {c : List MapEntry} (h : EntsR φ a c) : c.isEmpty = a.isEmpty := by cases h <;> rfl

theorem alookup_sound (hP : TbOk P tb) (r : Rel w0 φ s w) {t : TypeId} {x ix c ci out : Value} {k : Bool} (h : alookup P tb s t x ix k = some out) (hx : VR φ x c) (hi : VR φ ix ci) :
    ∃ c', (Instr.lookup t c ci k).run P w = .ok c' w ∧ VR φ out c' := by
  unfold alookup at h
  split at h
  · rename_i key elem hu
    split at h
    · cases h
    · rename_i es hes
      cases hck : acheckKey P tb es.isEmpty key ix with
      | false => rw [hck] at h; cases h
      | true =>
        rw [hck] at h
        simp only [cond_true] at h
        have main : ∀ cs : Array MapEntry, EntsR φ es cs.toList → (Instr.checkKey cs.isEmpty 10000 key ci).run P w = .ok () w ∧
            ((∃ i cv, (Instr.findKey key ci cs.toList).run P w = .ok (some (i, cv)) w ∧ VR φ out (if k then .tuple #[cv, .bool true] else cv)) ∨
             (∃ z, (Instr.findKey key ci cs.toList).run P w = .ok none w ∧ (zeroValue elem).run P w = .ok z w ∧ VR φ out (if k then .tuple #[z, .bool false] else z))) := by
          intro cs he
          have hemp : cs.isEmpty = es.isEmpty := by rw [← he.isEmpty]; simp
          have h1 := acheckKey_sound hP (by rw [hck] : acheckKey P tb es.isEmpty key ix = true) hi w
          refine ⟨by rw [hemp]; exact h1, ?_⟩
          split at h
          · cases h
          · rename_i i v hf
            obtain ⟨r', e1, e2⟩ := afindKey_sound hP r hi he hf
            cases e2 with
            | some _ _ cv hv =>
              cases h
              refine .inl ⟨i, cv, e1, ?_⟩
              cases k with
              | true => exact hv.pair true
              | false => exact hv
          · rename_i hf
            obtain ⟨r', e1, e2⟩ := afindKey_sound hP r hi he hf
            cases e2
            split at h
            · cases h
            · rename_i inf hinf
              split at h
              · cases h
              · rename_i z hz
                cases hpz : plain z with
                | false => rw [hpz] at h; cases h
                | true =>
                  rw [hpz] at h
                  cases h
                  refine .inr ⟨z, e1, run_zero (hP.info _ _ hinf) hz, ?_⟩
                  have hv := VR.of_plain φ z hpz
                  cases k with
                  | true => exact hv.pair false
                  | false => exact hv
        unfold aents at hes
        split at hes
        · cases hes
          cases hx
          obtain ⟨h1, ⟨i, cv, e1, e2⟩ | ⟨z, e1, ez, e2⟩⟩ := main #[] .nil
          · exact ⟨_, by simp only [Instr.lookup, Sem.run_bind, run_und (hP.und _ _ hu), Result.andThen_ok, Sem.run_pure, h1, e1], e2⟩
          · exact ⟨_, by simp only [Instr.lookup, Sem.run_bind, run_und (hP.und _ _ hu), Result.andThen_ok, Sem.run_pure, h1, e1, ez], e2⟩
        · rename_i v
          split at hes
          · rename_i es' ck ho
            cases hes
            cases hx with
            | map _ tt hv =>
              obtain ⟨ob, g1, g2⟩ := r.getObj hv ho
              cases g2 with
              | map _ cs _ he =>
                obtain ⟨h1, ⟨i, cv, e1, e2⟩ | ⟨z, e1, ez, e2⟩⟩ := main cs he
                · exact ⟨_, by simp only [Instr.lookup, Sem.run_bind, run_und (hP.und _ _ hu), Result.andThen_ok, getObj, Sem.run, g1, Sem.run_pure, h1, e1], e2⟩
                · exact ⟨_, by simp only [Instr.lookup, Sem.run_bind, run_und (hP.und _ _ hu), Result.andThen_ok, getObj, Sem.run, g1, Sem.run_pure, h1, e1, ez], e2⟩
          · cases hes
        · cases hes
  · cases h
end
end Go.Proofs.YtbjickdjkgefcaaGreatDoor.Vai
end
end
section
open Go Go.RowKit
noncomputable section
namespace Go.Proofs.YtbjickdjkgefcaaGreatDoor.Vai
set_option linter.unusedVariables false
set_option linter.unusedSimpArgs false

/-- The entry that an iterator over a map stands on. -/
def aentry (s : St) (it : Value) : Option Value :=
  match it with
  | .pointer (some ⟨r, 0, none⟩) => match s.objs.get r with
    | some (.miter (some m) _ seen stepped) => match seen.getLast?, s.objs.get m with
      | some stamp, some (.map es clock) => bif Nat.beq clock stepped then
          match es.find? (fun e => Nat.beq e.born stamp) with
          | some e => some (.tuple #[e.key, e.val])
          | none => none
        else none
      | _, _ => none
    | _ => none
  | _ => none

def isIface : TypeDesc → Bool
  | .interface _ => true
  | _ => false

/-- What is behind an interface, of just this type. -/
def aassert (tb : Tb) (x : Value) (asserted : TypeId) (commaOk : Bool) : Option Value :=
  match tb.und.get asserted with
  | none => none
  | some d => bif isIface d then none else match x with
    | .iface t v => bif Nat.beq t asserted then some (bif commaOk then .tuple #[v, .bool true] else v) else none
    | _ => none

section
variable {P : Program} {tb : Tb} {w0 : Base} {φ : Emb} {s : St} {w : World}

theorem EntsR.find {es : List AEnt} {cs : List MapEntry} (h : EntsR φ es cs) (p : Nat → Bool) (e : AEnt) (hf : es.find? (fun e => p e.born) = some e) :
    ∃ c, cs.find? (fun e => p e.born) = some c ∧ VR φ e.key c.key ∧ VR φ e.val c.val := by
  induction h with
  | nil => cases hf
  | cons a c l m h1 h2 h3 ht ih =>
    simp only [List.find?_cons, ← h3] at hf ⊢
    split at hf
    · cases hf; exact ⟨c, rfl, h1, h2⟩
    · exact ih hf

theorem VR.two {a b c d : Value} (h : VR φ a c) (k : VR φ b d) : VR φ (.tuple #[a, b]) (.tuple #[c, d]) := by
  refine .tuple _ _ rfl (fun i x y hx hy => ?_)
  match i with
  | 0 => simp at hx hy; subst hx; subst hy; exact h
  | 1 => simp at hx hy; subst hx; subst hy; exact k
  | n + 2 => simp at hx

theorem aentry_sound (r : Rel w0 φ s w) {it c out : Value} (h : aentry s it = some out) (hx : VR φ it c) : ∃ c', (Instr.entry c).run P w = .ok c' w ∧ VR φ out c' := by
  unfold aentry at h
  split at h
  · rename_i rr
    cases hx with
    | ptr _ _ tt ht =>
    split at h
    · rename_i m since seen stepped ho
      split at h
      · rename_i stamp es clock hs hom
        obtain ⟨ob, g1, g2⟩ := r.getObj ht ho
        cases g2 with
        | miter _ tm hm =>
        obtain ⟨om, m1, m2⟩ := r.getObj hm hom
        cases m2 with
        | map _ cs _ he =>
        cases hb : Nat.beq clock stepped with
        | false => rw [hb] at h; cases h
        | true =>
          rw [hb] at h
          simp only [cond_true] at h
          have hbe := beq_iff.1 hb
          split at h
          · rename_i e hfe
            cases h
            obtain ⟨ce, q1, q2, q3⟩ := he.find (fun n => Nat.beq n stamp) e hfe
            have q1' : cs.find? (fun e => e.born == stamp) = some ce := by
              rw [← Array.find?_toList, ← q1]; congr 1; funext e; rw [Bool.eq_iff_iff, beq_iff]; simp
            refine ⟨_, ?_, q2.two q3⟩
            have hback : seen.toArray.back? = some stamp := by simp [hs]
            simp only [Instr.entry, Sem.run_bind, getObj, Sem.run, g1, m1, Result.andThen_ok, hback, q1', hbe, bne_self_eq_false, Bool.false_eq_true, if_false, Sem.run_pure]
          · cases h
      · cases h
    · cases h
  · cases h

theorem aassert_sound (hP : TbOk P tb) {x c out : Value} {xt asserted : TypeId} {k : Bool} (h : aassert tb x asserted k = some out) (hx : VR φ x c) :
    ∃ c', (Instr.typeAssert c xt asserted k).run P w = .ok c' w ∧ VR φ out c' := by
  unfold aassert at h
  split at h
  · cases h
  · rename_i d hd
    cases hi : isIface d with
    | true => rw [hi] at h; cases h
    | false =>
      rw [hi] at h
      simp only [cond_false] at h
      split at h
      · rename_i t v
        cases hb : Nat.beq t asserted with
        | false => rw [hb] at h; cases h
        | true =>
          rw [hb] at h
          cases h
          have hte := beq_iff.1 hb
          cases hx with
          | iface _ _ cv hv =>
          refine ⟨if k then .tuple #[cv, .bool true] else cv, ?_, ?_⟩
          · simp only [Instr.typeAssert, Sem.run_bind, run_und (hP.und _ _ hd), Result.andThen_ok]
            cases d <;> first | (cases hi; done) | (simp [hte])
          · cases k with
            | true => exact hv.pair true
            | false => exact hv
      · cases h
end
end Go.Proofs.YtbjickdjkgefcaaGreatDoor.Vai
end
end
