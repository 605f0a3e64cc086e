/- A part of an evaluator of the model's code whose answers are proved sound: no statement on the program stands here. -/
import Derived.Test.YtcmlomjdkjcjpaaGreatDoorVaiI
import Derived.Laws.BytesString
import Derived.Lib.UnsafeStr
open Go Go.RowKit
namespace Go.Proofs.YtcmlomjdkjcjpaaGreatDoor.Vai
set_option linter.unusedVariables false
set_option linter.unusedSimpArgs false

/-- What the operands hold. -/
def RhoR (φ : Emb) (ρ : Operand → Option Value) (σ : Operand → Value) : Prop := ∀ x v, ρ x = some v → VR φ v (σ x)

def amap (ρ : Operand → Option Value) : List Operand → Option (List Value)
  | [] => some []
  | x :: l => match ρ x with
    | none => none
    | some v => match amap ρ l with
      | none => none
      | some r => some (v :: r)
def aparts (ρ : Operand → Option Value) : List (Nat × Operand) → Option (List (Nat × Value))
  | [] => some []
  | (i, x) :: l => match ρ x with
    | none => none
    | some v => match aparts ρ l with
      | none => none
      | some r => some ((i, v) :: r)
def aopt (ρ : Operand → Option Value) : Option Operand → Option (Option Value)
  | none => some none
  | some x => match ρ x with
    | none => none
    | some v => some (some v)

section
variable {P : Program} {tb : Tb} {w0 : Base} {φ : Emb} {s : St} {w : World} {ρ : Operand → Option Value} {σ : Operand → Value}

theorem amap_sound (hρ : RhoR φ ρ σ) : ∀ (l : List Operand) (r : List Value), amap ρ l = some r → VRL φ r (l.map σ) := by
  intro l
  induction l with
  | nil => intro r h; simp only [amap, Option.some.injEq] at h; subst h; exact .nil
  | cons x l ih =>
    intro r h
    simp only [amap] at h
    split at h
    · cases h
    · rename_i v hv
      split at h
      · cases h
      · rename_i r' hr
        cases h
        exact .cons _ _ _ _ (hρ x v hv) (ih r' hr)
theorem aparts_sound (hρ : RhoR φ ρ σ) : ∀ (l : List (Nat × Operand)) (r : List (Nat × Value)), aparts ρ l = some r → PartsR φ r (l.map fun p => (p.1, σ p.2)) := by
  intro l
  induction l with
  | nil => intro r h; simp only [aparts, Option.some.injEq] at h; subst h; exact .nil
  | cons x l ih =>
    obtain ⟨i, x⟩ := x
    intro r h
    simp only [aparts] at h
    split at h
    · cases h
    · rename_i v hv
      split at h
      · cases h
      · rename_i r' hr
        cases h
        exact .cons _ _ _ _ _ (hρ x v hv) (ih r' hr)
theorem aopt_sound (hρ : RhoR φ ρ σ) {x : Option Operand} {r : Option Value} (h : aopt ρ x = some r) : VRO φ r (x.map σ) := by
  cases x with
  | none => simp only [aopt, Option.some.injEq] at h; subst h; exact .none
  | some x =>
    simp only [aopt] at h
    split at h
    · cases h
    · rename_i v hv; cases h; exact .some _ _ (hρ x v hv)

/-! ### builtins that read -/
def alen (tb : Tb) (s : St) (t : TypeId) (x : Value) : Option Value :=
  match tb.und.get t with
  | some .string => match x with
    | .string b => some (goInt b.size)
    | _ => none
  | some (.slice _) => match x with
    | .slice _ n _ => some (goInt n)
    | _ => none
  | some (.array n _) => some (goInt n)
  | some (.map _ _) => match x with
    | .map none => some (goInt 0)
    | .map (some r) => match s.objs.get r with
      | some (.map es _) => some (goInt es.length)
      | _ => none
    | _ => none
  | _ => none

theorem EntsR.length {a : List AEnt} {c : List MapEntry} (h : EntsR φ a c) : a.length = c.length := by
  induction h with
  | nil => rfl
  | cons _ _ _ _ _ _ _ _ ih => simp [ih]

theorem alen_sound (hP : TbOk P tb) (r : Rel w0 φ s w) {t : TypeId} {x c out : Value} (h : alen tb s t x = some out) (hx : VR φ x c) {ts : Array TypeId} (ht : ts[0]? = some t) {as : Array Value} (ha : as[0]? = some c) (t' : TypeId) :
    (Builtin.len_ ts t' as).run P w = .ok out w ∧ plain out = true := by
  unfold alen at h
  split at h
  · rename_i hu
    split at h
    · cases h; cases hx; exact ⟨by simp [Builtin.len_, ht, ha, run_und (hP.und _ _ hu)], rfl⟩
    · cases h
  · rename_i e hu
    split at h
    · cases h
      cases hx <;> exact ⟨by simp [Builtin.len_, ht, ha, run_und (hP.und _ _ hu)], rfl⟩
    · cases h
  · rename_i n e hu
    cases h
    exact ⟨by simp [Builtin.len_, ht, ha, run_und (hP.und _ _ hu)], rfl⟩
  · rename_i k e hu
    split at h
    · cases h; cases hx; exact ⟨by simp [Builtin.len_, ht, ha, run_und (hP.und _ _ hu)], rfl⟩
    · rename_i v
      split at h
      · rename_i es ck ho
        cases h
        cases hx with
        | map _ t' hv =>
          obtain ⟨c, h1, h2⟩ := r.getObj hv ho
          cases h2 with
          | map _ cs clock he =>
            refine ⟨?_, rfl⟩
            have hl : es.length = cs.size := by rw [he.length]; simp
            simp only [Builtin.len_, ht, ha, Sem.run_bind, run_und (hP.und _ _ hu), Result.andThen_ok, getObj, Sem.run, h1]
            rw [hl]; rfl
      · cases h
    · cases h
  · cases h

def acap (tb : Tb) (t : TypeId) (x : Value) : Option Value :=
  match tb.und.get t with
  | some (.slice _) => match x with
    | .slice _ _ n => bif Nat.beq n INF then none else some (goInt n)
    | _ => none
  | _ => none
theorem acap_sound (hP : TbOk P tb) {t : TypeId} {x c out : Value} (h : acap tb t x = some out) (hx : VR φ x c) {ts : Array TypeId} (ht : ts[0]? = some t) {as : Array Value} (ha : as[0]? = some c) (t' : TypeId) :
    (Builtin.cap_ ts t' as).run P w = .ok out w ∧ plain out = true := by
  unfold acap at h
  split at h
  · rename_i e hu
    split at h
    · rename_i a n k
      cases hb : Nat.beq k INF with
      | true => rw [hb] at h; cases h
      | false =>
        rw [hb] at h
        cases h
        have hne : k ≠ INF := fun e => by rw [beq_iff.2 e] at hb; cases hb
        cases hx with
        | snil => exact ⟨by simp [Builtin.cap_, ht, ha, run_und (hP.und _ _ hu)], rfl⟩
        | slice _ _ t' _ _ c' hv g1 g2 => rw [g1 hne] at ha; exact ⟨by simp [Builtin.cap_, ht, ha, run_und (hP.und _ _ hu)], rfl⟩
    · cases h
  · cases h

/-! ### bytes to a text -/
def byteVals (l : List UInt8) : List Value := l.map fun (c : UInt8) => Value.int .u8 (c.toNat : Int)

def abytes : List Value → Option (List UInt8)
  | [] => some []
  | v :: l => match v with
    | .int .u8 (.ofNat k) => bif Nat.blt k 256 then
        match abytes l with
        | none => none
        | some r => some (UInt8.ofNat k :: r)
      else none
    | _ => none

def abytesToString (tb : Tb) (s : St) (src dst : TypeId) (x : Value) : Option Value :=
  match tb.und.get src, tb.und.get dst with
  | some (.slice e), some .string => match tb.und.get e with
    | some (.int .u8) => match x with
      | .slice (some ⟨v, o, none⟩) len _ => match aloadN s v o len with
        | none => none
        | some l => match abytes l with
          | none => none
          | some b => some (.string ⟨b.toArray⟩)
      | _ => none
    | _ => none
  | _, _ => none

theorem foldl_push : ∀ (ns : List Int) (acc : ByteArray), ns.foldl (fun r n => r.push (UInt8.ofNat n.toNat)) acc = ⟨acc.data ++ (ns.map fun n => UInt8.ofNat n.toNat).toArray⟩ := by
  intro ns
  induction ns with
  | nil => intro acc; simp
  | cons n ns ih => intro acc; simp only [List.foldl_cons, ih]; simp [ByteArray.push]

theorem abytes_spec : ∀ (l cs : List Value) (b : List UInt8), abytes l = some b → VRL φ l cs → cs = byteVals b := by
  intro l
  induction l with
  | nil => intro cs b h hr; simp only [abytes, Option.some.injEq] at h; subst h; cases hr; rfl
  | cons v l ih =>
    intro cs b h hr
    simp only [abytes] at h
    split at h
    · rename_i k
      cases hb : Nat.blt k 256 with
      | false => rw [hb] at h; cases h
      | true =>
        rw [hb] at h
        simp only [cond_true] at h
        split at h
        · cases h
        · rename_i r hr'
          cases h
          cases hr with
          | cons _ c _ m hv ht =>
            cases hv
            rw [ih m r hr' ht]
            have hk := blt_iff.1 hb
            simp only [byteVals, List.map_cons]
            congr 2
            have : (UInt8.ofNat k).toNat = k := by simp [UInt8.toNat_ofNat']; omega
            rw [this]; rfl
    · cases h

theorem abytesToString_sound (hP : TbOk P tb) (r : Rel w0 φ s w) {src dst : TypeId} {x c out : Value} (h : abytesToString tb s src dst x = some out) (hx : VR φ x c) :
    (convert src dst c).run P w = .ok out w ∧ plain out = true := by
  unfold abytesToString at h
  split at h
  · rename_i e hs hd
    split at h
    · rename_i he
      split at h
      · rename_i v o len cap
        split at h
        · cases h
        · rename_i l hl
          split at h
          · cases h
          · rename_i b hb
            cases h
            cases hx with
            | slice _ _ t' _ _ c' hv g1 g2 =>
              obtain ⟨cs, h1, h2, h3⟩ := r.run_loadN (P := P) hv hl
              have hcs := abytes_spec l cs b hb h1
              refine ⟨?_, rfl⟩
              have h3' : (loadCells ⟨t'.blk, o, none⟩ len).run P w = .ok ((b.map fun (c : UInt8) => (c.toNat : Int)).map (Value.int .u8)).toArray w := by
                rw [h3, hcs, List.map_map]; rfl
              rw [run_convert_bytes_string w src dst e _ _ _ (hP.und _ _ hs) (hP.und _ _ he) (hP.und _ _ hd), run_bytesToString w _ _ _ _ h3', foldl_push]
              simp [List.map_map, Function.comp_def]
      · cases h
    · cases h
  · cases h

/-! ### unsafe.SliceData -/
def asliceData (s : St) (x : Value) : Option Value :=
  match x with
  | .slice none _ _ => some (.pointer none)
  | .slice (some ⟨v, o, none⟩) _ c => bif Nat.beq c INF then
      match s.views.get v with
      | some V => bif Nat.blt o V.ext then some (.pointer (some ⟨v, o, none⟩)) else none
      | none => none
    else bif Nat.beq c 0 then none else some (.pointer (some ⟨v, o, none⟩))
  | _ => none
theorem asliceData_sound (r : Rel w0 φ s w) {x c out : Value} (h : asliceData s x = some out) (hx : VR φ x c) (ts : Array TypeId) (t : TypeId) :
    ∃ c', (Builtin.unsafeSliceData_ ts t #[c]).run P w = .ok c' w ∧ VR φ out c' := by
  unfold asliceData at h
  split at h
  · cases h; cases hx; exact ⟨_, Lib.run_unsafeSliceData_nil w ts t _ _, .pnil⟩
  · rename_i v o l k
    cases hx with
    | slice _ _ t' _ _ c' hv g1 g2 =>
      cases hb : Nat.beq k INF with
      | true =>
        rw [hb] at h
        simp only [cond_true] at h
        split at h
        · rename_i V hV
          cases hq : Nat.blt o V.ext with
          | false => rw [hq] at h; cases h
          | true =>
            rw [hq] at h; cases h
            obtain ⟨R, hR, b⟩ := r.view v t' V hv hV
            have h1 := g2 (beq_iff.1 hb)
            have h2 := b.ext
            have h3 := blt_iff.1 hq
            have hc : c' ≠ 0 := by
              intro e; subst e; simp at h1; omega
            exact ⟨_, Lib.run_unsafeSliceData_row w ts t _ _ _ hc, .ptr _ _ _ hv⟩
        · cases h
      | false =>
        rw [hb] at h
        simp only [cond_false] at h
        cases hz : Nat.beq k 0 with
        | true => rw [hz] at h; cases h
        | false =>
          rw [hz] at h; cases h
          have hne : k ≠ INF := fun e => by rw [beq_iff.2 e] at hb; cases hb
          have hne0 : k ≠ 0 := fun e => by rw [beq_iff.2 e] at hz; cases hz
          rw [g1 hne]
          exact ⟨_, Lib.run_unsafeSliceData_row w ts t _ _ _ hne0, .ptr _ _ _ hv⟩
  · cases h
/-! ### pointers -/
theorem Rel.shape {w0 : Base} {φ : Emb} {s : St} {w : World} (r : Rel w0 φ s w) {v : Nat} {t : Tgt} {V : View} {R : Root} (hv : φ v = some t) (hV : s.views.get v = some V) (hR : s.roots.get V.root = some R) : w.shape? t.blk = some (R.elem, t.n) := by
  obtain ⟨R', hR', b⟩ := r.view v t V hv hV
  rw [hR] at hR'; cases hR'
  obtain ⟨c, fr, h1, h2, _⟩ := b.blk
  simp [World.shape?, h1, h2]

def aeqPtr (tb : Tb) (s : St) (t : TypeId) (x y : Value) : Option Bool :=
  match tb.und.get t with
  | some (.pointer e) => match tb.info.get e with
    | some i => bif Nat.beq i.size 0 then none else
      match x, y with
      | .pointer (some ⟨v, o, none⟩), .pointer (some ⟨u, k, none⟩) =>
        bif Nat.beq v u then some (Nat.beq o k) else
        match s.views.get v, s.views.get u with
        | some V, some U => bif Nat.beq V.root U.root then none else
          match s.roots.get V.root, s.roots.get U.root with
          | some R, some Q => bif !R.sish && Nat.beq R.flo R.fhi && !Q.sish && Nat.beq Q.flo Q.fhi then some false else none
          | _, _ => none
        | _, _ => none
      | _, _ => none
    | none => none
  | _ => none

theorem not_frozen {w : World} {b o : Nat} {c : Array Value} {e : TypeId} {fr : Nat × Nat} (h : w.heap[b]? = some (.cells c e fr)) (hn : fr.2 ≤ fr.1) : w.frozen? ⟨b, o, none⟩ = false := frozen_not h (fun ⟨x, y⟩ => by omega)

theorem aeqPtr_sound (hP : TbOk P tb) (r : Rel w0 φ s w) {t : TypeId} {x y c e : Value} {b : Bool} (h : aeqPtr tb s t x y = some b) (hx : VR φ x c) (hy : VR φ y e) :
    (Op.equal t c e).run P w = .ok b w ∧ (∃ a a', c = .pointer (some a) ∧ e = .pointer (some a')) := by
  unfold aeqPtr at h
  split at h
  · rename_i el hu
    split at h
    · rename_i i hi
      cases hz : Nat.beq i.size 0 with
      | true => rw [hz] at h; cases h
      | false =>
        rw [hz] at h
        simp only [cond_false] at h
        have hne : i.size ≠ 0 := fun e => by rw [beq_iff.2 e] at hz; cases hz
        split at h
        · rename_i v o u k
          cases hx with
          | ptr _ _ tv hv =>
          cases hy with
          | ptr _ _ tu hu' =>
          obtain ⟨n, h0⟩ : ∃ n, Op.maxDepth = n + 1 := ⟨9999, rfl⟩
          refine ⟨?_, _, _, rfl, rfl⟩
          have base : (Op.equal t (.pointer (some ⟨tv.blk, o, none⟩)) (.pointer (some ⟨tu.blk, k, none⟩))).run P w = (sameAddr ⟨tv.blk, o, none⟩ ⟨tu.blk, k, none⟩).run P w := by
            unfold Op.equal
            rw [h0]
            simp [Op.equalIn, run_und (hP.und _ _ hu), run_size (hP.info _ _ hi), hne]
          rw [base]
          cases hvu : Nat.beq v u with
          | true =>
            rw [hvu] at h
            cases h
            have e := beq_iff.1 hvu
            subst e
            rw [hv] at hu'; cases hu'
            simp only [sameAddr, beq_self_eq_true, if_true, Sem.run_pure]
            congr 1
            rw [Bool.eq_iff_iff, beq_iff]
            simp
          | false =>
            rw [hvu] at h
            simp only [cond_false] at h
            split at h
            · rename_i V U hV hU
              cases hr : Nat.beq V.root U.root with
              | true => rw [hr] at h; cases h
              | false =>
                rw [hr] at h
                simp only [cond_false] at h
                split at h
                · rename_i R Q hR hQ
                  cases hc : (!R.sish && Nat.beq R.flo R.fhi && !Q.sish && Nat.beq Q.flo Q.fhi) with
                  | false => rw [hc] at h; cases h
                  | true =>
                    rw [hc] at h
                    cases h
                    simp only [Bool.and_eq_true, Bool.not_eq_true'] at hc
                    obtain ⟨⟨⟨c1, c2⟩, c3⟩, c4⟩ := hc
                    have hb : tv.blk ≠ tu.blk := by
                      intro e
                      rcases r.inj v u tv tu hv hu' e with rfl | ⟨V1, V2, g1, g2, g3⟩
                      · rw [Nat.beq_refl] at hvu; cases hvu
                      · rw [hV] at g1; rw [hU] at g2; cases g1; cases g2
                        rw [beq_iff.2 g3] at hr; cases hr
                    obtain ⟨R1, hR1, b1⟩ := r.view v tv V hv hV
                    rw [hR] at hR1; cases hR1
                    obtain ⟨Q1, hQ1, b2⟩ := r.view u tu U hu' hU
                    rw [hQ] at hQ1; cases hQ1
                    obtain ⟨ca, fa, a1, a2, a3, _⟩ := b1.blk
                    obtain ⟨cb, fb, d1, d2, d3, _⟩ := b2.blk
                    have fA := fun o => not_frozen (o := o) a1 (a3.none c1 (beq_iff.1 c2))
                    have fB := fun o => not_frozen (o := o) d1 (d3.none c3 (beq_iff.1 c4))
                    have sA : w.shape? tv.blk = some (R.elem, tv.n) := r.shape hv hV hR
                    have sB : w.shape? tu.blk = some (Q.elem, tu.n) := r.shape hu' hU hQ
                    have hbeq : (tv.blk == tu.blk) = false := by simpa using hb
                    simp [sameAddr, hbeq, fA, fB, noView, viewAt, sA, sB, mayBeOne, stringish]
                · cases h
            · cases h
        · cases h
    · cases h
  · cases h

def aeqP (tb : Tb) (s : St) (op : BinOp) (t : TypeId) (x y : Value) : Option Value :=
  match aeqPtr tb s t x y with
  | none => none
  | some b => match op with
    | .eql => some (.bool b)
    | .neq => some (.bool !b)
    | _ => none

/-- unsafe.Pointer and back. -/
def aptrConv (P : Program) (tb : Tb) (s : St) (src dst : TypeId) (x : Value) : Option Value :=
  match x with
  | .pointer (some ⟨v, o, none⟩) => match s.views.get v with
    | none => none
    | some V => match s.roots.get V.root with
      | none => none
      | some R => match tb.und.get src, tb.und.get dst with
        | some (.pointer t), some .unsafePointer => match tb.info.get t with
          | none => none
          | some i => bif !(Nat.beq i.size 0) && Nat.blt o V.ext then some x else none
        | some .unsafePointer, some (.pointer u) => match tb.info.get u with
          | none => none
          | some i => bif V.exact && liesAt P P.depth R.elem (V.ext / P.cellsOf R.elem) o u 1 then some x else none
        | _, _ => none
  | _ => none

theorem aptrConv_sound (hP : TbOk P tb) (r : Rel w0 φ s w) {src dst : TypeId} {x c out : Value} (h : aptrConv P tb s src dst x = some out) (hx : VR φ x c) :
    ∃ c', (convert src dst c).run P w = .ok c' w ∧ VR φ out c' := by
  unfold aptrConv at h
  split at h
  · rename_i v o
    split at h
    · cases h
    · rename_i V hV
      split at h
      · cases h
      · rename_i R hR
        cases hx with
        | ptr _ _ t' hv =>
          have hsh : w.shape? t'.blk = some (R.elem, t'.n) := r.shape hv hV hR
          obtain ⟨R', hR', b⟩ := r.view v t' V hv hV
          rw [hR] at hR'; cases hR'
          split at h
          · rename_i t hs hd
            split at h
            · cases h
            · rename_i i hi
              cases hc : (!(Nat.beq i.size 0) && Nat.blt o V.ext) with
              | false => rw [hc] at h; cases h
              | true =>
                rw [hc] at h
                cases h
                rw [Bool.and_eq_true] at hc
                have hne : i.size ≠ 0 := fun e => by rw [beq_iff.2 e] at hc; cases hc.1
                have hlt : ¬ t'.n ≤ o := by have := blt_iff.1 hc.2; have := b.ext; omega
                refine ⟨_, ?_, .ptr _ _ _ hv⟩
                simp [convert, run_und (hP.und _ _ hs), run_und (hP.und _ _ hd), Conv.unsafePointer, Conv.seenAt, viewAt, cellsIn, hsh, run_size (hP.info _ _ hi), hne, hlt]
          · rename_i u hs hd
            split at h
            · cases h
            · rename_i i hi
              cases hc : (V.exact && liesAt P P.depth R.elem (V.ext / P.cellsOf R.elem) o u 1) with
              | false => rw [hc] at h; cases h
              | true =>
                rw [hc] at h
                cases h
                rw [Bool.and_eq_true] at hc
                have hn := b.exact hc.1
                refine ⟨_, ?_, .ptr _ _ _ hv⟩
                have hl := hc.2
                rw [← hn] at hl
                simp [convert, run_und (hP.und _ _ hs), run_und (hP.und _ _ hd), Conv.unsafePointer, Conv.seenAt, viewAt, hsh, variablesAt, hl, run_size (hP.info _ _ hi)]
          · cases h
  · cases h
end
end Go.Proofs.YtcmlomjdkjcjpaaGreatDoor.Vai
