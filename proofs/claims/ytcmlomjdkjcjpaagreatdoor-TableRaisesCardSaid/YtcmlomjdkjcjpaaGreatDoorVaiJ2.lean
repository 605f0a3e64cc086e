/- A part of an evaluator of the model's code whose answers are proved sound: no statement on the program stands here. -/
import Derived.Test.YtcmlomjdkjcjpaaGreatDoorVaiJ
open Go Go.RowKit
namespace Go.Proofs.YtcmlomjdkjcjpaaGreatDoor.Vai
set_option linter.unusedVariables false
set_option linter.unusedSimpArgs false

/-! ### keys of maps -/
def aeqKey (P : Program) (tb : Tb) (s : St) (kt : TypeId) (x y : Value) : Option Bool :=
  bif plain x && plain y then pureRun P (Op.equal kt x y) else aeqPtr tb s kt x y

def afindNow (kind : TypeDesc) (k : Value) : List AEnt → Nat → Option (Option (Nat × Value))
  | [], _ => some none
  | e :: es, i =>
    match Instr.sameNow kind k e.key with
    | some true => some (some (i, e.val))
    | some false => afindNow kind k es (i + 1)
    | none => none

def afindAsk (P : Program) (tb : Tb) (s : St) (kt : TypeId) (k : Value) : List AEnt → Nat → Option (Option (Nat × Value))
  | [], _ => some none
  | e :: es, i => match aeqKey P tb s kt k e.key with
    | none => none
    | some true => some (some (i, e.val))
    | some false => afindAsk P tb s kt k es (i + 1)

def afindKey (P : Program) (tb : Tb) (s : St) (kt : TypeId) (k : Value) (es : List AEnt) : Option (Option (Nat × Value)) :=
  match tb.und.get kt with
  | none => none
  | some d => bif isSy k || es.any (fun e => isSy e.key) then none else match afindNow d k es 0 with
    | some r => some r
    | none => afindAsk P tb s kt k es 0

def deepKey : TypeDesc → Bool
  | .interface _ => true
  | .array _ _ => true
  | .struct _ => true
  | _ => false

def acheckKey (P : Program) (tb : Tb) (empty : Bool) (kt : TypeId) (k : Value) : Bool :=
  match tb.und.get kt with
  | none => false
  | some d => bif deepKey d then (bif plain k then (match pureRun P (Instr.checkKey empty 10000 kt k) with | some _ => true | none => false) else false) else true

/-- A key that takes the place of one that equals it: are they the same to the bit? -/
def asameBits (x y : Value) : Bool :=
  bif plain x && plain y then Instr.sameBits 10000 x y else match x, y with
    | .pointer (some ⟨v, o, none⟩), .pointer (some ⟨u, k, none⟩) => Nat.beq v u && Nat.beq o k
    | _, _ => false

inductive FindR (φ : Emb) : Option (Nat × Value) → Option (Nat × Value) → Prop where
  | none : FindR φ none none
  | some (i : Nat) (v c : Value) (h : VR φ v c) : FindR φ (some (i, v)) (some (i, c))

section
variable {P : Program} {tb : Tb} {w0 : Base} {φ : Emb} {s : St} {w : World}

theorem aeqKey_sound (hP : TbOk P tb) (r : Rel w0 φ s w) {kt : TypeId} {x y c e : Value} {b : Bool} (h : aeqKey P tb s kt x y = some b) (hx : VR φ x c) (hy : VR φ y e) :
    (Op.equal kt c e).run P w = .ok b w := by
  unfold aeqKey at h
  cases hp : (plain x && plain y) with
  | true =>
    rw [hp] at h
    rw [Bool.and_eq_true] at hp
    rw [hx.eq_of_plain hp.1, hy.eq_of_plain hp.2]
    exact pureRun_run _ h w
  | false => rw [hp] at h; exact (aeqPtr_sound hP r h hx hy).1

theorem sameNow_rel {d : TypeDesc} {x y c e : Value} (hx : VR φ x c) (hy : VR φ y e) (h1 : isSy x = false) (h2 : isSy y = false) : Instr.sameNow d c e = Instr.sameNow d x y := by
  cases d with
  | int k => cases hx <;> cases hy <;> first | rfl | (simp [isSy] at h1; done) | (simp [isSy] at h2; done)
  | string => cases hx <;> cases hy <;> first | rfl | (simp [isSy] at h1; done) | (simp [isSy] at h2; done)
  | bool => cases hx <;> cases hy <;> first | rfl | (simp [isSy] at h1; done) | (simp [isSy] at h2; done)
  | _ => rfl

theorem afindNow_sound {d : TypeDesc} {k kc : Value} (hk : VR φ k kc) {es : List AEnt} {cs : List MapEntry} (he : EntsR φ es cs) (hk0 : isSy k = false) : es.any (fun e => isSy e.key) = false → ∀ i : Nat,
    (∀ r, afindNow d k es i = some r → ∃ r', Instr.findNow d kc cs i = some r' ∧ FindR φ r r') ∧ (afindNow d k es i = none → Instr.findNow d kc cs i = none) := by
  induction he with
  | nil => intro _ i; exact ⟨fun r h => (by cases h; exact ⟨none, rfl, .none⟩), fun h => (by cases h)⟩
  | cons a e l m h1 h2 h3 _ ih =>
    intro hne i
    rw [List.any_cons, Bool.or_eq_false_iff] at hne
    have ih := ih hne.2
    have hs : Instr.sameNow d kc e.key = Instr.sameNow d k a.key := sameNow_rel hk h1 hk0 hne.1
    simp only [afindNow, Instr.findNow, hs]
    cases Instr.sameNow d k a.key with
    | none => exact ⟨fun r h => (by cases h), fun _ => rfl⟩
    | some b => cases b with
      | true => exact ⟨fun r h => (by cases h; exact ⟨_, rfl, .some _ _ _ h2⟩), fun h => (by cases h)⟩
      | false => exact ih (i + 1)

theorem afindAsk_sound (hP : TbOk P tb) (r : Rel w0 φ s w) {kt : TypeId} {k kc : Value} (hk : VR φ k kc) {es : List AEnt} {cs : List MapEntry} (he : EntsR φ es cs) : ∀ (i : Nat) (res : Option (Nat × Value)),
    afindAsk P tb s kt k es i = some res → ∃ r', (Instr.findAsking kt kc cs i).run P w = .ok r' w ∧ FindR φ res r' := by
  induction he with
  | nil => intro i res h; cases h; exact ⟨none, by simp [Instr.findAsking], .none⟩
  | cons a e l m h1 h2 h3 _ ih =>
    intro i res h
    simp only [afindAsk] at h
    split at h
    · cases h
    · rename_i hq
      cases h
      exact ⟨_, by simp [Instr.findAsking, aeqKey_sound hP r hq hk h1], .some _ _ _ h2⟩
    · rename_i hq
      obtain ⟨r', e1, e2⟩ := ih (i + 1) res h
      exact ⟨r', by simp [Instr.findAsking, aeqKey_sound hP r hq hk h1, e1], e2⟩

theorem afindKey_sound (hP : TbOk P tb) (r : Rel w0 φ s w) {kt : TypeId} {k kc : Value} (hk : VR φ k kc) {es : List AEnt} {cs : List MapEntry} (he : EntsR φ es cs) {res : Option (Nat × Value)}
    (h : afindKey P tb s kt k es = some res) : ∃ r', (Instr.findKey kt kc cs).run P w = .ok r' w ∧ FindR φ res r' := by
  unfold afindKey at h
  split at h
  · cases h
  · rename_i d hd
    cases hb : (isSy k || es.any (fun e => isSy e.key)) with
    | true => rw [hb] at h; cases h
    | false =>
    rw [hb] at h
    rw [Bool.or_eq_false_iff] at hb
    simp only [cond_false] at h
    have hn := afindNow_sound (d := d) hk he hb.1 hb.2 0
    split at h
    · rename_i q hq
      cases h
      obtain ⟨r', e1, e2⟩ := hn.1 _ hq
      exact ⟨r', by simp [Instr.findKey, run_und (hP.und _ _ hd), e1], e2⟩
    · rename_i hq
      obtain ⟨r', e1, e2⟩ := afindAsk_sound hP r hk he 0 res h
      exact ⟨r', by simp [Instr.findKey, run_und (hP.und _ _ hd), hn.2 hq, e1], e2⟩

theorem acheckKey_sound (hP : TbOk P tb) {empty : Bool} {kt : TypeId} {k kc : Value} (h : acheckKey P tb empty kt k = true) (hk : VR φ k kc) (w : World) :
    (Instr.checkKey empty 10000 kt kc).run P w = .ok () w := by
  unfold acheckKey at h
  split at h
  · cases h
  · rename_i d hd
    cases hq : deepKey d with
    | true =>
      rw [hq] at h
      simp only [cond_true] at h
      cases hp : plain k with
      | false => rw [hp] at h; cases h
      | true =>
        rw [hp] at h
        rw [hk.eq_of_plain hp]
        simp only [cond_true] at h
        split at h
        · rename_i u hu; cases u; exact pureRun_run _ hu w
        · cases h
    | false =>
      have : ∀ n, (Instr.checkKey empty (n + 1) kt kc).run P w = .ok () w := by
        intro n
        unfold Instr.checkKey
        simp only [Sem.run_bind, run_und (hP.und _ _ hd), Result.andThen_ok]
        cases d <;> first | rfl | (cases hq; done)
      exact this 9999

theorem asameBits_sound {x y c e : Value} (h : asameBits x y = true) (hx : VR φ x c) (hy : VR φ y e) : Instr.sameBits 10000 c e = true := by
  unfold asameBits at h
  cases hp : (plain x && plain y) with
  | true =>
    rw [hp] at h
    rw [Bool.and_eq_true] at hp
    rw [hx.eq_of_plain hp.1, hy.eq_of_plain hp.2]; exact h
  | false =>
    rw [hp] at h
    simp only [cond_false] at h
    split at h
    · rename_i v o u k
      rw [Bool.and_eq_true] at h
      have e1 := beq_iff.1 h.1
      have e2 := beq_iff.1 h.2
      subst e1; subst e2
      cases hx with
      | ptr _ _ t1 h1 => cases hy with
        | ptr _ _ t2 h2 =>
          rw [h1] at h2; cases h2
          have : ∀ n, Instr.sameBits (n + 1) (.pointer (some ⟨t1.blk, o, none⟩)) (.pointer (some ⟨t1.blk, o, none⟩)) = true := by
            intro n; simp [Instr.sameBits]
          exact this 9999
    · cases h

/-! ### a map's entries -/
def aents (s : St) (m : Value) : Option (List AEnt) :=
  match m with
  | .map none => some []
  | .map (some r) => match s.objs.get r with
    | some (.map es _) => some es
    | _ => none
  | _ => none

def alookup (P : Program) (tb : Tb) (s : St) (t : TypeId) (x ix : Value) (commaOk : Bool) : Option Value :=
  match tb.und.get t with
  | some (.map key elem) => match aents s x with
    | none => none
    | some es => bif acheckKey P tb es.isEmpty key ix then
        match afindKey P tb s key ix es with
        | none => none
        | some (some (_, v)) => some (bif commaOk then .tuple #[v, .bool true] else v)
        | some none => match tb.info.get elem with
          | none => none
          | some i => match i.zero with
            | none => none
            | some z => bif plain z then some (bif commaOk then .tuple #[z, .bool false] else z) else none
      else none
  | _ => none

theorem VR.pair {a c : Value} (h : VR φ a c) (b : Bool) : VR φ (.tuple #[a, .bool b]) (.tuple #[c, .bool b]) := by
  refine .tuple _ _ rfl (fun i x y hx hy => ?_)
  match i with
  | 0 => simp at hx hy; subst hx; subst hy; exact h
  | 1 => simp at hx hy; subst hx; subst hy; exact .bool b
  | n + 2 => simp at hx

theorem EntsR.isEmpty {a : List AEnt} {c : List MapEntry} (h : EntsR φ a c) : c.isEmpty = a.isEmpty := by cases h <;> rfl

theorem alookup_sound (hP : TbOk P tb) (r : Rel w0 φ s w) {t : TypeId} {x ix c ci out : Value} {k : Bool} (h : alookup P tb s t x ix k = some out) (hx : VR φ x c) (hi : VR φ ix ci) :
    ∃ c', (Instr.lookup t c ci k).run P w = .ok c' w ∧ VR φ out c' := by
  unfold alookup at h
  split at h
  · rename_i key elem hu
    split at h
    · cases h
    · rename_i es hes
      cases hck : acheckKey P tb es.isEmpty key ix with
      | false => rw [hck] at h; cases h
      | true =>
        rw [hck] at h
        simp only [cond_true] at h
        have main : ∀ cs : Array MapEntry, EntsR φ es cs.toList → (Instr.checkKey cs.isEmpty 10000 key ci).run P w = .ok () w ∧
            ((∃ i cv, (Instr.findKey key ci cs.toList).run P w = .ok (some (i, cv)) w ∧ VR φ out (if k then .tuple #[cv, .bool true] else cv)) ∨
             (∃ z, (Instr.findKey key ci cs.toList).run P w = .ok none w ∧ (zeroValue elem).run P w = .ok z w ∧ VR φ out (if k then .tuple #[z, .bool false] else z))) := by
          intro cs he
          have hemp : cs.isEmpty = es.isEmpty := by rw [← he.isEmpty]; simp
          have h1 := acheckKey_sound hP (by rw [hck] : acheckKey P tb es.isEmpty key ix = true) hi w
          refine ⟨by rw [hemp]; exact h1, ?_⟩
          split at h
          · cases h
          · rename_i i v hf
            obtain ⟨r', e1, e2⟩ := afindKey_sound hP r hi he hf
            cases e2 with
            | some _ _ cv hv =>
              cases h
              refine .inl ⟨i, cv, e1, ?_⟩
              cases k with
              | true => exact hv.pair true
              | false => exact hv
          · rename_i hf
            obtain ⟨r', e1, e2⟩ := afindKey_sound hP r hi he hf
            cases e2
            split at h
            · cases h
            · rename_i inf hinf
              split at h
              · cases h
              · rename_i z hz
                cases hpz : plain z with
                | false => rw [hpz] at h; cases h
                | true =>
                  rw [hpz] at h
                  cases h
                  refine .inr ⟨z, e1, run_zero (hP.info _ _ hinf) hz, ?_⟩
                  have hv := VR.of_plain φ z hpz
                  cases k with
                  | true => exact hv.pair false
                  | false => exact hv
        unfold aents at hes
        split at hes
        · cases hes
          cases hx
          obtain ⟨h1, ⟨i, cv, e1, e2⟩ | ⟨z, e1, ez, e2⟩⟩ := main #[] .nil
          · exact ⟨_, by simp only [Instr.lookup, Sem.run_bind, run_und (hP.und _ _ hu), Result.andThen_ok, Sem.run_pure, h1, e1], e2⟩
          · exact ⟨_, by simp only [Instr.lookup, Sem.run_bind, run_und (hP.und _ _ hu), Result.andThen_ok, Sem.run_pure, h1, e1, ez], e2⟩
        · rename_i v
          split at hes
          · rename_i es' ck ho
            cases hes
            cases hx with
            | map _ tt hv =>
              obtain ⟨ob, g1, g2⟩ := r.getObj hv ho
              cases g2 with
              | map _ cs _ he =>
                obtain ⟨h1, ⟨i, cv, e1, e2⟩ | ⟨z, e1, ez, e2⟩⟩ := main cs he
                · exact ⟨_, by simp only [Instr.lookup, Sem.run_bind, run_und (hP.und _ _ hu), Result.andThen_ok, getObj, Sem.run, g1, Sem.run_pure, h1, e1], e2⟩
                · exact ⟨_, by simp only [Instr.lookup, Sem.run_bind, run_und (hP.und _ _ hu), Result.andThen_ok, getObj, Sem.run, g1, Sem.run_pure, h1, e1, ez], e2⟩
          · cases hes
        · cases hes
  · cases h
end
end Go.Proofs.YtcmlomjdkjcjpaaGreatDoor.Vai
