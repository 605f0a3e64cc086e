/- A part of an evaluator of the model's code whose answers are proved sound: no statement on the program stands here. -/
import Derived.Test.YtpbgaoodokapeaaDoorVaiV2
open Go Go.RowKit
namespace Go.Proofs.YtpbgaoodokapeaaDoor.Vai
set_option linter.unusedVariables false
set_option linter.unusedSimpArgs false

section
variable {P : Program} {tb : Tb} {w0 : World}

theorem fstep_leave {b : Frame} {a : Act} {cs : List Frame} {w : World} {td : List Item} (hr : b.roundOf = none) (h : td = [] ∨ ∃ m, td = .code .ret :: m) :
    step P (lone (fat b a td) cs w) = .next (lone { fat b a td with mode := .returning } cs w) := by
  rcases h with rfl | ⟨m, rfl⟩
  · exact step_lone_go (by simp [stepG, stepG.exec, fat, hr])
  · exact step_lone_go (by simp [stepG, stepG.exec, fat, hr])

theorem aresults_sound (hP : TbOk P tb) {φ : Emb} {s : St} {w : World} {fr : Fr} {a : Act} (r : Rel w0 φ s w) (f : FR φ fr a) (g : ResultVar → Sem Value) (hg1 : ∀ t, g (.tmp t) = pure (a.tmps.getD t undef))
    (hg2 : ∀ ad t, g (.cell ad t) = (asAddr (a.tmps.getD ad undef) >>= fun x => loadVar t x)) : ∀ (l : List ResultVar) (vs : List Value), aresults tb fr s l = some vs →
    ∃ cl, VRL φ vs cl ∧ (l.mapM g).run P w = .ok cl w := by
  intro l
  induction l with
  | nil =>
    intro vs h
    simp only [aresults, Option.some.injEq] at h
    subst h
    exact ⟨[], .nil, rfl⟩
  | cons x l ih =>
    intro vs h
    simp only [aresults] at h
    split at h
    · rename_i v vs' hv hvs
      cases h
      obtain ⟨cl, h1, h2⟩ := ih vs' hvs
      have hx : ∃ c, VR φ v c ∧ (g x).run P w = .ok c w := by
        cases x with
        | tmp t =>
          obtain ⟨c, e1, e2⟩ := f.at_ t v hv
          refine ⟨c, e2, ?_⟩
          rw [hg1]; simp [Array.getD_eq_getD_getElem?, e1]
        | cell ad t =>
          simp only [aresult] at hv
          split at hv
          · rename_i bv o hb
            obtain ⟨c, e1, e2⟩ := f.at_ ad _ hb
            cases e2 with
            | ptr _ _ tg ht =>
              obtain ⟨c2, g1, g2⟩ := r.run_loadVar hP ht hv
              refine ⟨c2, g2, ?_⟩
              rw [hg2]; simp [Array.getD_eq_getD_getElem?, e1, asAddr, g1]
          · cases hv
      obtain ⟨c, e1, e2⟩ := hx
      refine ⟨c :: cl, .cons _ _ _ _ e1 h1, ?_⟩
      simp only [List.mapM_cons, Sem.run_bind, e2, Result.andThen_ok, h2, Sem.run_pure]
    · cases h

theorem packed_rel {φ : Emb} {l : List Value} {cl : List Value} (h : VRL φ l cl) : VR φ (packed l) (if h : cl.toArray.size = 1 then cl.toArray[0] else .tuple cl.toArray) := by
  have tup : ∀ l cl : List Value, VRL φ l cl → VR φ (.tuple ⟨l⟩) (.tuple cl.toArray) := by
    intro l cl h
    refine .tuple _ _ (by simpa using h.length) ?_
    intro i x y hx hy
    have hx' : l[i]? = some x := by simpa using hx
    obtain ⟨y', e1, e2⟩ := h.get hx'
    have : cl[i]? = some y := by simpa using hy
    rw [this] at e1
    cases e1; exact e2
  cases h with
  | nil => exact tup [] [] .nil
  | @cons a c l cl h1 h2 =>
    cases h2 with
    | nil => simpa [packed] using h1
    | @cons a' c' l' cl' h3 h4 =>
      rw [dif_neg (by simp)]
      exact tup _ _ (.cons _ _ _ _ h1 (.cons _ _ _ _ h3 h4))

theorem argsT_get : ∀ (l : List Value) (i : Nat) (t : T Value) (k : Nat) (v : Value), (argsT i l t).get k = some v → (∃ j, k = i + j ∧ l[j]? = some v) ∨ t.get k = some v := by
  intro l
  induction l with
  | nil => intro i t k v h; exact .inr h
  | cons a l ih =>
    intro i t k v h
    rcases ih (i + 1) _ k v h with ⟨j, e, hj⟩ | h
    · exact .inl ⟨j + 1, by omega, by simpa using hj⟩
    · by_cases e : k = i
      · subst e
        rw [T.get_set_same] at h
        cases h
        exact .inl ⟨0, rfl, rfl⟩
      · rw [T.get_set_other _ _ e] at h
        exact .inr h

theorem fun_sound (hP : TbOk P tb) (hmix : P.follows .mixedOrders = true) (L : Nat) : ∀ d, CallOk P w0 (aFun P tb L d) := by
  intro d
  induction d with
  | zero => intro f args s v s' h; cases h
  | succ d ih =>
    intro f args s v s' h φ w cargs r hargs
    simp only [aFun] at h
    split at h
    · cases h
    · rename_i fn hfn
      split at h
      · cases h
      · rename_i c hbody
        obtain ⟨p1, p2⟩ := hP.fns _ _ hfn
        have fin : ∀ (ex : Ex) (fr' : Fr) (sx : St) (l : List Value), (∀ id, ex ≠ .exit id) → aExec P tb (aFun P tb L d) L c ⟨argsT 0 args .nil, Nat.add args.length (Nat.sub fn.ntmps args.length)⟩ s = some (ex, fr', sx) → aresults tb fr' sx fn.results.toList = some l →
            Calls P f cargs.toArray w (Post w0 φ s sx (packed l)) := by
          intro ex fr' sx l hex hexec hres cs
          have hlen := hargs.length
          have f0 : FR φ ⟨argsT 0 args .nil, Nat.add args.length (Nat.sub fn.ntmps args.length)⟩ ⟨cargs.toArray ++ Array.replicate (fn.ntmps - cargs.toArray.size) undef, []⟩ := by
            refine ⟨?_, ?_⟩
            · show (cargs.toArray ++ Array.replicate (fn.ntmps - cargs.toArray.size) undef).size = args.length + (fn.ntmps - args.length)
              simp [hlen]
            · intro t v ht
              rcases argsT_get _ _ _ _ _ ht with ⟨j, rfl, hj⟩ | h
              · obtain ⟨y, h1, h2⟩ := hargs.get hj
                refine ⟨y, ?_, h2⟩
                rw [Nat.zero_add, Array.getElem?_append_left (by simpa using (List.getElem?_eq_some_iff.1 h1).1)]
                simpa using h1
              · cases h
          have hent : Frame.enter P f cargs.toArray .normal = fat { fn := f, tmps := #[], todo := [], defers := [], mode := .run, kind := .normal } ⟨cargs.toArray ++ Array.replicate (fn.ntmps - cargs.toArray.size) undef, []⟩ [.code c] := by
            simp [Frame.enter, p1, hbody, fat]
          obtain ⟨ψ, a', w', td, e1, e2, e3, e4, e5, e6, e7⟩ := exec_sound hP hmix ih L c _ fr' s sx ex hexec φ _ w r f0 { fn := f, tmps := #[], todo := [], defers := [], mode := .run, kind := .normal } [] cs _ (.code c [])
          have htd : td = [] ∨ ∃ m, td = .code .ret :: m := by
            cases ex with
            | norm => exact .inl e2
            | exit id => exact absurd rfl (hex id)
            | ret => exact .inr e2
          have key : ∀ g : ResultVar → Sem Value, (∀ t, g (.tmp t) = pure (a'.tmps.getD t undef)) → (∀ ad t, g (.cell ad t) = (asAddr (a'.tmps.getD ad undef) >>= fun x => loadVar t x)) →
              ∃ cl, VRL ψ l cl ∧ ((fn.results.mapM g >>= fun vs => pure (if h : vs.size = 1 then vs[0] else .tuple vs) : Sem Value)).run P w' = .ok (if h : cl.toArray.size = 1 then cl.toArray[0] else .tuple cl.toArray) w' := by
            intro g hg1 hg2
            obtain ⟨cl, g1, g2⟩ := aresults_sound hP e5 e6 g hg1 hg2 _ _ hres
            refine ⟨cl, g1, ?_⟩
            rw [Sem.run_bind, run_mapM_array g fn.results g2]
            rfl
          obtain ⟨cl, g1, hrun⟩ : ∃ cl, VRL ψ l cl ∧ (results fn a'.tmps).run P w' = .ok (if h : cl.toArray.size = 1 then cl.toArray[0] else .tuple cl.toArray) w' := by
            unfold results
            refine key _ ?_ ?_
            · intro t; rfl
            · intro ad t; rfl
          refine ⟨.returned (if h : cl.toArray.size = 1 then cl.toArray[0] else .tuple cl.toArray), w', { fat { fn := f, tmps := #[], todo := [], defers := [], mode := .run, kind := .normal } a' td with mode := .returning }, ⟨ψ, _, rfl, e3, e4, e5, packed_rel g1⟩, ?_, ?_, ?_⟩
          · rw [hent]
            exact Steps.trans e1 (.one (fstep_leave rfl htd))
          · rfl
          · exact ⟨rfl, e7, rfl, fn, p1, hrun⟩
        split at h
        · cases h
        · rename_i ex fr' sx hne hexec
          split at h
          · rename_i l hl
            simp only [Option.some.injEq, Prod.mk.injEq] at h
            obtain ⟨rfl, rfl⟩ := h
            exact fin ex fr' sx l (fun id e => hne id e) hexec hl
          · cases h
        · cases h
end
end Go.Proofs.YtpbgaoodokapeaaDoor.Vai
