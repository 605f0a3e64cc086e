/- A part of an evaluator of the model's code whose answers are proved sound: no statement on the program stands here. -/
import Derived.Test.YtcmlomjdkjcjpaaGreatDoorVaiV2
open Go Go.RowKit
namespace Go.Proofs.YtcmlomjdkjcjpaaGreatDoor.Vai
set_option linter.unusedVariables false
set_option linter.unusedSimpArgs false

section
variable {P : Program} {tb : Tb} {w0 : Base}

theorem fstep_leave {b : Frame} {a : Act} {cs : List Frame} {w : World} {td : List Item} (hr : b.roundOf = none) (h : td = [] ∨ ∃ m, td = .code .ret :: m) :
    step P (lone (fat b a td) cs w) = .next (lone { fat b a td with mode := .returning } cs w) := by
  rcases h with rfl | ⟨m, rfl⟩
  · exact step_lone_go (by simp [stepG, stepG.exec, fat, hr])
  · exact step_lone_go (by simp [stepG, stepG.exec, fat, hr])

theorem aresults_sound (hP : TbOk P tb) {φ : Emb} {s : St} {w : World} {fr : Fr} {a : Act} (r : Rel w0 φ s w) (f : FR φ fr a) (g : ResultVar → Sem Value) (hg1 : ∀ t, g (.tmp t) = pure (a.tmps.getD t undef))
    (hg2 : ∀ ad t, g (.cell ad t) = (asAddr (a.tmps.getD ad undef) >>= fun x => loadVar t x)) : ∀ (l : List ResultVar) (vs : List Value), aresults tb fr s l = some vs →
    ∃ cl, VRL φ vs cl ∧ (l.mapM g).run P w = .ok cl w := by
  intro l
  induction l with
  | nil =>
    intro vs h
    simp only [aresults, Option.some.injEq] at h
    subst h
    exact ⟨[], .nil, rfl⟩
  | cons x l ih =>
    intro vs h
    simp only [aresults] at h
    split at h
    · rename_i v vs' hv hvs
      cases h
      obtain ⟨cl, h1, h2⟩ := ih vs' hvs
      have hx : ∃ c, VR φ v c ∧ (g x).run P w = .ok c w := by
        cases x with
        | tmp t =>
          obtain ⟨c, e1, e2⟩ := f.at_ t v hv
          refine ⟨c, e2, ?_⟩
          rw [hg1]; simp [Array.getD_eq_getD_getElem?, e1]
        | cell ad t =>
          simp only [aresult] at hv
          split at hv
          · rename_i bv o hb
            obtain ⟨c, e1, e2⟩ := f.at_ ad _ hb
            cases e2 with
            | ptr _ _ tg ht =>
              obtain ⟨c2, g1, g2⟩ := r.run_loadVar hP ht hv
              refine ⟨c2, g2, ?_⟩
              rw [hg2]; simp [Array.getD_eq_getD_getElem?, e1, asAddr, g1]
          · cases hv
      obtain ⟨c, e1, e2⟩ := hx
      refine ⟨c :: cl, .cons _ _ _ _ e1 h1, ?_⟩
      simp only [List.mapM_cons, Sem.run_bind, e2, Result.andThen_ok, h2, Sem.run_pure]
    · cases h

theorem packed_rel {φ : Emb} {l : List Value} {cl : List Value} (h : VRL φ l cl) : VR φ (packed l) (if h : cl.toArray.size = 1 then cl.toArray[0] else .tuple cl.toArray) := by
  have tup : ∀ l cl : List Value, VRL φ l cl → VR φ (.tuple ⟨l⟩) (.tuple cl.toArray) := by
    intro l cl h
    refine .tuple _ _ (by simpa using h.length) ?_
    intro i x y hx hy
    have hx' : l[i]? = some x := by simpa using hx
    obtain ⟨y', e1, e2⟩ := h.get hx'
    have : cl[i]? = some y := by simpa using hy
    rw [this] at e1
    cases e1; exact e2
  cases h with
  | nil => exact tup [] [] .nil
  | @cons a c l cl h1 h2 =>
    cases h2 with
    | nil => simpa [packed] using h1
    | @cons a' c' l' cl' h3 h4 =>
      rw [dif_neg (by simp)]
      exact tup _ _ (.cons _ _ _ _ h1 (.cons _ _ _ _ h3 h4))

theorem argsT_get : ∀ (l : List Value) (i : Nat) (t : T Value) (k : Nat) (v : Value), (argsT i l t).get k = some v → (∃ j, k = i + j ∧ l[j]? = some v) ∨ t.get k = some v := by
  intro l
  induction l with
  | nil => intro i t k v h; exact .inr h
  | cons a l ih =>
    intro i t k v h
    rcases ih (i + 1) _ k v h with ⟨j, e, hj⟩ | h
    · exact .inl ⟨j + 1, by omega, by simpa using hj⟩
    · by_cases e : k = i
      · subst e
        rw [T.get_set_same] at h
        cases h
        exact .inl ⟨0, rfl, rfl⟩
      · rw [T.get_set_other _ _ e] at h
        exact .inr h

theorem atake_sound {ψ : Emb} {cs : List Frame} : ∀ (ds : List Nat) (s s' : St) (w : World) (m : List Deferred) (fr : Frame), atake ds s = some s' → Rel w0 ψ s w → DR ψ ds m → fr.mode = .returning → fr.defers = m →
    ∃ w', Steps P (lone fr cs w) (lone { fr with defers := [] } cs w') ∧ Rel w0 ψ s' w' ∧ s'.next = s.next := by
  intro ds
  induction ds with
  | nil =>
    intro s s' w m fr h r dr hm hd
    cases h; cases dr
    exact ⟨w, by rw [← hd]; exact .refl _ _, r, rfl⟩
  | cons d ds ih =>
    intro s s' w m fr h r dr hm hd
    cases dr with
    | cons _ t _ m' ht hl =>
      simp only [atake] at h
      split at h
      · rename_i hobj
        obtain ⟨c, h1, h2⟩ := r.getObj ht hobj
        cases h2
        obtain ⟨w', e1, e2, e3⟩ := ih _ s' _ m' { fr with defers := m' } h (r.setObj ht hobj .defsDone) hl hm rfl
        exact ⟨w', .head (step_collected (calls := []) (by rw [hm]; exact fun x => by cases x) hd rfl (run_takeDeferred h1)) e1, e2, e3⟩
      · cases h

theorem body_sound (hP : TbOk P tb) (hmix : P.follows .mixedOrders = true) {L : Nat} {call : ACall} (hC : CallOk P w0 call) {f : FuncId} {args : List Value} {s s' : St} {v : Value} (h : aBody P tb L call f args s = some (v, s'))
    {φ : Emb} {w : World} {cargs : List Value} (r : Rel w0 φ s w) (hargs : VRL φ args cargs) : (callFunc f cargs.toArray).run P w = .ok (.enter f cargs.toArray) w ∧ Calls P f cargs.toArray w (Post w0 φ s s' v) := by
  unfold aBody at h
  split at h
  · cases h
  · rename_i fn hfn
    split at h
    · cases h
    · rename_i c hbody
      obtain ⟨p1, p2⟩ := hP.fns _ _ hfn
      refine ⟨callFunc_body p1 p2 hbody _ _, ?_⟩
      have fin : ∀ (ex : Ex) (fr' : Fr) (ds : List Nat) (sx s2 : St) (l : List Value), (∀ id, ex ≠ .exit id) → aExec P tb call false L c ⟨argsT 0 args .nil, Nat.add args.length (Nat.sub fn.ntmps args.length)⟩ [] s = some (ex, fr', ds, sx) → atake ds sx = some s2 → aresults tb fr' s2 fn.results.toList = some l →
          Calls P f cargs.toArray w (Post w0 φ s s2 (packed l)) := by
        intro ex fr' ds sx s2 l hex hexec htake hres cs
        have hlen := hargs.length
        have f0 : FR φ ⟨argsT 0 args .nil, Nat.add args.length (Nat.sub fn.ntmps args.length)⟩ ⟨cargs.toArray ++ Array.replicate (fn.ntmps - cargs.toArray.size) undef, []⟩ := by
          refine ⟨?_, ?_⟩
          · show (cargs.toArray ++ Array.replicate (fn.ntmps - cargs.toArray.size) undef).size = args.length + (fn.ntmps - args.length)
            simp [hlen]
          · intro t v ht
            rcases argsT_get _ _ _ _ _ ht with ⟨j, rfl, hj⟩ | h
            · obtain ⟨y, h1, h2⟩ := hargs.get hj
              refine ⟨y, ?_, h2⟩
              rw [Nat.zero_add, Array.getElem?_append_left (by simpa using (List.getElem?_eq_some_iff.1 h1).1)]
              simpa using h1
            · cases h
        have hent : Frame.enter P f cargs.toArray .normal = fat { fn := f, tmps := #[], todo := [], defers := [], mode := .run, kind := .normal } ⟨cargs.toArray ++ Array.replicate (fn.ntmps - cargs.toArray.size) undef, []⟩ [.code c] := by
          simp [Frame.enter, p1, hbody, fat]
        obtain ⟨ψ, a', w', td, e1, e2, e3, e4, e5, e6, e7⟩ := exec_sound hP hmix hC false L c _ fr' [] ds s sx ex hexec φ _ w r f0 .nil { fn := f, tmps := #[], todo := [], defers := [], mode := .run, kind := .normal } [] cs _ (fun _ => rfl) (.code c [])
        have htd : td = [] ∨ ∃ m, td = .code .ret :: m := by
          cases ex with
          | norm => exact .inl e2
          | exit id => exact absurd rfl (hex id)
          | ret => exact .inr e2
        obtain ⟨w2, t1, t2, t3⟩ := atake_sound (P := P) (cs := cs) ds sx s2 w' a'.defers { fat { fn := f, tmps := #[], todo := [], defers := [], mode := .run, kind := .normal } a' td with mode := .returning } htake e5 e7 rfl rfl
        have key : ∀ g : ResultVar → Sem Value, (∀ t, g (.tmp t) = pure (a'.tmps.getD t undef)) → (∀ ad t, g (.cell ad t) = (asAddr (a'.tmps.getD ad undef) >>= fun x => loadVar t x)) →
            ∃ cl, VRL ψ l cl ∧ ((fn.results.mapM g >>= fun vs => pure (if h : vs.size = 1 then vs[0] else .tuple vs) : Sem Value)).run P w2 = .ok (if h : cl.toArray.size = 1 then cl.toArray[0] else .tuple cl.toArray) w2 := by
          intro g hg1 hg2
          obtain ⟨cl, g1, g2⟩ := aresults_sound hP t2 e6 g hg1 hg2 _ _ hres
          refine ⟨cl, g1, ?_⟩
          rw [Sem.run_bind, run_mapM_array g fn.results g2]
          rfl
        obtain ⟨cl, g1, hrun⟩ : ∃ cl, VRL ψ l cl ∧ (results fn a'.tmps).run P w2 = .ok (if h : cl.toArray.size = 1 then cl.toArray[0] else .tuple cl.toArray) w2 := by
          unfold results
          refine key _ ?_ ?_
          · intro t; rfl
          · intro ad t; rfl
        refine ⟨.returned (if h : cl.toArray.size = 1 then cl.toArray[0] else .tuple cl.toArray), w2, { { fat { fn := f, tmps := #[], todo := [], defers := [], mode := .run, kind := .normal } a' td with mode := .returning } with defers := [] }, ⟨ψ, _, rfl, e3, by rw [t3]; exact e4, t2, packed_rel g1⟩, ?_, ?_, ?_⟩
        · rw [hent]
          exact Steps.trans e1 (.head (fstep_leave rfl htd) t1)
        · rfl
        · exact ⟨rfl, rfl, rfl, fn, p1, hrun⟩
      split at h
      · cases h
      · rename_i ex fr' ds sx hne hexec
        split at h
        · rename_i s2 htake
          split at h
          · rename_i l hl
            simp only [Option.some.injEq, Prod.mk.injEq] at h
            obtain ⟨rfl, rfl⟩ := h
            exact fin ex fr' ds sx s2 l (fun id e => hne id e) hexec htake hl
          · cases h
        · cases h
      · cases h

theorem setPs_sound {n : Nat} {φ : Emb} : ∀ (ps : List Tmp) (vs cvs : List Value) (tm tm' : T Value) (tmps : Array Value), setPs n ps vs tm = some tm' → VRL φ vs cvs → FR φ ⟨tm, n⟩ ⟨tmps, []⟩ →
    ps.length = cvs.length ∧ FR φ ⟨tm', n⟩ ⟨(ps.zip cvs).foldl (fun tmps x => tmps.setIfInBounds x.1 x.2) tmps, []⟩ := by
  intro ps
  induction ps with
  | nil =>
    intro vs cvs tm tm' tmps h hv f
    cases hv with
    | nil => cases h; exact ⟨rfl, f⟩
    | cons => cases h
  | cons p ps ih =>
    intro vs cvs tm tm' tmps h hv f
    cases hv with
    | nil => cases h
    | @cons a c l cl h1 h2 =>
      simp only [setPs] at h
      cases hb : Nat.blt p n with
      | false => rw [hb] at h; cases h
      | true =>
        rw [hb] at h
        simp only [cond_true] at h
        have hf : FR φ ⟨tm.set p a, n⟩ (Act.put ⟨tmps, []⟩ (some p) c) := f.put (dst := some p) (by simp [aput, hb]) h1
        obtain ⟨e1, e2⟩ := ih _ _ _ _ _ h h2 hf
        exact ⟨by simp [e1], by simpa using e2⟩

theorem round_sound (hP : TbOk P tb) (hmix : P.follows .mixedOrders = true) {L : Nat} {call : ACall} (hC : CallOk P w0 call) {l : Nat} {args : List Value} {s s' : St} {v : Value} (h : aRound P tb L call l args s = some (v, s'))
    {φ : Emb} {w : World} {cargs : List Value} {t : Tgt} (r : Rel w0 φ s w) (ht : φ l = some t) (hargs : VRL φ args cargs) : RoundRuns P t.blk cargs.toArray w (Post w0 φ s s' v) := by
  unfold aRound at h
  split at h
  · rename_i st0 pend0 tm n ps as bd D hl
    split at h
    · cases h
    · rename_i tm1 htm
      obtain ⟨c0, h1, h2⟩ := r.getObj ht hl
      cases h2 with
      | loop _ _ _ _ _ _ _ _ td fn tmps psA hd hs hps e =>
        obtain ⟨k1, k2⟩ := setPs_sound (n := n) ps args cargs tm tm1 tmps htm hargs ⟨hs, e⟩
        subst hps
        have hyield := run_yield (P := P) (args := cargs.toArray) h1 (by simpa using k1.symm)
        refine ⟨fn, _, as, bd, hyield, ?_⟩
        simp only
        have hfold : ((⟨ps⟩ : Array Tmp).zip cargs.toArray).foldl (fun tmps (x : Tmp × Value) => tmps.setIfInBounds x.1 x.2) tmps = (ps.zip cargs).foldl (fun tmps x => tmps.setIfInBounds x.1 x.2) tmps := by
          rw [← Array.foldl_toList]
          simp
        rw [hfold]
        intro c cs
        have hfr : Frame.round t.blk fn ((ps.zip cargs).foldl (fun tmps x => tmps.setIfInBounds x.1 x.2) tmps) as bd .normal =
            fat { fn := fn, tmps := #[], todo := [], defers := [], mode := .run, kind := .normal, roundOf := some t.blk } ⟨(ps.zip cargs).foldl (fun tmps x => tmps.setIfInBounds x.1 x.2) tmps, []⟩ [.code as, .beginRound, .code bd] := rfl
        rw [hfr]
        generalize hbase : ({ fn := fn, tmps := #[], todo := [], defers := [], mode := .run, kind := .normal, roundOf := some t.blk } : Frame) = b
        have hb1 : b.roundOf = some t.blk := by rw [← hbase]
        have hb2 : b.kind = .normal := by rw [← hbase]
        split at h
        · rename_i fr1 ds1 s1 has
          split at h
          · cases h
          · rename_i s2 hbeg
            split at h
            · rename_i ex fr2 ds2 s3 hbd
              split at h
              · rename_i s4 hend
                cases h
                obtain ⟨ψ1, a1, w1, td1, e1, e2, e3, e4, e5, e6, e7⟩ := exec_sound hP hmix hC true L as _ _ _ _ _ _ _ has φ _ w r k2 .nil b [.beginRound, .code bd] (c :: cs) _ (fun x => by cases x) (.code as _)
                have e2' : td1 = [.beginRound, .code bd] := e2
                subst e2'
                have ht1 : ψ1 l = some t := (e3.le r) _ _ ht
                obtain ⟨w2, g1, g2, g3⟩ : ∃ w2, (Instr.beginRound t.blk).run P w1 = .ok () w2 ∧ Rel w0 ψ1 s2 w2 ∧ s2.next = s1.next := by
                  unfold abegin at hbeg
                  split at hbeg
                  · rename_i pend tm n ps as bd D hl
                    cases hbeg
                    obtain ⟨c0, h1, h2⟩ := e5.getObj ht1 hl
                    cases h2 with
                    | loop _ _ _ _ _ _ _ _ td fn tmps psA hd hs hps e =>
                      exact ⟨_, run_beginRound h1 rfl, e5.setObj ht1 hl (.loop _ _ _ _ _ _ _ _ td fn tmps psA hd hs hps e), rfl⟩
                  · cases hbeg
                obtain ⟨ψ3, a3, w3, td3, q1, q2, q3, q4, q5, q6, q7⟩ := exec_sound hP hmix hC true L bd _ _ _ _ _ _ _ hbd ψ1 _ w2 g2 e6 e7 b [] (c :: cs) _ (fun x => by cases x) (.code bd _)
                have ht3 : ψ3 l = some t := (q3.le g2) _ _ ht1
                obtain ⟨w4, m1, m2, m3⟩ : ∃ w4, (Instr.endRound t.blk ex.jump).run P w3 = .ok (.bool ex.jump.isNone) w4 ∧ Rel w0 ψ3 s' w4 ∧ s'.next = s3.next := by
                  unfold aend at hend
                  split at hend
                  · rename_i st pend tm n ps as bd D hl
                    cases hend
                    obtain ⟨c0, h1, h2⟩ := q5.getObj ht3 hl
                    cases h2 with
                    | loop _ _ _ _ _ _ _ _ td fn tmps psA hd hs hps e =>
                      refine ⟨_, run_endRound ex.jump h1, q5.setObj ht3 hl ?_, rfl⟩
                      cases ex with
                      | norm => exact .loop _ _ _ _ _ _ _ _ td fn tmps psA hd hs hps e
                      | exit id => exact .loop _ _ _ _ _ _ _ _ td fn tmps psA hd hs hps e
                      | ret => exact .loop _ _ _ _ _ _ _ _ td fn tmps psA hd hs hps e
                  · cases hend
                have hlast : step P (lone (fat b a3 td3) (c :: cs) w3) = .next (lone (c.finish (.bool ex.jump.isNone)) cs w4) := by
                  cases ex with
                  | norm =>
                    have : td3 = [] := q2
                    subst this
                    exact stepR_round_end hb1 hb2 m1
                  | exit id =>
                    obtain ⟨m, rfl, hm⟩ := q2
                    exact stepR_round_exit hb1 hb2 (by rw [hm]; rfl) m1
                  | ret =>
                    obtain ⟨m, rfl⟩ := q2
                    exact stepR_round_ret hb1 hb2 m1
                refine ⟨.bool ex.jump.isNone, w4, ⟨ψ3, _, rfl, e3.trans e4 ⟨fun v hv => q3 v (by rw [g3]; exact hv), q3.sig⟩, ?_, m2, .bool _⟩, ?_⟩
                · rw [m3]
                  have : s2.next ≤ s3.next := q4
                  rw [g3] at this
                  exact Nat.le_trans e4 this
                · exact e1.trans (.head (stepR_beginRound hb1 g1) (q1.trans (.one hlast)))
              · cases h
            · cases h
        · cases h
  · cases h

theorem fun_sound (hP : TbOk P tb) (hmix : P.follows .mixedOrders = true) (L : Nat) : ∀ d, CallOk P w0 (aFun P tb L d) := by
  intro d
  induction d with
  | zero =>
    refine CallOk.mk ?_ ?_
    · intro f args s v s' h; cases h
    · intro f args s v s' h; cases h
  | succ d ih =>
    exact ⟨fun f args s v s' h φ w cargs r hargs => body_sound hP hmix ih h r hargs, fun l args s v s' h φ w cargs t r ht hargs => round_sound hP hmix ih h r ht hargs⟩
end
end Go.Proofs.YtcmlomjdkjcjpaaGreatDoor.Vai
