/- A part of an evaluator of the model's code whose answers are proved sound: no statement on the program stands here. -/
import Derived.Test.YtcmlomjdkjcjpaaGreatDoorVaiU
open Go Go.RowKit
namespace Go.Proofs.YtcmlomjdkjcjpaaGreatDoor.Vai
set_option linter.unusedVariables false
set_option linter.unusedSimpArgs false

inductive Ex where
  | norm
  | exit (id : Nat)
  | ret

/-- The jump that a round leaves pending. -/
def Ex.jump : Ex → Option Code
  | .norm => none
  | .exit id => some (.exit id)
  | .ret => some .ret

/-- The blocks for deferred calls are shut, as a frame leaves. -/
def atake : List Nat → St → Option St
  | [], s => some s
  | d :: l, s => match s.objs.get d with
    | some .defs => atake l (asetObj s d .defsDone)
    | _ => none

/-- What a loop over a function has left. -/
def aended (s : St) (l : Nat) : Option (Option Code × St) :=
  match s.objs.get l with
  | some (.loop .busy _ _ _ _ _ _ _) => none
  | some (.loop _ pend tm n ps as bd D) => some (pend, asetObj s l (.loop .exhausted pend tm n ps as bd D))
  | _ => none

def aloop (fr : Fr) (s : St) (ps : Array Tmp) (assign body : Code) : St := aobj (aobj s .defs) (.loop .ready none fr.tm fr.n ps.toList assign body s.next)

/-- 'rd': the code of a round. 'ds': the blocks for deferred calls. -/
def aExec (P : Program) (tb : Tb) (call : ACall) (rd : Bool) : Nat → Code → Fr → List Nat → St → Option (Ex × Fr × List Nat × St)
  | 0, _, _, _, _ => none
  | n + 1, c, fr, ds, s => match c with
    | .skip => some (.norm, fr, ds, s)
    | .label _ => some (.norm, fr, ds, s)
    | .ret => some (.ret, fr, ds, s)
    | .exit id => some (.exit id, fr, ds, s)
    | .region _ ops draw => match (bif draw then aAny P tb call ops fr s else aOps P tb call ops.toList ops.toList fr s) with
      | some (fr', s') => some (.norm, fr', ds, s')
      | none => none
    | .seq a b => match aExec P tb call rd n a fr ds s with
      | some (.norm, fr', ds', s') => aExec P tb call rd n b fr' ds' s'
      | r => r
    | .cond c x y => match aev s fr c with
      | some (.bool t) => aExec P tb call rd n (bif t then x else y) fr ds s
      | _ => none
    | .block id body => match aExec P tb call rd n body fr ds s with
      | some (.exit j, fr', ds', s') => bif Nat.beq j id then some (.norm, fr', ds', s') else some (.exit j, fr', ds', s')
      | r => r
    | .loop body => match aExec P tb call rd n body fr ds s with
      | some (.norm, fr', ds', s') => aExec P tb call rd n (.loop body) fr' ds' s'
      | r => r
    | .scope body => aExec P tb call rd n body fr ds s
    | .rangeFunc g ps assign body => bif rd then none else match aev s fr g with
      | some (.func (.func f) first captured) => match call (.func f) (first.toList ++ [.func (.yield (s.next + 1)) #[] #[]] ++ captured.toList) (aloop fr s ps assign body) with
        | some (_, s2) => match aended s2 (s.next + 1) with
          | some (none, s3) => some (.norm, fr, s.next :: ds, s3)
          | some (some c, s3) => aExec P tb call rd n c fr (s.next :: ds) s3
          | none => none
        | none => none
      | _ => none
    | _ => none

def aresult (tb : Tb) (fr : Fr) (s : St) : ResultVar → Option Value
  | .tmp t => fr.tm.get t
  | .cell a t => match fr.tm.get a with
    | some (.pointer (some ⟨v, o, none⟩)) => aloadVar tb s t v o
    | _ => none
def aresults (tb : Tb) (fr : Fr) (s : St) : List ResultVar → Option (List Value)
  | [] => some []
  | x :: l => match aresult tb fr s x, aresults tb fr s l with
    | some v, some vs => some (v :: vs)
    | _, _ => none
def packed : List Value → Value
  | [v] => v
  | l => .tuple ⟨l⟩

def argsT : Nat → List Value → T Value → T Value
  | _, [], t => t
  | i, v :: l, t => argsT (i + 1) l (t.set i v)

/-- A function's body. -/
def aBody (P : Program) (tb : Tb) (L : Nat) (call : ACall) (f : FuncId) (args : List Value) (s : St) : Option (Value × St) :=
  match tb.fns.get f with
    | none => none
    | some fn => match fn.body with
      | none => none
      | some c => match aExec P tb call false L c ⟨argsT 0 args .nil, Nat.add args.length (Nat.sub fn.ntmps args.length)⟩ [] s with
        | some (.exit _, _, _, _) => none
        | some (_, fr, ds, s') => match atake ds s' with
          | some s'' => match aresults tb fr s'' fn.results.toList with
            | some l => some (packed l, s'')
            | none => none
          | none => none
        | none => none

def setPs (n : Nat) : List Tmp → List Value → T Value → Option (T Value)
  | [], [], t => some t
  | p :: ps, v :: vs, t => bif Nat.blt p n then setPs n ps vs (t.set p v) else none
  | _, _, _ => none

def abegin (s : St) (l : Nat) : Option St :=
  match s.objs.get l with
  | some (.loop .ready pend tm n ps as bd D) => some (asetObj s l (.loop .busy pend tm n ps as bd D))
  | _ => none

def aend (s : St) (l : Nat) (jump : Option Code) : Option St :=
  match s.objs.get l with
  | some (.loop _ _ tm n ps as bd D) => some (asetObj s l (.loop (match jump with | none => .ready | some _ => .done) jump tm n ps as bd D))
  | _ => none

/-- A round. -/
def aRound (P : Program) (tb : Tb) (L : Nat) (call : ACall) (l : Nat) (args : List Value) (s : St) : Option (Value × St) :=
  match s.objs.get l with
  | some (.loop _ _ tm n ps as bd _) => match setPs n ps args tm with
    | none => none
    | some tm1 => match aExec P tb call true L as ⟨tm1, n⟩ [] s with
      | some (.norm, fr1, ds1, s1) => match abegin s1 l with
        | none => none
        | some s2 => match aExec P tb call true L bd fr1 ds1 s2 with
          | some (ex, _, _, s3) => match aend s3 l ex.jump with
            | some s4 => some (.bool ex.jump.isNone, s4)
            | none => none
          | none => none
      | _ => none
  | _ => none

def aFun (P : Program) (tb : Tb) (L : Nat) : Nat → ACall
  | 0, _, _, _ => none
  | d + 1, fn, args, s => match fn with
    | .func f => aBody P tb L (aFun P tb L d) f args s
    | .yield l => aRound P tb L (aFun P tb L d) l args s
    | _ => none
end Go.Proofs.YtcmlomjdkjcjpaaGreatDoor.Vai
