/- A part of an evaluator of the model's code whose answers are proved sound: no statement on the program stands here. -/
import Derived.Test.YtpbgaoodokapeaaDoorVaiU
open Go Go.RowKit
namespace Go.Proofs.YtpbgaoodokapeaaDoor.Vai
set_option linter.unusedVariables false
set_option linter.unusedSimpArgs false

inductive Ex where
  | norm
  | exit (id : Nat)
  | ret

def aExec (P : Program) (tb : Tb) (call : ACall) : Nat → Code → Fr → St → Option (Ex × Fr × St)
  | 0, _, _, _ => none
  | n + 1, c, fr, s => match c with
    | .skip => some (.norm, fr, s)
    | .label _ => some (.norm, fr, s)
    | .ret => some (.ret, fr, s)
    | .exit id => some (.exit id, fr, s)
    | .region _ ops draw => match (bif draw then aAny P tb call ops fr s else aOps P tb call ops.toList ops.toList fr s) with
      | some (fr', s') => some (.norm, fr', s')
      | none => none
    | .seq a b => match aExec P tb call n a fr s with
      | some (.norm, fr', s') => aExec P tb call n b fr' s'
      | r => r
    | .cond c x y => match aev s fr c with
      | some (.bool t) => aExec P tb call n (bif t then x else y) fr s
      | _ => none
    | .block id body => match aExec P tb call n body fr s with
      | some (.exit j, fr', s') => bif Nat.beq j id then some (.norm, fr', s') else some (.exit j, fr', s')
      | r => r
    | .loop body => match aExec P tb call n body fr s with
      | some (.norm, fr', s') => aExec P tb call n (.loop body) fr' s'
      | r => r
    | .scope body => aExec P tb call n body fr s
    | _ => none

def aresult (tb : Tb) (fr : Fr) (s : St) : ResultVar → Option Value
  | .tmp t => fr.tm.get t
  | .cell a t => match fr.tm.get a with
    | some (.pointer (some ⟨v, o, none⟩)) => aloadVar tb s t v o
    | _ => none
def aresults (tb : Tb) (fr : Fr) (s : St) : List ResultVar → Option (List Value)
  | [] => some []
  | x :: l => match aresult tb fr s x, aresults tb fr s l with
    | some v, some vs => some (v :: vs)
    | _, _ => none
def packed : List Value → Value
  | [v] => v
  | l => .tuple ⟨l⟩

def argsT : Nat → List Value → T Value → T Value
  | _, [], t => t
  | i, v :: l, t => argsT (i + 1) l (t.set i v)

def aFun (P : Program) (tb : Tb) (L : Nat) : Nat → ACall
  | 0, _, _, _ => none
  | d + 1, f, args, s => match tb.fns.get f with
    | none => none
    | some fn => match fn.body with
      | none => none
      | some c => match aExec P tb (aFun P tb L d) L c ⟨argsT 0 args .nil, Nat.add args.length (Nat.sub fn.ntmps args.length)⟩ s with
        | some (.exit _, _, _) => none
        | some (_, fr, s') => match aresults tb fr s' fn.results.toList with
          | some l => some (packed l, s')
          | none => none
        | none => none
end Go.Proofs.YtpbgaoodokapeaaDoor.Vai
