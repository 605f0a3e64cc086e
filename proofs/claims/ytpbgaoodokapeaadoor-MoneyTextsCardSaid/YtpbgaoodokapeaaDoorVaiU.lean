/- A part of an evaluator of the model's code whose answers are proved sound: no statement on the program stands here. -/
import Derived.Test.YtpbgaoodokapeaaDoorVaiT
open Go Go.RowKit
namespace Go.Proofs.YtpbgaoodokapeaaDoor.Vai
set_option linter.unusedVariables false
set_option linter.unusedSimpArgs false

/-! ### a region in whatever order -/
def pickT (t : T Value) : List Tmp → T Value → T Value
  | [], acc => acc
  | x :: l, acc => pickT t l (match t.get x with
    | some v => acc.set x v
    | none => acc)
/-- A frame of which only these temporaries are known. -/
def narrow (fr : Fr) (l : List Tmp) : Fr := { tm := pickT fr.tm l .nil, n := fr.n }

structure RRec where
  o : Oper
  fr : Fr
  s : St
  r : SRes

def aRecs (P : Program) (tb : Tb) (call : ACall) (ops : Array Oper) : List Oper → Fr → St → Option (List RRec × Fr × St)
  | [], fr, s => some ([], fr, s)
  | o :: rest, fr, s => match aStep P tb call ops.toList (narrow fr (o.looksAt ops)) s o with
    | none => none
    | some r => match aput fr o.dst (r.val s) with
      | none => none
      | some fr' => match aRecs P tb call ops rest fr' (r.st s) with
        | none => none
        | some (l, fe, se) => some (⟨o, narrow fr (o.looksAt ops), s, r⟩ :: l, fe, se)

def SRes.isE : SRes → Bool
  | .e _ _ => true
  | _ => false
def SRes.isN : SRes → Bool
  | .q (.new ..) => true
  | .q (.obj _) => true
  | _ => false

def effs : Nat → List RRec → List Nat
  | _, [] => []
  | i, x :: l => bif x.r.isE then i :: effs (i + 1) l else effs (i + 1) l
def stages (n : Nat) (se : St) : Nat → List RRec → List (Nat × St)
  | _, [] => [(n, se)]
  | i, x :: l => bif x.r.isE then (i, x.s) :: stages n se (i + 1) l else stages n se (i + 1) l

def allowed (M : T Nat) (E : List Nat) (i q : Nat) : Bool := E.all fun e => (!(isBef M e i) || Nat.blt e q) && (!(isBef M i e) || Nat.ble q e)

def okOne (P : Program) (tb : Tb) (M : T Nat) (E : List Nat) (stg : List (Nat × St)) (i : Nat) (x : RRec) : Bool :=
  (bif x.r.isN then E.all fun e => isBef M e i || isBef M i e else true) &&
  (match x.r with
  | .un => true
  | .e _ s' => Nat.ble x.s.next s'.next
  | .q out => stg.all fun p => bif allowed M E i p.1 then (match aq P tb p.2 (aev p.2 x.fr) x.o with
    | some out' => qeq out' out
    | none => false) else true)
def okAll (P : Program) (tb : Tb) (M : T Nat) (E : List Nat) (stg : List (Nat × St)) : Nat → List RRec → Bool
  | _, [] => true
  | i, x :: l => okOne P tb M E stg i x && okAll P tb M E stg (i + 1) l
def okE (M : T Nat) (E : List Nat) : Bool := E.all fun e => E.all fun f => !(Nat.blt e f) || isBef M e f

def aAny (P : Program) (tb : Tb) (call : ACall) (ops : Array Oper) (fr : Fr) (s : St) : Option (Fr × St) :=
  match aRecs P tb call ops ops.toList fr s with
  | none => none
  | some (rs, fe, se) => bif regOk ops && okE (masks ops.toList 0 .nil) (effs 0 rs) && okAll P tb (masks ops.toList 0 .nil) (effs 0 rs) (stages ops.size se 0 rs) 0 rs then some (fe, se) else none
end Go.Proofs.YtpbgaoodokapeaaDoor.Vai
