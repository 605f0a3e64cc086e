/- A part of an evaluator of the model's code whose answers are proved sound: no statement on the program stands here. -/
import Derived.Test.YtcmlomjdkjcjpaaGreatDoorVaiT
open Go Go.RowKit
namespace Go.Proofs.YtcmlomjdkjcjpaaGreatDoor.Vai
set_option linter.unusedVariables false
set_option linter.unusedSimpArgs false

/-! ### a region in whatever order -/
def pickT (t : T Value) : List Tmp → T Value → T Value
  | [], acc => acc
  | x :: l, acc => pickT t l (match t.get x with
    | some v => acc.set x v
    | none => acc)
/-- A frame of which only these temporaries are known. -/
def narrow (fr : Fr) (l : List Tmp) : Fr := { tm := pickT fr.tm l .nil, n := fr.n }

structure RRec where
  o : Oper
  fr : Fr
  s : St
  r : SRes

def isNewOp (o : Oper) : Bool := match o.op with | .alloc _ => true | .makeMap _ _ => true | .makeSlice _ _ _ => true | .box _ _ => true | .buildSlice _ _ _ => true | .convert _ _ _ => true | _ => false
def isEffOp (o : Oper) : Bool := match o.op with | .call _ => true | .store _ _ _ => true | .mapUpdate _ _ _ _ => true | .insert _ _ _ _ => true | _ => false
/-- Whether a region makes blocks beside effects. -/
def mixed (ops : Array Oper) : Bool := ops.toList.any isNewOp && ops.toList.any isEffOp

abbrev Pre := T (Nat × QOut)

/-- Operations that make a block and wait for no effect: their blocks are set down when the region is entered. -/
def reserve (P : Program) (tb : Tb) (M : T Nat) (ops : Array Oper) : List Oper → Nat → Nat → Fr → St → Pre → St × Pre
  | [], _, _, _, s, m => (s, m)
  | o :: l, i, sk, fr, s, m =>
    bif Nat.beq (Nat.land sk (match M.get i with | some x => x | none => 0)) 0 then
      (match awanted ops.toList fr o with
      | some true => (match aq P tb s (aev s fr) o with
        | some (.val v) => (match aput fr o.dst v with
          | some fr' => reserve P tb M ops l (i + 1) sk fr' s m
          | none => (s, m))
        | some (.new elem es cells sh) => (match o.guard, aput fr o.dst (sh.val s.next) with
          | none, some fr' => reserve P tb M ops l (i + 1) sk fr' (aalloc s elem es cells) (m.set i (s.next, .new elem es cells sh))
          | _, _ => reserve P tb M ops l (i + 1) (Nat.lor sk (Nat.shiftLeft 1 i)) fr s m)
        | some (.obj ob) => (match o.guard, aput fr o.dst (.map (some s.next)) with
          | none, some fr' => reserve P tb M ops l (i + 1) sk fr' (aobj s ob) (m.set i (s.next, .obj ob))
          | _, _ => reserve P tb M ops l (i + 1) (Nat.lor sk (Nat.shiftLeft 1 i)) fr s m)
        | none => reserve P tb M ops l (i + 1) (Nat.lor sk (Nat.shiftLeft 1 i)) fr s m)
      | some false => (match aput fr o.dst undef with
        | some fr' => reserve P tb M ops l (i + 1) sk fr' s m
        | none => (s, m))
      | none => reserve P tb M ops l (i + 1) (Nat.lor sk (Nat.shiftLeft 1 i)) fr s m)
    else reserve P tb M ops l (i + 1) (Nat.lor sk (Nat.shiftLeft 1 i)) fr s m

def reserved (P : Program) (tb : Tb) (ops : Array Oper) (fr : Fr) (s : St) : St × Pre :=
  bif mixed ops then reserve P tb (masks ops.toList 0 .nil) ops ops.toList 0 0 fr s .nil else (s, .nil)

/-- A step, or a block that was set down ahead. -/
def aStepP (P : Program) (tb : Tb) (call : ACall) (ops : List Oper) (m : Pre) (i : Nat) (fr : Fr) (s : St) (o : Oper) : Option SRes :=
  match m.get i with
  | some (id, out) => some (.p id out)
  | none => aStep P tb call ops fr s o

def aRecs (P : Program) (tb : Tb) (call : ACall) (ops : Array Oper) (m : Pre) : Nat → List Oper → Fr → St → Option (List RRec × Fr × St)
  | _, [], fr, s => some ([], fr, s)
  | i, o :: rest, fr, s => match aStepP P tb call ops.toList m i fr s o with
    | none => none
    | some r => match aput fr o.dst (r.val s) with
      | none => none
      | some fr' => match aRecs P tb call ops m (i + 1) rest fr' (r.st s) with
        | none => none
        | some (l, fe, se) => some (⟨o, fr, s, r⟩ :: l, fe, se)

def SRes.isE : SRes → Bool
  | .e _ _ => true
  | _ => false
def SRes.isN : SRes → Bool
  | .q (.new ..) => true
  | .q (.obj _) => true
  | _ => false

def effs : Nat → List RRec → List Nat
  | _, [] => []
  | i, x :: l => bif x.r.isE then i :: effs (i + 1) l else effs (i + 1) l
def stages (n : Nat) (se : St) : Nat → List RRec → List (Nat × St)
  | _, [] => [(n, se)]
  | i, x :: l => bif x.r.isE then (i, x.s) :: stages n se (i + 1) l else stages n se (i + 1) l

def allowed (M : T Nat) (E : List Nat) (i q : Nat) : Bool := E.all fun e => (!(isBef M e i) || Nat.blt e q) && (!(isBef M i e) || Nat.ble q e)

/-- The cells of a block, as it was set down. -/
def teq : T (Nat × Value) → T (Nat × Value) → Bool
  | .nil, .nil => true
  | .node l x r, .node l' x' r' => teq l l' && (match x, x' with
    | none, none => true
    | some (a, v), some (b, u) => Nat.beq a b && veq v u
    | _, _ => false) && teq r r'
  | _, _ => false
/-- The block that was set down is as it was. -/
def okBind (s : St) (id : Nat) : QOut → Bool
  | .new elem es cells _ => (match s.views.get id with
      | some V => Nat.beq V.root id && Nat.beq V.ext cells.length && V.exact
      | none => false) &&
    (match s.roots.get id with
      | some R => Nat.beq R.elem elem && Nat.beq R.es es && teq R.cells (cellsOf cells) && Nat.beq R.cur id && Nat.beq R.flo 0 && Nat.beq R.fhi 0 && !R.ro && !R.sish
      | none => false) &&
    (match s.objs.get id with
      | some _ => false
      | none => true)
  | .obj ob => (match s.views.get id with
      | some _ => false
      | none => true) &&
    (match s.objs.get id with
      | some ob' => oeq ob' ob
      | none => false)
  | .val _ => false

def fval (fr : Fr) : Operand → Option Value
  | .tmp t => fr.tm.get t
  | .const v => bif plain v then some v else none
  | .func f => some (.func (.func f) #[] #[])
  | .global _ => none
def sfreeOp (fr : Fr) : Op → Bool
  | .move _ => true
  | .assign _ => true
  | .pick _ _ _ => true
  | .alloc _ => true
  | .box _ _ => true
  | .build _ _ => true
  | .buildSlice _ _ _ => true
  | .nilCheck _ => true
  | .unOp _ _ x => (match fval fr x with
    | some a => plain a
    | none => false)
  | .makeInterface _ _ => true
  | .makeFunc _ _ _ => true
  | .makeMap _ _ => true
  | .makeSlice _ _ _ => true
  | .fieldAddr _ _ _ => true
  | .index _ _ _ => true
  | .extract _ _ => true
  | .typeAssert _ _ _ _ => true
  | .binOp _ _ x y _ => (match fval fr x, fval fr y with
      | some a, some b => plain a && plain b
      | _, _ => false)
  | _ => false
/-- An operation to which the state is nothing. -/
def sfree (fr : Fr) (o : Oper) : Bool := (o.op.operands.toList.all fun x => match x with | .global _ => false | _ => true) && sfreeOp fr o.op

def okOne (P : Program) (tb : Tb) (M : T Nat) (E : List Nat) (stg : List (Nat × St)) (i : Nat) (x : RRec) : Bool :=
  (bif x.r.isN then E.all fun e => isBef M e i || isBef M i e else true) &&
  (match x.r with
  | .un => true
  | .e _ s' => Nat.ble x.s.next s'.next
  | .p id out => (match x.o.guard with | none => true | some _ => false) && stg.all fun p => bif allowed M E i p.1 then okBind p.2 id out && (match aq P tb p.2 (aev p.2 x.fr) x.o with
    | some out' => qeq out' out
    | none => false) else true
  | .q out => sfree x.fr x.o || stg.all fun p => bif allowed M E i p.1 then (match aq P tb p.2 (aev p.2 x.fr) x.o with
    | some out' => qeq out' out
    | none => false) else true)
def okAll (P : Program) (tb : Tb) (M : T Nat) (E : List Nat) (stg : List (Nat × St)) : Nat → List RRec → Bool
  | _, [] => true
  | i, x :: l => okOne P tb M E stg i x && okAll P tb M E stg (i + 1) l
def okE (M : T Nat) (E : List Nat) : Bool := E.all fun e => E.all fun f => !(Nat.blt e f) || isBef M e f

def aAny (P : Program) (tb : Tb) (call : ACall) (ops : Array Oper) (fr : Fr) (s : St) : Option (Fr × St) :=
  match reserved P tb ops fr s with
  | (s0, m) => match aRecs P tb call ops m 0 ops.toList fr s0 with
    | none => none
    | some (rs, fe, se) => bif regOk ops && okE (masks ops.toList 0 .nil) (effs 0 rs) && okAll P tb (masks ops.toList 0 .nil) (effs 0 rs) (stages ops.size se 0 rs) 0 rs then some (fe, se) else none
end Go.Proofs.YtcmlomjdkjcjpaaGreatDoor.Vai
