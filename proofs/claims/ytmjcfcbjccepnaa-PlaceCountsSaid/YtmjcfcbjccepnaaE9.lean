/-
  The abstract machine, continued: regions, code, calls. Definitions alone.
-/
import Derived.Test.YtmjcfcbjccepnaaE8
namespace Go.Proofs.Ytmjcfcbjccepnaa.Eng
open Go Go.RowKit

structure St where
  s : List Value
  H : AH

def PropAns : Ans Prop := ⟨False, fun l => ∀ p ∈ l, p⟩
def BoolAns : Ans Bool := ⟨false, fun l => l.all id⟩

variable {ρ : Type} (A : Ans ρ) (E : Env)

/-! ### Static looks at a region -/
def bindsOf (o : Oper) : List Nat := (o.after.toList.filter fun e => Region.binds .any e).map fun e => e.on

/-- Operations that touch no memory but for reading, and run no code. -/
def isQuiet : Op → Bool
  | .move _ | .assign _ | .pick .. | .build .. | .load .. | .nilCheck _ | .binOp .. | .unOp .. | .makeInterface .. | .makeFunc .. | .slice .. | .fieldAddr .. | .field .. | .indexAddr .. | .index .. | .lookup .. | .typeAssert .. | .extract .. => true
  | .call ⟨.builtin .len, _, _⟩ | .call ⟨.builtin .cap, _, _⟩ | .call ⟨.builtin .min, _, _⟩ | .call ⟨.builtin .max, _, _⟩ => true
  | _ => false

def readyL (ops : List Oper) (listed : List Nat) (j : Nat) : Bool := !listed.contains j && match ops[j]? with
  | some o => (bindsOf o).all fun i => listed.contains i
  | none => false

def quietAt (ops : List Oper) (j : Nat) : Bool := match ops[j]? with
  | some o => isQuiet o.op
  | none => false

/-- The order in which a region's operations are taken: quiet ones first; of those that are not, each one that is ready. -/
inductive Plan where
  | done
  | quiet (j : Nat) (p : Plan)
  | loud (j : Nat) (p : Plan)
  | alt (p q : Plan)
  | bad

def altOf : List Plan → Plan
  | [] => .bad
  | [p] => p
  | p :: r => .alt p (altOf r)

def planOf (ops : List Oper) : Nat → List Nat → Plan
  | 0, listed => if (List.range ops.length).all (fun j => listed.contains j) then .done else .bad
  | n + 1, listed =>
    match (List.range ops.length).find? fun j => readyL ops listed j && quietAt ops j with
    | some j => .quiet j (planOf ops n (j :: listed))
    | none => altOf (((List.range ops.length).filter fun j => readyL ops listed j).map fun j => .loud j (planOf ops n (j :: listed)))

/-- All that comes before an operation, as a number's bits. -/
def maskOf (acc : List Nat) (l : List Nat) : Nat := l.foldl (fun m i => (m ||| (1 <<< i)) ||| acc.getD i 0) 0
def clsGo : List Oper → List Nat → List Nat
  | [], acc => acc
  | o :: r, acc => clsGo r (acc ++ [maskOf acc (bindsOf o)])
def cls (ops : List Oper) : List Nat := clsGo ops []
def before (ops : List Oper) (i j : Nat) : Bool := ((cls ops).getD j 0).testBit i

def namesOf (o : Oper) : List Nat := o.dst.toList ++ o.op.operands.toList.filterMap fun | .tmp t => some t | _ => none
def guardOk (ops : List Oper) (o : Oper) : Bool := match o.guard with
  | none => true
  | some (g, _) => (bindsOf o).contains g && ((ops[g]?).bind fun x => x.dst).isSome
/-- The slot that a guard looks at. -/
def guardSlot (ops : List Oper) (o : Oper) : List Nat := match o.guard with
  | none => []
  | some (g, _) => ((ops[g]?).bind fun x => x.dst).toList

/-- What a region must be, looked at alone: edges lead back; two operations that name one slot, which one of them writes, have an order; so have a guard's reader and whoever writes its slot. -/
def regionOk (ops : List Oper) : Bool :=
  (List.range ops.length).all fun j => match ops[j]? with
    | none => false
    | some o => ((bindsOf o).all fun i => decide (i < j)) && guardOk ops o && (List.range j).all fun i => match ops[i]? with
      | none => false
      | some o' =>
        let clash := (match o'.dst with | some d => (namesOf o ++ guardSlot ops o).contains d | none => false) || (match o.dst with | some d => (namesOf o' ++ guardSlot ops o').contains d | none => false)
        !clash || before ops i j

/-- Operations that may read memory that turns. -/
def readsMem : Op → Bool
  | .load .. | .lookup .. | .slice .. => true
  | .call ⟨.builtin .len, _, _⟩ => true
  | _ => false
def readerAt (ops : List Oper) (i : Nat) : Bool := match ops[i]? with
  | some o => readsMem o.op
  | none => false
/-- The order of the text stands for every order. -/
def textOk (ops : List Oper) : Bool :=
  (List.range ops.length).all fun j => match ops[j]? with
    | none => false
    | some o => isQuiet o.op || (List.range ops.length).all fun i =>
      if i < j then !readerAt ops i || before ops i j else i == j || match ops[i]? with
        | none => true
        | some oi => (bindsOf oi).any fun e => decide (j ≤ e)
def regOk (draw : Bool) (ops : List Oper) : Bool := !draw || (regionOk ops && textOk ops)

/-! ### Steps -/
/-- The blocks that a quiet operation reads. -/
def readsOf (o : Op) (ρ : Operand → Value) : List Nat := match o with
  | .load _ a => (match ρ a with | .pointer (some ad) => [ad.block] | _ => [])
  | .lookup _ m _ _ => (match ρ m with | .map (some r) => [r] | _ => [])
  | .slice _ x _ _ _ => (match ρ x with | .slice (some a) _ _ => [a.block] | _ => [])
  | .call ⟨.builtin .len, args, _⟩ => (args.toList.filterMap fun x => match ρ x with | .map (some r) => some r | _ => none)
  | _ => []
/-- The blocks that an operation turns. -/
def turnsOf (o : Op) (ρ : Operand → Value) : Option (List Nat) := match o with
  | .alloc _ | .box .. | .buildSlice .. | .makeSlice .. | .makeMap .. | .convert .. => some []
  | .call ⟨.builtin .append, args, _⟩ => match args.toList.map ρ with
    | .slice (some a) _ _ :: _ => some [a.block]
    | .slice none _ _ :: _ => some []
    | _ => none
  | _ => none

def lockO : AObj → AObj
  | .cells c k _ => .cells c k false
  | .map es _ => .map es false
  | .siter _ _ => .dead
  | .miter _ _ => .dead
  | .dead => .dead
def lock (H : AH) : AH := H.map lockO

def wantedA (ops : List Oper) (o : Oper) (s : List Value) : Bool := match o.guard with
  | none => true
  | some (j, want) => match (ops[j]?).bind fun x => x.dst with
    | some d => (match sget s d with | .bool b => b == want | _ => false)
    | none => false

/-- A call of a function value: which function, with which arguments. -/
def callOf (s : List Value) : Op → Option (FuncId × List Value)
  | .call ⟨.value f, args, _⟩ => match sval s f with
    | .func (.func g) first cap => some (g, first.toList ++ args.toList.map (sval s) ++ cap.toList)
    | _ => none
  | _ => none

abbrev CallK (ρ : Type) := FuncId → List Value → AH → (Value → AH → ρ) → ρ

def evOper (call : CallK ρ) (o : Oper) (st : St) (k : St → ρ) : ρ :=
  match o.op with
  | .call ⟨.value f, args, tys⟩ => match callOf st.s (.call ⟨.value f, args, tys⟩) with
    | some (g, vs) => call g vs st.H fun v H' => k ⟨sputO st.s o.dst v, H'⟩
    | none => A.bot
  | op => match evOp E op (sval st.s) st.H with
    | some (v, H') => k ⟨sputO st.s o.dst v, H'⟩
    | none => A.bot

/-- In the order of the text. -/
def evOps (call : CallK ρ) (ops : List Oper) : List Oper → St → (St → ρ) → ρ
  | [], st, k => k st
  | o :: rest, st, k =>
    if wantedA ops o st.s then evOper A E call o st fun st' => evOps call ops rest st' k
    else evOps call ops rest ⟨sputO st.s o.dst undef, st.H⟩ k

abbrev Log := List (Nat × List Nat)

/-- What was read before, and may still be read behind operation i. -/
def openReads (ops : List Oper) (log : Log) (i : Nat) : List Nat := (log.filter fun x => !before ops x.1 i).flatMap fun x => x.2

def turnsClear (ops : List Oper) (log : Log) (j : Nat) (o : Op) (ρ : Operand → Value) : Bool := match turnsOf o ρ with
  | some l => (openReads ops log j).all fun b => !l.contains b
  | none => false

def evPlan (call : CallK ρ) (ops : List Oper) : Plan → Log → St → (St → ρ) → ρ
  | .done, _, st, k => k st
  | .bad, _, _, _ => A.bot
  | .alt p q, log, st, k => A.all [evPlan call ops p log st k, evPlan call ops q log st k]
  | .quiet j p, log, st, k => match ops[j]? with
    | none => A.bot
    | some o =>
      if wantedA ops o st.s then
        match evOp E o.op (sval st.s) st.H with
        | some (v, _) => evPlan call ops p ((j, readsOf o.op (sval st.s)) :: log) ⟨sputO st.s o.dst v, st.H⟩ k
        | none => A.bot
      else evPlan call ops p log ⟨sputO st.s o.dst undef, st.H⟩ k
  | .loud j p, log, st, k => match ops[j]? with
    | none => A.bot
    | some o =>
      if wantedA ops o st.s then
        match callOf st.s o.op with
        | some (g, vs) =>
          if openReads ops log j = [] then call g vs st.H fun v H' => evPlan call ops p log ⟨sputO st.s o.dst v, H'⟩ k
          else call g vs (lock st.H) fun v H' => evPlan call ops p log ⟨sputO st.s o.dst v, st.H ++ H'.drop st.H.length⟩ k
        | none =>
          if openReads ops log j = [] ∨ turnsClear ops log j o.op (sval st.s) = true then
            match evOp E o.op (sval st.s) st.H with
            | some (v, H') => evPlan call ops p log ⟨sputO st.s o.dst v, H'⟩ k
            | none => A.bot
          else A.bot
      else evPlan call ops p log ⟨sputO st.s o.dst undef, st.H⟩ k

def evRegion (call : CallK ρ) (ops : List Oper) (draw : Bool) (st : St) (k : St → ρ) : ρ :=
  if draw then if regionOk ops then if textOk ops then evOps A E call ops ops st k else evPlan A E call ops (planOf ops ops.length []) [] st k else A.bot
  else evOps A E call ops ops st k

/-- The results of a function. -/
def evResult (H : AH) (s : List Value) : ResultVar → Option Value
  | .tmp t => some (sget s t)
  | .cell a t => match sget s a with
    | .pointer (some ad) => ldVar E H t ad
    | _ => none
def evResults (H : AH) (s : List Value) : List ResultVar → Option (List Value)
  | [] => some []
  | r :: rs => (evResult E H s r).bind fun v => (evResults H s rs).map fun vs => v :: vs
def oneOrTuple : List Value → Value
  | [v] => v
  | vs => .tuple vs.toArray

/-! ### Which slots and constants the code may name -/
def opndOk (n : Nat) : Operand → Bool
  | .tmp t => decide (t < n)
  | .const v => plainV v
  | .global g => decide (g < E.M)
  | .func _ => true
def operOk (n : Nat) (o : Oper) : Bool := (o.op.operands.toList.all (opndOk E n)) && (match o.dst with | some d => decide (d < n) | none => true)
def codeOk (n : Nat) : Code → Bool
  | .region _ ops _ => ops.toList.all (operOk E n)
  | .seq a b => codeOk n a && codeOk n b
  | .cond c a b => opndOk E n c && codeOk n a && codeOk n b
  | .block _ b => codeOk n b
  | .loop b => codeOk n b
  | .scope b => codeOk n b
  | _ => true
def funcOk (fn : Func) : Bool := (match fn.body with | some c => codeOk E fn.ntmps c | none => false) && fn.results.toList.all (fun | .tmp t => decide (t < fn.ntmps) | .cell a _ => decide (a < fn.ntmps)) && fn.name != "runtime.NumGoroutine"

/-! ### Code -/
def Norm (N : St → ρ) (Q : Exit → St → ρ) : Exit → St → ρ := fun e st => match e with
  | .normal => N st
  | e => Q e st
def Blk (id : Nat) (Q : Exit → St → ρ) : Exit → St → ρ := fun e st => match e with
  | .exit id' => if id' = id then Q .normal st else Q (.exit id') st
  | e => Q e st
def ScoA (Q : Exit → St → ρ) : Exit → St → ρ := fun e st => match e with
  | .goto _ => A.bot
  | e => Q e st
/-- The end of a call. -/
def RetA (rs : List ResultVar) (k : Value → AH → ρ) : Exit → St → ρ := fun e st => match e with
  | .normal | .ret => match evResults E st.H st.s rs with
    | some vs => k (oneOrTuple vs) st.H
    | none => A.bot
  | _ => A.bot

def evCallWith (rec : Code → St → (Exit → St → ρ) → ρ) : CallK ρ := fun f args H k =>
  match E.ext f with
  | some g => match g args H with
    | some r => k r.1 r.2
    | none => A.bot
  | none => match E.P.funcs[f]? with
    | some fn => match fn.body with
      | some c => if funcOk E fn = true ∧ args.length ≤ fn.ntmps then rec c ⟨args ++ List.replicate (fn.ntmps - args.length) undef, H⟩ (RetA A E fn.results.toList k) else A.bot
      | none => A.bot
    | none => A.bot

def evCode : Nat → Code → St → (Exit → St → ρ) → ρ
  | 0, _, _, _ => A.bot
  | n + 1, c, st, k =>
    match c with
    | .skip => k .normal st
    | .label _ => k .normal st
    | .ret => k .ret st
    | .exit id => k (.exit id) st
    | .region _ ops draw => evRegion A E (evCallWith A E (evCode n)) ops.toList draw st (k .normal)
    | .scope b => evCode n b st (ScoA A k)
    | .seq a b => evCode n a st (Norm (fun st' => evCode n b st' k) k)
    | .cond c a b => match sval st.s c with
      | .bool true => evCode n a st k
      | .bool false => evCode n b st k
      | _ => A.bot
    | .block id b => evCode n b st (Blk id k)
    | .loop b => evCode n b st (Norm (fun st' => evCode n (.loop b) st' k) k)
    | _ => A.bot

def evCall (n : Nat) : CallK ρ := evCallWith A E (evCode A E n)

end Go.Proofs.Ytmjcfcbjccepnaa.Eng
