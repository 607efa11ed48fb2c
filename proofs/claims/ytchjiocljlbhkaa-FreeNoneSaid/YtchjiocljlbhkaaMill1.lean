/- The small machine's walk through code: a program that can be run by the kernel (the session's own). -/
import Derived.Test.YtchjiocljlbhkaaMill0
namespace Go.Proofs.YtchjiocljlbhkaaW.Mill
open Go Go.RowKit
set_option linter.unusedVariables false

structure AA where
  tm : Tr Value
  n : Nat
  df : List Nat
  rd : Option Nat
def AA.ev (a : AA) : Operand → Option Value
  | .tmp t => a.tm.get t
  | .const v => cond (plainV v) (some v) none
  | .func f => some (.func (.func f) #[] #[])
  | .global _ => none
def AA.put (a : AA) (d : Option Tmp) (v : Value) : AA :=
  match d with
  | none => a
  | some d => cond (Nat.blt d a.n) { a with tm := a.tm.set d (some v) } a
def AA.start : List Value → Nat → Tr Value → Tr Value
  | [], _, t => t
  | v :: l, i, t => AA.start l (i + 1) (t.set i (some v))

inductive AExit where
  | normal
  | exit (id : Nat)
  | goto (l : Nat)
  | ret

/-- Is an operation wanted: what its guard's operation has yielded. -/
def wantedA (ops : Array Oper) (a : AA) (o : Oper) : Option Bool :=
  match o.guard with
  | none => some true
  | some (j, want) =>
    match ((ops[j]?).bind (·.dst)).bind (a.tm.get ·) with
    | some (.bool b) => some (b == want)
    | some (.tuple _) => some false
    | _ => none
def aCallee (ev : Operand → Option Value) (f : Operand) (args : Array Operand) : Option (Fn × List Value) :=
  match ev f with
  | some (.func fn first cap) =>
    match fn with
    | .func g => if first.isEmpty = true then (evs ev args.toList).map fun xs => (.func g, xs ++ cap.toList) else none
    | .yield l => if first.isEmpty = true ∧ cap.isEmpty = true then (evs ev args.toList).map fun xs => (.yield l, xs) else none
    | _ => none
  | _ => none
abbrev Calling := Fn → List Value → AS → Option (Value × AS)
def stepVF (P : Program) (call : Calling) (ops : Array Oper) (o : Oper) (a : AA) (s : AS) : Option (Value × AS) :=
  match wantedA ops a o with
  | none => none
  | some false => some (undefV, s)
  | some true =>
    match o.op with
    | .call ⟨.builtin b, args, ts⟩ => (evs a.ev args.toList).bind fun xs => aBuiltin P s b ts o.type xs
    | .call ⟨.value f, args, _⟩ => (aCallee a.ev f args).bind fun c => call c.1 c.2 s
    | op => aop P a.ev s op
def stepsO (P : Program) (call : Calling) (ops : Array Oper) : List Oper → AA → AS → Option (AA × AS)
  | [], a, s => some (a, s)
  | o :: l, a, s => (stepVF P call ops o a s).bind fun r => stepsO P call ops l (a.put o.dst r.1) r.2

/-! ### regions that draw their order -/
def precF (acc : List Nat) (o : Oper) : Nat := o.after.toList.foldl (fun s e => if Region.binds .any e = true then s ||| 2 ^ e.on ||| acc.getD e.on 0 else s) 0
def precs : List Oper → List Nat → List Nat
  | [], acc => acc
  | o :: l, acc => precs l (acc ++ [precF acc o])
def precB (ops : Array Oper) (i j : Nat) : Bool := ((precs ops.toList []).getD j 0).testBit i
def tmpsOf : List Operand → List Tmp
  | [] => []
  | .tmp t :: l => t :: tmpsOf l
  | _ :: l => tmpsOf l
def looks (ops : Array Oper) (o : Oper) : List Tmp :=
  tmpsOf o.op.operands.toList ++ (match o.guard with | some (j, _) => ((ops[j]?).bind (·.dst)).toList | none => [])
def effB (P : Program) (o : Oper) : Bool :=
  match o.op with
  | .move _ | .assign _ | .pick .. | .build .. | .load .. | .nilCheck _ | .binOp .. | .unOp .. | .makeInterface .. | .makeFunc .. | .slice .. | .fieldAddr .. | .field .. | .indexAddr .. | .index .. | .lookup .. | .extract .. => false
  | .convert _ dst _ => match P.underlying dst with | some (.slice _) => true | _ => false
  | .call ⟨.builtin .len, _, _⟩ | .call ⟨.builtin .cap, _, _⟩ | .call ⟨.builtin .min, _, _⟩ | .call ⟨.builtin .max, _, _⟩ => false
  | _ => true
def veq1 : Value → Value → Bool
  | .bool a, .bool b => a == b
  | .int j a, .int k b => j == k && a == b
  | .string a, .string b => a.data.toList == b.data.toList
  | .pointer none, .pointer none => true
  | .pointer (some a), .pointer (some b) => a == b
  | .slice none n c, .slice none m d => n == m && c == d
  | .slice (some a) n c, .slice (some b) m d => a == b && n == m && c == d
  | .map a, .map b => a == b
  | .nilFunc, .nilFunc => true
  | .nilIface, .nilIface => true
  | _, _ => false
def veqs : List Value → List Value → Bool
  | [], [] => true
  | a :: l, b :: m => veq1 a b && veqs l m
  | _, _ => false
def veq : Value → Value → Bool
  | .agg a, .agg b => veqs a.toList b.toList
  | .tuple a, .tuple b => veqs a.toList b.toList
  | .func (.func f) f1 a, .func (.func g) f2 b => f1.isEmpty && f2.isEmpty && f == g && veqs a.toList b.toList
  | a, b => veq1 a b
/-- The states on the way, the first one ahead. -/
def trace (P : Program) (call : Calling) (ops : Array Oper) : List Oper → AA → AS → Option (List (AA × AS × Value))
  | [], a, s => some [(a, s, undefV)]
  | o :: l, a, s => (stepVF P call ops o a s).bind fun r => (trace P call ops l (a.put o.dst r.1) r.2).map fun t => (a, s, r.1) :: t
def ranges (n : Nat) (p : Nat → Bool) : Bool := (List.range n).all p
def effAt (P : Program) (ops : Array Oper) (i : Nat) : Bool := match ops[i]? with | some o => effB P o | none => false
def drawnB (P : Program) (call : Calling) (ops : Array Oper) (t : List (AA × AS × Value)) : Bool :=
  let n := ops.size
  let at_ (i : Nat) : AA × AS × Value := t.getD i (⟨.nil, 0, [], none⟩, .empty, undefV)
  ranges n (fun j => match ops[j]? with | some o => o.after.toList.all fun e => !Region.binds .any e || Nat.blt e.on j | none => true) &&
  ranges n (fun i => ranges n fun j => Nat.beq i j || (match ops[i]?, ops[j]? with | some o, some o' => (match o.dst, o'.dst with | some d, some d' => !Nat.beq d d' | _, _ => true) && (match o.dst with | some d => !(looks ops o').contains d || (precB ops i j && Nat.blt i j) || (precB ops j i && Nat.blt j i) | none => true) | _, _ => true) && (!Nat.blt i j || !effAt P ops i || !effAt P ops j || precB ops i j)) &&
  ranges n (fun i => effAt P ops i || ranges (n + 1) fun k =>
    !(ranges n fun j => !effAt P ops j || ((!precB ops j i || Nat.blt j k) && (!precB ops i j || Nat.ble k j))) ||
    (match ops[i]? with
     | some o => (match stepVF P call ops o (at_ i).1 (at_ k).2.1 with | some (u, _) => veq u (at_ i).2.2 | none => false)
     | none => true))
abbrev Out := Option (AExit × AA × AS)
def loopF (f : AA → AS → Out) : Nat → AA → AS → Out
  | 0, _, _ => none
  | n + 1, a, s =>
    match f a s with
    | some (.normal, a', s') => loopF f n a' s'
    | r => r
def jumpOf : Option Code → Option AExit
  | none => some .normal
  | some .ret => some .ret
  | some (.exit id) => some (.exit id)
  | some (.goto l) => some (.goto l)
  | _ => none
def AExit.jump : AExit → Option Code
  | .normal => none
  | .ret => some .ret
  | .exit id => some (.exit id)
  | .goto l => some (.goto l)
/-- A range over a function is entered: its loop's number, the frame's marks, the memory. -/
def enterF (a : AA) (s : AS) (ps : Array Tmp) (assign body : Code) : Option (Nat × List Nat × AS) :=
  match a.rd with
  | none => some (s.size + 1, s.size :: a.df, (s.push .defd).push (.loop .ready none a.tm a.n ps.toList assign body s.size))
  | some l0 =>
    match s.get l0 with
    | some (.loop _ _ _ _ _ _ _ dfr) => some (s.size, a.df, s.push (.loop .ready none a.tm a.n ps.toList assign body dfr))
    | _ => none
def setAll (n : Nat) : List Tmp → List Value → Tr Value → Tr Value
  | t :: ts, v :: vs, tm => setAll n ts vs (cond (Nat.blt t n) (tm.set t (some v)) tm)
  | _, _, tm => tm
def exec (P : Program) (call : Calling) (k : Nat) : Code → AA → AS → Out
  | .skip, a, s => some (.normal, a, s)
  | .label _, a, s => some (.normal, a, s)
  | .region _ ops false, a, s => (stepsO P call ops ops.toList a s).map fun r => (.normal, r.1, r.2)
  | .region _ ops true, a, s => (trace P call ops ops.toList a s).bind fun t => if drawnB P call ops t = true then (t[ops.size]?).map fun x => (.normal, x.1, x.2.1) else none
  | .seq x y, a, s =>
    match exec P call k x a s with
    | some (.normal, a', s') => exec P call k y a' s'
    | r => r
  | .cond c x y, a, s =>
    match a.ev c with
    | some (.bool true) => exec P call k x a s
    | some (.bool false) => exec P call k y a s
    | _ => none
  | .block id x, a, s =>
    match exec P call k x a s with
    | some (.exit j, a', s') => cond (Nat.beq j id) (some (.normal, a', s')) (some (.exit j, a', s'))
    | r => r
  | .loop x, a, s => loopF (exec P call k x) k a s
  | .rangeFunc g ps assign body, a, s =>
    match enterF a s ps assign body with
    | none => none
    | some (l, df, s1) =>
      match a.ev g with
      | some (.func (.func f) first cap) =>
        if first.isEmpty = true then
          match call (.func f) ([.func (.yield l) #[] #[]] ++ cap.toList) s1 with
          | none => none
          | some (_, s2) =>
            match s2.get l with
            | some (.loop st pend tm n ps assign body dfr) =>
              match st with
              | .busy => none
              | _ =>
                match jumpOf pend with
                | some e => some (e, { a with df := df }, s2.put l (.loop .exhausted pend tm n ps assign body dfr))
                | none => none
            | _ => none
        else none
      | _ => none
  | .exit id, a, s => some (.exit id, a, s)
  | .goto l, a, s => some (.goto l, a, s)
  | .ret, a, s => some (.ret, a, s)
  | .scope _, _, _ => none
  | .refuse _, _, _ => none
def aRes (P : Program) (a : AA) (s : AS) : ResultVar → Option Value
  | .tmp t => a.tm.get t
  | .cell x t => (a.tm.get x).bind fun p => aLoad P s t p
def aRess (P : Program) (a : AA) (s : AS) : List ResultVar → Option (List Value)
  | [] => some []
  | r :: l => (aRes P a s r).bind fun v => (aRess P a s l).map (v :: ·)
def aResults (P : Program) (fn : Func) (a : AA) (s : AS) : Option Value :=
  (aRess P a s fn.results.toList).map fun vs => match vs with | [v] => v | vs => .tuple vs.toArray
/-- One round of a range over a function. -/
def around (ex : Code → AA → AS → Out) (l : Nat) (xs : List Value) (s : AS) : Option (Value × AS) :=
  match s.get l with
  | some (.loop _ _ tm n ps assign body _) =>
    if ps.length = xs.length then
      match ex assign ⟨setAll n ps xs tm, n, [], some l⟩ s with
      | some (.normal, a1, s1) =>
        match s1.get l with
        | some (.loop .ready pend tm1 n1 ps1 as1 bd1 dfr1) =>
          match ex body a1 (s1.put l (.loop .busy pend tm1 n1 ps1 as1 bd1 dfr1)) with
          | some (e, a2, s2) =>
            match s2.get l with
            | some (.loop _ _ tm2 n2 ps2 as2 bd2 dfr2) =>
              match e with
              | .normal => some (.bool true, s2.put l (.loop .ready none tm2 n2 ps2 as2 bd2 dfr2))
              | e => some (.bool false, s2.put l (.loop .done e.jump tm2 n2 ps2 as2 bd2 dfr2))
            | _ => none
          | none => none
        | _ => none
      | _ => none
    else none
  | _ => none
/-- A frame leaves: its marks are taken. -/
def aLeave : List Nat → AS → Option AS
  | [], s => some s
  | b :: l, s =>
    match s.get b with
    | some .defd => aLeave l (s.put b .dead)
    | _ => none
def acall (P : Program) (fb : FuncId → Option Func) (ext : Calling) (K : Nat) : Nat → Calling
  | 0, _, _, _ => none
  | k + 1, .func f, xs, s =>
    match ext (.func f) xs s with
    | some r => some r
    | none =>
      match fb f with
      | some fn =>
        match fn.body with
        | some c =>
          match exec P (acall P fb ext K k) K c ⟨AA.start xs 0 .nil, Nat.max xs.length fn.ntmps, [], none⟩ s with
          | some (.normal, a, s') | some (.ret, a, s') => (aLeave a.df s').bind fun s'' => (aResults P fn a s'').map (·, s'')
          | _ => none
        | none => none
      | none => none
  | k + 1, .yield l, xs, s => around (exec P (acall P fb ext K k) K) l xs s
  | _ + 1, _, _, _ => none
end Go.Proofs.YtchjiocljlbhkaaW.Mill
