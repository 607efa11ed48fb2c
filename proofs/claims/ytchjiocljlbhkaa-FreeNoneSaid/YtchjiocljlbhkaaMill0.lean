/- A small machine beside the model's: values and memory as in the model, blocks numbered in their own way; what it computes, the model computes (the session's own). -/
import Derived.CallsIn
import Derived.RangeFuncLeaves
import Derived.OrdersIn
import Derived.Below
import Derived.Laws.Sem
import Derived.Laws.World
import Derived.Laws.Rows
import Derived.Laws.Cells
import Derived.Laws.Entries
import Derived.Laws.Append
import Derived.Laws.BytesString
import Derived.Laws.Slices
namespace Go.Proofs.YtchjiocljlbhkaaW.Mill
open Go Go.RowKit
set_option linter.unusedVariables false

/-! ### rows by number -/
inductive Tr (α : Type) where
  | nil
  | node (v : Option α) (l r : Tr α)
def Tr.get {α : Type} : Tr α → Nat → Option α
  | .nil, _ => none
  | .node v l r, n => cond (Nat.beq n 0) v (cond (Nat.beq (n % 2) 1) (l.get (n / 2)) (r.get (n / 2 - 1)))
def Tr.setF {α : Type} : Nat → Tr α → Nat → Option α → Tr α
  | 0, t, _, _ => t
  | _ + 1, .nil, 0, x => .node x .nil .nil
  | k + 1, .nil, n + 1, x => cond (Nat.beq ((n + 1) % 2) 1) (.node none (setF k .nil ((n + 1) / 2) x) .nil) (.node none .nil (setF k .nil ((n + 1) / 2 - 1) x))
  | _ + 1, .node _ l r, 0, x => .node x l r
  | k + 1, .node v l r, n + 1, x => cond (Nat.beq ((n + 1) % 2) 1) (.node v (setF k l ((n + 1) / 2) x) r) (.node v l (setF k r ((n + 1) / 2 - 1) x))
def Tr.set {α : Type} (t : Tr α) (n : Nat) (x : Option α) : Tr α := Tr.setF (n + 1) t n x

/-! ### memory -/
inductive AObj where
  | cells (c : List Value) (elem : TypeId) (ro : Bool)
  | map (es : List (Value × Value × Nat)) (clock : Nat)
  | iter (s : ByteArray) (pos : Nat)
  | loop (st : LoopState) (pend : Option Code) (tm : Tr Value) (n : Nat) (ps : List Tmp) (assign body : Code) (dfr : Nat)
  | defd
  | dead
structure AS where
  heap : Tr AObj
  size : Nat
def AS.get (s : AS) (b : Nat) : Option AObj := s.heap.get b
def AS.put (s : AS) (b : Nat) (o : AObj) : AS := ⟨s.heap.set b (some o), s.size⟩
def AS.push (s : AS) (o : AObj) : AS := ⟨s.heap.set s.size (some o), s.size + 1⟩
def AS.empty : AS := ⟨.nil, 0⟩

/-! ### values without addresses -/
def plain1 : Value → Bool
  | .bool _ | .int _ _ | .string _ | .pointer none | .map none | .nilFunc | .nilIface => true
  | .slice none 0 0 => true
  | .func (.func _) first cap => first.isEmpty && cap.isEmpty
  | _ => false
def plainI : Value → Bool
  | .iface _ v => plain1 v
  | v => plain1 v
def plainV : Value → Bool
  | .agg cs => cs.toList.all plainI
  | .tuple vs => vs.isEmpty
  | v => plainI v
def oneC : Value → Bool
  | .agg _ | .tuple _ => false
  | _ => true
/-- What a term of the model's comes to that looks at nothing but the program. -/
def calm {α : Type} (P : Program) : Sem α → Option α
  | .pure a => some a
  | .program k => calm P (k P)
  | _ => none

/-- The same, a value without addresses. -/
def calmV (P : Program) (x : Sem Value) : Option Value :=
  match calm P x with
  | some v => cond (plainV v) (some v) none
  | none => none

/-! ### types -/
def aggB (P : Program) (t : TypeId) : Option Bool :=
  match P.underlying t with
  | some (.struct _) | some (.array _ _) => some true
  | some _ => some false
  | none => none
def sizeO (P : Program) (t : TypeId) : Option Nat := (P.info? t).map (·.size)
def zeroO (P : Program) (t : TypeId) : Option Value :=
  match (P.info? t).bind (·.zero) with
  | some z => cond (plainV z) (some z) none
  | none => none

/-! ### rows -/
def row (c : List Value) (o n : Nat) : Option (List Value) := if o + n ≤ c.length then some ((c.drop o).take n) else none
def write (c : List Value) (o : Nat) (vs : List Value) : List Value := c.take o ++ vs ++ c.drop (o + vs.length)
def vcells : Value → List Value
  | .agg cs => cs.toList
  | v => [v]
def aPart (P : Program) (t : TypeId) (cs : List Value) (o : Nat) : Option Value :=
  match aggB P t with
  | some true => (sizeO P t).bind fun n => (row cs o n).map fun l => .agg l.toArray
  | some false => cs[o]?
  | none => none
def aLoad (P : Program) (s : AS) (t : TypeId) : Value → Option Value
  | .pointer (some ⟨b, o, none⟩) =>
    match s.get b with
    | some (.cells c _ _) => aPart P t c o
    | _ => none
  | _ => none
def aStore (P : Program) (s : AS) (t : TypeId) (a v : Value) : Option AS :=
  match a with
  | .pointer (some ⟨b, o, none⟩) =>
    match s.get b with
    | some (.cells c e false) =>
      if sizeO P t = some (vcells v).length ∧ o + (vcells v).length ≤ c.length ∧ (vcells v).all oneC = true then some (s.put b (.cells (write c o (vcells v)) e false)) else none
    | _ => none
  | _ => none
def aNew (s : AS) (e : TypeId) (vs : List Value) : Value × AS := (.pointer (some ⟨s.size, 0, none⟩), s.push (.cells vs e false))

/-! ### building -/
def aFill (place : Nat → Option (Nat × Nat)) (cs : List Value) : List (Nat × Value) → Option (List Value)
  | [] => some cs
  | (i, v) :: rest =>
    match place i with
    | none => none
    | some (off, size) => if (vcells v).length = size ∧ off + (vcells v).length ≤ cs.length then aFill place (write cs off (vcells v)) rest else none
def fieldO (P : Program) (t : TypeId) (i : Nat) : Option Field :=
  match P.underlying t with
  | some (.struct fs) => fs[i]?
  | _ => none
def aBuild (P : Program) (t : TypeId) (parts : List (Nat × Value)) : Option Value :=
  (zeroO P t).bind fun z =>
  match P.underlying t with
  | some (.struct fs) => if (fs.toList.all fun f => (sizeO P f.type).isSome) = true then
      (aFill (fun i => (fs[i]?).bind fun f => (sizeO P f.type).map fun n => (f.offset, n)) (vcells z) parts).map fun l => .agg l.toArray
    else none
  | some (.array _ e) => (sizeO P e).bind fun n => (aFill (fun i => some (i * n, n)) (vcells z) parts).map fun l => .agg l.toArray
  | _ => none
def zeros (z : List Value) : Nat → List Value
  | 0 => []
  | n + 1 => z ++ zeros z n
def aBuildSlice (P : Program) (s : AS) (t : TypeId) (len : Nat) (parts : List (Nat × Value)) : Option (Value × AS) :=
  match P.underlying t with
  | some (.slice e) => (sizeO P e).bind fun n => (zeroO P e).bind fun z =>
      if len * n ≤ 16777216 ∧ (vcells z).length = n then
        (aFill (fun i => some (i * n, n)) (zeros (vcells z) len) parts).map fun l => (.slice (some ⟨s.size, 0, some 1⟩) len len, s.push (.cells l e false))
      else none
  | _ => none

/-! ### slices -/
def intOf : Value → Option Int
  | .int _ n => some n
  | _ => none
def elemO (P : Program) (t : TypeId) : Option TypeId :=
  match P.underlying t with
  | some (.slice e) => some e
  | _ => none
/-- The bounds of a cut: low, high, max. -/
def aBounds (len cap : Nat) (lo hi mx : Option Int) : Option (Nat × Nat × Nat) :=
  let m : Option Int := some (mx.getD cap)
  let h : Int := hi.getD len
  let l : Int := lo.getD 0
  match m with
  | some m => if 0 ≤ l ∧ l ≤ h ∧ h ≤ m ∧ m ≤ cap ∧ (mx.isSome = true → hi.isSome = true) then some (l.toNat, h.toNat, m.toNat) else none
  | none => none
def aSlice (P : Program) (s : AS) (t : TypeId) (x : Value) (lo hi mx : Option Int) : Option Value :=
  match P.underlying t, x with
  | some (.slice e), .slice none 0 0 =>
    match aBounds 0 0 lo hi mx with
    | some _ => (sizeO P e).map fun _ => .slice none 0 0
    | none => none
  | some (.slice e), .slice (some ⟨b, o, sp⟩) len cap =>
    match aBounds len cap lo hi mx, sizeO P e, s.get b with
    | some (l, h, m), some n, some (.cells _ e' _) =>
      if n = P.cellsOf e' then
        if mx.isSome = true ∧ m = l then some (.slice (some ⟨b, o, some 1⟩) (h - l) 0)
        else if sp = some 1 ∧ m = l then some (.slice (some ⟨b, o, some 1⟩) (h - l) 0)
        else if mx.isSome = true then some (.slice (some ⟨b, o + l * n, some 1⟩) (h - l) (m - l))
        else if sp = none ∧ m = l then some (.slice (some ⟨b, o + l * n, none⟩) 0 0)
        else some (.slice (some ⟨b, o + l * n, sp⟩) (h - l) (m - l))
      else none
    | _, _, _ => none
  | some (.array n e), .pointer (some ⟨b, o, none⟩) =>
    match aBounds n n lo hi mx, sizeO P e with
    | some (l, h, m), some k => some (.slice (some ⟨b, if m = l then o else o + l * k, some 1⟩) (h - l) (m - l))
    | _, _ => none
  | _, _ => none
def aMakeSlice (P : Program) (s : AS) (t : TypeId) (l c : Int) : Option (Value × AS) :=
  match elemO P t with
  | some e =>
    match P.info? e, zeroO P e with
    | some i, some z => if 0 ≤ l ∧ l ≤ c ∧ c ≤ 70368744177664 ∧ i.bytes * c ≤ 70368744177664 ∧ (vcells z).length = i.size then
        some (.slice (some ⟨s.size, 0, some 1⟩) l.toNat c.toNat, s.push (.cells (zeros (vcells z) c.toNat) e false)) else none
    | _, _ => none
  | none => none
def aIndexAddr (P : Program) (t : TypeId) (x : Value) (i : Int) : Option Value :=
  match P.underlying t, x with
  | some (.slice e), .slice (some ⟨b, o, _⟩) n _ => if 0 ≤ i ∧ i < n then (sizeO P e).map fun k => .pointer (some ⟨b, o + i.toNat * k, none⟩) else none
  | some (.array n e), .pointer (some ⟨b, o, none⟩) => if 0 ≤ i ∧ i < n then (sizeO P e).map fun k => .pointer (some ⟨b, o + i.toNat * k, none⟩) else none
  | _, _ => none
def bytesV (s : ByteArray) : List Value := s.data.toList.map fun b => .int .u8 b.toNat
/-- The cells of the first n elements (of so many cells each). -/
def aFirst (s : AS) (size n : Nat) : Value → Option (List Value)
  | .slice none _ _ => some []
  | .slice (some ⟨b, o, _⟩) _ _ =>
    match s.get b with
    | some (.cells c _ _) => row c o (n * size)
    | _ => none
  | .string x => some ((bytesV x).take n)
  | _ => none
def lenV : Value → Option Nat
  | .slice _ n _ => some n
  | .string x => some x.size
  | _ => none
def aAppend (P : Program) (s : AS) (t u : TypeId) (x y : Value) : Option (Value × AS) :=
  match elemO P t with
  | some e =>
    match P.info? e, zeroO P e, P.underlying u, x, lenV y with
    | some i, some z, some du, .slice base sl sc, some n =>
      match du with
      | .int _ => none
      | _ =>
      (aFirst s i.size n y).bind fun new =>
      if new.length = n * i.size ∧ new.all oneC = true then
        if n = 0 ∧ sl ≤ sc then some (x, s)
        else if sl + n ≤ sc then
          match base with
          | none => some (x, s)
          | some ⟨b, o, sp⟩ =>
            match s.get b with
            | some (.cells c e' false) => if o + (sl + n) * i.size ≤ c.length then some (.slice (some ⟨b, o, sp⟩) (sl + n) sc, s.put b (.cells (write c (o + sl * i.size) new) e' false)) else none
            | _ => none
        else if (sl + n) * i.bytes ≤ 70368744177664 ∧ sl + n ≤ 70368744177664 ∧ (vcells z).length = i.size then
          match base with
          | none => if sl = 0 then some (.slice (some ⟨s.size, 0, none⟩) n n, s.push (.cells new e false)) else none
          | some ⟨b, o, sp⟩ =>
            match s.get b with
            | some (.cells c e' ro) =>
              if (row c o (sl * i.size)).isSome = true ∧ e' = e ∧ (sp = some 1 ∨ (sp = none ∧ ro = false)) then
                let s' := if sp = some 1 then s else s.put b .dead
                some (.slice (some ⟨s.size, 0, none⟩) (sl + n) (sl + n), s'.push (.cells (((c.drop o).take (sl * i.size)) ++ new) e false))
              else none
            | _ => none
        else none
      else none
    | _, _, _, _, _ => none
  | none => none
def aCopy (P : Program) (s : AS) (t : TypeId) (x y : Value) : Option (Value × AS) :=
  match elemO P t, x, lenV y with
  | some e, .slice base dl _, some n =>
    (sizeO P e).bind fun k =>
    let m := Nat.min n dl
    match base with
    | none => some (.int .i64 m, s)
    | some ⟨b, o, _⟩ =>
      (aFirst s k m y).bind fun new =>
      match s.get b with
      | some (.cells c e' false) => if new.length = m * k ∧ o + m * k ≤ c.length ∧ new.all oneC = true then some (.int .i64 m, s.put b (.cells (write c o new) e' false)) else none
      | _ => none
  | _, _, _ => none
def aClear (P : Program) (s : AS) (t : TypeId) (x : Value) : Option AS :=
  match elemO P t, x with
  | some _, .slice none _ _ => some s
  | some e, .slice (some ⟨b, o, _⟩) n _ =>
    if n = 0 then some s else
    match zeroO P e, s.get b with
    | some z, some (.cells c e' false) =>
      if o + (zeros (vcells z) n).length ≤ c.length ∧ (vcells z).all oneC = true then some (s.put b (.cells (write c o (zeros (vcells z) n)) e' false)) else none
    | _, _ => none
  | _, _ => none
def bytesOf : List Value → Option (List UInt8)
  | [] => some []
  | .int .u8 n :: l => (bytesOf l).map (UInt8.ofNat n.toNat :: ·)
  | _ => none

/-! ### maps -/
def aFind (P : Program) (kt : TypeId) (k : Value) : List (Value × Value × Nat) → Nat → Option (Option (Nat × Value))
  | [], _ => some none
  | (key, v, _) :: es, i =>
    match calm P (Op.equal kt k key) with
    | some true => some (some (i, v))
    | some false => aFind P kt k es (i + 1)
    | none => none
def mapTO (P : Program) (t : TypeId) : Option (TypeId × TypeId) :=
  match P.underlying t with
  | some (.map k e) => (P.underlying k).map fun _ => (k, e)
  | _ => none
def aLookup (P : Program) (s : AS) (t : TypeId) (m k : Value) (ok : Bool) : Option Value :=
  match mapTO P t with
  | some (kt, et) =>
    let es : Option (List (Value × Value × Nat)) := match m with
      | .map none => some []
      | .map (some b) => match s.get b with | some (.map es _) => some es | _ => none
      | _ => none
    es.bind fun es => (zeroO P et).bind fun z =>
    if plainV k = true ∧ (calm P (Instr.checkKey es.isEmpty 10000 kt k)).isSome = true then
      (aFind P kt k es 0).map fun r =>
        match r with
        | some (_, v) => if ok then .tuple #[v, .bool true] else v
        | none => if ok then .tuple #[z, .bool false] else z
    else none
  | none => none
/-- The entry of a key that is there, or made. -/
def aEntry (P : Program) (s : AS) (t : TypeId) (m k : Value) (new : Option Value) : Option (Value × AS) :=
  match mapTO P t, m with
  | some (kt, et), .map (some b) =>
    match s.get b, zeroO P et with
    | some (.map es clock), some z =>
      if plainV k = true ∧ (calm P (Instr.checkKey false 10000 kt k)).isSome = true then
        (aFind P kt k es 0).bind fun r =>
          match r with
          | some (i, v) =>
            match es[i]? with
            | some (key, _, born) => if Instr.sameBits 10000 key k = true then some (.tuple #[v, .int .i64 born], s.put b (.map (es.set i (k, new.getD v, born)) clock)) else none
            | none => none
          | none => some (.tuple #[z, .int .i64 clock], s.put b (.map (es ++ [(k, new.getD z, clock)]) (clock + 1)))
      else none
    | _, _ => none
  | _, _ => none
def aEntryStore (s : AS) (m stamp v : Value) : Option AS :=
  match m, stamp with
  | .map (some b), .int _ n =>
    match s.get b with
    | some (.map es clock) =>
      match es.findIdx? (fun e => decide ((e.2.2 : Int) = n)) with
      | some i => match es[i]? with
        | some (key, _, born) => some (s.put b (.map (es.set i (key, v, born)) clock))
        | none => none
      | none => none
    | _ => none
  | _, _ => none
def aDelete (P : Program) (s : AS) (t : TypeId) (m k : Value) : Option AS :=
  match mapTO P t, m with
  | some (kt, _), .map (some b) =>
    match s.get b with
    | some (.map es clock) =>
      if plainV k = true ∧ (calm P (Instr.checkKey es.isEmpty 10000 kt k)).isSome = true then
        (aFind P kt k es 0).map fun r =>
          match r with
          | some (i, _) => s.put b (.map (es.eraseIdx i) clock)
          | none => s
      else none
    | _ => none
  | _, _ => none

/-! ### the operations -/
def isNil : Value → Option Bool
  | .pointer a => some a.isNone
  | .slice a _ _ => some a.isNone
  | .map a => some a.isNone
  | .nilFunc => some true
  | .func _ _ _ => some false
  | .nilIface => some true
  | .iface _ _ => some false
  | _ => none
def nilKind (P : Program) (t : TypeId) : Value → Bool
  | .pointer none => match P.underlying t with | some (.pointer _) => true | _ => false
  | .slice none 0 0 => match P.underlying t with | some (.slice _) => true | _ => false
  | .map none => match P.underlying t with | some (.map _ _) => true | _ => false
  | .nilFunc => match P.underlying t with | some (.func _ _ _) => true | _ => false
  | _ => false
def sameForm : Value → Value → Bool
  | .pointer _, .pointer _ => true
  | .slice .., .slice .. => true
  | .map _, .map _ => true
  | .func .., .nilFunc => true
  | .nilFunc, .nilFunc => true
  | _, _ => false
def aBin (P : Program) (op : BinOp) (t : TypeId) (xo yo : Operand) (x y : Value) : Option Value :=
  if plainV x = true ∧ plainV y = true then calmV P (do eqGuard op t xo yo x y; binOp op t x y)
  else if nilKind P t y = true ∧ sameForm x y = true then
    match op with
    | .eql => (isNil x).map .bool
    | .neq => (isNil x).map fun b => .bool !b
    | _ => none
  else none
def aConvert (P : Program) (s : AS) (src dst : TypeId) (x : Value) : Option (Value × AS) :=
  match x with
  | .slice none 0 0 =>
    match P.underlying src, P.underlying dst with
    | some (.slice e), some .string => match P.underlying e with | some (.int .u8) => some (.string .empty, s) | _ => none
    | _, _ => none
  | .slice (some ⟨b, o, _⟩) n _ =>
    match P.underlying src, P.underlying dst, s.get b with
    | some (.slice e), some .string, some (.cells c _ _) =>
      match P.underlying e with
      | some (.int .u8) => (row c o n).bind fun l => (bytesOf l).map fun bs => (.string ⟨bs.toArray⟩, s)
      | _ => none
    | _, _, _ => none
  | .string v =>
    match P.underlying src, P.underlying dst with
    | some _, some (.slice e) =>
      match P.underlying e with
      | some (.int .u8) => if v.size ≤ 70368744177664 ∧ sizeO P e = some 1 then some (.slice (some ⟨s.size, 0, none⟩) v.size v.size, s.push (.cells (bytesV v) e false)) else none
      | _ => none
    | _, _ => (calmV P (convert src dst x)).map (·, s)
  | x => if plainV x = true then (calmV P (convert src dst x)).map (·, s) else none
def aLen (P : Program) (s : AS) (t : TypeId) (x : Value) : Option Value :=
  match P.underlying t, x with
  | some .string, .string v => some (.int .i64 v.size)
  | some (.slice _), .slice _ n _ => some (.int .i64 n)
  | some (.array n _), _ => some (.int .i64 n)
  | some (.map _ _), .map none => some (.int .i64 0)
  | some (.map _ _), .map (some b) => match s.get b with | some (.map es _) => some (.int .i64 es.length) | _ => none
  | _, _ => none
def aCap (P : Program) (t : TypeId) (x : Value) : Option Value :=
  match P.underlying t, x with
  | some (.slice _), .slice none 0 0 => some (.int .i64 0)
  | some (.slice _), .slice (some ⟨_, _, some 1⟩) _ c => some (.int .i64 c)
  | _, _ => none
def aBuiltin (P : Program) (s : AS) (b : Builtin) (ts : Array TypeId) (ty : TypeId) (xs : List Value) : Option (Value × AS) :=
  match b, ts.toList, xs with
  | .len, t :: _, [x] => (aLen P s t x).map (·, s)
  | .cap, t :: _, [x] => (aCap P t x).map (·, s)
  | .append, t :: u :: _, [x, y] => aAppend P s t u x y
  | .copy, t :: _, [x, y] => aCopy P s t x y
  | .clear, t :: _, [x] => (aClear P s t x).map fun s' => (.tuple #[], s')
  | .delete, t :: _, [m, k] => (aDelete P s t m k).map fun s' => (.tuple #[], s')
  | .min, _, xs => if xs.all plainV = true then (calmV P (Builtin.min_ ts ty xs.toArray)).map (·, s) else none
  | .max, _, xs => if xs.all plainV = true then (calmV P (Builtin.max_ ts ty xs.toArray)).map (·, s) else none
  | _, _, _ => none
def evs (ev : Operand → Option Value) : List Operand → Option (List Value)
  | [] => some []
  | x :: l => (ev x).bind fun v => (evs ev l).map (v :: ·)
def evParts (ev : Operand → Option Value) : List (Nat × Operand) → Option (List (Nat × Value))
  | [] => some []
  | (i, x) :: l => (ev x).bind fun v => (evParts ev l).map ((i, v) :: ·)
def evInt (ev : Operand → Option Value) : Option Operand → Option (Option Int)
  | none => some none
  | some x => (ev x).bind fun v => (intOf v).map some
def undefV : Value := .tuple #[]
def aop (P : Program) (ev : Operand → Option Value) (s : AS) : Op → Option (Value × AS)
  | .move x | .assign x => (ev x).map (·, s)
  | .pick c a b =>
    match ev c with
    | some (.bool t) => (if t then ev a else ev b).map (·, s)
    | _ => none
  | .alloc e => (zeroO P e).map fun z => aNew s e (vcells z)
  | .box e x => (ev x).map fun v => aNew s e (vcells v)
  | .build t parts => (evParts ev parts.toList).bind fun ps => (aBuild P t ps).map (·, s)
  | .buildSlice t len parts => (evParts ev parts.toList).bind fun ps => aBuildSlice P s t len ps
  | .load t a => (ev a).bind fun a => (aLoad P s t a).map (·, s)
  | .store t a x => (ev a).bind fun a => (ev x).bind fun v => (aStore P s t a v).map (undefV, ·)
  | .nilCheck x => (ev x).bind fun v =>
    match v with
    | .pointer (some _) => some (v, s)
    | .func (.func _) _ _ => some (v, s)
    | _ => none
  | .binOp op t x y _ => (ev x).bind fun a => (ev y).bind fun b => (aBin P op t x y a b).map (·, s)
  | .unOp op _ x => (ev x).bind fun a => if plainV a = true then (calmV P (Op.unary op a)).map (·, s) else none
  | .convert src dst x => (ev x).bind fun a => aConvert P s src dst a
  | .makeInterface t x => (ev x).bind fun a =>
    match P.underlying t with
    | some (.interface _) => none
    | some _ => some (.iface t a, s)
    | none => none
  | .makeFunc fn first cap =>
    match fn, first.toList with
    | .func f, [] => (evs ev cap.toList).map fun vs => (.func (.func f) #[] vs.toArray, s)
    | _, _ => none
  | .makeMap t r =>
    match r with
    | none => some (.map (some s.size), s.push (.map [] 0))
    | some h => (ev h).bind fun v => (intOf v).bind fun _ => (mapTO P t).map fun _ => (.map (some s.size), s.push (.map [] 0))
  | .makeSlice t l c => (ev l).bind fun l => (ev c).bind fun c => (intOf l).bind fun l => (intOf c).bind fun c => aMakeSlice P s t l c
  | .slice t x lo hi mx => (ev x).bind fun v =>
    match v with
    | .string _ => 
      (match lo, hi, mx with
       | none, none, none => calmV P (Instr.sliceAt t v none none none)
       | some a, none, none => (ev a).bind fun a => if plainV a = true then calmV P (Instr.sliceAt t v (some a) none none) else none
       | none, some b, none => (ev b).bind fun b => if plainV b = true then calmV P (Instr.sliceAt t v none (some b) none) else none
       | some a, some b, none => (ev a).bind fun a => (ev b).bind fun b => if plainV a = true ∧ plainV b = true then calmV P (Instr.sliceAt t v (some a) (some b) none) else none
       | _, _, _ => none).map (·, s)
    | v => (evInt ev lo).bind fun lo => (evInt ev hi).bind fun hi => (evInt ev mx).bind fun mx => (aSlice P s t v lo hi mx).map (·, s)
  | .fieldAddr t x i => (ev x).bind fun a =>
    match a, fieldO P t i with
    | .pointer (some ⟨b, o, none⟩), some f =>
      match sizeO P f.type with
      | some (_ + 1) => some (.pointer (some ⟨b, o + f.offset, none⟩), s)
      | _ => none
    | _, _ => none
  | .field t x i => (ev x).bind fun a =>
    match a, fieldO P t i with
    | .agg cs, some f => (aPart P f.type cs.toList f.offset).map (·, s)
    | _, _ => none
  | .indexAddr t x i => (ev x).bind fun a => (ev i).bind fun i => (intOf i).bind fun i => (aIndexAddr P t a i).map (·, s)
  | .index t x i => (ev x).bind fun a => (ev i).bind fun i => 
    match P.underlying t, a, i with
    | some (.array n e), .agg cs, .int _ j => if 0 ≤ j ∧ j < n then (sizeO P e).bind fun k => (aPart P e cs.toList (j.toNat * k)).map (·, s) else none
    | some .string, .string v, .int k j => (calmV P (Instr.index t (.string v) (.int k j))).map (·, s)
    | _, _, _ => none
  | .lookup t m k ok => (ev m).bind fun m => (ev k).bind fun k => (aLookup P s t m k ok).map (·, s)
  | .mapUpdate t m k x => (ev m).bind fun m => (ev k).bind fun k => (ev x).bind fun v => (aEntry P s t m k (some v)).map fun r => (undefV, r.2)
  | .mapEntry t m k => (ev m).bind fun m => (ev k).bind fun k => aEntry P s t m k none
  | .entryStore _ m st x => (ev m).bind fun m => (ev st).bind fun st => (ev x).bind fun v => (aEntryStore s m st v).map (undefV, ·)
  | .range t x => (ev x).bind fun v =>
    match P.underlying t, v with
    | some .string, .string b => some (.pointer (some ⟨s.size, 0, none⟩), s.push (.iter b 0))
    | _, _ => none
  | .next it true => (ev it).bind fun v =>
    match v with
    | .pointer (some ⟨r, 0, none⟩) =>
      match s.get r with
      | some (.iter b pos) => if pos < b.size then some (.tuple #[.bool true, .int .i64 pos, .int .i32 (Utf8.decode b pos).1], s.put r (.iter b (pos + (Utf8.decode b pos).2))) else some (.tuple #[.bool false], s)
      | _ => none
    | _ => none
  | .extract x i => (ev x).bind fun v =>
    match v with
    | .tuple vs => (vs[i]?).map (·, s)
    | _ => none
  | _ => none
end Go.Proofs.YtchjiocljlbhkaaW.Mill
