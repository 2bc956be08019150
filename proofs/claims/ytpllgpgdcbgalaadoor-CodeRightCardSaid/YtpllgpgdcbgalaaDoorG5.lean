/- How Go data lies in memory, as Lean data: a predicate with the set of blocks that it rests on. The plain data of the program: values, cells, code, programs, agents; and how they lie in memory. What is wrong with values, programs, and agents: plain functions. Values, and cells of values: plain functions (chapter 1). The machine: an agent's steps, as a plain function (chapter 7). Agents as bytes, and back: the plain functions. Texts of programs: what they are read as; the plain functions (chapter 3). How what is to be shown is taken apart. More of how what is to be shown is taken apart. Maps, and more. Calls that only read: what they are handed may be owned. What a call has made is read by value from now on, in part. Parsing: the parser in memory; what goes on behind a first wrong thing; a result by value. -/
import Derived.WalkKit
import Derived.Deep.Slices
import Derived.Lib.ItoaNum
import Derived.Test.YtpllgpgdcbgalaaDoorG4
import Derived.Lib.AtoiAll
import Derived.IntWalk
set_option linter.unusedSimpArgs false
set_option linter.unusedVariables false
namespace Go.Proofs.YtpllgpgdcbgalaaDoor
open Go Go.RowKit
abbrev Str := List UInt8
def I64 (n : Int) : Prop := -9223372036854775808 ≤ n ∧ n ≤ 9223372036854775807
structure Ty (α : Type) where
  sz : Nat
  R : (Nat → Prop) → World → List Value → α → Prop
  len : ∀ {S : Nat → Prop} {w : World} {cs : List Value} {x : α}, R S w cs x → cs.length = sz
  mono : ∀ {S S' : Nat → Prop} {w w' : World} {cs : List Value} {x : α}, (∀ k, S k → S' k ∧ w'.heap[k]? = w.heap[k]?) → R S w cs x → R S' w' cs x
def zba (w : World) (b off : Nat) (cs : List Value) : Prop := ∀ j v, cs[j]? = some v → w.cell? ⟨b, off + j, none⟩ = some v
theorem zba.same {w w' : World} {b off : Nat} {cs : List Value} (h : zba w b off cs) (hb : w'.heap[b]? = w.heap[b]?) : zba w' b off cs :=
  fun j v hv => (World.cell?_of_block (w := w) (a := ⟨b, off + j, none⟩) hb).trans (h j v hv)
theorem zba.c0 {w : World} {b off : Nat} {v : Value} {r : List Value} (h : zba w b off (v :: r)) : w.cell? ⟨b, off, none⟩ = some v := h 0 v rfl
theorem zba.c1 {w : World} {b off : Nat} {v0 v : Value} {r : List Value} (h : zba w b off (v0 :: v :: r)) : w.cell? ⟨b, off + 1, none⟩ = some v := h 1 v rfl
theorem zba.c2 {w : World} {b off : Nat} {v0 v1 v : Value} {r : List Value} (h : zba w b off (v0 :: v1 :: v :: r)) : w.cell? ⟨b, off + 2, none⟩ = some v := h 2 v rfl
theorem zba.c3 {w : World} {b off : Nat} {v0 v1 v2 v : Value} {r : List Value} (h : zba w b off (v0 :: v1 :: v2 :: v :: r)) : w.cell? ⟨b, off + 3, none⟩ = some v := h 3 v rfl
theorem zba.c4 {w : World} {b off : Nat} {v0 v1 v2 v3 v : Value} {r : List Value} (h : zba w b off (v0 :: v1 :: v2 :: v3 :: v :: r)) : w.cell? ⟨b, off + 4, none⟩ = some v := h 4 v rfl
theorem zba.c5 {w : World} {b off : Nat} {v0 v1 v2 v3 v4 v : Value} {r : List Value} (h : zba w b off (v0 :: v1 :: v2 :: v3 :: v4 :: v :: r)) : w.cell? ⟨b, off + 5, none⟩ = some v := h 5 v rfl
def zyz (B : Nat) : Nat → Prop := fun k => k < B
theorem Ty.below {α : Type} (T : Ty α) {w w' : World} {cs : List Value} {x : α} (h : T.R (zyz w.heap.size) w cs x) (hb : Below w.heap.size w w') : T.R (zyz w'.heap.size) w' cs x :=
  T.mono (fun k hk => ⟨Nat.lt_of_lt_of_le hk hb.size, hb.block k hk⟩) h
end Go.Proofs.YtpllgpgdcbgalaaDoor
namespace Go.Proofs.YtpllgpgdcbgalaaDoor
open Go Go.RowKit
structure Val where
  kind : Int
  n : Int
  text : Str
  deriving DecidableEq
structure Cl where
  left : Val
  right : Val
  deriving DecidableEq
structure Ins where
  op : Int
  a : Int
  b : Int
  deriving DecidableEq
structure Cod where
  params : Int
  vars : Int
  ins : List Ins
  deriving DecidableEq
structure Prg where
  codes : List Cod
  words : List Str
  deriving DecidableEq
structure Frm where
  fn : Int
  at_ : Int
  vars : List Val
  stack : List Val
  deriving DecidableEq
structure Pmt where
  fuel : Int
  room : Int
  hops : Int
  deriving DecidableEq
structure Agt where
  id : Int
  trip : Int
  prog : Prg
  frames : List Frm
  heap : List Cl
  permit : Pmt
  deriving DecidableEq
def str (s : Str) : Value := .string ⟨s.toArray⟩
def Val.cells (v : Val) : List Value := [.int .i64 v.kind, .int .i64 v.n, .string ⟨v.text.toArray⟩]
def Val.ok (v : Val) : Prop := I64 v.kind ∧ I64 v.n ∧ v.text.length ≤ maxLen
def Ins.cells (i : Ins) : List Value := [.int .i64 i.op, .int .i64 i.a, .int .i64 i.b]
def Ins.ok (i : Ins) : Prop := I64 i.op ∧ I64 i.a ∧ I64 i.b
def Cl.cells (c : Cl) : List Value := c.left.cells ++ c.right.cells
def Cl.ok (c : Cl) : Prop := c.left.ok ∧ c.right.ok
def Pmt.cells (p : Pmt) : List Value := [.int .i64 p.fuel, .int .i64 p.room, .int .i64 p.hops]
def Pmt.ok (p : Pmt) : Prop := I64 p.fuel ∧ I64 p.room ∧ I64 p.hops
end Go.Proofs.YtpllgpgdcbgalaaDoor
namespace Go.Proofs.YtpllgpgdcbgalaaDoor
namespace VM
def wrong (v : Val) (cells : Int) : Int :=
  if v.kind < 0 ∨ 2 < v.kind then 1
  else if v.kind = 0 ∧ (v.n < -1073741824 ∨ 1073741824 < v.n) then 3
  else if v.kind = 1 ∧ 60 < v.text.length then 4
  else if v.kind = 2 ∧ (v.n < 0 ∨ cells ≤ v.n) then 6
  else if (v.kind = 1 ∧ v.n ≠ 0) ∨ (v.kind ≠ 1 ∧ v.text ≠ []) then 2
  else 0
def wordByte (c : UInt8) : Bool := decide (32 ≤ c.toNat) && decide (c.toNat ≤ 126) && !(c.toNat == 39)
def word (s : Str) : Bool := decide (s.length ≤ 12) && s.all wordByte
def effect (i : Ins) : Int × Int :=
  if i.op = 1 ∨ i.op = 2 ∨ i.op = 3 ∨ i.op = 12 then (0, 1)
  else if i.op = 4 ∨ i.op = 14 ∨ i.op = 16 ∨ i.op = 19 ∨ i.op = 18 then (1, 0)
  else if i.op = 5 ∨ i.op = 6 then (2, 1)
  else if i.op = 7 ∨ i.op = 8 ∨ i.op = 11 ∨ i.op = 13 then (1, 1)
  else if i.op = 9 ∨ i.op = 10 then (2, 0)
  else if i.op = 17 then (i.b, 1)
  else (0, 0)
def isIn (n most : Int) : Bool := decide (0 ≤ n) && decide (n < most)
def numOk (p : Prg) (c : Cod) (i : Ins) : Bool :=
  if i.op = 1 then decide (-1073741824 ≤ i.a) && decide (i.a ≤ 1073741824)
  else if i.op = 2 then isIn i.a p.words.length
  else if i.op = 3 ∨ i.op = 4 then isIn i.a c.vars
  else if i.op = 5 then decide (1 ≤ i.a) && decide (i.a ≤ 5)
  else if i.op = 15 ∨ i.op = 16 then isIn i.a c.ins.length
  else if i.op = 17 then isIn i.a p.codes.length && decide (some i.b = (p.codes[i.a.toNat]?).map (·.params))
  else decide (i.a = 0)
def numbers (p : Prg) (c : Cod) (i : Ins) : Int :=
  if i.op < 1 ∨ 19 < i.op then 1
  else if numOk p c i = false ∨ (i.op ≠ 17 ∧ i.b ≠ 0) then 3
  else 0
def heightsGo (ins : List Ins) : Nat → List (Int × Int) → List Int → List Int × Int
  | 0, _, _ => ([], 0)
  | _ + 1, [], out => (out, 0)
  | f + 1, (at_, h) :: q, out =>
    match (if 0 ≤ at_ then ins[at_.toNat]? else none) with
    | none => ([], 8)
    | some i =>
      if 0 ≤ out.getD at_.toNat 0 then (if out.getD at_.toNat 0 ≠ h then ([], 10) else heightsGo ins f q out)
      else
        if h < (effect i).1 ∨ (i.op = 18 ∧ h ≠ 1) then ([], 10)
        else if 16 < h + (effect i).2 - (effect i).1 then ([], 4)
        else
          let h' := h + (effect i).2 - (effect i).1
          heightsGo ins f (q ++ (if i.op ≠ 15 ∧ i.op ≠ 18 then [(at_ + 1, h')] else []) ++ (if i.op = 15 ∨ i.op = 16 then [(i.a, h')] else [])) (out.set at_.toNat h)
def heights (ins : List Ins) : List Int × Int := heightsGo ins (2 * ins.length + 2) [(0, 0)] (List.replicate ins.length (-1))
def codeRange (c : Cod) : Bool := decide (c.params < 0 ∨ 4 < c.params ∨ c.vars < c.params ∨ 8 < c.vars ∨ c.ins.length < 1 ∨ 200 < c.ins.length)
def firstErr {α : Type} (f : α → Int) : List α → Int
  | [] => 0
  | x :: r => if f x ≠ 0 then f x else firstErr f r
def codeErr (p : Prg) (c : Cod) : Int := if firstErr (numbers p c) c.ins ≠ 0 then firstErr (numbers p c) c.ins else (heights c.ins).2
def program (p : Prg) : Int :=
  if p.codes.length < 1 ∨ 5 < p.codes.length then 5
  else if 16 < p.words.length then 4
  else if p.words.all word = false then 7
  else if (p.codes.getD 0 ⟨0, 0, []⟩).params ≠ 0 then 10
  else if p.codes.any codeRange then 3
  else firstErr (codeErr p) p.codes
def frame (a : Agt) (k : Nat) (away : Bool) : Int :=
  match a.frames[k]? with
  | none => 0
  | some f =>
    match (if 0 ≤ f.fn then a.prog.codes[f.fn.toNat]? else none) with
    | none => 3
    | some c =>
      match (if 0 ≤ f.at_ then c.ins[f.at_.toNat]? else none) with
      | none => 3
      | some _ =>
        if (f.vars.length : Int) ≠ c.vars then 3
        else
          let hs := (heights c.ins).1
          let h := hs.getD f.at_.toNat 0
          let last := decide (k + 1 = a.frames.length)
          let waits := !last || away
          let prev := c.ins.getD (f.at_.toNat - 1) ⟨0, 0, 0⟩
          let bad := (!last && (decide (prev.op ≠ 17) || decide (prev.a ≠ ((a.frames[k + 1]?).map (·.fn)).getD 0))) || (last && decide (prev.op ≠ 13)) || decide (hs.getD (f.at_.toNat - 1) 0 < 0)
          if waits && (decide (f.at_ = 0) || bad) then 10
          else
            let h' := if waits then h - 1 else h
            if h' < 0 ∨ (f.stack.length : Int) ≠ h' then 10
            else firstErr (fun v => wrong v a.heap.length) (f.vars ++ f.stack)
def cellErr (n : Int) (c : Cl) : Int := if wrong c.left n ≠ 0 then wrong c.left n else wrong c.right n
def framesErr (a : Agt) (away : Bool) : Int := firstErr (fun k => frame a k away) (List.range a.frames.length)
def agent (a : Agt) (away : Bool) : Int :=
  if program a.prog ≠ 0 then program a.prog
  else if a.id < 0 ∨ 1073741824 < a.id ∨ a.trip < 0 ∨ 1073741824 < a.trip ∨ a.permit.fuel < 0 ∨ 2000 < a.permit.fuel ∨ a.permit.room < 0 ∨ 60 < a.permit.room ∨ a.permit.hops < 0 ∨ 12 < a.permit.hops then 3
  else if a.frames.length < 1 ∨ 12 < a.frames.length then 5
  else if 60 - a.permit.room < a.heap.length then 4
  else if framesErr a away ≠ 0 then framesErr a away
  else firstErr (cellErr a.heap.length) a.heap
end VM
end Go.Proofs.YtpllgpgdcbgalaaDoor
namespace Go.Proofs.YtpllgpgdcbgalaaDoor
namespace VM
def cInt (n : Int) : Val := ⟨0, n.tmod 1073741825, []⟩
def cText (s : Str) : Val := ⟨1, 0, s.take 60⟩
def bit (b : Bool) : Val := ⟨0, if b = true then 1 else 0, []⟩
def vzero : Val := ⟨0, 0, []⟩
def two (op : Int) (a b : Val) : Val × Int :=
  if op < 1 ∨ 5 < op then (vzero, 1)
  else if op = 5 then (bit (decide (a = b)), 0)
  else if (a.kind = 1 ∧ b.kind = 1) ∧ op = 1 then (cText (a.text ++ b.text), 0)
  else if (a.kind = 1 ∧ b.kind = 1) ∧ op = 4 then (bit (Op.bytesLess a.text b.text), 0)
  else if a.kind ≠ 0 ∨ b.kind ≠ 0 then (vzero, 11)
  else if op = 1 then (cInt (a.n + b.n), 0)
  else if op = 2 then (cInt (a.n - b.n), 0)
  else if op = 3 then (cInt (a.n * b.n), 0)
  else (bit (decide (a.n < b.n)), 0)
def vshow (h : List Cl) : Nat → Val → Str
  | d, v => if v.kind = 0 then Lib.itoa v.n else if v.kind = 1 then v.text else match d with
    | 0 => [46, 46]
    | d + 1 => match (if 0 ≤ v.n then h[v.n.toNat]? else none) with
      | none => [46, 46]
      | some c => [40] ++ vshow h d c.left ++ [32] ++ vshow h d c.right ++ [41]
def meet (o : List Nat) (v : Val) : List Nat := if v.kind = 2 ∧ v.n.toNat ∉ o then o ++ [v.n.toNat] else o
def drain (h : List Cl) : Nat → List Nat → Nat → List Nat
  | 0, o, _ => o
  | f + 1, o, d => match o[d]? with
    | none => o
    | some n => match h[n]? with
      | none => o
      | some c => drain h f (meet (meet o c.left) c.right) (d + 1)
def orderGo (h : List Cl) : List Val → List Nat → List Nat
  | [], o => o
  | v :: r, o => orderGo h r (drain h (h.length - o.length) (meet o v) o.length)
def order (h : List Cl) (l : List Val) : List Nat := orderGo h l []
def put (o : List Nat) (v : Val) : Val := if v.kind = 2 then { v with n := (o.idxOf v.n.toNat : Nat) } else v
def right (h : List Cl) (l : List Val) : Bool := l.all (fun v => decide (wrong v h.length = 0)) && h.all (fun c => decide (wrong c.left h.length = 0) && decide (wrong c.right h.length = 0))
end VM
end Go.Proofs.YtpllgpgdcbgalaaDoor
namespace Go.Proofs.YtpllgpgdcbgalaaDoor
structure Fct where
  key : Str
  val : Val
structure Spt where
  name : Str
  facts : List Fct
  fuel : Int
  cells : Int
structure Evt where
  kind : Int
  text : Str
  err : Int
namespace VM
def ev0 : Evt := ⟨0, [], 0⟩
def dead (e : Int) : Evt := ⟨5, [], e⟩
def ask (l : List Fct) (k : Str) : Val := match l.find? (fun f => decide (f.key = k)) with
  | some f => f.val
  | none => vzero
def cl0 : Cl := ⟨vzero, vzero⟩
def toF (a : Agt) (fs : List Frm) (f : Frm) : Agt := { a with frames := fs ++ [f] }
def top1 (st : List Val) : Val := st.getD (st.length - 1) vzero
def top2 (st : List Val) : Val := st.getD (st.length - 2) vzero
def low (k : Nat) (st : List Val) : List Val := st.take (st.length - k)
def push (a : Agt) (fs : List Frm) (f : Frm) (st : List Val) (v : Val) : Agt × Evt := (toF a fs { f with stack := st ++ [v] }, ev0)
def codeAt (p : Prg) (n : Int) : Cod := p.codes.getD n.toNat ⟨0, 0, []⟩
def opDo (a : Agt) (s : Spt) (fs : List Frm) (f : Frm) (i : Ins) : Agt × Evt :=
  if i.op = 1 then push a fs f f.stack ⟨0, i.a, []⟩
  else if i.op = 2 then push a fs f f.stack (cText (a.prog.words.getD i.a.toNat []))
  else if i.op = 3 then push a fs f f.stack (f.vars.getD i.a.toNat vzero)
  else if i.op = 4 then (toF a fs { f with stack := low 1 f.stack, vars := f.vars.set i.a.toNat (top1 f.stack) }, ev0)
  else if i.op = 5 then (if (two i.a (top2 f.stack) (top1 f.stack)).2 = 0 then push a fs f (low 2 f.stack) (two i.a (top2 f.stack) (top1 f.stack)).1 else (toF a fs { f with stack := low 2 f.stack }, dead (two i.a (top2 f.stack) (top1 f.stack)).2))
  else if i.op = 6 then (if a.permit.room = 0 then (toF a fs { f with stack := low 2 f.stack }, dead 13)
    else push { a with heap := a.heap ++ [⟨top2 f.stack, top1 f.stack⟩], permit := { a.permit with room := a.permit.room - 1 } } fs f (low 2 f.stack) ⟨2, a.heap.length, []⟩)
  else if i.op = 7 then (if (top1 f.stack).kind ≠ 2 then (toF a fs { f with stack := low 1 f.stack }, dead 11) else push a fs f (low 1 f.stack) (a.heap.getD (top1 f.stack).n.toNat cl0).left)
  else if i.op = 8 then (if (top1 f.stack).kind ≠ 2 then (toF a fs { f with stack := low 1 f.stack }, dead 11) else push a fs f (low 1 f.stack) (a.heap.getD (top1 f.stack).n.toNat cl0).right)
  else if i.op = 9 then (if (top2 f.stack).kind ≠ 2 then (toF a fs { f with stack := low 2 f.stack }, dead 11) else (toF { a with heap := a.heap.set (top2 f.stack).n.toNat { a.heap.getD (top2 f.stack).n.toNat cl0 with left := top1 f.stack } } fs { f with stack := low 2 f.stack }, ev0))
  else if i.op = 10 then (if (top2 f.stack).kind ≠ 2 then (toF a fs { f with stack := low 2 f.stack }, dead 11) else (toF { a with heap := a.heap.set (top2 f.stack).n.toNat { a.heap.getD (top2 f.stack).n.toNat cl0 with right := top1 f.stack } } fs { f with stack := low 2 f.stack }, ev0))
  else if i.op = 11 then (if (top1 f.stack).kind ≠ 1 then (toF a fs { f with stack := low 1 f.stack }, dead 11) else push a fs f (low 1 f.stack) (ask s.facts (top1 f.stack).text))
  else if i.op = 12 then push a fs f f.stack (cText s.name)
  else if i.op = 13 then (if (top1 f.stack).kind ≠ 1 then (toF a fs { f with stack := low 1 f.stack }, dead 11) else if a.permit.hops = 0 then push a fs f (low 1 f.stack) vzero
    else (toF { a with permit := { a.permit with hops := a.permit.hops - 1 } } fs { f with stack := low 1 f.stack }, ⟨3, (top1 f.stack).text, 0⟩))
  else if i.op = 14 then (toF a fs { f with stack := low 1 f.stack }, ⟨2, vshow a.heap 4 (top1 f.stack), 0⟩)
  else if i.op = 15 then (toF a fs { f with at_ := i.a }, ev0)
  else if i.op = 16 then (toF a fs { f with stack := low 1 f.stack, at_ := if (top1 f.stack).kind = 0 ∧ (top1 f.stack).n = 0 then i.a else f.at_ }, ev0)
  else if i.op = 17 then (if 12 ≤ fs.length + 1 then (toF a fs f, dead 9)
    else (toF a (fs ++ [{ f with stack := low i.b.toNat f.stack }]) ⟨i.a, 0, f.stack.drop (f.stack.length - i.b.toNat) ++ List.replicate ((codeAt a.prog i.a).vars - i.b).toNat vzero, []⟩, ev0))
  else if i.op = 18 then (match fs.getLast? with
    | none => ({ a with frames := [] }, ⟨4, vshow a.heap 4 (top1 f.stack), 0⟩)
    | some g => push a fs.dropLast g g.stack (top1 f.stack))
  else (toF a fs { f with stack := low 1 f.stack }, ev0)
def insAt (p : Prg) (f : Frm) : Ins := (codeAt p f.fn).ins.getD f.at_.toNat ⟨0, 0, 0⟩
def step (a : Agt) (s : Spt) : Agt × Evt :=
  if a.permit.fuel = 0 then (a, dead 12)
  else match a.frames.getLast? with
    | none => (a, ev0)
    | some f => opDo { a with permit := { a.permit with fuel := a.permit.fuel - 1 } } s a.frames.dropLast { f with at_ := f.at_ + 1 } (insAt a.prog f)
def run (s : Spt) : Nat → Agt → Agt × Evt
  | 0, a => (a, ⟨1, [], 0⟩)
  | n + 1, a => if (step a s).2.kind ≠ 0 then step a s else run s n (step a s).1
end VM
end Go.Proofs.YtpllgpgdcbgalaaDoor
namespace Go.Proofs.YtpllgpgdcbgalaaDoor
namespace VM
inductive R (α : Type) where
  | ok (a : α) (r : Str)
  | no (e : Int)
def Rd (α : Type) : Type := Str → R α
def Rd.pure {α : Type} (a : α) : Rd α := fun b => .ok a b
def Rd.bind {α β : Type} (m : Rd α) (f : α → Rd β) : Rd β := fun b => match m b with
  | .ok a r => f a r
  | .no e => .no e
def rMany {α : Type} (m : Rd α) : Nat → Rd (List α)
  | 0 => .pure []
  | n + 1 => m.bind fun a => (rMany m n).bind fun l => .pure (a :: l)
abbrev St := Str × Int
structure Goes {α : Type} (m : Rd α) (st : St) (a : α) (st' : St) : Prop where
  stuck : st.2 ≠ 0 → st'.2 = st.2
  good : st.2 = 0 → ∀ x r, m st.1 = .ok x r → a = x ∧ st' = (r, 0)
  bad : st.2 = 0 → ∀ e, m st.1 = .no e → e ≠ 0 ∧ st'.2 = e
theorem Goes.pure {α : Type} (a : α) (st : St) : Goes (Rd.pure a) st a st :=
  ⟨fun _ => rfl, fun h x r hr => by cases hr; exact ⟨rfl, Prod.ext rfl h⟩, fun _ e h => by cases h⟩
theorem Goes.bind {α β : Type} {m : Rd α} {k : α → Rd β} {st st1 st2 : St} {a : α} {b : β} (h : Goes m st a st1) (h2 : Goes (k a) st1 b st2) : Goes (m.bind k) st b st2 := by
  refine ⟨fun he => ?_, fun he x r hr => ?_, fun he e hr => ?_⟩
  · have h1 := h.stuck he
    rw [← h1]
    exact h2.stuck (by rw [h1]; exact he)
  · unfold Rd.bind at hr
    split at hr
    · rename_i a' r' hm
      obtain ⟨rfl, rfl⟩ := h.good he _ _ hm
      exact h2.good rfl x r hr
    · cases hr
  · unfold Rd.bind at hr
    split at hr
    · rename_i a' r' hm
      obtain ⟨rfl, rfl⟩ := h.good he _ _ hm
      exact h2.bad rfl e hr
    · rename_i e' hm
      cases hr
      obtain ⟨h1, h3⟩ := h.bad he _ hm
      refine ⟨h1, ?_⟩
      rw [← h3]
      exact h2.stuck (by rw [h3]; exact h1)
theorem Goes.more {α : Type} {m : Rd α} {st st1 st2 : St} {a : α} {l : List α} {n : Nat} (h : Goes m st a st1) (h2 : Goes (rMany m n) st1 l st2) : Goes (rMany m (n + 1)) st (a :: l) st2 :=
  h.bind (h2.bind (Goes.pure _ _))
end VM
end Go.Proofs.YtpllgpgdcbgalaaDoor
namespace Go.Proofs.YtpllgpgdcbgalaaDoor
inductive Ex where
  | mk (kind n : Int) (text : Str) (args : List Ex)
inductive Sm where
  | mk (kind : Int) (name : Str) (args : List Ex) (thn els : List Sm)
structure Fnc where
  name : Str
  params : List Str
  body : List Sm
namespace VM
def ex0 : Ex := .mk 0 0 [] []
def sm0 : Sm := .mk 0 [] [] [] []
def blank (c : UInt8) : Bool := c == 32 || c == 10
def trim (b : Str) : Str := b.dropWhile blank
def nxt (b : Str) : Int := match trim b with
  | [] => 0
  | c :: _ => if c = 0 then 1 else (c.toNat : Int)
def mustR (c : Int) : Rd Unit := fun b => if nxt b = c then .ok () ((trim b).drop 1) else if nxt b = 0 then .no 8 else .no 2
def wordC (c : UInt8) : Bool := !(c == 32 || c == 10 || c == 40 || c == 41 || c == 39)
def wordR : Rd Str := fun b => if trim b = [] then .no 8 else if (trim b).takeWhile wordC = [] then .no 2 else .ok ((trim b).takeWhile wordC) ((trim b).dropWhile wordC)
def keys : List Str := [[108, 101, 116], [115, 101, 116], [105, 102], [119, 104, 105, 108, 101], [115, 97, 121], [114, 101, 116, 117, 114, 110], [112, 117, 116, 108], [112, 117, 116, 114], [100, 111], [99, 101, 108, 108], [108, 101, 102, 116], [114, 105, 103, 104, 116], [97, 115, 107], [104, 101, 114, 101], [103, 111]]
def name (s : Str) : Bool := decide (s ∉ keys) && s.all (fun c => decide (97 ≤ c.toNat) && decide (c.toNat ≤ 122)) && decide (0 < s.length) && decide (s.length < 9)
def errR {α : Type} (e : Int) : Rd α := fun _ => .no e
def numOf (w : Str) : Option Int := match Lib.atoiAll w with
  | .ok n => if Lib.itoa n = w then some n else none
  | _ => none
def headOf (w : Str) : Option (Int × Int × Nat) :=
  if w = [43] then some (4, 1, 2) else if w = [45] then some (4, 2, 2) else if w = [42] then some (4, 3, 2) else if w = [60] then some (4, 4, 2) else if w = [61] then some (4, 5, 2)
  else if w = [99, 101, 108, 108] then some (5, 0, 2) else if w = [108, 101, 102, 116] then some (6, 0, 1) else if w = [114, 105, 103, 104, 116] then some (7, 0, 1) else if w = [97, 115, 107] then some (8, 0, 1) else if w = [104, 101, 114, 101] then some (9, 0, 0) else if w = [103, 111] then some (10, 0, 1) else none
def plain : Rd Ex := wordR.bind fun w => match numOf w with
  | some n => if n < -1073741824 ∨ 1073741824 < n then errR 3 else .pure (.mk 1 n [] [])
  | none => if name w then .pure (.mk 3 0 w []) else errR 7
def stKind (w : Str) : Int :=
  if w = [108, 101, 116] then 1 else if w = [115, 101, 116] then 2 else if w = [105, 102] then 3 else if w = [119, 104, 105, 108, 101] then 4 else if w = [115, 97, 121] then 5 else if w = [114, 101, 116, 117, 114, 110] then 6 else if w = [112, 117, 116, 108] then 7 else if w = [112, 117, 116, 114] then 8 else if w = [100, 111] then 9 else 0
end VM
end Go.Proofs.YtpllgpgdcbgalaaDoor
namespace Go.Proofs.YtpllgpgdcbgalaaDoor
open Go Go.RowKit
theorem JN.same {J : J3} {B : J3 → Prop} (h : B J) : JN J B := ⟨J, fun _ _ _ h => h, h⟩
theorem JN.cut {J : J3} {B : J3 → Prop} (I : J3) (h1 : ∀ xs H nx, I xs H nx → J xs H nx) (h2 : B I) : JN J B := ⟨I, h1, h2⟩
theorem LP.mk {F : J3 → J3} {xs : List AV} {H : Heap} {nx : Nat} (I : Nat → J3) (n : Nat) (h0 : I n xs H nx) (hs : ∀ n xs H nx, I n xs H nx → F (fun xs H nx => ∃ m, m < n ∧ I m xs H nx) xs H nx) : LP F xs H nx := ⟨I, n, h0, hs⟩
@[simp] theorem zaim (x : AV) (xs : List AV) : nth (x :: xs) 0 = x := rfl
@[simp] theorem zail (x y : AV) (xs : List AV) : nth (x :: y :: xs) 1 = y := rfl
@[simp] theorem zaik (x y z : AV) (xs : List AV) : nth (x :: y :: z :: xs) 2 = z := rfl
@[simp] theorem zaij (x y z a : AV) (xs : List AV) : nth (x :: y :: z :: a :: xs) 3 = a := rfl
@[simp] theorem zaii (x y z a b : AV) (xs : List AV) : nth (x :: y :: z :: a :: b :: xs) 4 = b := rfl
@[simp] theorem zaih (x y z a b c : AV) (xs : List AV) : nth (x :: y :: z :: a :: b :: c :: xs) 5 = c := rfl
@[simp] theorem zaig (x y z a b c d : AV) (xs : List AV) : nth (x :: y :: z :: a :: b :: c :: d :: xs) 6 = d := rfl
@[simp] theorem zaif (x y z a b c d e : AV) (xs : List AV) : nth (x :: y :: z :: a :: b :: c :: d :: e :: xs) 7 = e := rfl
@[simp] theorem zaie (x y z a b c d e f : AV) (xs : List AV) : nth (x :: y :: z :: a :: b :: c :: d :: e :: f :: xs) 8 = f := rfl
@[simp] theorem zaid (x y z a b c d e f g : AV) (xs : List AV) : nth (x :: y :: z :: a :: b :: c :: d :: e :: f :: g :: xs) 9 = g := rfl
def OPTK {α : Type} (o : Option α) (k : α → Prop) : Prop := ∃ v, o = some v ∧ k v
@[simp ↓] theorem optk {α : Type} {v : α} {k : α → Prop} : OPTK (some v) k = k v := by simp [OPTK]
@[simp ↓] theorem zvo {α : Type} {k : α → Prop} : OPTK none k = False := by simp [OPTK]
@[congr] theorem zafg {α : Type} {o o' : Option α} {k : α → Prop} (h : o = o') : OPTK o k = OPTK o' k := by rw [h]
def ROWK (o : Option AObj) (k : Nat → List AV → Prop) : Prop := ∃ s cs, o = some (.row s cs) ∧ k s cs
@[simp ↓] theorem rowk {s : Nat} {cs : List AV} {k : Nat → List AV → Prop} : ROWK (some (.row s cs)) k = k s cs := by
  apply propext; constructor
  · rintro ⟨s', cs', h, hk⟩; cases h; exact hk
  · exact fun h => ⟨s, cs, rfl, h⟩
@[congr] theorem zaff {o o' : Option AObj} {k : Nat → List AV → Prop} (h : o = o') : ROWK o k = ROWK o' k := by rw [h]
def MAPK (o : Option AObj) (k : List (AV × AV) → Prop) : Prop := ∃ es, o = some (.mp es) ∧ k es
@[simp ↓] theorem mapk {es : List (AV × AV)} {k : List (AV × AV) → Prop} : MAPK (some (.mp es)) k = k es := by
  apply propext; constructor
  · rintro ⟨es', h, hk⟩; cases h; exact hk
  · exact fun h => ⟨es, rfl, h⟩
@[congr] theorem zage {o o' : Option AObj} {k : List (AV × AV) → Prop} (h : o = o') : MAPK o k = MAPK o' k := by rw [h]
def PUTH (H : Heap) (g : Nat) (o : AObj) (k : Heap → Prop) : Prop := k (H.put g (some o))
@[simp ↓] theorem puth {H : Heap} {g : Nat} {o : AObj} {k : Heap → Prop} : PUTH H g o k = k (H.put g (some o)) := rfl
section
variable {x x' y y' z z' : AV} {k : AV → Prop} {H H' : Heap} {nx nx' : Nat}
@[congr] theorem pk_c (h : x = x') (h2 : y = y') (h3 : z = z') : PK x y z k = PK x' y' z' k := by rw [h, h2, h3]
@[congr] theorem bi_c {op : BinOp} (h : x = x') (h2 : y = y') : BI op x y k = BI op x' y' k := by rw [h, h2]
@[congr] theorem bs_c {op : BinOp} (h : x = x') (h2 : y = y') : BS op x y k = BS op x' y' k := by rw [h, h2]
@[congr] theorem bb_c {op : BinOp} (h : x = x') (h2 : y = y') : BB op x y k = BB op x' y' k := by rw [h, h2]
@[congr] theorem ba_c {s : List AV} {op : BinOp} (h : x = x') (h2 : y = y') : BA s op x y k = BA s op x' y' k := by rw [h, h2]
@[congr] theorem bf_c {op : BinOp} (h : x = x') (h2 : y = y') : BF op x y k = BF op x' y' k := by rw [h, h2]
@[congr] theorem bp_c {op : BinOp} (h : x = x') (h2 : y = y') : BP op x y k = BP op x' y' k := by rw [h, h2]
@[congr] theorem uo_c {op : UnOp} (h : x = x') : UO op x k = UO op x' k := by rw [h]
@[congr] theorem cv_c {ki : IntKind} (h : x = x') : CV ki x k = CV ki x' k := by rw [h]
@[congr] theorem ld_c {g : Bool} {s : Nat} (h : x = x') (h2 : H = H') : LD g s x H k = LD g s x' H' k := by rw [h, h2]
@[congr] theorem zais {g : Bool} {s : Nat} {kr : AV → List Nat → Prop} (h : x = x') (h2 : H = H') : LDR g s x H kr = LDR g s x' H' kr := by rw [h, h2]
@[congr] theorem st_c {s : Nat} {kh : Heap → Prop} (h : x = x') (h3 : y = y') (h2 : H = H') : ST s x y H kh = ST s x' y' H' kh := by rw [h, h2, h3]
@[congr] theorem zaeb {s : Nat} {kt : Kt} (h : x = x') (h3 : y = y') (h2 : H = H') : zaf s x y H kt = zaf s x' y' H' kt := by rw [h, h2, h3]
@[congr] theorem nc_c (h : x = x') : NC x k = NC x' k := by rw [h]
@[congr] theorem fa_c {o : Nat} (h : x = x') : FA o x k = FA o x' k := by rw [h]
@[congr] theorem fi_c {g : Bool} {s o : Nat} (h : x = x') : FI g s o x k = FI g s o x' k := by rw [h]
@[congr] theorem ia_c {s : Nat} (h : x = x') (h2 : y = y') : IA s x y k = IA s x' y' k := by rw [h, h2]
@[congr] theorem aa_c {s l : Nat} (h : x = x') (h2 : y = y') : AA s l x y k = AA s l x' y' k := by rw [h, h2]
@[congr] theorem ix_c (h : x = x') (h2 : y = y') : IX x y k = IX x' y' k := by rw [h, h2]
@[congr] theorem ai_c {g : Bool} {s l : Nat} (h : x = x') (h2 : y = y') : AI g s l x y k = AI g s l x' y' k := by rw [h, h2]
@[congr] theorem zain (h : x = x') : LNS x k = LNS x' k := by rw [h]
@[congr] theorem zaiq (h : x = x') : LNL x k = LNL x' k := by rw [h]
@[congr] theorem zaip (h : x = x') (h2 : H = H') : LNM x H k = LNM x' H' k := by rw [h, h2]
@[congr] theorem ex_c {i : Nat} (h : x = x') : EX x i k = EX x' i k := by rw [h]
@[congr] theorem bd_c {pl : Nat → Option (Nat × Nat)} {zs : List AV} {ps ps' : List (Nat × AV)} (h : ps = ps') : BD pl zs ps k = BD pl zs ps' k := by rw [h]
@[congr] theorem zajb {l s : Nat} {zs : List AV} {ps ps' : List (Nat × AV)} {kc : List AV → Prop} (h : ps = ps') : BSL l s zs ps kc = BSL l s zs ps' kc := by rw [h]
@[congr] theorem mk_c {b : Nat} {kn : Nat → Prop} (h : x = x') (h2 : y = y') : MK b x y kn = MK b x' y' kn := by rw [h, h2]
@[congr] theorem mm_c {b : Bool} (h : x = x') (h2 : y = y') : MM b x y k = MM b x' y' k := by rw [h, h2]
@[congr] theorem zaib {s n : Nat} {lo lo' hi hi' : Option AV} (h : x = x') (h2 : lo = lo') (h3 : hi = hi') (h4 : H = H') : SLP s n x lo hi H k = SLP s n x' lo' hi' H' k := by rw [h, h2, h3, h4]
@[congr] theorem zaja (h : x = x') (h2 : H = H') : CBS x H k = CBS x' H' k := by rw [h, h2]
@[congr] theorem zaiw {ks : List UInt8 → Prop} (h : x = x') : CSB x ks = CSB x' ks := by rw [h]
@[congr] theorem zaia {lo lo' hi hi' : Option AV} (h : x = x') (h2 : lo = lo') (h3 : hi = hi') : SLS x lo hi k = SLS x' lo' hi' k := by rw [h, h2, h3]
@[congr] theorem sl_c {s : Nat} {lo lo' hi hi' : Option AV} (h : x = x') (h2 : lo = lo') (h3 : hi = hi') (h4 : H = H') : SL s x lo hi H k = SL s x' lo' hi' H' k := by rw [h, h2, h3, h4]
@[congr] theorem zaef {s : Nat} {lo lo' hi hi' : Option AV} {kt : Kt} (h : x = x') (h2 : lo = lo') (h3 : hi = hi') (h4 : H = H') : zij s x lo hi H kt = zij s x' lo' hi' H' kt := by rw [h, h2, h3, h4]
@[congr] theorem zaic {w w' : AV} (h : x = x') (h2 : y = y') (h3 : z = z') (h4 : w = w') : SL0 x y z w k = SL0 x' y' z' w' k := by rw [h, h2, h3, h4]
@[congr] theorem lk_c {zs : List AV} {g o : Bool} (h : x = x') (h2 : y = y') (h3 : H = H') : LK zs g x y o H k = LK zs g x' y' o H' k := by rw [h, h2, h3]
@[congr] theorem zagg {zs : List AV} {g o : Bool} {kt : Kt} (h : x = x') (h2 : y = y') (h3 : H = H') : LOOK zs g x y o H kt = LOOK zs g x' y' o H' kt := by rw [h, h2, h3]
@[congr] theorem mu_c {kh : Heap → Prop} (h : x = x') (h2 : y = y') (h3 : z = z') (h4 : H = H') : MU x y z H kh = MU x' y' z' H' kh := by rw [h, h2, h3, h4]
@[congr] theorem zaga {kt : Kt} (h : x = x') (h2 : y = y') (h3 : z = z') (h4 : H = H') : MUPD x y z H kt = MUPD x' y' z' H' kt := by rw [h, h2, h3, h4]
@[congr] theorem zajg {e b : Nat} {kk : AV → Heap → Nat → Prop} (h : x = x') (h2 : y = y') (h3 : H = H') (h4 : nx = nx') : APP e b x y H nx kk = APP e b x' y' H' nx' kk := by rw [h, h2, h3, h4]
@[congr] theorem zadw {e b : Nat} {kt : Kt} (h : x = x') (h2 : y = y') (h3 : H = H') (h4 : nx = nx') : zaq e b x y H nx kt = zaq e b x' y' H' nx' kt := by rw [h, h2, h3, h4]
@[congr] theorem cp_c {e : Nat} {kh : AV → Heap → Prop} (h : x = x') (h2 : y = y') (h3 : H = H') : CP e x y H kh = CP e x' y' H' kh := by rw [h, h2, h3]
@[congr] theorem zagr {e : Nat} {kt : Kt} (h : x = x') (h2 : y = y') (h3 : H = H') : COPY e x y H kt = COPY e x' y' H' kt := by rw [h, h2, h3]
@[congr] theorem zaiz {A B : Prop} (h : x = x') : CND x A B = CND x' A B := by rw [h]
@[congr] theorem zagu {A B : Prop} (h : x = x') : CNDC x A B = CNDC x' A B := by rw [h]
@[congr] theorem bl_c {op : BinOp} (h : x = x') (h2 : y = y') : BL op x y k = BL op x' y' k := by rw [h, h2]
@[congr] theorem zagv {P : Program} {bs bs' : List AV} {kk : AV → Heap → Nat → Prop} (h : x = x') (h2 : bs = bs') (h3 : H = H') (h4 : nx = nx') : CALL P x bs H nx kk = CALL P x' bs' H' nx' kk := by rw [h, h2, h3, h4]
@[congr] theorem zaey {P : Program} {bs bs' : List AV} {kt : Kt} (h : x = x') (h2 : bs = bs') (h3 : H = H') (h4 : nx = nx') : zae P x bs H nx kt = zae P x' bs' H' nx' kt := by rw [h, h2, h3, h4]
@[congr] theorem zady {P : Program} {f : FuncId} {bs bs' : List AV} {kk : AV → Heap → Nat → Prop} (h2 : bs = bs') (h3 : H = H') (h4 : nx = nx') : za P f bs H nx kk = za P f bs' H' nx' kk := by rw [h2, h3, h4]
@[congr] theorem jn_c {J : J3} {B : J3 → Prop} : JN J B = JN J B := rfl
@[congr] theorem lp_c {F : J3 → J3} {xs xs' : List AV} (h : xs = xs') (h3 : H = H') (h4 : nx = nx') : LP F xs H nx = LP F xs' H' nx' := by rw [h, h3, h4]
@[congr] theorem zaev {l l' m m' : List Nat} {A : Prop} (h : l = l') (h2 : m = m') : zf l m A = zf l' m' A := by rw [h, h2]
@[congr] theorem zafe {p p' v v' : AV} {D D' : zw} {rd rd' : List Nat} {A : Prop} (h : p = p') (h2 : v = v') (h3 : D = D') (h4 : rd = rd') : SOFT p v D rd A = SOFT p' v' D' rd' A := by rw [h, h2, h3, h4]
@[congr] theorem zaex {g g' q q' : Nat} {v v' : AV} {D D' : zw} {A : Prop} (h : g = g') (h2 : q = q') (h3 : v = v') (h4 : D = D') : zfq g q v D A = zfq g' q' v' D' A := by rw [h, h2, h3, h4]
@[congr] theorem gd_c {b b' : Bool} {A : Prop} (h : b = b') : gd b A = gd b' A := by rw [h]
end
@[simp ↓] theorem zaix (A B : Prop) : CND (.bool true) A B = A := rfl
@[simp ↓] theorem zaiy (A B : Prop) : CND (.bool false) A B = B := rfl
@[simp ↓ low] theorem cnd (b : Bool) (A B : Prop) : CND (.bool b) A B = ((b = true → A) ∧ (b = false → B)) := propext zyp
@[simp ↓] theorem zags (A B : Prop) : CNDC (.bool true) A B = A := rfl
@[simp ↓] theorem zagt (A B : Prop) : CNDC (.bool false) A B = B := rfl
@[simp ↓] theorem zadu (A B : Prop) : CNDC .bany A B = (A ∧ B) := rfl
@[simp ↓ low] theorem cndc (b : Bool) (A B : Prop) : CNDC (.bool b) A B = ((b = true → A) ∧ (b = false → B)) := by cases b <;> simp
@[simp ↓] theorem pk (b : Bool) (x y : AV) (k : AV → Prop) : PK (.bool b) x y k = k (bif b then x else y) := rfl
variable {ki : IntKind} {a b : Int} {k : AV → Prop}
@[simp ↓] theorem zahq : BI .add (.int ki a) (.int ki b) k = k (.int ki (ki.wrap (a + b))) := by simp [BI, BINI, IBIN, zao, PURE, qk]
@[simp ↓] theorem zahe : BI .sub (.int ki a) (.int ki b) k = k (.int ki (ki.wrap (a - b))) := by simp [BI, BINI, IBIN, zao, PURE, qk]
@[simp ↓] theorem zahk : BI .mul (.int ki a) (.int ki b) k = k (.int ki (ki.wrap (a * b))) := by simp [BI, BINI, IBIN, zao, PURE, qk]
@[simp ↓] theorem zahi : BI .quo (.int ki a) (.int ki b) k = (b ≠ 0 ∧ k (.int ki (ki.wrap (a.tdiv b)))) := by simp [BI, BINI, IBIN, zao, PURE, qk]
@[simp ↓] theorem zahh : BI .rem (.int ki a) (.int ki b) k = (b ≠ 0 ∧ k (.int ki (a.tmod b))) := by simp [BI, BINI, IBIN, zao, PURE, qk]
@[simp ↓] theorem zahg {kj : IntKind} : BI .shl (.int ki a) (.int kj b) k = (0 ≤ b ∧ k (.int ki (ki.wrap (a * 2 ^ (min b.toNat ki.bits))))) := by simp [BI, BINI, IBIN, zao, PURE, qk]
@[simp ↓] theorem zahf {kj : IntKind} : BI .shr (.int ki a) (.int kj b) k = (0 ≤ b ∧ k (.int ki (a.fdiv (2 ^ (min b.toNat ki.bits))))) := by simp [BI, BINI, IBIN, zao, PURE, qk]
@[simp ↓] theorem zaap : BI .eql (.int ki a) (.int ki b) k = k (.bool (decide (a = b))) := by simp [BI, BINI, IBIN, icmp, zao, PURE, qk]; rfl
@[simp ↓] theorem zahj : BI .neq (.int ki a) (.int ki b) k = k (.bool (!decide (a = b))) := by simp [BI, BINI, IBIN, icmp, zao, PURE, qk]; rfl
@[simp ↓] theorem zahl : BI .lss (.int ki a) (.int ki b) k = k (.bool (decide (a < b))) := by simp [BI, BINI, IBIN, icmp, zao, PURE, qk]
@[simp ↓] theorem zahm : BI .leq (.int ki a) (.int ki b) k = k (.bool (decide (a ≤ b))) := by simp [BI, BINI, IBIN, icmp, zao, PURE, qk]
@[simp ↓] theorem zahn : BI .gtr (.int ki a) (.int ki b) k = k (.bool (decide (b < a))) := by simp [BI, BINI, IBIN, icmp, zao, PURE, qk]
@[simp ↓] theorem zaho : BI .geq (.int ki a) (.int ki b) k = k (.bool (decide (b ≤ a))) := by simp [BI, BINI, IBIN, icmp, zao, PURE, qk]
@[simp ↓] theorem zahp : BI .and (.int ki a) (.int ki b) k = k (.int ki (ki.wrap (BitVec.ofInt ki.bits a &&& BitVec.ofInt ki.bits b).toNat)) := by simp [BI, BINI, IBIN, zlr, zao, PURE, qk]
@[simp ↓] theorem zaje : BI .or (.int ki a) (.int ki b) k = k (.int ki (ki.wrap (BitVec.ofInt ki.bits a ||| BitVec.ofInt ki.bits b).toNat)) := by simp [BI, BINI, IBIN, zlr, zao, PURE, qk]
@[simp ↓] theorem zahd : BI .xor (.int ki a) (.int ki b) k = k (.int ki (ki.wrap (BitVec.ofInt ki.bits a ^^^ BitVec.ofInt ki.bits b).toNat)) := by simp [BI, BINI, IBIN, zlr, zao, PURE, qk]
@[simp ↓] theorem cv (kj : IntKind) : CV kj (.int ki a) k = k (.int kj (kj.wrap a)) := rfl
@[simp ↓] theorem zafc (c : Bool) : UO .not (.bool c) k = k (.bool (!c)) := rfl
@[simp ↓] theorem zafd : UO .neg (.int ki a) k = k (.int ki (ki.wrap (0 - a))) := rfl
@[simp ↓] theorem zagz (s t : List UInt8) : BS .eql (.str s) (.str t) k = k (.bool (decide (s = t))) := by
  have : (s == t) = decide (s = t) := by rw [Bool.eq_iff_iff]; simp
  rw [← this]; rfl
@[simp ↓] theorem zagx (s t : List UInt8) : BS .neq (.str s) (.str t) k = k (.bool (!decide (s = t))) := by
  have : (s == t) = decide (s = t) := by rw [Bool.eq_iff_iff]; simp
  rw [← this]; rfl
@[simp ↓] theorem zagy (s t : List UInt8) : BS .lss (.str s) (.str t) k = k (.bool (Op.bytesLess s t)) := rfl
@[simp ↓] theorem zaha (s t : List UInt8) : BS .add (.str s) (.str t) k = (s.length + t.length ≤ 9223372036854775807 ∧ k (.str (s ++ t))) := rfl
@[simp ↓] theorem zahu (c d : Bool) : BB .eql (.bool c) (.bool d) k = k (.bool (c == d)) := by simp [BB, BINB, zar, PURE, qk]
@[simp ↓] theorem zaht (c d : Bool) : BB .neq (.bool c) (.bool d) k = k (.bool (c != d)) := by simp [BB, BINB, zar, PURE, qk]; rfl
@[simp ↓] theorem zagb : MM true (.int ki a) (.int ki b) k = k (.int ki (min a b)) := by
  have : (if b < a then b else a) = min a b := by split <;> omega
  simp [MM, zft, PURE, qk, this]
@[simp ↓] theorem zagc : MM false (.int ki a) (.int ki b) k = k (.int ki (max a b)) := by
  have : (if b > a then b else a) = max a b := by split <;> omega
  simp only [MM, zft, PURE, qk, cond_false, this, true_and]
@[simp ↓] theorem zaew (s : List UInt8) (ks : List UInt8 → Prop) : CSB (.str s) ks = ks s := rfl
@[simp ↓] theorem zahw (zs xs ys : List AV) : BA zs .eql (.agg xs) (.agg ys) k = ((zc zs xs).isSome = true ∧ OPTK (zc xs ys) fun t => k (.bool t)) := by
  simp only [BA, BINA, zar, PURE, qk, OPTK]
  cases zc xs ys <;> simp
@[simp ↓] theorem zahv (zs xs ys : List AV) : BA zs .neq (.agg xs) (.agg ys) k = ((zc zs xs).isSome = true ∧ OPTK (zc xs ys) fun t => k (.bool (!t))) := by
  simp only [BA, BINA, zar, PURE, qk, OPTK]
  cases zc xs ys <;> simp
@[simp] theorem zaas : zc [] [] = some true := rfl
@[simp] theorem zaat {ki : IntKind} {a b : Int} {r s : List AV} : zc (.int ki a :: r) (.int ki b :: s) = (zc r s).map (fun t => a == b && t) := by simp [zc]
@[simp] theorem zaar {a b : List UInt8} {r s : List AV} : zc (.str a :: r) (.str b :: s) = (zc r s).map (fun t => a == b && t) := rfl
@[simp] theorem zaan {a b : Bool} {r s : List AV} : zc (.bool a :: r) (.bool b :: s) = (zc r s).map (fun t => a == b && t) := rfl
@[simp ↓] theorem zajd (xs : List (List AV)) : BL .eql (.ro xs) .nils k = ((xs = [] → k .bany) ∧ (xs ≠ [] → k (.bool false))) := by simp [BL, BINL, zar, PURE, qk]
@[simp ↓] theorem zahb (g o n : Nat) : BL .eql (.slc g o n) .nils k = ((n = 0 → k .bany) ∧ (n ≠ 0 → k (.bool false))) := by simp [BL, BINL, zar, PURE, qk]
@[simp ↓] theorem zajc : BL .eql .zs .nils k = k .bany := by simp [BL, BINL, zar, PURE, qk]
@[simp ↓] theorem zahc : BL .eql .nils .nils k = k (.bool true) := by simp [BL, BINL, zar, PURE, qk]
@[simp ↓] theorem zahr : BF .eql .inil .inil k = k (.bool true) := by simp [BF, BINF, zar, PURE, qk]
@[simp ↓] theorem zaez : BF .neq .inil .inil k = k (.bool false) := by simp [BF, BINF, zar, PURE, qk]
@[simp ↓] theorem zahs : BF .eql .ifc .inil k = k (.bool false) := by simp [BF, BINF, zar, PURE, qk]
@[simp ↓] theorem zafa : BF .neq .ifc .inil k = k (.bool true) := by simp [BF, BINF, zar, PURE, qk]
@[simp ↓] theorem lns (s : List UInt8) : LNS (.str s) k = k (.int .i64 (s.length : Int)) := rfl
@[simp ↓] theorem zagi (xs : List (List AV)) : LNL (.ro xs) k = k (.int .i64 (xs.length : Int)) := rfl
@[simp ↓] theorem zaes (g off len : Nat) : LNL (.slc g off len) k = k (.int .i64 (len : Int)) := rfl
@[simp ↓] theorem zado : LNL .nils k = k (.int .i64 0) := rfl
@[simp ↓] theorem zagh : LNL .zs k = k (.int .i64 0) := rfl
@[simp ↓] theorem zagk (s : List UInt8) (n : Int) : IX (.str s) (.int ki n) k = (0 ≤ n ∧ n < s.length ∧ k (.int .u8 ((s.getD n.toNat 0).toNat : Int))) := rfl
@[simp ↓] theorem zyy (esz : Nat) (xs : List (List AV)) (n : Int) : IA esz (.ro xs) (.int ki n) k = (0 ≤ n ∧ n < xs.length ∧ (xs.getD n.toNat []).length = esz ∧ k (.rop (xs.getD n.toNat []) 0)) := rfl
@[simp ↓] theorem zaam (esz g off len : Nat) (n : Int) : IA esz (.slc g off len) (.int ki n) k = (0 ≤ n ∧ n < len ∧ k (.ptr g (off + n.toNat * esz))) := rfl
@[simp ↓] theorem zago (o : Nat) (cs : List AV) (q : Nat) : FA o (.rop cs q) k = k (.rop cs (q + o)) := rfl
@[simp ↓] theorem zagp (o g q : Nat) : FA o (.ptr g q) k = k (.ptr g (q + o)) := rfl
@[simp ↓] theorem zafw (cs : List AV) (q : Nat) : NC (.rop cs q) k = k (.rop cs q) := rfl
@[simp ↓] theorem zafx (g q : Nat) : NC (.ptr g q) k = k (.ptr g q) := rfl
@[simp] theorem zacl : (AV.int ki a).cells = [AV.int ki a] := rfl
@[simp] theorem zach (s : List UInt8) : (AV.str s).cells = [AV.str s] := rfl
@[simp] theorem zabg (c : Bool) : (AV.bool c).cells = [AV.bool c] := rfl
@[simp] theorem zwl (xs : List AV) : (AV.agg xs).cells = xs := rfl
@[simp] theorem zaci (g o n : Nat) : (AV.slc g o n).cells = [AV.slc g o n] := rfl
@[simp] theorem zadv (xs : List (List AV)) : (AV.ro xs).cells = [AV.ro xs] := rfl
@[simp] theorem zacr : (AV.int ki a).sure = true := rfl
@[simp] theorem zacn (s : List UInt8) : (AV.str s).sure = true := rfl
@[simp] theorem zabh : AV.bany.cells = [AV.bany] := rfl
@[simp] theorem zabo (c : Bool) : (AV.bool c).sure = true := rfl
@[simp] theorem zww (xs : List AV) : (AV.agg xs).sure = true := rfl
@[simp] theorem zaco (g o n : Nat) : (AV.slc g o n).sure = true := rfl
@[simp] theorem zadz (xs : List (List AV)) : (AV.ro xs).sure = true := rfl
@[simp] theorem zaeq : (AV.int ki a).one = true := rfl
@[simp] theorem zaen (s : List UInt8) : (AV.str s).one = true := rfl
@[simp] theorem zadl (c : Bool) : (AV.bool c).one = true := rfl
@[simp] theorem zaeo (g o n : Nat) : (AV.slc g o n).one = true := rfl
@[simp] theorem zafh (xs : List (List AV)) : (AV.ro xs).one = true := rfl
@[simp ↓] theorem zagq (vs : List AV) (i : Nat) : EX (.tup vs) i k = OPTK vs[i]? k := by
  simp only [EX, EXTR, PURE, qk, OPTK]
  cases vs[i]? <;> simp
theorem i64w {n : Int} (h : -9223372036854775808 ≤ n ∧ n ≤ 9223372036854775807) : IntKind.i64.wrap n = n := IntWalk.i64_in n h
end Go.Proofs.YtpllgpgdcbgalaaDoor
namespace Go.Proofs.YtpllgpgdcbgalaaDoor
open Go Go.RowKit
section
variable {k : AV → Prop} {ki : IntKind} {A : Prop}
@[simp ↓] theorem zagj (sz : Nat) (cs : List AV) (q : Nat) (H : Heap) : LD false sz (.rop cs q) H k = OPTK cs[q]? k := by
  simp only [LD, LOAD, rdp, ldv, cond_false, qk, OPTK]
  cases cs[q]? <;> simp
@[simp ↓] theorem zud (sz : Nat) (cs : List AV) (q : Nat) (H : Heap) : LD true sz (.rop cs q) H k = (q + sz ≤ cs.length ∧ k (.agg ((cs.drop q).take sz))) := by
  simp only [LD, LOAD, rdp, ldv, cond_true, qk]
  by_cases h : q + sz ≤ cs.length <;> simp [h]
theorem zgg {o : Option AObj} {kr : Nat → List AV → Prop} (h : ∀ s cs, o = some (.row s cs) → (A ↔ kr s cs)) (hn : (∀ s cs, o ≠ some (.row s cs)) → ¬ A) : A = ROWK o kr := by
  apply propext; constructor
  · intro ha
    by_cases he : ∃ s cs, o = some (.row s cs)
    · obtain ⟨s, cs, he⟩ := he; exact ⟨s, cs, he, (h s cs he).1 ha⟩
    · exact absurd ha (hn fun s cs e => he ⟨s, cs, e⟩)
  · rintro ⟨s, cs, he, hk⟩; exact (h s cs he).2 hk
@[simp ↓] theorem ld_p {sz g q : Nat} {H : Heap} : LD false sz (.ptr g q) H k = ROWK (H g) fun _ cs => OPTK cs[q]? k := by
  refine zgg (fun s cs h => ?_) fun h => ?_
  · simp only [LD, LOAD, rdp, qk, h, ldv, cond_false, OPTK]; cases hq : cs[q]? <;> simp [hq]
  · simp only [LD, LOAD, rdp, qk]
    exact id
@[simp ↓] theorem zxm {sz g q : Nat} {H : Heap} : LD true sz (.ptr g q) H k = ROWK (H g) fun _ cs => q + sz ≤ cs.length ∧ k (.agg ((cs.drop q).take sz)) := by
  refine zgg (fun s cs h => ?_) fun h => ?_
  · simp only [LD, LOAD, rdp, qk, h, ldv, cond_true]; by_cases hq : q + sz ≤ cs.length <;> simp [hq]
  · simp only [LD, LOAD, rdp, qk]
    exact id
@[simp ↓] theorem zaet {kr : AV → List Nat → Prop} (sz : Nat) (cs : List AV) (q : Nat) (H : Heap) : LDR false sz (.rop cs q) H kr = OPTK cs[q]? fun v => kr v [] := by
  simp only [LDR, LOAD, rdp, ldv, cond_false, OPTK]
  cases cs[q]? <;> simp
@[simp ↓] theorem zaaq {kr : AV → List Nat → Prop} (sz : Nat) (cs : List AV) (q : Nat) (H : Heap) : LDR true sz (.rop cs q) H kr = (q + sz ≤ cs.length ∧ kr (.agg ((cs.drop q).take sz)) []) := by
  simp only [LDR, LOAD, rdp, ldv, cond_true]
  by_cases h : q + sz ≤ cs.length <;> simp [h]
@[simp ↓] theorem zair {kr : AV → List Nat → Prop} {sz g q : Nat} {H : Heap} : LDR false sz (.ptr g q) H kr = ROWK (H g) fun _ cs => OPTK cs[q]? fun v => kr v [g] := by
  refine zgg (fun s cs h => ?_) fun h => ?_
  · simp only [LDR, LOAD, rdp, h, ldv, cond_false, OPTK]; cases hq : cs[q]? <;> simp [hq]
  · simp only [LDR, LOAD, rdp]
    exact id
@[simp ↓] theorem zaca {kr : AV → List Nat → Prop} {sz g q : Nat} {H : Heap} : LDR true sz (.ptr g q) H kr = ROWK (H g) fun _ cs => q + sz ≤ cs.length ∧ kr (.agg ((cs.drop q).take sz)) [g] := by
  refine zgg (fun s cs h => ?_) fun h => ?_
  · simp only [LDR, LOAD, rdp, h, ldv, cond_true]; by_cases hq : q + sz ≤ cs.length <;> simp [hq]
  · simp only [LDR, LOAD, rdp]
    exact id
@[simp ↓] theorem st_p {sz g q : Nat} {H : Heap} {v : AV} {kh : Heap → Prop} :
    ST sz (.ptr g q) v H kh = ROWK (H g) fun es cs => v.cells.length = sz ∧ q + sz ≤ cs.length ∧ v.cells.all AV.one = true ∧ v.sure = true ∧ kh (H.put g (some (.row es (zah cs q v.cells)))) := by
  refine zgg (fun s cs h => ?_) fun h => ?_
  · simp only [ST, zaf, h, Heap.apply]
  · simp only [ST, zaf]
    exact id
@[simp ↓] theorem zaea {sz g q : Nat} {H : Heap} {v : AV} {kt : Kt} :
    zaf sz (.ptr g q) v H kt = ROWK (H g) fun es cs => v.cells.length = sz ∧ q + sz ≤ cs.length ∧ v.cells.all AV.one = true ∧ v.sure = true ∧ kt .und [g] [] [(g, some (.row es (zah cs q v.cells)))] := by
  refine zgg (fun s cs h => ?_) fun h => ?_
  · simp only [zaf, h]
  · simp only [zaf]
    exact id
@[simp ↓] theorem zajf {pl : Nat → Option (Nat × Nat)} {z : List AV} {ps : List (Nat × AV)} : BD pl z ps k = OPTK (zbg pl z ps) fun cells => k (.agg cells) := by
  simp only [BD, zgn, PURE, qk, OPTK]
  cases zbg pl z ps <;> simp
@[simp ↓] theorem zagw {len esz : Nat} {z : List AV} {ps : List (Nat × AV)} {kc : List AV → Prop} : BSL len esz z ps kc = OPTK (zbg (fun i => some (i * esz, esz)) ((List.replicate len z).flatten) ps) kc := by
  simp only [BSL, OPTK]
  cases zbg (fun i => some (i * esz, esz)) ((List.replicate len z).flatten) ps <;> simp
@[simp] theorem zace {pl : Nat → Option (Nat × Nat)} {z : List AV} : zbg pl z [] = some z := rfl
@[simp ↓] theorem zabc {pl : Nat → Option (Nat × Nat)} {z : List AV} {i : Nat} {v : AV} {r : List (Nat × AV)} {kc : List AV → Prop} : OPTK (zbg pl z ((i, v) :: r)) kc =
    OPTK (pl i) fun p => v.cells.length = p.2 ∧ p.1 + p.2 ≤ z.length ∧ v.sure = true ∧ OPTK (zbg pl (zah z p.1 v.cells) r) kc := by
  have e : zbg pl z ((i, v) :: r) = match pl i with
    | none => none
    | some (off, size) => if v.cells.length = size ∧ off + size ≤ z.length ∧ v.sure = true then zbg pl (zah z off v.cells) r else none := rfl
  rw [e]
  cases pl i with
  | none => simp
  | some p =>
    obtain ⟨off, size⟩ := p
    simp only [optk]
    by_cases h : v.cells.length = size ∧ off + size ≤ z.length ∧ v.sure = true
    · rw [if_pos h]; simp [h]
    · rw [if_neg h]
      rw [zvo]
      apply propext
      constructor
      · intro h; exact h.elim
      · rintro ⟨h1, h2, h3, _⟩; exact h ⟨h1, h2, h3⟩
@[simp] theorem zaax {T : Nat → Option AT} {fs : List (Nat × Nat)} {i : Nat} : zt T fs i = match fs[i]? with | some (t, off) => some (off, zb T t) | none => none := rfl
@[simp ↓] theorem zagd {b : Nat} {k1 k2 : IntKind} {n m : Int} {kn : Nat → Prop} : MK b (.int k1 n) (.int k2 m) kn = (m = n ∧ 0 ≤ n ∧ n ≤ 140737488355328 ∧ n.toNat * b ≤ 140737488355328 ∧ kn n.toNat) := rfl
@[simp ↓] theorem zagm {s o : Nat} {xs : List AV} : FI false s o (.agg xs) k = OPTK xs[o]? k := by
  simp only [FI, zex, zpa, ldv, cond_false, PURE, qk, OPTK]
  cases xs[o]? <;> simp
@[simp ↓] theorem zagn {s o : Nat} {xs : List AV} : FI true s o (.agg xs) k = (o + s ≤ xs.length ∧ k (.agg ((xs.drop o).take s))) := by
  simp only [FI, zex, zpa, ldv, cond_true, PURE, qk]
  by_cases h : o + s ≤ xs.length <;> simp [h]
@[simp ↓] theorem zahx {s l : Nat} {xs : List AV} {n : Int} : AI false s l (.agg xs) (.int ki n) k = (0 ≤ n ∧ n < l ∧ OPTK xs[n.toNat * s]? k) := by
  simp only [AI, zjk, zex, zpa, ldv, cond_false, PURE, qk, OPTK]
  cases xs[n.toNat * s]? <;> simp
@[simp ↓] theorem zahz {s l g o : Nat} {n : Int} : AA s l (.ptr g o) (.int ki n) k = (0 ≤ n ∧ n < l ∧ k (.ptr g (o + n.toNat * s))) := rfl
@[simp ↓] theorem zahy {s l o : Nat} {cs : List AV} {n : Int} : AA s l (.rop cs o) (.int ki n) k = (0 ≤ n ∧ n < l ∧ k (.rop cs (o + n.toNat * s))) := rfl
@[simp ↓] theorem zadn : LNL (.ro []) k = k (.int .i64 0) := rfl
@[simp ↓] theorem zafy {f : FuncId} {c : List AV} : NC (.clo f c) k = k (.clo f c) := rfl
@[simp] theorem zaag {H : Heap} : H.apply [] = H := rfl
@[simp] theorem zyr {H : Heap} {g : Nat} {o : Option AObj} {r : zw} : H.apply ((g, o) :: r) = (H.put g o).apply r := rfl
@[simp ↓] theorem zacg {l : List Nat} {A : Prop} : zf [] l A = A := rfl
@[simp ↓] theorem zabd {g : Nat} {r l : List Nat} {A : Prop} : zf (g :: r) l A = (g ∉ l ∧ zf r l A) := rfl
@[simp ↓] theorem zacv {g q : Nat} {v : AV} {D : zw} {rd : List Nat} {A : Prop} : SOFT (.ptr g q) v D rd A = zfq g q v D A := rfl
@[simp ↓] theorem zacu {cs : List AV} {q : Nat} {v : AV} {D : zw} {rd : List Nat} {A : Prop} : SOFT (.rop cs q) v D rd A = zf (domD D) rd A := rfl
@[simp ↓] theorem zacm {g q : Nat} {v : AV} {A : Prop} : zfq g q v [] A = A := rfl
@[simp ↓] theorem zabj {g q x : Nat} {o : Option AObj} {v : AV} {r : zw} {A : Prop} : zfq g q v ((x, o) :: r) A = ((x = g → zep o q v) ∧ zfq g q v r A) := rfl
@[simp] theorem zabk {s q : Nat} {cs : List AV} {v : AV} : zep (some (.row s cs)) q v = (cs[q]? = some v) := by
  apply propext
  exact ⟨fun ⟨_, _, h, h2⟩ => by cases h; exact h2, fun h => ⟨s, cs, rfl, h⟩⟩
@[simp] theorem zadt : domD [] = [] := rfl
@[simp] theorem zacf {g : Nat} {o : Option AObj} {r : zw} : domD ((g, o) :: r) = g :: domD r := rfl
@[simp ↓] theorem zaeu {A : Prop} : gd true A = A := rfl
@[simp] theorem zack (g o : Nat) : (AV.ptr g o).cells = [AV.ptr g o] := rfl
@[simp] theorem zabf : AV.nils.cells = [AV.nils] := rfl
@[simp] theorem zabi (g : Nat) : (AV.amap g).cells = [AV.amap g] := rfl
@[simp] theorem zacq (g o : Nat) : (AV.ptr g o).sure = true := rfl
@[simp] theorem zabn : AV.nils.sure = true := rfl
@[simp] theorem zabp (g : Nat) : (AV.amap g).sure = true := rfl
@[simp] theorem zaep (g o : Nat) : (AV.ptr g o).one = true := rfl
@[simp] theorem zadk : AV.nils.one = true := rfl
@[simp] theorem zadm (g : Nat) : (AV.amap g).one = true := rfl
@[simp] theorem zacs (f : FuncId) (c : List AV) : (AV.clo f c).sure = true := rfl
@[simp] theorem zaer (f : FuncId) (c : List AV) : (AV.clo f c).one = true := rfl
@[simp] theorem zabq (cs : List AV) (o : Nat) (vs : List AV) : zah cs o vs = cs.take o ++ vs ++ cs.drop (o + vs.length) := rfl
@[simp] theorem zafv (x0 x1 x2 x3 x4 x5 x6 x7 x8 x9 x10 : AV) (xs : List AV) : nth (x0 :: x1 :: x2 :: x3 :: x4 :: x5 :: x6 :: x7 :: x8 :: x9 :: x10 :: xs) 10 = x10 := rfl
@[simp] theorem zafu (x0 x1 x2 x3 x4 x5 x6 x7 x8 x9 x10 x11 : AV) (xs : List AV) : nth (x0 :: x1 :: x2 :: x3 :: x4 :: x5 :: x6 :: x7 :: x8 :: x9 :: x10 :: x11 :: xs) 11 = x11 := rfl
@[simp] theorem zaft (x0 x1 x2 x3 x4 x5 x6 x7 x8 x9 x10 x11 x12 : AV) (xs : List AV) : nth (x0 :: x1 :: x2 :: x3 :: x4 :: x5 :: x6 :: x7 :: x8 :: x9 :: x10 :: x11 :: x12 :: xs) 12 = x12 := rfl
@[simp] theorem zafs (x0 x1 x2 x3 x4 x5 x6 x7 x8 x9 x10 x11 x12 x13 : AV) (xs : List AV) : nth (x0 :: x1 :: x2 :: x3 :: x4 :: x5 :: x6 :: x7 :: x8 :: x9 :: x10 :: x11 :: x12 :: x13 :: xs) 13 = x13 := rfl
@[simp] theorem zafr (x0 x1 x2 x3 x4 x5 x6 x7 x8 x9 x10 x11 x12 x13 x14 : AV) (xs : List AV) : nth (x0 :: x1 :: x2 :: x3 :: x4 :: x5 :: x6 :: x7 :: x8 :: x9 :: x10 :: x11 :: x12 :: x13 :: x14 :: xs) 14 = x14 := rfl
@[simp] theorem zafq (x0 x1 x2 x3 x4 x5 x6 x7 x8 x9 x10 x11 x12 x13 x14 x15 : AV) (xs : List AV) : nth (x0 :: x1 :: x2 :: x3 :: x4 :: x5 :: x6 :: x7 :: x8 :: x9 :: x10 :: x11 :: x12 :: x13 :: x14 :: x15 :: xs) 15 = x15 := rfl
@[simp] theorem zafp (x0 x1 x2 x3 x4 x5 x6 x7 x8 x9 x10 x11 x12 x13 x14 x15 x16 : AV) (xs : List AV) : nth (x0 :: x1 :: x2 :: x3 :: x4 :: x5 :: x6 :: x7 :: x8 :: x9 :: x10 :: x11 :: x12 :: x13 :: x14 :: x15 :: x16 :: xs) 16 = x16 := rfl
@[simp] theorem zafo (x0 x1 x2 x3 x4 x5 x6 x7 x8 x9 x10 x11 x12 x13 x14 x15 x16 x17 : AV) (xs : List AV) : nth (x0 :: x1 :: x2 :: x3 :: x4 :: x5 :: x6 :: x7 :: x8 :: x9 :: x10 :: x11 :: x12 :: x13 :: x14 :: x15 :: x16 :: x17 :: xs) 17 = x17 := rfl
@[simp] theorem zafn (x0 x1 x2 x3 x4 x5 x6 x7 x8 x9 x10 x11 x12 x13 x14 x15 x16 x17 x18 : AV) (xs : List AV) : nth (x0 :: x1 :: x2 :: x3 :: x4 :: x5 :: x6 :: x7 :: x8 :: x9 :: x10 :: x11 :: x12 :: x13 :: x14 :: x15 :: x16 :: x17 :: x18 :: xs) 18 = x18 := rfl
@[simp] theorem zafm (x0 x1 x2 x3 x4 x5 x6 x7 x8 x9 x10 x11 x12 x13 x14 x15 x16 x17 x18 x19 : AV) (xs : List AV) : nth (x0 :: x1 :: x2 :: x3 :: x4 :: x5 :: x6 :: x7 :: x8 :: x9 :: x10 :: x11 :: x12 :: x13 :: x14 :: x15 :: x16 :: x17 :: x18 :: x19 :: xs) 19 = x19 := rfl
@[simp] theorem zafl (x0 x1 x2 x3 x4 x5 x6 x7 x8 x9 x10 x11 x12 x13 x14 x15 x16 x17 x18 x19 x20 : AV) (xs : List AV) : nth (x0 :: x1 :: x2 :: x3 :: x4 :: x5 :: x6 :: x7 :: x8 :: x9 :: x10 :: x11 :: x12 :: x13 :: x14 :: x15 :: x16 :: x17 :: x18 :: x19 :: x20 :: xs) 20 = x20 := rfl
@[simp] theorem zafk (x0 x1 x2 x3 x4 x5 x6 x7 x8 x9 x10 x11 x12 x13 x14 x15 x16 x17 x18 x19 x20 x21 : AV) (xs : List AV) : nth (x0 :: x1 :: x2 :: x3 :: x4 :: x5 :: x6 :: x7 :: x8 :: x9 :: x10 :: x11 :: x12 :: x13 :: x14 :: x15 :: x16 :: x17 :: x18 :: x19 :: x20 :: x21 :: xs) 21 = x21 := rfl
@[simp] theorem zafj (x0 x1 x2 x3 x4 x5 x6 x7 x8 x9 x10 x11 x12 x13 x14 x15 x16 x17 x18 x19 x20 x21 x22 : AV) (xs : List AV) : nth (x0 :: x1 :: x2 :: x3 :: x4 :: x5 :: x6 :: x7 :: x8 :: x9 :: x10 :: x11 :: x12 :: x13 :: x14 :: x15 :: x16 :: x17 :: x18 :: x19 :: x20 :: x21 :: x22 :: xs) 22 = x22 := rfl
@[simp] theorem zafi (x0 x1 x2 x3 x4 x5 x6 x7 x8 x9 x10 x11 x12 x13 x14 x15 x16 x17 x18 x19 x20 x21 x22 x23 : AV) (xs : List AV) : nth (x0 :: x1 :: x2 :: x3 :: x4 :: x5 :: x6 :: x7 :: x8 :: x9 :: x10 :: x11 :: x12 :: x13 :: x14 :: x15 :: x16 :: x17 :: x18 :: x19 :: x20 :: x21 :: x22 :: x23 :: xs) 23 = x23 := rfl
attribute [simp] Heap.put_eq
@[simp] theorem Heap.put_put (H : Heap) (g : Nat) (a b : Option AObj) : (H.put g a).put g b = H.put g b := by
  funext x; simp only [Heap.put_eq]; split <;> rfl
@[simp ↓] theorem zio {esz bytes g off len nx : Nat} {x : AV} {H : Heap} {kk : AV → Heap → Nat → Prop} : APP esz bytes (.slc g off len) x H nx kk = OPTK (zl esz H x) fun p => ROWK (H g) fun s cells => s = esz ∧ p.2.1.all AV.one = true ∧
    off + len * esz ≤ cells.length ∧ (len + p.1) * bytes ≤ 140737488355328 ∧ kk (.slc nx 0 (len + p.1)) ((H.put g none).put nx (some (.row esz ((cells.drop off).take (len * esz) ++ p.2.1)))) (nx + 1) := by
  simp only [APP, zaq, OPTK, ROWK]
  cases hs : zl esz H x with
  | none => simp
  | some p =>
    obtain ⟨m, news, rd⟩ := p
    cases hg : H g with
    | none => simp
    | some o =>
      cases o with
      | mp es => simp
      | row sz cells =>
        simp [Heap.apply]
        constructor
        · rintro ⟨h1, rfl, h2, h3, h4⟩; exact ⟨_, _, ⟨rfl, rfl⟩, rfl, h1, h2, h3, h4⟩
        · rintro ⟨_, _, ⟨rfl, rfl⟩, rfl, h1, h2, h3, h4⟩; exact ⟨h1, rfl, h2, h3, h4⟩
@[simp ↓] theorem zadx {esz bytes nx : Nat} {x : AV} {H : Heap} {kk : AV → Heap → Nat → Prop} : APP esz bytes .nils x H nx kk = OPTK (zl esz H x) fun p => p.2.1.all AV.one = true ∧
    (p.1 = 0 → kk .nils H nx) ∧ (p.1 ≠ 0 → p.1 * bytes ≤ 140737488355328 ∧ kk (.slc nx 0 p.1) (H.put nx (some (.row esz p.2.1))) (nx + 1)) := by
  simp only [APP, zaq, OPTK]
  cases hs : zl esz H x with
  | none => simp
  | some p => obtain ⟨m, news, rd⟩ := p; simp [Heap.apply]
@[simp ↓] theorem zabm {esz bytes g off len nx : Nat} {x : AV} {H : Heap} {kt : Kt} : zaq esz bytes (.slc g off len) x H nx kt = OPTK (zl esz H x) fun p => ROWK (H g) fun s cells => s = esz ∧ p.2.1.all AV.one = true ∧
    off + len * esz ≤ cells.length ∧ (len + p.1) * bytes ≤ 140737488355328 ∧ kt (.slc nx 0 (len + p.1)) (g :: p.2.2) [nx] [(g, none), (nx, some (.row esz ((cells.drop off).take (len * esz) ++ p.2.1)))] := by
  simp only [zaq, OPTK, ROWK]
  cases hs : zl esz H x with
  | none => simp
  | some p =>
    obtain ⟨m, news, rd⟩ := p
    cases hg : H g with
    | none => simp
    | some o =>
      cases o with
      | mp es => simp
      | row sz cells =>
        simp
        constructor
        · rintro ⟨h1, rfl, h2, h3, h4⟩; exact ⟨_, _, ⟨rfl, rfl⟩, rfl, h1, h2, h3, h4⟩
        · rintro ⟨_, _, ⟨rfl, rfl⟩, rfl, h1, h2, h3, h4⟩; exact ⟨h1, rfl, h2, h3, h4⟩
@[simp ↓] theorem zaau {esz bytes nx : Nat} {x : AV} {H : Heap} {kt : Kt} : zaq esz bytes .nils x H nx kt = OPTK (zl esz H x) fun p => p.2.1.all AV.one = true ∧
    (p.1 = 0 → kt .nils p.2.2 [] []) ∧ (p.1 ≠ 0 → p.1 * bytes ≤ 140737488355328 ∧ kt (.slc nx 0 p.1) p.2.2 [nx] [(nx, some (.row esz p.2.1))]) := by
  simp only [zaq, OPTK]
  cases hs : zl esz H x with
  | none => simp
  | some p => obtain ⟨m, news, rd⟩ := p; simp
@[simp ↓] theorem zaed {esz g off len : Nat} {H : Heap} {kp : Nat × List AV × List Nat → Prop} : OPTK (zl esz H (.slc g off len)) kp = ROWK (H g) fun _ cells => off + len * esz ≤ cells.length ∧ kp (len, (cells.drop off).take (len * esz), [g]) := by
  simp only [zl, OPTK, ROWK]
  cases hg : H g with
  | none => simp
  | some o =>
    cases o with
    | mp es => simp
    | row sz cells =>
      by_cases h : off + len * esz ≤ cells.length
      · simp [h]
        constructor
        · intro hk; exact ⟨_, _, ⟨rfl, rfl⟩, h, hk⟩
        · rintro ⟨_, _, ⟨rfl, rfl⟩, _, hk⟩; exact hk
      · simp [h]
@[simp] theorem zrd {esz : Nat} {xs : List (List AV)} {H : Heap} (h : ∀ x ∈ xs, x.length = esz) : zl esz H (.ro xs) = some (xs.length, xs.flatten, []) := by
  simp only [zl]
  rw [if_pos (by simpa using h)]
@[simp] theorem zaec {s : List UInt8} {H : Heap} : zl 1 H (.str s) = some (s.length, s.map (fun b => .int .u8 (b.toNat : Int)), []) := rfl
@[simp] theorem zact {esz : Nat} {H : Heap} : zl esz H .nils = some (0, [], []) := rfl
def Keep (nx : Nat) (H' H : Heap) : Prop := ∀ g, g < nx → H' g = H g
@[simp] theorem Keep.rfl {nx : Nat} {H : Heap} : Keep nx H H = True := by simp [Keep]
theorem Keep.put {nx g : Nat} {o : Option AObj} {H H0 : Heap} (h : nx ≤ g) : Keep nx (H.put g o) H0 = Keep nx H H0 := by
  unfold Keep
  apply propext
  constructor
  · intro hk x hx; have := hk x hx; rwa [Heap.put_ne _ _ (by omega)] at this
  · intro hk x hx; rw [Heap.put_ne _ _ (by omega)]; exact hk x hx
@[simp] theorem Keep.put0 {nx : Nat} {o : Option AObj} {H H0 : Heap} : Keep nx (H.put nx o) H0 = Keep nx H H0 := Keep.put (Nat.le_refl _)
@[simp] theorem Keep.putS {nx i : Nat} {o : Option AObj} {H H0 : Heap} : Keep nx (H.put (nx + i) o) H0 = Keep nx H H0 := Keep.put (by omega)
theorem Keep.trans {n m : Nat} {H1 H2 H3 : Heap} (h : Keep m H1 H2) (hn : n ≤ m) (k : Keep n H2 H3) : Keep n H1 H3 := fun g hg => (h g (by omega)).trans (k g hg)
theorem QC.of' {P : Program} {f : FuncId} {args : List AV} {r : AV} (h : ∀ H nx, za P f args H nx fun v H' _ => Frz H' nx v r ∧ Keep nx H' H) : QC P f args r := QC.of h
@[simp] theorem zaiu {H : Heap} {nx : Nat} {a : Int} {r : AV} : Frz H nx (.int ki a) r = (r = .int ki a) := by
  apply propext; constructor
  · intro h; cases h; rfl
  · rintro rfl; exact .same _ (.int _ _)
@[simp] theorem zaiv {H : Heap} {nx : Nat} {a : Bool} {r : AV} : Frz H nx (.bool a) r = (r = .bool a) := by
  apply propext; constructor
  · intro h; cases h; rfl
  · rintro rfl; exact .same _ (.bool _)
@[simp] theorem zait {H : Heap} {nx : Nat} {a : List UInt8} {r : AV} : Frz H nx (.str a) r = (r = .str a) := by
  apply propext; constructor
  · intro h; cases h; rfl
  · rintro rfl; exact .same _ (.str _)
theorem QC.call {P : Program} {f : FuncId} {args : List AV} {r : AV} (h : QC P f args r) {H : Heap} {nx : Nat} {kk : AV → Heap → Nat → Prop} (hk : kk r H nx) : za P f args H nx kk :=
  (h H nx).mono fun v H' nx' ⟨h1, h2, h3⟩ => by subst h1; subst h2; subst h3; exact hk
end
end Go.Proofs.YtpllgpgdcbgalaaDoor
namespace Go.Proofs.YtpllgpgdcbgalaaDoor
open Go Go.RowKit
section
variable {k : AV → Prop} {ki : IntKind}
@[simp ↓] theorem mu_p {g : Nat} {key v : AV} {H : Heap} {kh : Heap → Prop} : MU (.amap g) key v H kh = MAPK (H g) fun es => OPTK (zaa key es) fun r => kh (H.put g (some (.mp (match r with | some (i, _) => es.set i (key, v) | none => es ++ [(key, v)])))) := by
  simp only [MU, MUPD, OPTK, MAPK]
  cases hg : H g with
  | none => simp
  | some o =>
    cases o with
    | row s cs => simp
    | mp es =>
      simp only [Option.some.injEq, AObj.mp.injEq, exists_eq_left']
      cases zaa key es with
      | none => simp
      | some r => cases r <;> simp [Heap.apply]
@[simp ↓] theorem lk_p {z : List AV} {agg ok : Bool} {g : Nat} {key : AV} {H : Heap} : LK z agg (.amap g) key ok H k = MAPK (H g) fun es => OPTK (zaa key es) fun r => k (match r with | some (_, v) => (bif ok then .tup [v, .bool true] else v) | none => (bif ok then .tup [(bif agg then .agg z else z.getD 0 .junk), .bool false] else (bif agg then .agg z else z.getD 0 .junk))) := by
  simp only [LK, LOOK, qk, OPTK, MAPK]
  cases hg : H g with
  | none => simp
  | some o =>
    cases o with
    | row s cs => simp
    | mp es =>
      simp only [Option.some.injEq, AObj.mp.injEq, exists_eq_left']
      cases zaa key es with
      | none => simp
      | some r => cases r <;> simp [Heap.apply]
@[simp ↓] theorem zagf {z : List AV} {agg ok : Bool} {g : Nat} {key : AV} {H : Heap} {kt : Kt} : LOOK z agg (.amap g) key ok H kt = MAPK (H g) fun es => OPTK (zaa key es) fun r => kt (match r with | some (_, v) => (bif ok then .tup [v, .bool true] else v) | none => (bif ok then .tup [(bif agg then .agg z else z.getD 0 .junk), .bool false] else (bif agg then .agg z else z.getD 0 .junk))) [g] [] [] := by
  simp only [LOOK, OPTK, MAPK]
  cases hg : H g with
  | none => simp
  | some o =>
    cases o with
    | row s cs => simp
    | mp es =>
      simp only [Option.some.injEq, AObj.mp.injEq, exists_eq_left']
      cases zaa key es with
      | none => simp
      | some r => cases r <;> simp [Heap.apply]
@[simp ↓] theorem zafz {g : Nat} {key v : AV} {H : Heap} {kt : Kt} : MUPD (.amap g) key v H kt = MAPK (H g) fun es => OPTK (zaa key es) fun r => kt .und [g] [] [(g, some (.mp (match r with | some (i, _) => es.set i (key, v) | none => es ++ [(key, v)])))] := by
  simp only [MUPD, OPTK, MAPK]
  cases hg : H g with
  | none => simp
  | some o =>
    cases o with
    | row s cs => simp
    | mp es =>
      simp only [Option.some.injEq, AObj.mp.injEq, exists_eq_left']
      cases zaa key es with
      | none => simp
      | some r => cases r <;> simp [Heap.apply]
theorem zaai {n g p : Nat} {op : Option AObj} {es : List (AV × AV)} {key v : AV} {H H0 : Heap} {kh : Heap → Prop} (hH : H g = some (.mp es)) (hp : H p = op) (hpg : p ≠ g) (hK : Keep n H H0) (hn : n ≤ g) (hf : zaa key es = some none)
    (hk : ∀ H', H' g = some (.mp (es ++ [(key, v)])) → H' p = op → Keep n H' H0 → kh H') : MU (.amap g) key v H kh := by
  rw [mu_p, hH, mapk, hf, optk]
  exact hk _ (Heap.put_at _ _ _) (by rw [Heap.put_ne _ _ hpg]; exact hp) ((Keep.put hn).symm ▸ hK)
@[simp ↓ high] theorem zagl {α : Type} {esz : Nat} {l : List α} {f : α → List AV} {n : Int} : IA esz (.ro (l.map f)) (.int ki n) k = (0 ≤ n ∧ n < l.length ∧ OPTK l[n.toNat]? fun x => (f x).length = esz ∧ k (.rop (f x) 0)) := by
  rw [zyy]
  apply propext
  constructor
  · rintro ⟨h0, h1, h2, h3⟩
    have hlt : n.toNat < l.length := by simp at h1; omega
    refine ⟨h0, by simpa using h1, l[n.toNat], by simp [hlt], ?_⟩
    simp [List.getD_eq_getElem?_getD, hlt] at h2 h3
    exact ⟨h2, h3⟩
  · rintro ⟨h0, h1, x, h2, h3, h4⟩
    refine ⟨h0, by simpa using h1, ?_⟩
    simp [List.getD_eq_getElem?_getD, h2]
    exact ⟨h3, h4⟩
theorem zzl {α : Type} {l : List α} {n : Nat} {kk : α → Prop} (h : n < l.length) (hk : ∀ x, l[n]? = some x → kk x) : OPTK l[n]? kk := ⟨l[n], by simp [h], hk _ (by simp [h])⟩
@[simp] theorem zmw {key : AV} : zaa key [] = some none := rfl
theorem zph {key v : AV} {q : AV} {r : List (AV × AV)} : zaa key ((q, v) :: r) = match zdg key q with
    | some true => some (some (0, v))
    | some false => (zaa key r).map (fun o => o.map fun p => (p.1 + 1, p.2))
    | none => none := rfl
@[simp] theorem zjx {k1 : IntKind} {x y : Int} {v : AV} {r : List (AV × AV)} : zaa (.int k1 x) ((.int k1 y, v) :: r) = if x = y then some (some (0, v)) else (zaa (.int k1 x) r).map (fun o => o.map fun p => (p.1 + 1, p.2)) := by
  rw [zph]
  by_cases h : x = y
  · simp [zdg, h]
  · have e : (x == y) = false := by simpa using h
    simp [zdg, h, e]
@[simp] theorem zqi {x y : List UInt8} {v : AV} {r : List (AV × AV)} : zaa (.str x) ((.str y, v) :: r) = if x = y then some (some (0, v)) else (zaa (.str x) r).map (fun o => o.map fun p => (p.1 + 1, p.2)) := by
  rw [zph]
  by_cases h : x = y
  · simp [zdg, h]
  · have e : (x == y) = false := by simpa using h
    simp [zdg, h, e]
@[simp] theorem zacc {k1 : IntKind} {a b : Int} : zdg (.int k1 a) (.int k1 b) = some (a == b) := by simp [zdg]
@[simp] theorem zacb {a b : List UInt8} : zdg (.str a) (.str b) = some (a == b) := rfl
@[simp] theorem zui {k1 k2 : IntKind} {a : Int} : zh (.int k1) (.int k2 a) = true := rfl
@[simp] theorem zuh {a : List UInt8} : zh .str (.str a) = true := rfl
theorem Frz.tup2 {H : Heap} {nx : Nat} {a b x y : AV} (h1 : Frz H nx a x) (h2 : Frz H nx b y) : Frz H nx (.tup [a, b]) (.tup [x, y]) := by
  refine .tup _ _ rfl fun j v u hv hu => ?_
  match j, hv, hu with
  | 0, hv, hu => cases hv; cases hu; exact h1
  | 1, hv, hu => cases hv; cases hu; exact h2
@[simp] theorem zadp {H : Heap} {nx : Nat} {a b x y : AV} : Frz H nx (.tup [a, b]) (.tup [x, y]) = (Frz H nx a x ∧ Frz H nx b y) := by
  apply propext; constructor
  · intro h
    cases h with
    | same _ h => cases h with | tup _ h => exact ⟨.same _ (h 0 _ rfl), .same _ (h 1 _ rfl)⟩
    | tup _ _ _ h => exact ⟨h 0 _ _ rfl rfl, h 1 _ _ rfl rfl⟩
  · rintro ⟨h1, h2⟩; exact h1.tup2 h2
theorem Frz.row {H : Heap} {nx g : Nat} {sz len : Nat} {cells : List AV} {xs : List (List AV)} (hg : nx ≤ g) (hH : H g = some (.row sz cells)) (hl : xs.length = len) (hs : ∀ x ∈ xs, x.length = sz) (hc : xs.flatten = cells) (hb : ∀ c ∈ cells, Bel (· < nx) c) :
    Frz H nx (.slc g 0 len) (.ro xs) := by
  have hflat : ∀ (xs : List (List AV)), (∀ x ∈ xs, x.length = sz) → ∀ (i : Nat) (x : List AV) (j : Nat) (v : AV), xs[i]? = some x → x[j]? = some v → xs.flatten[i * sz + j]? = some v := by
    intro xs
    induction xs with
    | nil => intro _ i x j v hx; simp at hx
    | cons y r ih =>
      intro hs i x j v hx hv
      have hy : y.length = sz := hs y (by simp)
      cases i with
      | zero =>
        simp at hx; subst hx
        have hj := (List.getElem?_eq_some_iff.1 hv).1
        rw [List.flatten_cons, List.getElem?_append_left (by omega)]; simpa using hv
      | succ i =>
        have hm : (i + 1) * sz = sz + i * sz := by rw [Nat.succ_mul, Nat.add_comm]
        rw [List.flatten_cons, List.getElem?_append_right (by omega)]
        rw [show (i + 1) * sz + j - y.length = i * sz + j by omega]
        exact ih (fun z hz => hs z (by simp [hz])) i x j v (by simpa using hx) hv
  have hlen : cells.length = len * sz := by
    have : ∀ xs : List (List AV), (∀ x ∈ xs, x.length = sz) → xs.flatten.length = xs.length * sz := by
      intro xs
      induction xs with
      | nil => intro _; simp
      | cons y r ih => intro hs; rw [List.flatten_cons, List.length_append, ih fun z hz => hs z (by simp [hz]), hs y (by simp), List.length_cons, Nat.succ_mul, Nat.add_comm]
    rw [← hc, ← hl]; exact this xs hs
  refine .slc g 0 len sz cells xs hg hH (by omega) hl hs (fun i j => (xs.getD i []).getD j .junk) (fun i x j v hx hv => ?_) (fun i x j v hx hv => ?_)
  · have := hflat xs hs i x j v hx hv
    rw [hc] at this
    simp only [Nat.zero_add, this, List.getD_eq_getElem?_getD, hx, Option.getD_some, hv]
  · have := hflat xs hs i x j v hx hv
    rw [hc] at this
    simp only [List.getD_eq_getElem?_getD, hx, Option.getD_some, hv]
    exact .same _ (hb v (List.mem_of_getElem? this))
@[simp] theorem zadq {H : Heap} {nx : Nat} : Frz H nx .nils (.ro []) = True := by simp [Frz.nils]
end
end Go.Proofs.YtpllgpgdcbgalaaDoor
namespace Go.Proofs.YtpllgpgdcbgalaaDoor
open Go Go.RowKit
theorem za.pure {P : Program} {f : FuncId} {args : List AV} {r : AV} {H : Heap} {nx : Nat} (h : za P f args H nx fun v H' _ => Frz H' nx v r ∧ Keep nx H' H) : za P f args H nx fun v H' nx' => v = r ∧ H' = H ∧ nx' = nx := by
  refine za.tidy fun hlive => ?_
  refine (za.gc (R := fun v H' => v = r ∧ H' = H) h fun v H' nx' ⟨h1, h2⟩ => ⟨r, H, ⟨rfl, rfl⟩, h1, fun g o ho => ⟨hlive g o ho, by rw [h2 g (hlive g o ho)]; exact ho, .inl ho⟩⟩).mono fun v H' nx' ⟨⟨a, b⟩, c⟩ => ⟨a, b, c⟩
theorem LC.of_qcr {P : Program} {f : FuncId} {args : List AV} {r : AV} {H0 : Heap} {rd : List Nat} (hrd : ∀ g ∈ rd, (H0 g).isSome = true)
    (h : ∀ H nx, (∀ g ∈ rd, H g = H0 g ∧ g < nx) → za P f args H nx fun v H' nx' => v = r ∧ H' = H ∧ nx' = nx) (hr : Bel (fun _ => False) r) : LC P f args H0 rd [] [] r := by
  intro A ρ H w cargs ⟨N, hN⟩ s ha hag _
  have sN : Sim (· < N) ρ H w := ⟨fun g o ho => hN g (s.live g o ho), fun g o ho => (s.obj g o ho).mono rfl (fun _ _ h => h) (fun g hg => ⟨rfl, hN g hg⟩), s.inj, s.lay⟩
  have aN : LRel (Kof ρ H w) ρ (· < N) args cargs.toList := ⟨ha.1, fun j v c hv hc => (ha.2 j v c hv hc).mono (fun _ _ h => h) (fun g hg => ⟨rfl, hN g hg⟩)⟩
  have hr' : ∀ g ∈ rd, H g = H0 g ∧ g < N := fun g hg => ⟨hag g hg, by
    obtain ⟨o, ho⟩ := Option.isSome_iff_exists.1 (hrd g hg)
    exact hN g (s.live g o ((hag g hg).trans ho))⟩
  refine zav (h H N hr' ρ w cargs sN aN) fun cv w' ⟨r', H', nx', ρ', ⟨q0, q1, q2⟩, q3, q4, q5⟩ => ?_
  subst q0; subst q1; subst q2
  have hA : (fun x => A x ∨ x ∈ ([] : List Nat)) = A := by funext x; simp
  refine ⟨ρ', ?_, ?_, ?_⟩
  · rw [hA]
    exact ⟨s.live, fun g o ho => (q3.obj g o ho).restrict (s.obj g o ho).bel, q3.inj, q3.lay⟩
  · rw [hA]
    exact q4.restrict (hr.mono fun _ h => h.elim)
  · rw [hA]
    exact ⟨fun g hg => ⟨(q5.agree g (hN g hg)).1, hg⟩, q5.k, q5.os, q5.tape, q5.output, q5.size⟩
theorem zae.of_qcr {P : Program} {f : FuncId} {args cap : List AV} {r : AV} {H : Heap} {nx : Nat} {k : Kt} (rd : List Nat) (hrd : ∀ g ∈ rd, (H g).isSome = true)
    (h : ∀ H' nx, (∀ g ∈ rd, H' g = H g ∧ g < nx) → za P f (args ++ cap) H' nx fun v H'' nx' => v = r ∧ H'' = H' ∧ nx' = nx) (hr : Bel (fun _ => False) r) (hk : k r rd [] []) : zae P (.clo f cap) args H nx k :=
  ⟨r, rd, [], [], .inl rfl, LC.of_qcr hrd h hr, hk⟩
theorem za.pure_call {P : Program} {f : FuncId} {args : List AV} {r : AV} {H : Heap} {nx : Nat} {kk : AV → Heap → Nat → Prop} (h : za P f args H nx fun v H' _ => Frz H' nx v r ∧ Keep nx H' H) (hk : kk r H nx) : za P f args H nx kk :=
  h.pure.mono fun v H' nx' ⟨h1, h2, h3⟩ => by subst h1; subst h2; subst h3; exact hk
def flat : AV → Bool
  | .int _ _ | .str _ | .bool _ => true
  | .agg xs | .tup xs => xs.attach.all fun ⟨x, _⟩ => flat x
  | _ => false
theorem zxu {xs : List AV} : flat (.agg xs) = xs.all flat := by rw [flat]; simp
theorem zxt {xs : List AV} : flat (.tup xs) = xs.all flat := by rw [flat]; simp
@[simp] theorem zads {k : IntKind} {n : Int} : flat (.int k n) = true := by rw [flat]
@[simp] theorem zadr {s : List UInt8} : flat (.str s) = true := by rw [flat]
@[simp] theorem zacd {b : Bool} : flat (.bool b) = true := by rw [flat]
theorem VRel.flat {K K' : zg} {ρ ρ' : Nat → Loc} {A A' : Nat → Prop} {v : AV} {c : Value} (h : VRel K ρ A v c) : flat v = true → VRel K' ρ' A' v c := by
  induction h with
  | int k n => exact fun _ => .int k n
  | bool b => exact fun _ => .bool b
  | str s => exact fun _ => .str s
  | agg xs cs h1 _ ih =>
    intro hf
    rw [zxu] at hf
    exact .agg xs cs h1 fun j v c hv hc => ih j v c hv hc (List.all_eq_true.1 hf v (List.mem_of_getElem? hv))
  | tup xs cs h1 _ ih =>
    intro hf
    rw [zxt] at hf
    exact .tup xs cs h1 fun j v c hv hc => ih j v c hv hc (List.all_eq_true.1 hf v (List.mem_of_getElem? hv))
  | _ => intro hf; simp [Go.Proofs.YtpllgpgdcbgalaaDoor.flat] at hf
def LFrz (H : Heap) (xs ys : List AV) : Prop := ys.length = xs.length ∧ ∀ (j : Nat) (v u : AV), xs[j]? = some v → ys[j]? = some u → Frz H 0 v u
theorem LFrz.nil {H : Heap} : LFrz H [] [] := ⟨rfl, fun j v u h => by simp at h⟩
theorem LFrz.cons {H : Heap} {v u : AV} {xs ys : List AV} (h : Frz H 0 v u) (k : LFrz H xs ys) : LFrz H (v :: xs) (u :: ys) := by
  refine ⟨by simp [k.1], fun j a b ha hb => ?_⟩
  cases j with
  | zero => simp at ha hb; subst ha; subst hb; exact h
  | succ j => exact k.2 j a b (by simpa using ha) (by simpa using hb)
theorem LFrz.rel {A : Nat → Prop} {ρ : Nat → Loc} {H : Heap} {w : World} {xs ys : List AV} {cs : List Value} (s : Sim A ρ H w) (h : LFrz H xs ys) (k : LRel (Kof ρ H w) ρ A xs cs) (A' : Nat → Prop) : LRel (Kof ρ (fun _ => none) w) ρ A' ys cs := by
  refine ⟨k.1.trans h.1.symm, fun j u c hu hc => ?_⟩
  have hj : j < xs.length := by have := (List.getElem?_eq_some_iff.1 hu).1; rw [h.1] at this; exact this
  have hv : xs[j]? = some xs[j] := List.getElem?_eq_getElem hj
  exact ((h.2 j _ u hv hu).rel s (fun g o ho => by cases ho) c (k.2 j _ c hv hc)).mono (fun _ _ h => h) (fun g hg => absurd hg (Nat.not_lt_zero _))
theorem QC.reads {P : Program} {f : FuncId} {args args' : List AV} {r : AV} (h : QC P f args r) (hr : flat r = true) {H : Heap} {nx : Nat} (hf : LFrz H args' args) : za P f args' H nx fun v H' nx' => v = r ∧ H' = H ∧ nx' = nx := by
  intro ρ w cargs s ha
  have s0 := (s.drop (H' := fun _ => none) (fun g o ho => by cases ho)).1
  refine zav (h (fun _ => none) nx ρ w cargs s0 (hf.rel s ha _)) fun cv w' ⟨r', H', nx', ρ', ⟨q0, q1, q2⟩, q3, q4, q5⟩ => ?_
  subst q0; subst q1; subst q2
  have keep : ∀ b o, w.heap[b]? = some o → w'.heap[b]? = some o := fun b o hb =>
    (zq.1 (q5.k b o (zq.2 ⟨fun g hg => by simp at hg, hb⟩))).2
  have hρ : ∀ g, g < nx' → ρ' g = ρ g := fun g hg => (q5.agree g hg).1
  have hK : ∀ b o, Kof ρ H w b = some o → Kof ρ' H w' b = some o := fun b o hb => by
    obtain ⟨h1, h2⟩ := zq.1 hb
    refine zq.2 ⟨fun g hg => ?_, keep b o h2⟩
    obtain ⟨o', ho'⟩ := Option.isSome_iff_exists.1 hg
    rw [hρ g (s.live g o' ho')]
    exact h1 g hg
  refine ⟨r', H, nx', ρ', ⟨rfl, rfl, rfl⟩, ⟨s.live, fun g o ho => ?_, fun x y hx hy hb => ?_, s.lay.mono hK⟩, q4.flat hr, ⟨fun g hg => ⟨hρ g hg, hg⟩, hK, q5.os, q5.tape, q5.output, q5.size⟩⟩
  · rw [hρ g (s.live g o ho)]
    have ho' := s.obj g o ho
    obtain ⟨ob, hob⟩ : ∃ ob, w.heap[(ρ g).block]? = some ob := ⟨_, Array.getElem?_eq_getElem ho'.block_lt⟩
    exact ho'.mono (by rw [keep _ _ hob, hob]) hK fun g hg => ⟨hρ g hg, hg⟩
  · obtain ⟨o1, ho1⟩ := Option.isSome_iff_exists.1 hx
    obtain ⟨o2, ho2⟩ := Option.isSome_iff_exists.1 hy
    rw [hρ x (s.live x o1 ho1), hρ y (s.live y o2 ho2)] at hb
    exact s.inj x y hx hy hb
theorem QC.readsC {P : Program} {f : FuncId} {args args' : List AV} {r : AV} (h : QC P f args r) (hr : flat r = true) {H : Heap} {nx : Nat} (hf : LFrz H args' args) {kk : AV → Heap → Nat → Prop} (hk : kk r H nx) : za P f args' H nx kk :=
  (h.reads hr hf).mono fun v H' nx' ⟨h1, h2, h3⟩ => by subst h1; subst h2; subst h3; exact hk
theorem QC.gives {P : Program} {f : FuncId} {args args' : List AV} {r : AV} (h : QC P f args r) {H : Heap} {nx : Nat} (hf : LFrz H args' args) {kk : AV → Heap → Nat → Prop} (hk : kk r (fun _ => none) nx) : za P f args' H nx kk := by
  intro ρ w cargs s ha
  obtain ⟨s0, f0⟩ := s.drop (H' := fun _ => none) (fun g o ho => by cases ho)
  refine zav (h (fun _ => none) nx ρ w cargs s0 (hf.rel s ha _)) fun cv w' ⟨r', H', nx', ρ', ⟨q0, q1, q2⟩, q3, q4, q5⟩ => ?_
  subst q0; subst q1; subst q2
  exact ⟨r', fun _ => none, nx', ρ', hk, q3, q4, f0.trans q5⟩
end Go.Proofs.YtpllgpgdcbgalaaDoor
namespace Go.Proofs.YtpllgpgdcbgalaaDoor
open Go Go.RowKit
inductive FrzP (H : Heap) (G : Nat → Prop) : AV → AV → Prop
  | same (v : AV) : FrzP H G v v
  | nils : FrzP H G .nils (.ro [])
  | zs : FrzP H G .zs (.ro [])
  | slc (g off len sz : Nat) (cells : List AV) (xs : List (List AV)) : G g → H g = some (.row sz cells) → off + len * sz ≤ cells.length → xs.length = len → (∀ x ∈ xs, x.length = sz) →
      (U : Nat → Nat → AV) → (∀ (i : Nat) (x : List AV) (j : Nat) (v : AV), xs[i]? = some x → x[j]? = some v → cells[off + i * sz + j]? = some (U i j)) →
      (∀ (i : Nat) (x : List AV) (j : Nat) (v : AV), xs[i]? = some x → x[j]? = some v → FrzP H G (U i j) v) → FrzP H G (.slc g off len) (.ro xs)
  | agg (xs ys : List AV) : ys.length = xs.length → (∀ (j : Nat) (v u : AV), xs[j]? = some v → ys[j]? = some u → FrzP H G v u) → FrzP H G (.agg xs) (.agg ys)
theorem FrzP.rel {A : Nat → Prop} {ρ : Nat → Loc} {H H0 : Heap} {w : World} {G : Nat → Prop} (s : Sim A ρ H w) (h0 : ∀ g o, H0 g = some o → ¬ G g ∧ H g = some o) {v u : AV} (h : FrzP H G v u) :
    ∀ (c : Value), VRel (Kof ρ H w) ρ A v c → VRel (Kof ρ H0 w) ρ A u c := by
  have hK : ∀ b o, Kof ρ H w b = some o → Kof ρ H0 w b = some o := fun b o hb => by
    obtain ⟨h1, h2⟩ := zq.1 hb
    refine zq.2 ⟨fun g hg => ?_, h2⟩
    obtain ⟨o', ho'⟩ := Option.isSome_iff_exists.1 hg
    exact h1 g (by rw [(h0 g o' ho').2]; rfl)
  induction h with
  | same v => exact fun c hc => hc.mono hK (fun _ h => ⟨rfl, h⟩)
  | nils =>
    intro c hc
    cases hc
    exact .ro [] none 0 0 0 0 0 (fun _ _ => undef) rfl (Nat.le_refl _) (fun h => absurd rfl h) (fun x hx => by cases hx) (fun i x j v hx => by simp at hx) (fun i x j v hx => by simp at hx)
  | zs =>
    intro c hc
    cases hc with
    | zs a => exact .ro [] a 0 0 0 0 0 (fun _ _ => undef) rfl (Nat.le_refl _) (fun h => absurd rfl h) (fun x hx => by cases hx) (fun i x j v hx => by simp at hx) (fun i x j v hx => by simp at hx)
  | slc g off len sz cells xs hg hH hle hl hsz U hU _ ih =>
    intro c hc
    cases hc with
    | slc _ _ _ cap a hA hcl hcap =>
      obtain ⟨cc, el, lo, hi, q1, q2, q3, q4, q5, q6⟩ := s.obj g _ hH
      have hKb : Kof ρ H0 w (ρ g).block = some (.cells cc el (lo, hi)) := by
        refine zq.2 ⟨fun x hx e => ?_, q1⟩
        obtain ⟨o', ho'⟩ := Option.isSome_iff_exists.1 hx
        obtain ⟨h1, h2⟩ := h0 x o' ho'
        have := s.inj x g (by rw [h2]; rfl) (by rw [hH]; rfl) e
        subst this
        exact h1 hg
      have hex : ∀ (i : Nat) (x : List AV) (j : Nat) (v : AV), xs[i]? = some x → x[j]? = some v → ∃ cv, cc[(ρ g).base + (off + i * sz + j)]? = some cv ∧ VRel (Kof ρ H w) ρ A (U i j) cv := fun i x j v hx hv => q6 _ _ (hU i x j v hx hv)
      refine .ro xs a len cap sz (ρ g).block ((ρ g).base + off) (fun i j => (cc[(ρ g).base + (off + i * sz + j)]?).getD undef) hl.symm hcl (fun hne => ?_) hsz (fun i x j v hx hv => ?_) (fun i x j v hx hv => ?_)
      · have hpos : 0 < xs.length := List.length_pos_iff.2 hne
        exact (hcap (by omega)).2
      · obtain ⟨cv, h1, h2⟩ := hex i x j v hx hv
        unfold zih
        rw [hKb]
        simp only [h1, Option.getD_some]
        rw [← h1]; congr 1; omega
      · obtain ⟨cv, h1, h2⟩ := hex i x j v hx hv
        rw [h1]
        exact ih i x j v hx hv cv h2
  | agg xs ys hl _ ih =>
    intro c hc
    cases hc with
    | agg _ cs h1 h2 =>
    exact .agg ys cs (by omega) fun j v c hv hc => by
        have hlt := (List.getElem?_eq_some_iff.1 hv).1
        have hx : xs[j]? = some (xs[j]'(by omega)) := List.getElem?_eq_getElem (by omega)
        exact ih j _ v hx hv c (h2 j _ c hx hc)
theorem FrzP.row {H : Heap} {G : Nat → Prop} {g sz len : Nat} {cells : List AV} {xs : List (List AV)} (hg : G g) (hH : H g = some (.row sz cells)) (hl : xs.length = len) (hs : ∀ x ∈ xs, x.length = sz) (hc : ∀ (i : Nat) (x : List AV) (j : Nat) (v : AV), xs[i]? = some x → x[j]? = some v → ∃ u, cells[i * sz + j]? = some u ∧ FrzP H G u v) (hle : len * sz ≤ cells.length) : FrzP H G (.slc g 0 len) (.ro xs) := by
  refine .slc g 0 len sz cells xs hg hH (by omega) hl hs (fun i j => (cells[i * sz + j]?).getD .junk) (fun i x j v hx hv => ?_) fun i x j v hx hv => ?_
  · obtain ⟨u, h1, h2⟩ := hc i x j v hx hv
    rw [Nat.zero_add, h1]; rfl
  · obtain ⟨u, h1, h2⟩ := hc i x j v hx hv
    rw [h1]; exact h2
end Go.Proofs.YtpllgpgdcbgalaaDoor
namespace Go.Proofs.YtpllgpgdcbgalaaDoor
open Go Go.RowKit
inductive FP (H : Heap) (G : Nat → Prop) : List AV → List AV → Prop
  | nil : FP H G [] []
  | cons {u v : AV} {us vs : List AV} : FrzP H G u v → FP H G us vs → FP H G (u :: us) (v :: vs)
section
variable {H : Heap} {G : Nat → Prop}
theorem FP.append : ∀ {us vs us' vs' : List AV}, FP H G us vs → FP H G us' vs' → FP H G (us ++ us') (vs ++ vs')
  | _, _, _, _, .nil, k => k
  | _, _, _, _, .cons a b, k => .cons a (b.append k)
theorem FP.same : ∀ (l : List AV), FP H G l l
  | [] => .nil
  | _ :: r => .cons (.same _) (FP.same r)
theorem FP.get : ∀ {us vs : List AV}, FP H G us vs → ∀ {j : Nat} {v : AV}, vs[j]? = some v → ∃ u, us[j]? = some u ∧ FrzP H G u v
  | _, _, .nil, j, v, h => by simp at h
  | _, _, .cons a b, 0, v, h => by simp at h; subst h; exact ⟨_, rfl, a⟩
  | _, _, .cons a b, j + 1, v, h => by simpa using b.get (j := j) (by simpa using h)
theorem FP.len : ∀ {us vs : List AV}, FP H G us vs → us.length = vs.length
  | _, _, .nil => rfl
  | _, _, .cons a b => by simp [b.len]
theorem FP.agg {us vs : List AV} (h : FP H G us vs) : FrzP H G (.agg us) (.agg vs) := by
  refine .agg _ _ h.len.symm fun j v u hv hu => ?_
  obtain ⟨w, q1, q2⟩ := h.get hu
  rw [hv] at q1; cases q1; exact q2
theorem FrzP.rowW {g len sz : Nat} {cells : List AV} {xs : List (List AV)} (hg : G g) (hH : H g = some (.row sz cells)) (hl : xs.length = len) (hs : ∀ x ∈ xs, x.length = sz) (hc : FP H G cells xs.flatten) : FrzP H G (.slc g 0 len) (.ro xs) := by
  have e : cells.length = len * sz := by
    rw [hc.len]
    have : ∀ (ys : List (List AV)), (∀ y ∈ ys, y.length = sz) → ys.flatten.length = ys.length * sz := by
      intro ys
      induction ys with
      | nil => intro _; simp
      | cons y r ih => intro h; rw [List.flatten_cons, List.length_append, ih fun z hz => h z (by simp [hz]), h y (by simp), List.length_cons, Nat.succ_mul, Nat.add_comm]
    rw [this xs hs, hl]
  refine FrzP.row hg hH hl hs (fun i x j v hx hv => ?_) (by omega)
  have hat : ∀ (ys : List (List AV)), (∀ y ∈ ys, y.length = sz) → ∀ (i : Nat) (x : List AV), ys[i]? = some x → ∀ (j : Nat) (v : AV), x[j]? = some v → ys.flatten[i * sz + j]? = some v := by
    intro ys
    induction ys with
    | nil => intro _ i x hx; simp at hx
    | cons y r ih =>
      intro h i x hx j v hv
      have hy := h y (by simp)
      cases i with
      | zero =>
        simp at hx; subst hx
        rw [List.flatten_cons, Nat.zero_mul, Nat.zero_add, List.getElem?_append_left (by exact (List.getElem?_eq_some_iff.1 hv).1)]; exact hv
      | succ i =>
        have := ih (fun z hz => h z (by simp [hz])) i x (by simpa using hx) j v hv
        rw [List.flatten_cons, List.getElem?_append_right (by rw [hy, Nat.succ_mul]; omega), hy, show (i + 1) * sz + j - sz = i * sz + j by rw [Nat.succ_mul]; omega]
        exact this
  exact hc.get (hat xs hs i x hx j v hv)
end
mutual
def Ex.avs : Ex → List AV
  | .mk k n t ar => [.int .i64 k, .int .i64 n, .str t, .ro (Ex.avsL ar)]
def Ex.avsL : List Ex → List (List AV)
  | [] => []
  | x :: r => Ex.avs x :: Ex.avsL r
end
theorem ztl : ∀ l : List Ex, Ex.avsL l = l.map Ex.avs
  | [] => by simp [Ex.avsL]
  | x :: r => by simp [Ex.avsL, ztl r]
mutual
def Sm.avs : Sm → List AV
  | .mk k nm ar t e => [.int .i64 k, .str nm, .ro (ar.map Ex.avs), .ro (Sm.avsL t), .ro (Sm.avsL e)]
def Sm.avsL : List Sm → List (List AV)
  | [] => []
  | x :: r => Sm.avs x :: Sm.avsL r
end
theorem zpp : ∀ l : List Sm, Sm.avsL l = l.map Sm.avs
  | [] => by simp [Sm.avsL]
  | x :: r => by simp [Sm.avsL, zpp r]
theorem zji (k n : Int) (t : Str) (ar : List Ex) : Ex.avs (.mk k n t ar) = [.int .i64 k, .int .i64 n, .str t, .ro (ar.map Ex.avs)] := by rw [Ex.avs, ztl]
theorem zdj (k : Int) (nm : Str) (ar : List Ex) (t e : List Sm) : Sm.avs (.mk k nm ar t e) = [.int .i64 k, .str nm, .ro (ar.map Ex.avs), .ro (t.map Sm.avs), .ro (e.map Sm.avs)] := by rw [Sm.avs, zpp, zpp]
theorem zcu (x : Ex) : x.avs.length = 4 := by cases x; rw [zji]; rfl
theorem zkn (x : Sm) : x.avs.length = 5 := by cases x; rw [zdj]; rfl
def Fnc.avs (f : Fnc) : List AV := [.str f.name, .ro (f.params.map fun w => [.str w]), .ro (f.body.map Sm.avs)]
namespace VM
def badF (e : Int) (st : St) : St := (st.1, if st.2 = 0 then e else st.2)
def mustF (c : Int) (st : St) : St := if nxt st.1 = c then ((trim st.1).drop 1, st.2) else badF (if nxt st.1 = 0 then 8 else 2) (trim st.1, st.2)
def wF (st : St) : Str × St := ((trim st.1).takeWhile wordC, if (trim st.1).takeWhile wordC = [] then badF (if trim st.1 = [] then 8 else 2) (trim st.1, st.2) else ((trim st.1).dropWhile wordC, st.2))
def nF (st : St) : Str × St := ((wF st).1, if name (wF st).1 then (wF st).2 else badF 7 (wF st).2)
theorem goes_must (c : Int) (st : St) : Goes (mustR c) st () (mustF c st) := by
  unfold mustF mustR
  refine ⟨fun h => ?_, fun h x r hr => ?_, fun h e hr => ?_⟩
  · split
    · rfl
    · unfold badF; rw [if_neg h]
  · try simp only at hr
    split at hr
    · rename_i h1
      cases hr
      rw [if_pos h1, h]; exact ⟨rfl, rfl⟩
    · split at hr <;> cases hr
  · try simp only at hr
    split at hr
    · cases hr
    · rename_i h1
      rw [if_neg h1]
      unfold badF
      simp only [h, if_true]
      split at hr
      · rename_i h2; cases hr; rw [if_pos h2]; simp
      · rename_i h2; cases hr; rw [if_neg h2]; simp
def Eats {α : Type} (m : Rd α) : Prop := ∀ b a r, m b = .ok a r → r.length < b.length
def NoMore {α : Type} (m : Rd α) : Prop := ∀ b a r, m b = .ok a r → r.length ≤ b.length
theorem Eats.more {α : Type} {m : Rd α} (h : Eats m) : NoMore m := fun b a r e => Nat.le_of_lt (h b a r e)
theorem NoMore.pure {α : Type} (a : α) : NoMore (Rd.pure a) := fun b x r h => by cases h; exact Nat.le_refl _
theorem NoMore.err {α : Type} (e : Int) : NoMore (errR e : Rd α) := fun b x r h => by cases h
theorem NoMore.bind {α β : Type} {m : Rd α} {k : α → Rd β} (h : NoMore m) (h2 : ∀ a, NoMore (k a)) : NoMore (m.bind k) := fun b x r hx => by
  unfold Rd.bind at hx
  split at hx
  · rename_i a r' hm
    exact Nat.le_trans (h2 a _ _ _ hx) (h _ _ _ hm)
  · cases hx
theorem Eats.bind {α β : Type} {m : Rd α} {k : α → Rd β} (h : Eats m) (h2 : ∀ a, NoMore (k a)) : Eats (m.bind k) := fun b x r hx => by
  unfold Rd.bind at hx
  split at hx
  · rename_i a r' hm
    exact Nat.lt_of_le_of_lt (h2 a _ _ _ hx) (h _ _ _ hm)
  · cases hx
theorem trim_le (b : Str) : (trim b).length ≤ b.length := (List.dropWhile_sublist _).length_le
end VM
end Go.Proofs.YtpllgpgdcbgalaaDoor
