/- What is wrong with values, programs, and agents: plain functions. -/
import Derived.Test.YtckhbfbbpdjmdaaData
namespace Go.Proofs.Ytckhbfbbpdjmdaa
namespace VM

/-- Chapter 1: what is wrong with a value. -/
def wrong (v : Val) (cells : Int) : Int :=
  if v.kind < 0 ∨ 2 < v.kind then 1
  else if v.kind = 0 ∧ (v.n < -1073741824 ∨ 1073741824 < v.n) then 3
  else if v.kind = 1 ∧ 60 < v.text.length then 4
  else if v.kind = 2 ∧ (v.n < 0 ∨ cells ≤ v.n) then 6
  else if (v.kind = 1 ∧ v.n ≠ 0) ∨ (v.kind ≠ 1 ∧ v.text ≠ []) then 2
  else 0

def wordByte (c : UInt8) : Bool := decide (32 ≤ c.toNat) && decide (c.toNat ≤ 126) && !(c.toNat == 39)
def word (s : Str) : Bool := decide (s.length ≤ 12) && s.all wordByte

/-- What an instruction needs, and gives. -/
def effect (i : Ins) : Int × Int :=
  if i.op = 1 ∨ i.op = 2 ∨ i.op = 3 ∨ i.op = 12 then (0, 1)
  else if i.op = 4 ∨ i.op = 14 ∨ i.op = 16 ∨ i.op = 19 ∨ i.op = 18 then (1, 0)
  else if i.op = 5 ∨ i.op = 6 then (2, 1)
  else if i.op = 7 ∨ i.op = 8 ∨ i.op = 11 ∨ i.op = 13 then (1, 1)
  else if i.op = 9 ∨ i.op = 10 then (2, 0)
  else if i.op = 17 then (i.b, 1)
  else (0, 0)

def isIn (n most : Int) : Bool := decide (0 ≤ n) && decide (n < most)
def numOk (p : Prg) (c : Cod) (i : Ins) : Bool :=
  if i.op = 1 then decide (-1073741824 ≤ i.a) && decide (i.a ≤ 1073741824)
  else if i.op = 2 then isIn i.a p.words.length
  else if i.op = 3 ∨ i.op = 4 then isIn i.a c.vars
  else if i.op = 5 then decide (1 ≤ i.a) && decide (i.a ≤ 5)
  else if i.op = 15 ∨ i.op = 16 then isIn i.a c.ins.length
  else if i.op = 17 then isIn i.a p.codes.length && decide (some i.b = (p.codes[i.a.toNat]?).map (·.params))
  else decide (i.a = 0)
def numbers (p : Prg) (c : Cod) (i : Ins) : Int :=
  if i.op < 1 ∨ 19 < i.op then 1
  else if numOk p c i = false ∨ (i.op ≠ 17 ∧ i.b ≠ 0) then 3
  else 0

/-- Heights: what is still to be looked at, and what is known; its error is 8 end, 10 fit, 4 much. -/
def heightsGo (ins : List Ins) : Nat → List (Int × Int) → List Int → List Int × Int
  | 0, _, _ => ([], 0)
  | _ + 1, [], out => (out, 0)
  | f + 1, (at_, h) :: q, out =>
    match (if 0 ≤ at_ then ins[at_.toNat]? else none) with
    | none => ([], 8)
    | some i =>
      if 0 ≤ out.getD at_.toNat 0 then (if out.getD at_.toNat 0 ≠ h then ([], 10) else heightsGo ins f q out)
      else
        if h < (effect i).1 ∨ (i.op = 18 ∧ h ≠ 1) then ([], 10)
        else if 16 < h + (effect i).2 - (effect i).1 then ([], 4)
        else
          let h' := h + (effect i).2 - (effect i).1
          heightsGo ins f (q ++ (if i.op ≠ 15 ∧ i.op ≠ 18 then [(at_ + 1, h')] else []) ++ (if i.op = 15 ∨ i.op = 16 then [(i.a, h')] else [])) (out.set at_.toNat h)
def heights (ins : List Ins) : List Int × Int := heightsGo ins (2 * ins.length + 2) [(0, 0)] (List.replicate ins.length (-1))

def codeRange (c : Cod) : Bool := decide (c.params < 0 ∨ 4 < c.params ∨ c.vars < c.params ∨ 8 < c.vars ∨ c.ins.length < 1 ∨ 200 < c.ins.length)
/-- The first error of a list. -/
def firstErr {α : Type} (f : α → Int) : List α → Int
  | [] => 0
  | x :: r => if f x ≠ 0 then f x else firstErr f r
def codeErr (p : Prg) (c : Cod) : Int := if firstErr (numbers p c) c.ins ≠ 0 then firstErr (numbers p c) c.ins else (heights c.ins).2
def program (p : Prg) : Int :=
  if p.codes.length < 1 ∨ 5 < p.codes.length then 5
  else if 16 < p.words.length then 4
  else if p.words.all word = false then 7
  else if (p.codes.getD 0 ⟨0, 0, []⟩).params ≠ 0 then 10
  else if p.codes.any codeRange then 3
  else firstErr (codeErr p) p.codes

/-- A frame: number k of an agent's. -/
def frame (a : Agt) (k : Nat) (away : Bool) : Int :=
  match a.frames[k]? with
  | none => 0
  | some f =>
    match (if 0 ≤ f.fn then a.prog.codes[f.fn.toNat]? else none) with
    | none => 3
    | some c =>
      match (if 0 ≤ f.at_ then c.ins[f.at_.toNat]? else none) with
      | none => 3
      | some _ =>
        if (f.vars.length : Int) ≠ c.vars then 3
        else
          let hs := (heights c.ins).1
          let h := hs.getD f.at_.toNat 0
          let last := decide (k + 1 = a.frames.length)
          let waits := !last || away
          let prev := c.ins.getD (f.at_.toNat - 1) ⟨0, 0, 0⟩
          let bad := (!last && (decide (prev.op ≠ 17) || decide (prev.a ≠ ((a.frames[k + 1]?).map (·.fn)).getD 0))) || (last && decide (prev.op ≠ 13)) || decide (hs.getD (f.at_.toNat - 1) 0 < 0)
          if waits && (decide (f.at_ = 0) || bad) then 10
          else
            let h' := if waits then h - 1 else h
            if h' < 0 ∨ (f.stack.length : Int) ≠ h' then 10
            else firstErr (fun v => wrong v a.heap.length) (f.vars ++ f.stack)
def cellErr (n : Int) (c : Cl) : Int := if wrong c.left n ≠ 0 then wrong c.left n else wrong c.right n
def framesErr (a : Agt) (away : Bool) : Int := firstErr (fun k => frame a k away) (List.range a.frames.length)
def agent (a : Agt) (away : Bool) : Int :=
  if program a.prog ≠ 0 then program a.prog
  else if a.id < 0 ∨ 1073741824 < a.id ∨ a.trip < 0 ∨ 1073741824 < a.trip ∨ a.permit.fuel < 0 ∨ 2000 < a.permit.fuel ∨ a.permit.room < 0 ∨ 60 < a.permit.room ∨ a.permit.hops < 0 ∨ 12 < a.permit.hops then 3
  else if a.frames.length < 1 ∨ 12 < a.frames.length then 5
  else if 60 - a.permit.room < a.heap.length then 4
  else if framesErr a away ≠ 0 then framesErr a away
  else firstErr (cellErr a.heap.length) a.heap
end VM
end Go.Proofs.Ytckhbfbbpdjmdaa
