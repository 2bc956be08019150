/- The plain data of the program: values, cells, code, programs, agents; and how they lie in memory. -/
import Derived.Test.YtckhbfbbpdjmdaaRep
namespace Go.Proofs.Ytckhbfbbpdjmdaa
open Go Go.RowKit

structure Val where
  kind : Int
  n : Int
  text : Str
  deriving DecidableEq

structure Cl where
  left : Val
  right : Val
  deriving DecidableEq

structure Ins where
  op : Int
  a : Int
  b : Int
  deriving DecidableEq

structure Cod where
  params : Int
  vars : Int
  ins : List Ins
  deriving DecidableEq

structure Prg where
  codes : List Cod
  words : List Str
  deriving DecidableEq

structure Frm where
  fn : Int
  at_ : Int
  vars : List Val
  stack : List Val
  deriving DecidableEq

structure Pmt where
  fuel : Int
  room : Int
  hops : Int
  deriving DecidableEq

structure Agt where
  id : Int
  trip : Int
  prog : Prg
  frames : List Frm
  heap : List Cl
  permit : Pmt
  deriving DecidableEq

def str (s : Str) : Value := .string ⟨s.toArray⟩

def Val.cells (v : Val) : List Value := [.int .i64 v.kind, .int .i64 v.n, .string ⟨v.text.toArray⟩]
def Val.ok (v : Val) : Prop := I64 v.kind ∧ I64 v.n ∧ v.text.length ≤ maxLen
def Ins.cells (i : Ins) : List Value := [.int .i64 i.op, .int .i64 i.a, .int .i64 i.b]
def Ins.ok (i : Ins) : Prop := I64 i.op ∧ I64 i.a ∧ I64 i.b
def Cl.cells (c : Cl) : List Value := c.left.cells ++ c.right.cells
def Cl.ok (c : Cl) : Prop := c.left.ok ∧ c.right.ok
def Pmt.cells (p : Pmt) : List Value := [.int .i64 p.fuel, .int .i64 p.room, .int .i64 p.hops]
def Pmt.ok (p : Pmt) : Prop := I64 p.fuel ∧ I64 p.room ∧ I64 p.hops

def tVal : Ty Val where
  sz := 3
  R _ _ cs v := cs = v.cells ∧ v.ok
  len h := by rw [h.1]; rfl
  mono _ h := h

def tIns : Ty Ins where
  sz := 3
  R _ _ cs v := cs = v.cells ∧ v.ok
  len h := by rw [h.1]; rfl
  mono _ h := h

def tCl : Ty Cl where
  sz := 6
  R _ _ cs v := cs = v.cells ∧ v.ok
  len h := by rw [h.1]; rfl
  mono _ h := h

def tPmt : Ty Pmt where
  sz := 3
  R _ _ cs v := cs = v.cells ∧ v.ok
  len h := by rw [h.1]; rfl
  mono _ h := h

def tCod : Ty Cod where
  sz := 3
  R S w cs c := ∃ v, cs = [.int .i64 c.params, .int .i64 c.vars, v] ∧ I64 c.params ∧ I64 c.vars ∧ (tSlice tIns).R S w [v] c.ins
  len h := by obtain ⟨v, rfl, _⟩ := h; rfl
  mono h hr := by obtain ⟨v, e, h1, h2, h3⟩ := hr; exact ⟨v, e, h1, h2, (tSlice tIns).mono h h3⟩

def tPrg : Ty Prg where
  sz := 2
  R S w cs p := ∃ v u, cs = [v, u] ∧ (tSlice tCod).R S w [v] p.codes ∧ (tSlice tStr).R S w [u] p.words
  len h := by obtain ⟨v, u, rfl, _⟩ := h; rfl
  mono h hr := by obtain ⟨v, u, e, h1, h2⟩ := hr; exact ⟨v, u, e, (tSlice tCod).mono h h1, (tSlice tStr).mono h h2⟩

def tFrm : Ty Frm where
  sz := 4
  R S w cs f := ∃ v u, cs = [.int .i64 f.fn, .int .i64 f.at_, v, u] ∧ I64 f.fn ∧ I64 f.at_ ∧ (tSlice tVal).R S w [v] f.vars ∧ (tSlice tVal).R S w [u] f.stack
  len h := by obtain ⟨v, u, rfl, _⟩ := h; rfl
  mono h hr := by obtain ⟨v, u, e, h0, h0', h1, h2⟩ := hr; exact ⟨v, u, e, h0, h0', (tSlice tVal).mono h h1, (tSlice tVal).mono h h2⟩

def tAgt : Ty Agt where
  sz := 9
  R S w cs a := ∃ v u f g, cs = [.int .i64 a.id, .int .i64 a.trip, v, u, f, g, .int .i64 a.permit.fuel, .int .i64 a.permit.room, .int .i64 a.permit.hops] ∧ I64 a.id ∧ I64 a.trip ∧ a.permit.ok ∧
    tPrg.R S w [v, u] a.prog ∧ (tSlice tFrm).R S w [f] a.frames ∧ (tSlice tCl).R S w [g] a.heap
  len h := by obtain ⟨v, u, f, g, rfl, _⟩ := h; rfl
  mono h hr := by
    obtain ⟨v, u, f, g, e, h0, h1, h2, h3, h4, h5⟩ := hr
    exact ⟨v, u, f, g, e, h0, h1, h2, tPrg.mono h h3, (tSlice tFrm).mono h h4, (tSlice tCl).mono h h5⟩

end Go.Proofs.Ytckhbfbbpdjmdaa
