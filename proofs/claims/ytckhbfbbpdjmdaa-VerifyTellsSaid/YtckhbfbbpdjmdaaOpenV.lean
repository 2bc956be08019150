/- Programs, and agents, read as data. -/
import Derived.Test.YtckhbfbbpdjmdaaS12
import Derived.Test.YtckhbfbbpdjmdaaOpen
namespace Go.Proofs.Ytckhbfbbpdjmdaa
open Go Go.RowKit

theorem cInt : Try.prog.cellsOf 3 = 1 := by kernel_rfl
theorem cStr : Try.prog.cellsOf 9 = 1 := by kernel_rfl
theorem cVal : Try.prog.cellsOf 69 = 3 := by kernel_rfl
theorem cIns : Try.prog.cellsOf 62 = 3 := by kernel_rfl
theorem cCod : Try.prog.cellsOf 43 = 3 := by kernel_rfl
theorem cPrg : Try.prog.cellsOf 32 = 2 := by kernel_rfl
theorem cFrm : Try.prog.cellsOf 77 = 4 := by kernel_rfl
theorem cCl : Try.prog.cellsOf 71 = 6 := by kernel_rfl
theorem cPmt : Try.prog.cellsOf 36 = 3 := by kernel_rfl
theorem cAgt : Try.prog.cellsOf 38 = 9 := by kernel_rfl
theorem cInss : Try.prog.cellsOf 41 = 1 := by kernel_rfl
theorem cCods : Try.prog.cellsOf 29 = 1 := by kernel_rfl
theorem cStrs : Try.prog.cellsOf 30 = 1 := by kernel_rfl
theorem cVals : Try.prog.cellsOf 72 = 1 := by kernel_rfl
theorem cFrms : Try.prog.cellsOf 33 = 1 := by kernel_rfl
theorem cCls : Try.prog.cellsOf 34 = 1 := by kernel_rfl

def I64ok (n : Int) : Prop := -9223372036854775808 ≤ n ∧ n ≤ 9223372036854775807
theorem oInt : OpA Try.prog 3 (fun n : Int => [.int .i64 n]) I64ok := opa_int Try.underlying3 cInt
theorem oStr : OpA Try.prog 9 (fun s : List UInt8 => [.str s]) (fun s => s.length ≤ reachBytes) := opa_str Try.underlying9 cStr

def Val.rd (v : Val) : Prop := I64ok v.kind ∧ I64ok v.n ∧ v.text.length ≤ reachBytes
theorem oVal : OpA Try.prog 69 Val.avs Val.rd :=
  ⟨fun _ _ => cVal.symm, fun enc w base sp held fuel cs x h hw => by
    obtain ⟨hl, hf⟩ := struct_field Try.underlying69 h hw
    rw [cVal] at hl
    obtain ⟨k, hk, rk⟩ := hf 0 3 0 1 (by kernel_rfl) cInt oInt
    obtain ⟨n, hn, rn⟩ := hf 1 3 1 1 (by kernel_rfl) cInt oInt
    obtain ⟨s, hs, rs⟩ := hf 2 9 2 1 (by kernel_rfl) cStr oStr
    match cs, hl with
    | [c0, c1, c2], _ => exact ⟨⟨k, n, s⟩, ⟨hk, hn, hs⟩, fun ρ A => (rk ρ A).append ((rn ρ A).append (rs ρ A))⟩⟩
def Ins.rd (i : Ins) : Prop := I64ok i.op ∧ I64ok i.a ∧ I64ok i.b
theorem oIns : OpA Try.prog 62 Ins.avs Ins.rd :=
  ⟨fun _ _ => cIns.symm, fun enc w base sp held fuel cs x h hw => by
    obtain ⟨hl, hf⟩ := struct_field Try.underlying62 h hw
    rw [cIns] at hl
    obtain ⟨k, hk, rk⟩ := hf 0 3 0 1 (by kernel_rfl) cInt oInt
    obtain ⟨n, hn, rn⟩ := hf 1 3 1 1 (by kernel_rfl) cInt oInt
    obtain ⟨s, hs, rs⟩ := hf 2 3 2 1 (by kernel_rfl) cInt oInt
    match cs, hl with
    | [c0, c1, c2], _ => exact ⟨⟨k, n, s⟩, ⟨hk, hn, hs⟩, fun ρ A => (rk ρ A).append ((rn ρ A).append (rs ρ A))⟩⟩
def rdL {α : Type} (ok : α → Prop) (n : Nat) (l : List α) : Prop := (∀ x ∈ l, ok x) ∧ l.length * n ≤ reachBytes
theorem oInss : OpA Try.prog 41 (fun l : List Ins => [.ro (l.map Ins.avs)]) (rdL Ins.rd (Try.prog.bytesOf 62)) := opa_slice Try.underlying41 cInss oIns (by rw [cIns]; decide)
def Cod.rd (c : Cod) : Prop := I64ok c.params ∧ I64ok c.vars ∧ rdL Ins.rd (Try.prog.bytesOf 62) c.ins
theorem oCod : OpA Try.prog 43 Cod.avs Cod.rd :=
  ⟨fun _ _ => cCod.symm, fun enc w base sp held fuel cs x h hw => by
    obtain ⟨hl, hf⟩ := struct_field Try.underlying43 h hw
    rw [cCod] at hl
    obtain ⟨k, hk, rk⟩ := hf 0 3 0 1 (by kernel_rfl) cInt oInt
    obtain ⟨n, hn, rn⟩ := hf 1 3 1 1 (by kernel_rfl) cInt oInt
    obtain ⟨s, hs, rs⟩ := hf 2 41 2 1 (by kernel_rfl) cInss oInss
    match cs, hl with
    | [c0, c1, c2], _ => exact ⟨⟨k, n, s⟩, ⟨hk, hn, hs⟩, fun ρ A => (rk ρ A).append ((rn ρ A).append (rs ρ A))⟩⟩
theorem oCods : OpA Try.prog 29 (fun l : List Cod => [.ro (l.map Cod.avs)]) (rdL Cod.rd (Try.prog.bytesOf 43)) := opa_slice Try.underlying29 cCods oCod (by rw [cCod]; decide)
theorem oStrs : OpA Try.prog 30 (fun l : List (List UInt8) => [.ro (l.map fun w => [.str w])]) (rdL (fun s => s.length ≤ reachBytes) (Try.prog.bytesOf 9)) := opa_slice Try.underlying30 cStrs oStr (by rw [cStr]; decide)
def Prg.rd (p : Prg) : Prop := rdL Cod.rd (Try.prog.bytesOf 43) p.codes ∧ rdL (fun s => s.length ≤ reachBytes) (Try.prog.bytesOf 9) p.words
theorem oPrg : OpA Try.prog 32 Prg.avs Prg.rd :=
  ⟨fun _ _ => cPrg.symm, fun enc w base sp held fuel cs x h hw => by
    obtain ⟨hl, hf⟩ := struct_field Try.underlying32 h hw
    rw [cPrg] at hl
    obtain ⟨k, hk, rk⟩ := hf 0 29 0 1 (by kernel_rfl) cCods oCods
    obtain ⟨n, hn, rn⟩ := hf 1 30 1 1 (by kernel_rfl) cStrs oStrs
    match cs, hl with
    | [c0, c1], _ => exact ⟨⟨k, n⟩, ⟨hk, hn⟩, fun ρ A => (rk ρ A).append (rn ρ A)⟩⟩
theorem oVals : OpA Try.prog 72 (fun l : List Val => [.ro (l.map Val.avs)]) (rdL Val.rd (Try.prog.bytesOf 69)) := opa_slice Try.underlying72 cVals oVal (by rw [cVal]; decide)
def Frm.rd (f : Frm) : Prop := I64ok f.fn ∧ I64ok f.at_ ∧ rdL Val.rd (Try.prog.bytesOf 69) f.vars ∧ rdL Val.rd (Try.prog.bytesOf 69) f.stack
theorem oFrm : OpA Try.prog 77 Frm.avs Frm.rd :=
  ⟨fun _ _ => cFrm.symm, fun enc w base sp held fuel cs x h hw => by
    obtain ⟨hl, hf⟩ := struct_field Try.underlying77 h hw
    rw [cFrm] at hl
    obtain ⟨k, hk, rk⟩ := hf 0 3 0 1 (by kernel_rfl) cInt oInt
    obtain ⟨n, hn, rn⟩ := hf 1 3 1 1 (by kernel_rfl) cInt oInt
    obtain ⟨s, hs, rs⟩ := hf 2 72 2 1 (by kernel_rfl) cVals oVals
    obtain ⟨u, hu, ru⟩ := hf 3 72 3 1 (by kernel_rfl) cVals oVals
    match cs, hl with
    | [c0, c1, c2, c3], _ => exact ⟨⟨k, n, s, u⟩, ⟨hk, hn, hs, hu⟩, fun ρ A => (rk ρ A).append ((rn ρ A).append ((rs ρ A).append (ru ρ A)))⟩⟩
theorem oFrms : OpA Try.prog 33 (fun l : List Frm => [.ro (l.map Frm.avs)]) (rdL Frm.rd (Try.prog.bytesOf 77)) := opa_slice Try.underlying33 cFrms oFrm (by rw [cFrm]; decide)
def Cl.rd (c : Cl) : Prop := c.left.rd ∧ c.right.rd
theorem oCl : OpA Try.prog 71 Cl.avs Cl.rd :=
  ⟨fun _ _ => cCl.symm, fun enc w base sp held fuel cs x h hw => by
    obtain ⟨hl, hf⟩ := struct_field Try.underlying71 h hw
    rw [cCl] at hl
    obtain ⟨k, hk, rk⟩ := hf 0 69 0 3 (by kernel_rfl) cVal oVal
    obtain ⟨n, hn, rn⟩ := hf 1 69 3 3 (by kernel_rfl) cVal oVal
    match cs, hl with
    | [c0, c1, c2, c3, c4, c5], _ => exact ⟨⟨k, n⟩, ⟨hk, hn⟩, fun ρ A => (rk ρ A).append (rn ρ A)⟩⟩
theorem oCls : OpA Try.prog 34 (fun l : List Cl => [.ro (l.map Cl.avs)]) (rdL Cl.rd (Try.prog.bytesOf 71)) := opa_slice Try.underlying34 cCls oCl (by rw [cCl]; decide)
def Pmt.avs (p : Pmt) : List AV := [.int .i64 p.fuel, .int .i64 p.room, .int .i64 p.hops]
def Pmt.rd (p : Pmt) : Prop := I64ok p.fuel ∧ I64ok p.room ∧ I64ok p.hops
theorem oPmt : OpA Try.prog 36 Pmt.avs Pmt.rd :=
  ⟨fun _ _ => cPmt.symm, fun enc w base sp held fuel cs x h hw => by
    obtain ⟨hl, hf⟩ := struct_field Try.underlying36 h hw
    rw [cPmt] at hl
    obtain ⟨k, hk, rk⟩ := hf 0 3 0 1 (by kernel_rfl) cInt oInt
    obtain ⟨n, hn, rn⟩ := hf 1 3 1 1 (by kernel_rfl) cInt oInt
    obtain ⟨s, hs, rs⟩ := hf 2 3 2 1 (by kernel_rfl) cInt oInt
    match cs, hl with
    | [c0, c1, c2], _ => exact ⟨⟨k, n, s⟩, ⟨hk, hn, hs⟩, fun ρ A => (rk ρ A).append ((rn ρ A).append (rs ρ A))⟩⟩
def Agt.rd (a : Agt) : Prop := I64ok a.id ∧ I64ok a.trip ∧ a.prog.rd ∧ rdL Frm.rd (Try.prog.bytesOf 77) a.frames ∧ rdL Cl.rd (Try.prog.bytesOf 71) a.heap ∧ a.permit.rd
theorem oAgt : OpA Try.prog 38 Agt.avs Agt.rd :=
  ⟨fun _ _ => cAgt.symm, fun enc w base sp held fuel cs x h hw => by
    obtain ⟨hl, hf⟩ := struct_field Try.underlying38 h hw
    rw [cAgt] at hl
    obtain ⟨x0, h0, r0⟩ := hf 0 3 0 1 (by kernel_rfl) cInt oInt
    obtain ⟨x1, h1, r1⟩ := hf 1 3 1 1 (by kernel_rfl) cInt oInt
    obtain ⟨x2, h2, r2⟩ := hf 2 32 2 2 (by kernel_rfl) cPrg oPrg
    obtain ⟨x3, h3, r3⟩ := hf 3 33 4 1 (by kernel_rfl) cFrms oFrms
    obtain ⟨x4, h4, r4⟩ := hf 4 34 5 1 (by kernel_rfl) cCls oCls
    obtain ⟨x5, h5, r5⟩ := hf 5 36 6 3 (by kernel_rfl) cPmt oPmt
    match cs, hl with
    | [c0, c1, c2, c3, c4, c5, c6, c7, c8], _ => exact ⟨⟨x0, x1, x2, x3, x4, x5⟩, ⟨h0, h1, h2, h3, h4, h5⟩, fun ρ A => (r0 ρ A).append ((r1 ρ A).append ((r2 ρ A).append ((r3 ρ A).append ((r4 ρ A).append (r5 ρ A)))))⟩⟩
end Go.Proofs.Ytckhbfbbpdjmdaa
