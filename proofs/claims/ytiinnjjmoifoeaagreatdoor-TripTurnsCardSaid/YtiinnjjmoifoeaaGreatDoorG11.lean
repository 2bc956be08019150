/- The library's laid variables, where a row lists five of them: three tables, two errors. -/
import Derived.Test.YtiinnjjmoifoeaaGreatDoorG1
import Derived.Stop.LaidErr
set_option linter.unusedSimpArgs false
set_option linter.unusedVariables false
set_option maxRecDepth 8000
namespace Go.Proofs.YtiinnjjmoifoeaaGreatDoor
open Go Go.RowKit
theorem LayE.of_var {n : String} {w : World} {t : TypeId} {p : Value} (h : w.var? Tryz.prog n = some #[.iface t p]) : LayE n (fun b => w.heap[b]?) := fun g hg => by
  unfold World.var? at h
  rw [hg, Option.bind_some] at h
  split at h
  · rename_i cs e m hc
    cases h
    exact ⟨_, _, e, m, hc⟩
  · cases h
theorem zpe : "*" ++ "errors.errorString" = "*errors.errorString" := by decide
theorem zqu (u : TypeId) (h : Tryz.prog.typeName? 3 u = some "*errors.errorString") : u = 275 :=
  typeName_ptr_named (nm := "errors.errorString") (by rw [zpe]; kernel_rfl) (by kernel_rfl) (by decide) u (by rw [zpe]; exact h)
theorem zsm {r : List (String × DataW Unit)} {text : List UInt8} {W : World} (h : laidMet Tryz.prog (("strconv.ErrRange", .iface "*errors.errorString" (.ptr (.agg [.lit (.string text)]))) :: r) W) : LayE "strconv.ErrRange" (fun b => W.heap[b]?) := by
  obtain ⟨a, s, h1, _⟩ := laid_sentinel (g := 4) (ti := 255) (tp := 275) (te := 277) (ts := 9) h (by kernel_rfl) (by kernel_rfl) Tryz.underlying255 zqu Tryz.underlying275 Tryz.underlying277 rfl rfl Tryz.underlying9 (by kernel_rfl) (by kernel_rfl)
  exact .of_var h1
theorem zqf {r : List (String × DataW Unit)} {text : List UInt8} {W : World} (h : laidMet Tryz.prog (("strconv.ErrSyntax", .iface "*errors.errorString" (.ptr (.agg [.lit (.string text)]))) :: r) W) : LayE "strconv.ErrSyntax" (fun b => W.heap[b]?) := by
  obtain ⟨a, s, h1, _⟩ := laid_sentinel (g := 3) (ti := 255) (tp := 275) (te := 277) (ts := 9) h (by kernel_rfl) (by kernel_rfl) Tryz.underlying255 zqu Tryz.underlying275 Tryz.underlying277 rfl rfl Tryz.underlying9 (by kernel_rfl) (by kernel_rfl)
  exact .of_var h1
end Go.Proofs.YtiinnjjmoifoeaaGreatDoor
