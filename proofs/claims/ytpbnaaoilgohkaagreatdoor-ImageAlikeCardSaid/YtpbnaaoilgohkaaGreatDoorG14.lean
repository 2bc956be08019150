/- What is known of functions of Go's library, and of slices.Clone of what is empty, for runs. The closed question of the laws of chapter 8: run. The laws of chapter 8: there, and back. The laws of chapter 8: seen the same, written the same. The library's laid variables, where a row lists five of them: three tables, two errors. -/
import Derived.Test.YtpbnaaoilgohkaaGreatDoorG13
import Derived.Test.YtpbnaaoilgohkaaGreatDoorG5
import Derived.Test.YtpbnaaoilgohkaaGreatDoorG6
import Derived.Test.YtpbnaaoilgohkaaGreatDoorG11
import Derived.Test.YtpbnaaoilgohkaaGreatDoorG12
import Derived.Test.YtpbnaaoilgohkaaGreatDoorG1
import Derived.Stop.LaidErr
set_option linter.unusedSimpArgs false
set_option linter.unusedVariables false
set_option maxRecDepth 8000
namespace Go.Proofs.YtpbnaaoilgohkaaGreatDoor
open Go Go.RowKit
theorem QC.nz {P : Program} {f : FuncId} {args : List AV} (h : ∀ H nx, za P f args H nx fun v H' _ => (v = .nils ∨ v = .zs) ∧ Keep nx H' H) : QC P f args .zs := by
  intro H nx
  have h1 : za P f args H nx fun v H' nx' => (v = .nils ∨ v = .zs) ∧ H' = H ∧ nx' = nx := by
    refine za.tidy fun hlive => ?_
    refine (za.gc (R := fun v H' => (v = .nils ∨ v = .zs) ∧ H' = H) (h H nx) fun v H' nx' ⟨h1, h2⟩ => ⟨v, H, ⟨h1, rfl⟩, .same v (by rcases h1 with rfl | rfl; exact .nils; exact .zs), fun g o ho => ⟨hlive g o ho, by rw [h2 g (hlive g o ho)]; exact ho, .inl ho⟩⟩).mono fun v H' nx' ⟨⟨a, b⟩, c⟩ => ⟨a, b, c⟩
  intro ρ w cargs s ha
  refine zi (h1 ρ w cargs s ha) fun cv w' ⟨v, H', nx', ρ', ⟨q1, q2, q3⟩, q4, q5, q6⟩ => ⟨.zs, H', nx', ρ', ⟨rfl, q2, q3⟩, q4, ?_, q6⟩
  rcases q1 with rfl | rfl
  · cases q5; exact .zs none
  · exact q5
def zdz (sz by_ : Nat) (a0 : AV) (H : Heap) (nx : Nat) (Q : QT) : Prop :=
 BL .eql a0 .nils fun v1 =>
 CNDC v1
 (Q .nils H nx)
 (PUTH H nx (.row sz []) fun H2 =>
 APP sz by_ .zs a0 H2 (nx + 1) fun v3 H4 nx5 =>
 Q v3 H4 nx5)
theorem zadl {f sz by_ : Nat} (h : ∀ (a0 : AV) (H : Heap) (nx : Nat) (Q : QT), zdz sz by_ a0 H nx Q → za Tryz.prog f [a0] H nx Q) : QC Tryz.prog f [.ro []] .zs := by
  refine QC.nz fun H nx => h _ H nx _ ?_
  unfold zdz BL BINL
  simp only [zai, CNDC, qk, PURE]
  refine ⟨fun _ => ⟨⟨.inl (by trivial), by simp [Keep]⟩, ?_⟩, fun h => absurd rfl h⟩
  simp only [PUTH, APP, zt, ze, List.all_nil, if_true, List.length_nil, List.flatten_nil, true_and]
  exact ⟨fun _ => ⟨.inr (by trivial), fun g hg => Heap.put_ne _ _ (by omega)⟩, fun h => absurd rfl h⟩
theorem zld {f sz by_ : Nat} (h : ∀ (a0 : AV) (H : Heap) (nx : Nat) (Q : QT), zdz sz by_ a0 H nx Q → za Tryz.prog f [a0] H nx Q) {a : AV} (ha : (∃ g o, a = .slc g o 0) ∨ a = .zs ∨ a = .ro []) (H : Heap) : LC Tryz.prog f [a] H [] [] [] .zs := by
  have hl := LC.of_qc (zadl h) .zs H
  intro A ρ Hm w cargs hB s hr hrd hfr
  refine hl A ρ Hm w cargs hB s ⟨hr.1, fun j v c hv hc => ?_⟩ hrd hfr
  cases j with
  | succ j => simp at hv
  | zero =>
    simp at hv
    subst hv
    have := hr.2 0 a c rfl hc
    rcases ha with ⟨g, o, rfl⟩ | rfl | rfl
    · cases this with
      | slc _ _ _ cap ad h1 h2 h3 => exact .ro [] ad 0 cap 0 0 0 (fun _ _ => undef) rfl (Nat.zero_le _) (fun h => absurd rfl h) (fun x hx => by cases hx) (fun i x j v hx => by simp at hx) (fun i x j v hx => by simp at hx)
    · cases this with
      | zs ad => exact .ro [] ad 0 0 0 0 0 (fun _ _ => undef) rfl (Nat.le_refl _) (fun h => absurd rfl h) (fun x hx => by cases hx) (fun i x j v hx => by simp at hx) (fun i x j v hx => by simp at hx)
    · exact this
def zzd : List Nat := [81, 82, 79, 80]
theorem zaiz (a0 : AV) (H : Heap) (nx : Nat) (Q : QT) : zdz 3 32 a0 H nx Q → za Tryz.prog 81 [a0] H nx Q :=
  zj (lv := lvOf []) (c := zp Tryz.f81) zos zpl mixed Tryz.func81 (by kernel_rfl) (by kernel_rfl) (by kernel_rfl) (by kernel_rfl) (by kernel_rfl)
theorem zaiy (a0 : AV) (H : Heap) (nx : Nat) (Q : QT) : zdz 6 64 a0 H nx Q → za Tryz.prog 82 [a0] H nx Q :=
  zj (lv := lvOf []) (c := zp Tryz.f82) zos zpl mixed Tryz.func82 (by kernel_rfl) (by kernel_rfl) (by kernel_rfl) (by kernel_rfl) (by kernel_rfl)
theorem zaix (a0 : AV) (H : Heap) (nx : Nat) (Q : QT) : zdz 3 24 a0 H nx Q → za Tryz.prog 79 [a0] H nx Q :=
  zj (lv := lvOf []) (c := zp Tryz.f79) zos zpl mixed Tryz.func79 (by kernel_rfl) (by kernel_rfl) (by kernel_rfl) (by kernel_rfl) (by kernel_rfl)
theorem zaiw (a0 : AV) (H : Heap) (nx : Nat) (Q : QT) : zdz 1 16 a0 H nx Q → za Tryz.prog 80 [a0] H nx Q :=
  zj (lv := lvOf []) (c := zp Tryz.f80) zos zpl mixed Tryz.func80 (by kernel_rfl) (by kernel_rfl) (by kernel_rfl) (by kernel_rfl) (by kernel_rfl)
noncomputable def orcX (f : Nat) (args : List AV) : Option AV := match Nat.beq f 91 with
  | true => match args with
    | [.str s] => match Nat.ble s.length 100000 with | true => some (zsi s) | false => none
    | _ => none
  | false => match Nat.beq f 88 with
    | true => match args with
      | [.int .i64 n] => match !iLt n (-9223372036854775808) && !iLt 9223372036854775807 n with | true => some (.str (Lib.itoa n)) | false => none
      | _ => none
    | false => match zzd.any (Nat.beq f) with
      | true => match args with
        | [.slc _ _ 0] | [.zs] | [.ro []] => some .zs
        | _ => none
      | false => none
theorem zagt (s : List UInt8) : Bel (fun _ => False) (zsi s) := by
  unfold zsi
  split
  · exact .tup _ fun j v hv => by match j with
                                  | 0 => simp at hv; subst hv; exact .int _ _
                                  | 1 => simp at hv; subst hv; exact .inil
                                  | j + 2 => simp at hv
  · exact .tup _ fun j v hv => by match j with
                                  | 0 => simp at hv; subst hv; exact .int _ _
                                  | 1 => simp at hv; subst hv; exact .ifc
                                  | j + 2 => simp at hv
  · exact .tup _ fun j v hv => by match j with
                                  | 0 => simp at hv; subst hv; exact .int _ _
                                  | 1 => simp at hv; subst hv; exact .ifc
                                  | j + 2 => simp at hv
theorem zahv : zahg Tryz.prog orcX := by
  intro f args v h H
  unfold orcX at h
  split at h
  · rename_i hf
    rw [Nat.beq_eq] at hf
    subst hf
    split at h
    · split at h
      · rename_i hl
        cases h
        exact LC.of_qc (zaii _ (by have := Nat.le_of_ble_eq_true hl; omega)) (zagt _) H
      · cases h
    · cases h
  · split at h
    · rename_i hf
      rw [Nat.beq_eq] at hf
      subst hf
      split at h
      · split at h
        · rename_i hl
          cases h
          simp only [zwh, Bool.and_eq_true, Bool.not_eq_true', decide_eq_false_iff_not] at hl
          exact LC.of_qc (zaic _ (by omega) (by omega)) (.str _) H
        · cases h
      · cases h
    · split at h
      · rename_i hf
        simp only [zzd, List.any_cons, List.any_nil, Bool.or_false, Bool.or_eq_true, Nat.beq_eq] at hf
        have fin : ∀ a : AV, (∃ g o, a = .slc g o 0) ∨ a = .zs ∨ a = .ro [] → LC Tryz.prog f [a] H [] [] [] .zs := fun a ha => by
          rcases hf with rfl | rfl | rfl | rfl
          · exact zld zaiz ha H
          · exact zld zaiy ha H
          · exact zld zaix ha H
          · exact zld zaiw ha H
        split at h
        · cases h; exact fin _ (.inl ⟨_, _, rfl⟩)
        · cases h; exact fin _ (.inr (.inl rfl))
        · cases h; exact fin _ (.inr (.inr rfl))
        · cases h
      · cases h
def wfF (P : Program) (f : Nat) : Bool := match P.funcs[f]? with
  | some fn => match fn.body with
    | some c => wfC fn.ntmps c && !(fn.name == "runtime.NumGoroutine")
    | none => true
  | none => true
def okX (f : Nat) : Bool := Nat.blt f 120
theorem zajk : (List.range 120).all (wfF Tryz.prog) = true := by kernel_rfl
theorem zaio : FnOk Tryz.prog okX := by
  intro f fn c h hf hc
  have := List.all_eq_true.1 zajk f (List.mem_range.2 (by simpa [okX] using h))
  unfold wfF at this
  rw [hf] at this
  simp only [hc, Bool.and_eq_true, Bool.not_eq_true'] at this
  exact this
noncomputable def zabp (n : Nat) : XCl := xfun tab eqsT Tryz.prog okX orcX n
theorem zagr (n : Nat) : zfi Tryz.prog (zabp n) := zyo zac zah mixed zahv zaio n
def zta (x : Option (AV × HB × Nat)) : Bool := match x with
  | some (.bool b, _, _) => b
  | _ => false
theorem QC.runs {n : Nat} {f : FuncId} (h : zta (zabp n f [] .nil 0) = true) : QC Tryz.prog f [] (.bool true) := by
  unfold zta at h
  split at h
  · rename_i b H' nx' e
    subst h
    exact QC.closed (zagr n) e (by simp)
  · cases h
end Go.Proofs.YtpbnaaoilgohkaaGreatDoor
set_option maxRecDepth 100000
namespace Go.Proofs.YtpbnaaoilgohkaaGreatDoor
open Go Go.RowKit
theorem zym : zta (zabp 60 6 [] .nil 0) = true := by kernel_rfl
theorem zady : QC Tryz.prog 6 [] (.bool true) := QC.runs zym
end Go.Proofs.YtpbnaaoilgohkaaGreatDoor
set_option maxRecDepth 8000
namespace Go.Proofs.YtpbnaaoilgohkaaGreatDoor
open Go Go.RowKit
theorem zyb {a : Agt} {fs : List Frm} {f : Frm} (l : VM.Gone a fs f) : QC Tryz.prog 11 [.agg a.avs] (.agg (VM.pack a).avs) := by
  have fl : a.frames.length ≤ 12 := by rw [l.fr]; simp; have := l.flen; omega
  have hl := l.hlen
  have hr := l.room
  exact zaam (by omega) (zsb l) (by omega) (VM.roots_ok l)
end Go.Proofs.YtpbnaaoilgohkaaGreatDoor
set_option maxRecDepth 8000
namespace Go.Proofs.YtpbnaaoilgohkaaGreatDoor
open Go Go.RowKit
theorem zaho {sz : Nat} {xs : List (List AV)} {H : Heap} (h : ∀ x ∈ xs, x.length = sz) : ze sz H (.ro xs) = some (xs.length, xs.flatten, []) := by
  simp only [ze]
  rw [if_pos]
  simpa using h
set_option maxRecDepth 20000 in
set_option maxHeartbeats 2000000 in
theorem zuu (a : Agt) (c : Cl) (ha : a.prog.ok) (hhl : a.heap.length ≤ 4611686018427387904) : QC Tryz.prog 4 [.agg a.avs, .agg c.avs] (.bool true) := by
  refine QC.of' fun H nx => ?_
  suffices main : ∀ Q : AV → Heap → Nat → Prop, (∀ H' n', Keep nx H' H → Q (.bool true) H' n') → za Tryz.prog 4 [.agg a.avs, .agg c.avs] H nx Q from main _ fun H' n' h => ⟨zafn, h⟩
  intro Q hQ
  refine zjz _ _ H nx _ ?_
  have ht : a.avs.take 9 = a.avs ∧ a.avs.length = 9 ∧ a.avs.drop 9 = [] := ⟨rfl, rfl, rfl⟩
  have ct : c.avs.take 6 = c.avs ∧ c.avs.length = 6 ∧ c.avs.drop 6 = [] := ⟨rfl, rfl, rfl⟩
  have hsu : (AV.agg a.avs).sure = true := by simp [Agt.avs]
  have csu : (AV.agg c.avs).sure = true := by simp [Cl.avs, Val.avs]
  have so : ∀ y ∈ a.avs, y.one = true := fun y hy => by
    simp [Agt.avs] at hy
    rcases hy with rfl | rfl | rfl | rfl | rfl | rfl | rfl | rfl | rfl <;> rfl
  unfold zgf
  refine ⟨hsu, csu, ?_⟩
  show za _ _ _ ((H.put nx (some (.row 9 a.avs))).put (nx + 1) (some (.row 6 c.avs))) _ _
  generalize hX : Heap.put _ (nx + 1) _ = X
  have x0 : X nx = some (.row 9 a.avs) := by rw [← hX, Heap.put_ne _ _ (by omega), Heap.put_at]
  have x1 : X (nx + 1) = some (.row 6 c.avs) := by rw [← hX, Heap.put_at]
  have xk : Keep nx X H := fun g hg => by rw [← hX, Heap.put_ne _ _ (by omega), Heap.put_ne _ _ (by omega)]
  clear hX
  refine QC.call zady ?_
  simp [zgg, x0, ht, hsu]
  refine QC.call (zup a true ha hhl) ?_
  by_cases hg : VM.agent a true = 0
  case neg =>
    simp [zdb, hg]
    exact hQ _ _ xk
  obtain ⟨fs, f, l⟩ := VM.agent_gone hg
  simp [zdb, hg, x0, ht, hsu]
  refine QC.call (zpg l) ?_
  unfold zgh
  refine zwx ?_
  have hl60 : a.heap.length ≤ 60 := by have := l.hlen; have := l.room; omega
  have x0' : X nx = some (.row 9 [.int .i64 a.id, .int .i64 a.trip, .ro (a.prog.codes.map Cod.avs), .ro (a.prog.words.map fun w => [.str w]), .ro (a.frames.map Frm.avs), .ro (a.heap.map Cl.avs), .int .i64 a.permit.fuel, .int .i64 a.permit.room, .int .i64 a.permit.hops]) := x0
  have x1' : X (nx + 1) = some (.row 6 [.int .i64 c.left.kind, .int .i64 c.left.n, .str c.left.text, .int .i64 c.right.kind, .int .i64 c.right.n, .str c.right.text]) := x1
  have sr : ∀ H, ze 6 H (.ro (a.heap.map Cl.avs)) = some (a.heap.length, rowC a.heap, []) := fun H => by
    rw [zaho (zdf _), List.length_map]; rfl
  have r1 : (rowC a.heap).all AV.one = true := by
    rw [List.all_eq_true]
    intro v hv
    obtain ⟨x, hx, hv⟩ := List.mem_flatten.1 hv
    exact zbe (zov _ x hx v hv)
  have r1' : ∀ x ∈ rowC a.heap, x.one = true := List.all_eq_true.1 r1
  have tk : (rowC a.heap).take (a.heap.length * 6) = rowC a.heap := List.take_of_length_le (by simp)
  have z1 : ¬ nx = nx + 2 + 1 := by omega
  simp [x0', x1', sr, tk, z1]
  refine ⟨r1', by omega, by omega, by omega, by omega, ?_⟩
  generalize hY : Heap.put _ (nx + 2) _ = Y
  have y1 : Y (nx + 2 + 2 + 1 + 1) = some (.row 6 (rowC a.heap ++ c.avs)) := by rw [← hY, Heap.put_ne _ _ (by omega), Heap.put_at]; rfl
  have y2 : Y (nx + 2) = some (.row 9 (zam a.id a.trip a.prog (.ro (a.frames.map Frm.avs)) (.slc (nx + 2 + 2 + 1 + 1) 0 (a.heap.length + 1)) a.permit)) := by rw [← hY, Heap.put_at]; rfl
  have y0 : Y nx = some (.row 9 a.avs) := by rw [← hY]; repeat' first | rw [Heap.put_ne _ _ (by omega)] | exact x0
  have yk : Keep nx Y H := fun y hy => by rw [← hY]; repeat' first | rw [Heap.put_ne _ _ (by omega)] | exact xk y hy
  clear hY
  let x : Agt := { a with heap := a.heap ++ [c] }
  let G : Nat → Prop := fun y => nx + 3 ≤ y
  let W : Heap := fun y => if y = nx + 2 then some (.row 9 x.avs) else if y < nx + 2 then Y y else none
  have sl : Slot Y 6 (x.heap.map Cl.avs).length (x.heap.map Cl.avs).flatten (.slc (nx + 2 + 2 + 1 + 1) 0 (a.heap.length + 1)) := by
    refine .inr ⟨_, _, ?_, y1, ?_, ?_⟩
    · simp [x]
    · rw [List.take_of_length_le (by simp [x, ct]; omega)]
      simp [x, rowC]
    · simp [x, ct]; omega
  have frz : FrzP Y G (.agg (zam a.id a.trip a.prog (.ro (a.frames.map Frm.avs)) (.slc (nx + 2 + 2 + 1 + 1) 0 (a.heap.length + 1)) a.permit)) (.agg x.avs) := zyd (.same _) (Slot.frzP (sz := 6) sl (fun g hg => by simp [own] at hg; simp only [G]; omega) (zdf _))
  have w0 : ∀ g o, W g = some o → ¬ G g ∧ FrzO Y G g o := fun g o hg => by
    by_cases hg2 : g = nx + 2
    · subst hg2
      simp only [W, if_true] at hg
      cases hg
      refine ⟨by simp only [G]; omega, .inr ⟨9, _, _, y2, rfl, ?_⟩⟩
      cases frz with
      | agg _ _ q1 q2 => exact ⟨q1, q2⟩
    · by_cases hlt : g < nx + 2
      · simp only [W, if_neg hg2, if_pos hlt] at hg
        exact ⟨by simp only [G]; omega, .inl hg⟩
      · simp only [W, if_neg hg2, if_neg hlt] at hg; cases hg
  have w2 : W (nx + 2) = some (.row 9 x.avs) := by simp only [W, if_true]
  have wl : ∀ y, y < nx + 2 → W y = Y y := fun y hy => by simp only [W, if_neg (show y ≠ nx + 2 by omega), if_pos hy]
  refine za.thawR (args := [.agg x.avs, .bool true]) (H0 := W) (G := G) ?_ (zdg.cons frz (zdg.cons (.same _) .nil)) w0
  clear_value W G
  have wk : Keep nx W H := fun y hy => (wl y (by omega)).trans (yk y hy)
  have wn : W nx = some (.row 9 a.avs) := (wl nx (by omega)).trans y0
  have xt : x.avs.take 9 = x.avs ∧ x.avs.length = 9 ∧ x.avs.drop 9 = [] := ⟨rfl, rfl, rfl⟩
  have xsu : (AV.agg x.avs).sure = true := by simp [Agt.avs]
  have fin : ∀ n', za Tryz.prog 11 [.agg a.avs] W n' (zbv (.str (VM.image a)) Q) := fun n' => by
    refine QC.call (zyb l) ?_
    simp [zbv]
    refine QC.call (zpg (VM.pack_gone l)) ?_
    unfold zgj
    refine zwx ?_
    rw [VM.image_pack l]
    simp
    exact hQ _ _ wk
  refine QC.call (zup x true ha (by simp [x]; omega)) ?_
  by_cases hx : VM.agent x true = 0
  case neg =>
    simp [zdc, hx, wn, ht, hsu]
    exact fin _
  obtain ⟨fs', f', l'⟩ := VM.agent_gone hx
  have ei : VM.image x = VM.image a := by
    have := VM.pack_alike l c fun d hd => by
      have := l'.cells d hd
      simpa [x] using this
    unfold VM.image
    rw [show VM.pack x = VM.pack a from this]
  simp [zdc, hx, w2, xt, xsu]
  refine QC.call (zpg l') ?_
  unfold zgi
  refine zwx ?_
  rw [ei]
  simp [wn, ht, hsu]
  exact fin _
end Go.Proofs.YtpbnaaoilgohkaaGreatDoor
set_option maxRecDepth 8000
namespace Go.Proofs.YtpbnaaoilgohkaaGreatDoor
open Go Go.RowKit
theorem LayE.of_var {n : String} {w : World} {t : TypeId} {p : Value} (h : w.var? Tryz.prog n = some #[.iface t p]) : LayE n (fun b => w.heap[b]?) := fun g hg => by
  unfold World.var? at h
  rw [hg, Option.bind_some] at h
  split at h
  · rename_i cs e m hc
    cases h
    exact ⟨_, _, e, m, hc⟩
  · cases h
theorem zwo : "*" ++ "errors.errorString" = "*errors.errorString" := by decide
theorem zza (u : TypeId) (h : Tryz.prog.typeName? 3 u = some "*errors.errorString") : u = 200 :=
  typeName_ptr_named (nm := "errors.errorString") (by rw [zwo]; kernel_rfl) (by kernel_rfl) (by decide) u (by rw [zwo]; exact h)
theorem zaay {r : List (String × DataW Unit)} {text : List UInt8} {W : World} (h : laidMet Tryz.prog (("strconv.ErrRange", .iface "*errors.errorString" (.ptr (.agg [.lit (.string text)]))) :: r) W) : LayE "strconv.ErrRange" (fun b => W.heap[b]?) := by
  obtain ⟨a, s, h1, _⟩ := laid_sentinel (g := 1) (ti := 172) (tp := 200) (te := 202) (ts := 9) h (by kernel_rfl) (by kernel_rfl) Tryz.underlying172 zza Tryz.underlying200 Tryz.underlying202 rfl rfl Tryz.underlying9 (by kernel_rfl) (by kernel_rfl)
  exact .of_var h1
theorem zya {r : List (String × DataW Unit)} {text : List UInt8} {W : World} (h : laidMet Tryz.prog (("strconv.ErrSyntax", .iface "*errors.errorString" (.ptr (.agg [.lit (.string text)]))) :: r) W) : LayE "strconv.ErrSyntax" (fun b => W.heap[b]?) := by
  obtain ⟨a, s, h1, _⟩ := laid_sentinel (g := 0) (ti := 172) (tp := 200) (te := 202) (ts := 9) h (by kernel_rfl) (by kernel_rfl) Tryz.underlying172 zza Tryz.underlying200 Tryz.underlying202 rfl rfl Tryz.underlying9 (by kernel_rfl) (by kernel_rfl)
  exact .of_var h1
end Go.Proofs.YtpbnaaoilgohkaaGreatDoor
