/- Functions that are the same are told so; TextTells. The library's laid variables, where a row lists five of them: three tables, two errors. The wrap of a law's row that lists variables, the world's shape kept. -/
import Derived.Test.YtpllgpgdcbgalaaDoorG10
import Derived.Test.YtpllgpgdcbgalaaDoorG1
import Derived.Stop.LaidErr
import Derived.Handed
import Derived.HandedShaped
import Derived.Shelf.Vars
set_option linter.unusedSimpArgs false
set_option linter.unusedVariables false
set_option maxRecDepth 8000
namespace Go.Proofs.YtpllgpgdcbgalaaDoor
open Go Go.RowKit
def zrc (x : Ex) : Prop := QC Tryd.prog 66 [.agg x.avs, .agg x.avs] (.bool true)
set_option maxHeartbeats 1000000 in
theorem zvn {k z : Int} {t : Str} {ar : List Ex} (hl : ar.length ≤ 4294967296) (hs : ∀ x ∈ ar, zrc x) : zrc (.mk k z t ar) := by
  refine QC.of' fun H n => ?_
  suffices main : ∀ Q : QT, (∀ H' n', Keep n H' H → Q (.bool true) H' n') → za Tryd.prog 66 [.agg (Ex.mk k z t ar).avs, .agg (Ex.mk k z t ar).avs] H n Q from main _ fun H' n' b => ⟨by simp, b⟩
  intro Q hq
  refine zmj _ _ _ _ _ ?_
  rw [zfc]
  simp [zin]
  have h1 : ((H.put n (some (.row 4 [.int .i64 k, .int .i64 z, .str t, .ro (ar.map Ex.avs)]))).put (n + 1) (some (.row 4 [.int .i64 k, .int .i64 z, .str t, .ro (ar.map Ex.avs)]))) n = some (.row 4 [.int .i64 k, .int .i64 z, .str t, .ro (ar.map Ex.avs)]) := by rw [Heap.put_ne _ _ (by omega), Heap.put_at]
  have h2 : ((H.put n (some (.row 4 [.int .i64 k, .int .i64 z, .str t, .ro (ar.map Ex.avs)]))).put (n + 1) (some (.row 4 [.int .i64 k, .int .i64 z, .str t, .ro (ar.map Ex.avs)]))) (n + 1) = some (.row 4 [.int .i64 k, .int .i64 z, .str t, .ro (ar.map Ex.avs)]) := Heap.put_at _ _ _
  have hK : Keep n ((H.put n (some (.row 4 [.int .i64 k, .int .i64 z, .str t, .ro (ar.map Ex.avs)]))).put (n + 1) (some (.row 4 [.int .i64 k, .int .i64 z, .str t, .ro (ar.map Ex.avs)]))) H := by simp
  generalize Heap.put (Heap.put H n _) (n + 1) _ = H1 at *
  refine LP.mk (fun j xs H' n' => ∃ i : Nat, i + j = ar.length ∧ xs = [.ptr n 0, .ptr (n + 1) 0, .int .i64 ar.length, .int .i64 i] ∧ H' = H1 ∧ n' = n + 2) ar.length ⟨0, by omega, rfl, rfl, rfl⟩ ?_
  rintro j xs H' n' ⟨i, hi, rfl, rfl, rfl⟩
  cases j with
  | zero =>
    obtain rfl : i = ar.length := by omega
    simp [zdz]
    exact hq _ _ hK
  | succ j =>
    have hlt : i < ar.length := by omega
    have hxl := zbc ar[i]
    have hxt : ar[i].avs.take 4 = ar[i].avs := List.take_of_length_le (by omega)
    have hwi : IntKind.i64.wrap ((i : Int) + 1) = (i : Int) + 1 := i64w (by omega)
    simp [zdz, hlt, h1, h2, hxl, hxt]
    refine zj.of_qc (hs ar[i] (List.getElem_mem hlt)) (.bool _) ?_
    simp [zio, hwi, Heap.apply]
    exact ⟨j, by omega, i + 1, by omega, by simp⟩
mutual
theorem zaav : ∀ x : Ex, VM.exW x ≤ 4294967296 → zrc x
  | .mk k z t ar, h => zvn (by unfold VM.exW at h; have := VM.len_exWL ar; omega) (zrg ar (by unfold VM.exW at h; omega))
theorem zrg : ∀ l : List Ex, VM.exWL l ≤ 4294967296 → ∀ x ∈ l, zrc x
  | [], _, x, hx => absurd hx (by simp)
  | y :: r, h, x, hx => (List.mem_cons.1 hx).elim (fun e => e ▸ zaav y (by unfold VM.exWL at h; omega)) fun hx => zrg r (by unfold VM.exWL at h; omega) x hx
end
def zle (l : List Sm) : Prop := QC Tryd.prog 46 [.ro (l.map Sm.avs), .ro (l.map Sm.avs)] (.bool true)
set_option maxHeartbeats 2000000 in
theorem zvm {l : List Sm} (hl : VM.smWL l ≤ 4294967296) (hs : ∀ x ∈ l, ∀ k nm ar t e, x = .mk k nm ar t e → zle t ∧ zle e) : zle l := by
  refine QC.of' fun H n => ?_
  suffices main : ∀ Q : QT, (∀ H' n', Keep n H' H → Q (.bool true) H' n') → za Tryd.prog 46 [.ro (l.map Sm.avs), .ro (l.map Sm.avs)] H n Q from main _ fun H' n' b => ⟨by simp, b⟩
  intro Q hq
  refine zlt _ _ _ _ _ ?_
  have hlen := zti l
  simp [zgt]
  refine LP.mk (fun j xs H' n' => ∃ i : Nat, i + j = l.length ∧ xs = [.ro (l.map Sm.avs), .ro (l.map Sm.avs), .int .i64 l.length, .int .i64 i] ∧ Keep n H' H ∧ n ≤ n' ∧ VM.smWL (l.drop i) ≤ 4294967296) l.length ⟨0, by omega, rfl, by simp, by omega, by simpa using hl⟩ ?_
  rintro j xs H' n' ⟨i, hi, rfl, hK, hn, hw⟩
  generalize hJ : (fun (xs : List AV) (H' : Heap) (n' : Nat) => ∃ j', j' < j ∧ ∃ i : Nat, i + j' = l.length ∧ xs = [.ro (l.map Sm.avs), .ro (l.map Sm.avs), .int .i64 l.length, .int .i64 i] ∧ Keep n H' H ∧ n ≤ n' ∧ VM.smWL (l.drop i) ≤ 4294967296) = J
  cases j with
  | zero =>
    obtain rfl : i = l.length := by omega
    simp [zdn]
    exact hq _ _ hK
  | succ j =>
    have hlt : i < l.length := by omega
    have hdr : l.drop i = l[i] :: l.drop (i + 1) := List.drop_eq_getElem_cons hlt
    rw [hdr] at hw
    unfold VM.smWL at hw
    have hxl := zir l[i]
    have hxo := zqo l[i]
    have hwi : IntKind.i64.wrap ((i : Int) + 1) = (i : Int) + 1 := i64w (by omega)
    have hs' := hs l[i] (List.getElem_mem hlt)
    have hxt : l[i].avs.take 5 = l[i].avs := List.take_of_length_le (by omega)
    simp [zdn, hlt, hxl, hxt]
    generalize l[i] = x at *
    obtain ⟨k, nm, ar, t, e⟩ := x
    obtain ⟨hT, hE⟩ := hs' k nm ar t e rfl
    have hav := zis k nm ar t e
    unfold VM.smW at hw
    refine ⟨hxo, ?_⟩
    have hla := VM.len_exWL ar
    have h1 : ((H'.put n' (some (.row 5 (Sm.mk k nm ar t e).avs))).put (n' + 1) (some (.row 5 (Sm.mk k nm ar t e).avs))) n' = some (.row 5 [.int .i64 k, .str nm, .ro (ar.map Ex.avs), .ro (t.map Sm.avs), .ro (e.map Sm.avs)]) := by rw [Heap.put_ne _ _ (by omega), Heap.put_at, hav]
    have h2 : ((H'.put n' (some (.row 5 (Sm.mk k nm ar t e).avs))).put (n' + 1) (some (.row 5 (Sm.mk k nm ar t e).avs))) (n' + 1) = some (.row 5 [.int .i64 k, .str nm, .ro (ar.map Ex.avs), .ro (t.map Sm.avs), .ro (e.map Sm.avs)]) := by rw [Heap.put_at, hav]
    have hK2 : Keep n ((H'.put n' (some (.row 5 (Sm.mk k nm ar t e).avs))).put (n' + 1) (some (.row 5 (Sm.mk k nm ar t e).avs))) H := fun y hy => by rw [Heap.put_ne _ _ (by omega), Heap.put_ne _ _ (by omega)]; exact hK y hy
    generalize Heap.put (Heap.put H' n' _) (n' + 1) _ = H1 at *
    simp [hav]
    refine hT.call ?_
    simp [zgu, h1, h2]
    refine hE.call ?_
    simp [zgv, h1]
    refine LP.mk (fun q xs H2 n2 => ∃ p : Nat, p + q = ar.length ∧ xs = [.ro (l.map Sm.avs), .ptr n' 0, .ptr (n' + 1) 0, .ro (l.map Sm.avs), .int .i64 l.length, .int .i64 i, .int .i64 ar.length, .int .i64 p] ∧ H2 = H1 ∧ n2 = n' + 2) ar.length ⟨0, by omega, rfl, rfl, rfl⟩ ?_
    rintro q xs H2 n2 ⟨p, hp, rfl, rfl, rfl⟩
    cases q with
    | zero =>
      obtain rfl : p = ar.length := by omega
      simp [zdo, hwi]
      rw [← hJ]
      exact ⟨j, by omega, i + 1, by omega, rfl, hK2, by omega, by omega⟩
    | succ q =>
      have hlt : p < ar.length := by omega
      have hxl := zbc ar[p]
      have hxt : ar[p].avs.take 4 = ar[p].avs := List.take_of_length_le (by omega)
      have hwp : IntKind.i64.wrap ((p : Int) + 1) = (p : Int) + 1 := i64w (by omega)
      simp [zdo, hlt, h1, h2, hxl, hxt]
      refine zj.of_qc (zrg ar (by omega) ar[p] (List.getElem_mem hlt)) (.bool _) ?_
      simp [zgw, hwp, Heap.apply]
      exact ⟨q, by omega, p + 1, by omega, by simp⟩
def zrp : Sm → Prop
  | .mk _ _ _ t e => zle t ∧ zle e
theorem zok {l : List Sm} (hl : VM.smWL l ≤ 4294967296) (h : ∀ x ∈ l, zrp x) : zle l :=
  zvm hl fun x hx k nm ar t e hh => by have := h x hx; rw [hh] at this; exact this
mutual
theorem zaab : ∀ x : Sm, VM.smW x ≤ 4294967296 → zrp x
  | .mk _ _ _ t e, h => ⟨zok (by unfold VM.smW at h; omega) (zni t (by unfold VM.smW at h; omega)), zok (by unfold VM.smW at h; omega) (zni e (by unfold VM.smW at h; omega))⟩
theorem zni : ∀ l : List Sm, VM.smWL l ≤ 4294967296 → ∀ x ∈ l, zrp x
  | [], _, x, hx => absurd hx (by simp)
  | y :: r, h, x, hx => (List.mem_cons.1 hx).elim (fun e => e ▸ zaab y (by unfold VM.smWL at h; omega)) fun hx => zni r (by unfold VM.smWL at h; omega) x hx
end
theorem zaau (l : List Sm) (h : VM.smWL l ≤ 4294967296) : zle l := zok h (zni l h)
set_option maxHeartbeats 1000000 in
theorem zqp (l : List Fnc) (hl : l.length ≤ 4294967296) (hw : zgm l ≤ 4294967296) : QC Tryd.prog 22 [.ro (l.map Fnc.avs), .ro (l.map Fnc.avs)] (.bool true) := by
  intro H n
  refine zmx _ _ _ _ _ ?_
  simp [zjk]
  refine LP.mk (fun j xs H' n' => ∃ i : Nat, i + j = l.length ∧ xs = [.ro (l.map Fnc.avs), .ro (l.map Fnc.avs), .int .i64 l.length, .int .i64 i] ∧ H' = H ∧ n' = n ∧ zgm (l.drop i) ≤ 4294967296) l.length ⟨0, by omega, rfl, rfl, rfl, by simpa using hw⟩ ?_
  rintro j xs H' n' ⟨i, hi, rfl, rfl, rfl, hw'⟩
  generalize hJ : (fun (xs : List AV) (H2 : Heap) (n2 : Nat) => ∃ j', j' < j ∧ ∃ i : Nat, i + j' = l.length ∧ xs = [.ro (l.map Fnc.avs), .ro (l.map Fnc.avs), .int .i64 l.length, .int .i64 i] ∧ H2 = H' ∧ n2 = n' ∧ zgm (l.drop i) ≤ 4294967296) = J
  cases j with
  | zero =>
    obtain rfl : i = l.length := by omega
    simp [zep]
  | succ j =>
    have hlt : i < l.length := by omega
    have hdr : l.drop i = l[i] :: l.drop (i + 1) := List.drop_eq_getElem_cons hlt
    rw [hdr] at hw'
    unfold zgm at hw'
    have hwi : IntKind.i64.wrap ((i : Int) + 1) = (i : Int) + 1 := i64w (by omega)
    have hav : l[i].avs = [.str l[i].name, .ro (l[i].params.map strC), .ro (l[i].body.map Sm.avs)] := rfl
    simp [zep, hlt, hav]
    refine zj.of_qc (zaau l[i].body (by omega)) (.bool _) ?_
    simp [zjl, hlt, hav, Heap.apply]
    generalize hps : l[i].params = ps at *
    refine LP.mk (fun q xs H2 n2 => ∃ p : Nat, p + q = ps.length ∧ xs = [.ro (l.map Fnc.avs), .ro (l.map Fnc.avs), .int .i64 i, .int .i64 l.length, .int .i64 i, .int .i64 ps.length, .int .i64 p] ∧ H2 = H' ∧ n2 = n') ps.length ⟨0, by omega, rfl, rfl, rfl⟩ ?_
    rintro q xs H2 n2 ⟨p, hp, rfl, rfl, rfl⟩
    cases q with
    | zero =>
      obtain rfl : p = ps.length := by omega
      simp [zeq, hwi]
      rw [← hJ]
      exact ⟨j, by omega, i + 1, by omega, rfl, rfl, rfl, by omega⟩
    | succ q =>
      have hpl : p < ps.length := by omega
      have hwp : IntKind.i64.wrap ((p : Int) + 1) = (p : Int) + 1 := i64w (by omega)
      simp [zeq, hlt, hav, hpl, strC, hwp]
      exact ⟨q, by omega, p + 1, by omega, by simp⟩
theorem zwz (s : Str) (h : (VM.parseF s).2 = 0) : (VM.parseF s).1.length ≤ 1500 := by
  have key : ∀ (k : Nat) (st : VM.St), (VM.fnsF k st).2.2 = 0 → (VM.fnsF k st).1.length + (VM.fnsF k st).2.1.length ≤ st.1.length := by
    intro k
    induction k with
    | zero => intro st _; simp [VM.fnsF]
    | succ k ih =>
      intro st h
      unfold VM.fnsF at h ⊢
      split
      · rename_i hc
        rw [if_pos hc] at h
        have h1 := ih _ h
        have hz : ∀ (k : Nat) (st : VM.St), (VM.fnsF k st).2.2 = 0 → st.2 = 0 := fun k st h => by
          cases k with
          | zero => exact h
          | succ k =>
            unfold VM.fnsF at h
            split at h
            · rename_i hc; exact hc.1
            · exact h
        have h2 := VM.nice_fn.eats (VM.trim st.1, 0) rfl (hz k _ h)
        have h3 := VM.trim_le st.1
        simp only [List.length_cons] at *
        omega
      · have h3 := VM.trim_le st.1
        simp only [List.length_nil]
        split <;> (try simp only) <;> omega
  unfold VM.parseF at *
  split at h
  · cases h
  · rename_i h1
    rw [if_neg h1] at *
    split at h
    · rename_i h2; exact absurd h h2
    · rename_i h2
      rw [if_neg h2]
      have := key (s.length + 2) (s, 0) (by simpa using h2)
      simp only at *
      omega
theorem zwy (s : Str) (h : (VM.parseF s).2 ≠ 0) : (VM.parseF s).1 = [] := by
  unfold VM.parseF at *
  split
  · rfl
  · rename_i h1
    rw [if_neg h1] at h
    split
    · rfl
    · rename_i h2
      rw [if_neg h2] at h
      exact absurd rfl h
theorem zta (s : Str) : QC Tryd.prog 22 [.ro ((VM.parseF s).1.map Fnc.avs), .ro ((VM.parseF s).1.map Fnc.avs)] (.bool true) := by
  by_cases h : (VM.parseF s).2 = 0
  · have h1 := zwz s h
    have h2 := VM.parse_fits s h
    exact zqp _ (by omega) (by omega)
  · rw [zwy s h]
    exact zqp [] (by simp) (by unfold zgm; omega)
theorem zsy (s : Str) (hs : s.length ≤ 140737488351232) : QC Tryd.prog 7 [.str s] (.bool true) := by
  intro H n
  refine zlv _ _ _ _ ?_
  unfold zgz
  refine (zwp s).call ?_
  simp [zha]
  refine (zyh s).call ?_
  simp [zhb]
  refine (zta s).call ?_
  simp [zhc]
  refine (znk s (by unfold maxLen; omega)).call ?_
  unfold zhd
  refine (zuz s (by unfold maxLen; omega)).call ?_
  simp [zhe]
  refine (zrr s (by unfold maxLen; omega)).call ?_
  unfold zhf
  refine (zsv s (by unfold maxLen; omega)).call ?_
  simp [zhg]
end Go.Proofs.YtpllgpgdcbgalaaDoor
namespace Go.Proofs.YtpllgpgdcbgalaaDoor
open Go Go.RowKit
theorem LayE.of_var {n : String} {w : World} {t : TypeId} {p : Value} (h : w.var? Tryd.prog n = some #[.iface t p]) : LayE n (fun b => w.heap[b]?) := fun g hg => by
  unfold World.var? at h
  rw [hg, Option.bind_some] at h
  split at h
  · rename_i cs e m hc
    cases h
    exact ⟨_, _, e, m, hc⟩
  · cases h
theorem ztl : "*" ++ "errors.errorString" = "*errors.errorString" := by decide
theorem zvd (u : TypeId) (h : Tryd.prog.typeName? 3 u = some "*errors.errorString") : u = 160 :=
  typeName_ptr_named (nm := "errors.errorString") (by rw [ztl]; kernel_rfl) (by kernel_rfl) (by decide) u (by rw [ztl]; exact h)
theorem zvx {r : List (String × DataW Unit)} {text : List UInt8} {W : World} (h : laidMet Tryd.prog (("strconv.ErrRange", .iface "*errors.errorString" (.ptr (.agg [.lit (.string text)]))) :: r) W) : LayE "strconv.ErrRange" (fun b => W.heap[b]?) := by
  obtain ⟨a, s, h1, _⟩ := laid_sentinel (g := 2) (ti := 120) (tp := 160) (te := 162) (ts := 9) h (by kernel_rfl) (by kernel_rfl) Tryd.underlying120 zvd Tryd.underlying160 Tryd.underlying162 rfl rfl Tryd.underlying9 (by kernel_rfl) (by kernel_rfl)
  exact .of_var h1
theorem zul {r : List (String × DataW Unit)} {text : List UInt8} {W : World} (h : laidMet Tryd.prog (("strconv.ErrSyntax", .iface "*errors.errorString" (.ptr (.agg [.lit (.string text)]))) :: r) W) : LayE "strconv.ErrSyntax" (fun b => W.heap[b]?) := by
  obtain ⟨a, s, h1, _⟩ := laid_sentinel (g := 1) (ti := 120) (tp := 160) (te := 162) (ts := 9) h (by kernel_rfl) (by kernel_rfl) Tryd.underlying120 zvd Tryd.underlying160 Tryd.underlying162 rfl rfl Tryd.underlying9 (by kernel_rfl) (by kernel_rfl)
  exact .of_var h1
end Go.Proofs.YtpllgpgdcbgalaaDoor
namespace Go.Proofs.YtpllgpgdcbgalaaDoor
open Go Go.RowKit Go.ChangeShapes
theorem zsn {H : Type} {enc : TypeId × Value → H} {a : Assume} {C : Checked} {os : Os} {f : FuncId} {fn : Func} {s : ChangeSpec} {zfk : List PathCond} {apart fresh handsOn again : Bool} {X : World → Array Value → Prop}
    (hX : ∀ (w w' : World) (args : Array Value), w.heap = w'.heap → X w args → X w' args)
    (own : ownKnob C.prog.godebug = none) (started : os.Started) (noInit : C.prog.inits.idxOf? f = none) (hfn : C.prog.funcs[f]? = some fn)
    (witness : ∃ (w : World) (tape : Tape) (i : Input), w.os = os ∧ (w.forCall tape i).Shaped C.prog ∧ i.vars = [] ∧ Input.okWide C.prog (w.forCall tape i) .any w.heap.size f i ∧
      ((s.pre enc C.prog fn zfk apart (w.forCall tape i).memory i.args ∧ X (w.forCall tape i).memory i.args) ∧ sizedMet enc C.prog fn (OpenSpec.ofChange s) apart (w.forCall tape i).memory i.args) ∧ a.holds C.prog (lone (Frame.enter C.prog f i.args .normal) [] (w.forCall tape i)))
    (contract : ∀ (W : World) (base : Nat) (args : Array Value) (ds gs : List (DataW H)) (before : List MemPlace), W.ShapedOpen C.prog →
      (∀ (j : Nat) t v, fn.params[j]? = some t → args[j]? = some v → Value.okWide C.prog W .any base t v) →
      DataW.Whole enc C.prog fn.params.toList s.vars apart W args.toList ds gs before →
      zfk.all (PathCond.test C.prog ⟨fn.params.toList, ds, s.plain.varTypes C.prog, gs⟩) = true →
      (DataW.weightsEach C.prog (fn.params.toList ++ s.plain.varTypes C.prog) (ds ++ gs)).all (· ≤ reachBytes) = true → X W args →
      a.holds C.prog (lone (Frame.enter C.prog f args .normal) [] W) →
      Calls C.prog f args W fun e W' => ∃ v, e = .returned v ∧ s.post enc C.prog fn apart fresh handsOn again W args v W') :
    ReturnsInHanded a C os f .any (fun w args => (s.pre enc C.prog fn zfk apart w args ∧ X w args) ∧ sizedMet enc C.prog fn (OpenSpec.ofChange s) apart w args) (s.post enc C.prog fn apart fresh handsOn again) := by
  refine returnsInHanded_of_calls own started noInit witness ?_
  intro w tape i _ shape _ hok hpre hholds
  obtain ⟨_, _, _, fn', hfn', _, _, _, _, hval⟩ := hok
  obtain rfl : fn' = fn := Option.some.inj (hfn'.symm.trans hfn)
  obtain ⟨⟨⟨ds, gs, before, hw, hc⟩, hx⟩, hz⟩ := hpre
  have whole := DataW.Whole.of_heap (w' := w.forCall tape i) (by rfl) hw
  have calls := contract (w.forCall tape i) w.heap.size i.args ds gs before shape hval whole hc (hz.weights hw) (hX _ _ _ (by rfl) hx) hholds
  refine calls.mono ?_
  rintro e W' ⟨v, rfl, hp⟩
  exact ChangeSpec.post_blind hp
theorem zuk {W : World} (h : W.ShapedOpen Tryd.prog) : LayM "internal/bytealg.MaxLen" (fun b => W.heap[b]?) :=
  .of_cell (g := 0) (by kernel_rfl) (cell_of_shapedOpen_int (t := 3) (zero := #[.int .i64 0]) h (of_decide_eq_true (by kernel_rfl)) (by kernel_rfl) rfl (by kernel_rfl) (by kernel_rfl) Tryd.underlying3)
end Go.Proofs.YtpllgpgdcbgalaaDoor
