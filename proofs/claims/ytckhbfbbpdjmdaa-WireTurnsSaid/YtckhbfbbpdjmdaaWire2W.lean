/- The walks of wire: Text, GetText, Sum. -/
import Derived.Test.YtckhbfbbpdjmdaaWireW
import Derived.Test.YtckhbfbbpdjmdaaNumW
import Derived.Laws.BytesString
namespace Go.Proofs.Ytckhbfbbpdjmdaa
open Go Go.RowKit

/-- An owned row of bytes reads as a slice of bytes. -/
theorem bytes_of_row {w : World} {v : Value} {l : WM.Bytes} (h : w.ownsRow 0 5 1 v l.length (u8s l)) : (tSlice tByte).R (Under w.heap.size) w [v] l := by
  rcases h.2 with ⟨rfl, h0⟩ | ⟨g, cap, cur, rfl, _, hg, hnc, hcm, hcs, htake⟩
  · have : l = [] := List.eq_nil_of_length_eq_zero h0
    subst this
    exact tSlice_nil tByte _ w
  · refine ⟨some ⟨g, 0, none⟩, cap, rfl, hnc, hcm, (fun h => by cases h), fun _ => ⟨g, 0, rfl, (Array.getElem?_eq_some_iff.1 hg).1, fun i x hx => ⟨[.int .u8 (x.toNat : Int)], fun j v hv => ?_, rfl⟩⟩⟩
    match j, hv with
    | 0, hv =>
      have hv' : v = .int .u8 (x.toNat : Int) := by simpa using hv.symm
      subst hv'
      have := h.cells (g := g) rfl i (.int .u8 (x.toNat : Int)) (by simp [u8s, hx])
      have e : (⟨g, 0, none⟩ : Addr).add i = ⟨g, 0 + i * tByte.sz + 0, none⟩ := by unfold Addr.add; split <;> simp_all [tByte]
      rw [e] at this
      exact this

theorem strCells_eq (s : WM.Bytes) : Lib.strCells ⟨s.toArray⟩ = u8s s := by
  simp [Lib.strCells, u8s]

set_option maxRecDepth 100000 in
set_option maxHeartbeats 400000 in
theorem text_any (w : World) (v : Value) (xs s : WM.Bytes) (hown : w.ownsRow 0 5 1 v xs.length (u8s xs)) (hx : xs.length ≤ 1099511627776) (hs : s.length ≤ 70368744177664) :
    Calls Try.prog 22 #[v, .string ⟨s.toArray⟩] w (NumPost v w (xs ++ WM.num s.length ++ s)) := by
  obtain ⟨i0, hi, hz0, hz1, hz2⟩ := info_parts Try.infoU8
  have hn := num_any w v xs s.length hown hx ⟨by omega, by omega⟩
  have HN := Lib.hid hn
  clear hn hown
  have hl10 : (WM.num s.length).length ≤ 10 := WM.enc_length 9 _
  go_enter Try.func22, Try.ntmps22
  go_wp2_with fail
  refine HN.out.mono ?_
  rintro e w1 ⟨v1, rfl, hown1, hext1, hnn⟩
  have HO := Lib.hid hown1
  have HX := Lib.hid hext1
  clear hown1 hext1
  go_wp2_with (at_builtin; refine wpList_row_str _ rfl _ _ 22 9 rfl 5 i0 Try.underlying22 Try.underlying9 hi hz0 hz1 hz2 _ _ _ rfl HO.out _ rfl ?c1 ?_)
  case c1 => show (xs ++ WM.num s.length).length + s.length ≤ _; simp; omega
  intro v' w2 hown2 hext2 hnn2
  have hfin : NumPost v w (xs ++ WM.num s.length ++ s) (.returned v') w2 := by
    refine ⟨v', rfl, ?_, HX.out.trans hext2, fun h => ?_⟩
    · rw [strCells_eq] at hown2
      simpa [u8s, Nat.add_assoc] using hown2
    · first | exact hnn2 h | exact hnn (hnn2.1 h).1
  have HF := Lib.hid hfin
  clear hown2 hext2
  go_wp2
  go_ret
  exact HF.out

/-- A slice of bytes as a text. -/
theorem run_conv {P : Program} (w : World) (src dst e : TypeId) (hs : P.underlying src = some (.slice e)) (he : P.underlying e = some (.int .u8)) (hd : P.underlying dst = some .string)
    (b off cap : Nat) (l : WM.Bytes) (hc : ∀ i x, l[i]? = some x → w.cell? ⟨b, off + i, none⟩ = some (.int .u8 (x.toNat : Int))) :
    (convert src dst (.slice (some ⟨b, off, none⟩) l.length cap)).run P w = .ok (.string ⟨l.toArray⟩) w := by
  rw [run_convert_bytes_string w src dst e _ _ _ hs he hd]
  have hl : (loadCells (⟨b, off, none⟩ : Addr) l.length).run P w = .ok ((l.map fun c => (c.toNat : Int)).map (Value.int .u8)).toArray w := by
    have := run_loadCells_list (P := P) (w := w) (⟨b, off, none⟩ : Addr) (u8s l) (fun j v hv => by
      have hj : j < l.length := by
        have := (List.getElem?_eq_some_iff.1 hv).1
        simpa [u8s] using this
      have hv' : v = .int .u8 (l[j].toNat : Int) := by simpa [u8s, hj] using hv.symm
      subst hv'
      have := hc j l[j] (List.getElem?_eq_getElem hj)
      unfold Addr.add
      split
      · rename_i h0; subst h0; simpa using this
      · simpa using this)
    simpa [u8s, Function.comp_def] using this
  rw [run_bytesToString w _ _ _ _ hl]
  congr 2
  have hfold : ∀ (l : WM.Bytes) (acc : ByteArray), (l.map fun c => (c.toNat : Int)).foldl (fun r n => r.push (UInt8.ofNat n.toNat)) acc = ⟨(acc.data.toList ++ l).toArray⟩ := by
    intro l
    induction l with
    | nil => intro acc; simp
    | cons c r ih =>
      intro acc
      simp only [List.map_cons, List.foldl_cons]
      rw [ih]
      simp [ByteArray.push]
  rw [hfold]
  rfl

theorem byte_cells {w : World} {S : Nat → Prop} {v : Value} {b : WM.Bytes} (h : (tSlice tByte).R S w [v] b) (hne : b ≠ []) :
    ∃ bb off cap, v = .slice (some ⟨bb, off, none⟩) b.length cap ∧ b.length ≤ cap ∧ cap ≤ 9223372036854775807 ∧ S bb ∧ ∀ i x, b[i]? = some x → w.cell? ⟨bb, off + i, none⟩ = some (.int .u8 (x.toNat : Int)) := by
  obtain ⟨a, cap, hv, hle, hcm, hnil, hel⟩ := h
  obtain rfl := List.cons.inj hv |>.1
  obtain ⟨bb, off, rfl, hS, hc⟩ := hel hne
  refine ⟨bb, off, cap, rfl, hle, by simp only [maxLen] at hcm; omega, hS, fun i x hx => ?_⟩
  obtain ⟨ec, hca, hec⟩ := hc i x hx
  have hec' : ec = [.int .u8 (x.toNat : Int)] := hec
  subst hec'
  simpa [tByte] using hca.c0

set_option maxRecDepth 100000 in
set_option maxHeartbeats 400000 in
theorem getText_any (w : World) (S : Nat → Prop) (v : Value) (b : WM.Bytes) (most : Int) (h : (tSlice tByte).R S w [v] b) (hm : I64 most) :
    Calls Try.prog 21 #[v, .int .i64 most] w fun e w' =>
      e = .returned (.tuple #[.string ⟨(WM.getText b most).1.toArray⟩, .int .i64 (WM.getText b most).2.1, .int .i64 (WM.getText b most).2.2]) ∧ w = w' := by
  have hG := getNum_any w S v b h
  have hbd := WM.getNum_bounds b
  have hne : (WM.getNum b).2.2 = 0 → b ≠ [] := by
    intro h0 hb; subst hb; simp [WM.getNum, WM.getFrom] at h0
  have hT : WM.getText b most = WM.getText b most := rfl
  generalize hT2 : WM.getText b most = T at *
  unfold WM.getText at hT2
  generalize hg : WM.getNum b = g at *
  have hgg : WM.getNum b = g := hg
  obtain ⟨n, k, er⟩ := g
  simp only at hG hbd hne hT2
  have HG := Lib.hid hG
  clear hG hg hT
  obtain ⟨hm0, hm1⟩ := hm
  by_cases he : er = 0
  · subst he
    obtain ⟨bb, off, cap, rfl, hle, hcm, hS, hc⟩ := byte_cells h (hne rfl)
    clear hne h
    rw [if_neg (by simp)] at hT2
    by_cases h1 : n < 0 ∨ most < n
    · rw [if_pos h1] at hT2
      subst hT2
      by_cases h2 : n < 0
      all_goals
        clear hc hgg
        go_enter Try.func21, Try.ntmps21
        go_wp2_with fail
        refine HG.out.mono ?_
        rintro e w1 ⟨rfl, rfl⟩
        go_wp2
        go_ret3
        exact ⟨rfl, rfl⟩
    rw [if_neg h1] at hT2
    by_cases h2 : (b.length : Int) - k < n
    · rw [if_pos h2] at hT2
      subst hT2
      clear hc hgg
      go_enter Try.func21, Try.ntmps21
      go_wp2_with fail
      refine HG.out.mono ?_
      rintro e w1 ⟨rfl, rfl⟩
      go_wp2
      go_ret3
      exact ⟨rfl, rfl⟩
    rw [if_neg h2] at hT2
    subst hT2
    obtain ⟨k, rfl⟩ : ∃ q : Nat, k = q := ⟨k.toNat, by omega⟩
    obtain ⟨n, rfl⟩ : ∃ q : Nat, n = q := ⟨n.toNat, by omega⟩
    have hsl : ((b.drop k).take n).length = n := by simp; omega
    have hcc : ∀ i x, ((b.drop k).take n)[i]? = some x → w.cell? ⟨bb, off + k + i, none⟩ = some (.int .u8 (x.toNat : Int)) := by
      intro i x hx
      have := hc (k + i) x (by
        rw [List.getElem?_take] at hx
        split at hx
        · simpa using hx
        · cases hx)
      simpa [Nat.add_assoc] using this
    have hconv := fun c => run_conv (P := Try.prog) w 22 9 5 Try.underlying22 Try.underlying5 Try.underlying9 bb (off + k) c ((b.drop k).take n) hcc
    rw [hsl] at hconv
    have hconv0 := fun c => run_conv (P := Try.prog) w 22 9 5 Try.underlying22 Try.underlying5 Try.underlying9 bb off c [] (fun i x hx => by simp at hx)
    simp only [List.length_nil] at hconv0
    have hk1 : 1 ≤ k := by
      obtain ⟨k', _, hk', e', _⟩ := WM.getNum_ok b (by rw [hgg])
      rw [hgg] at e'
      simp only at e'
      omega
    simp only [Int.toNat_natCast]
    have hnil : n = 0 → (b.drop k).take n = [] := by intro h0; subst h0; rfl
    clear hc hcc hgg
    generalize (b.drop k).take n = l at *
    by_cases hcap : cap = k
    · have hn0 : n = 0 := by omega
      obtain rfl := hnil hn0
      subst hn0
      subst hcap
      clear hconv hnil hsl
      go_enter Try.func21, Try.ntmps21
      go_wp2_with fail
      refine HG.out.mono ?_
      rintro e w1 ⟨rfl, rfl⟩
      go_wp2
      go_ret3
      exact ⟨rfl, rfl⟩
    · clear hnil hconv0 hsl
      go_enter Try.func21, Try.ntmps21
      go_wp2_with fail
      refine HG.out.mono ?_
      rintro e w1 ⟨rfl, rfl⟩
      go_wp2
      go_ret3
      exact ⟨rfl, rfl⟩
  · rw [if_pos he] at hT2
    subst hT2
    have he' : (er == 0) = false := by simpa using he
    obtain ⟨a, cap, hv, hle, hcm, hnil, hel⟩ := h
    obtain rfl := List.cons.inj hv |>.1
    clear hel hv hne hgg
    go_enter Try.func21, Try.ntmps21
    go_wp2_with fail
    refine HG.out.mono ?_
    rintro e w1 ⟨rfl, rfl⟩
    go_wp2
    go_ret3
    exact ⟨rfl, rfl⟩
end Go.Proofs.Ytckhbfbbpdjmdaa
