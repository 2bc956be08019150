/- For every number, and any bytes: WireTurns answers true. The walk of the law, and of its closed fact. -/
import Derived.Test.YtckhbfbbpdjmdaaSumW
import Derived.Test.YtckhbfbbpdjmdaaFlow
namespace Go.Proofs.Ytckhbfbbpdjmdaa
open Go Go.RowKit

theorem row_new (w : World) (l : WM.Bytes) (h : l.length ≤ maxLen) : (w.alloc (.cells (u8s l).toArray 5)).ownsRow 0 5 1 (.slice (some ⟨w.heap.size, 0, none⟩) l.length l.length) l.length (u8s l) :=
  ⟨by simp [u8s], .inr ⟨w.heap.size, l.length, _, rfl, Nat.zero_le _, heap_alloc_new w _, Nat.le_refl _, h, by simp [u8s], by simp [u8s, List.take_of_length_le]⟩⟩

theorem row_shape {w : World} {v : Value} {n : Nat} {xs : List Value} {e : TypeId} {size : Nat} (h : w.ownsRow 0 e size v n xs) (hn : v ≠ .slice none 0 0) :
    ∃ g cap, v = .slice (some ⟨g, 0, none⟩) n cap ∧ n ≤ cap ∧ cap ≤ 9223372036854775807 := by
  rcases h.2 with ⟨rfl, _⟩ | ⟨g, cap, cur, rfl, _, _, h1, h2, _⟩
  · exact absurd rfl hn
  · exact ⟨g, cap, rfl, h1, by simp only [maxLen] at h2; omega⟩

/-- A law, or a closed fact, said yes, and nothing that was there has turned. -/
def Yes (w : World) (e : Ending) (w' : World) : Prop := e = .returned (.bool true) ∧ Below w.heap.size w w'

theorem nil_row (w : World) : w.ownsRow 0 5 1 (.slice none 0 0) ([] : WM.Bytes).length (u8s []) := World.ownsRow_nil w 0 _ 1

set_option maxRecDepth 100000 in
set_option maxHeartbeats 400000 in
theorem alive2_any (w : World) : Calls Try.prog 7 #[] w (Yes w) := by
  have b0 : Below w.heap.size w (w.alloc (.cells #[.int .u8 172, .int .u8 2, .int .u8 9] 5)) := (Below.refl _ _).alloc (Nat.le_refl _) _
  have hr := bytes_of_row (row_new w [172, 2, 9] (by decide))
  have hg := getNum_any _ _ _ _ hr
  have e1 : WM.getNum [172, 2, 9] = (150, 2, 0) := by decide
  rw [e1] at hg
  have HG := Lib.hid hg
  have HB := Lib.hid b0
  clear hg hr e1 b0
  go_enter Try.func7, Try.ntmps7
  go_wp2_with fail
  refine HG.out.mono ?_
  rintro e w1 ⟨rfl, rfl⟩
  obtain ⟨W, hW⟩ : ∃ W, W = w.alloc (.cells #[.int .u8 172, .int .u8 2, .int .u8 9] 5) := ⟨_, rfl⟩
  have HB2 : Hid (Below w.heap.size w W) := by rw [hW]; exact HB
  clear HG HB
  go_wp2_with fail
  refine (text_any _ (.slice none 0 0) [] [97, 98] (nil_row _) (by simp) (by simp)).mono ?_
  rintro e w2 ⟨v2, rfl, hown2, hext2, hnn⟩
  have e2 : ([] ++ WM.num (([97, 98] : WM.Bytes).length : Nat) ++ [97, 98] : WM.Bytes) = [4, 97, 98] := by decide
  rw [e2] at hown2
  have hr2 := bytes_of_row hown2
  have hg2 := getText_any _ _ _ _ 5 hr2 ⟨by omega, by omega⟩
  have e3 : WM.getText [4, 97, 98] 5 = ([97, 98], 3, 0) := by decide
  rw [e3] at hg2
  have HG2 := Lib.hid hg2
  have HX2 := Lib.hid hext2
  clear hg2 hr2 hown2 hext2 e2 e3
  go_wp2_with fail
  refine HG2.out.mono ?_
  rintro e w3 ⟨rfl, rfl⟩
  clear HG2
  go_wp2_with fail
  refine (num_any _ (.slice none 0 0) [] (-1) (nil_row _) (by simp) ⟨by omega, by omega⟩).mono ?_
  rintro e w4 ⟨v4, rfl, hown4, hext4, hnn4⟩
  have e4 : ([] ++ WM.num (-1) : WM.Bytes).length = 1 := by decide
  rw [e4] at hown4
  obtain ⟨g4, c4, rfl, hc4, hm4⟩ := row_shape hown4 hnn4
  have hb : Below w.heap.size w w4 := by
    have h1 := HX2.out.below rfl
    have h2 := hext4.below rfl
    rw [show (w.alloc (Obj.cells (u8s [172, 2, 9]).toArray 5)) = W from hW.symm] at h1
    exact (HB2.out.trans (h1.mono HB2.out.size)).trans (h2.mono (Nat.le_trans HB2.out.size h1.size))
  have HB := Lib.hid hb
  clear hb hown4 hext4 HX2 HB2 hnn hnn4 hW e4
  go_wp2_with fail
  refine (sum_any w4 (Under w4.heap.size) (.slice none 0 0) [] (tSlice_nil tByte _ _)).mono ?_
  rintro e w5 ⟨rfl, rfl⟩
  have e5 : WM.sum [] = 2166136261 := rfl
  rw [e5]
  go_wp2
  go_ret
  exact ⟨rfl, HB.out⟩

theorem src_bytes {w : World} {S : Nat → Prop} {v : Value} {l : WM.Bytes} (h : (tSlice tByte).R S w [v] l) : SrcCells w v l.length (u8s l) := by
  by_cases hne : l = []
  · subst hne
    obtain ⟨a, cap, hv, hle, hcm, hnil, hel⟩ := h
    obtain rfl := List.cons.inj hv |>.1
    cases a with
    | none => obtain rfl := hnil rfl; exact .inl ⟨rfl, rfl, rfl⟩
    | some a => exact .inr ⟨a, cap, rfl, fun j u hu => by simp [u8s] at hu⟩
  · obtain ⟨bb, off, cap, rfl, hle, hcm, hS, hc⟩ := byte_cells h hne
    refine .inr ⟨_, cap, rfl, fun j u hu => ?_⟩
    have hj : j < l.length := by
      have := (List.getElem?_eq_some_iff.1 hu).1
      simpa [u8s] using this
    have hu' : u = .int .u8 (l[j].toNat : Int) := by simpa [u8s, hj] using hu.symm
    subst hu'
    have := hc j l[j] (List.getElem?_eq_getElem hj)
    unfold Addr.add
    split
    · rename_i h0; subst h0; simpa using this
    · simpa using this

theorem u8s_one (l : WM.Bytes) : ∀ u ∈ u8s l, u.oneCell' = true := by
  intro u hu
  simp only [u8s, List.mem_map] at hu
  obtain ⟨c, _, rfl⟩ := hu
  rfl

/-- What a row's bytes are as a text. -/
theorem conv_row {w : World} {v : Value} {S : Nat → Prop} {l : WM.Bytes} (h : (tSlice tByte).R S w [v] l) (hne : l ≠ []) :
    (convert 22 9 v).run Try.prog w = .ok (.string ⟨l.toArray⟩) w := by
  obtain ⟨bb, off, cap, rfl, _, _, _, hc⟩ := byte_cells h hne
  exact run_conv (P := Try.prog) w 22 9 5 Try.underlying22 Try.underlying5 Try.underlying9 bb off cap l hc

/-- Num from nothing: its bytes. -/
theorem num_nil (w : World) (x : Int) (hx : I64 x) : Calls Try.prog 8 #[.slice none 0 0, .int .i64 x] w fun e w' =>
    ∃ v, e = .returned v ∧ leB w w' ∧ (tSlice tByte).R (Under w'.heap.size) w' [v] (WM.num x) :=
  (num_any w (.slice none 0 0) [] x (nil_row _) (by simp) hx).mono fun e w' ⟨v, he, ho, hx, _⟩ => ⟨v, he, hx.below rfl, bytes_of_row ho⟩

set_option maxRecDepth 100000 in
set_option maxHeartbeats 1000000 in
theorem wireTurns_any (w : World) (n : Int) (vb : Value) (b : WM.Bytes) (hn : I64 n) (hb : (tSlice tByte).R (Under w.heap.size) w [vb] b) (hbl : b.length ≤ 140737488351232) :
    Calls Try.prog 3 #[.int .i64 n, vb] w (Yes w) := by
  obtain ⟨i0, hi, hz0, hz1, hz2⟩ := info_parts Try.infoU8
  have HB := Lib.hid hb
  clear hb
  go_enter Try.func3, Try.ntmps3
  go_wp2_with fail
  refine (alive2_any w).mono ?_
  rintro e w1 ⟨rfl, hb1⟩
  have H1 := Lib.hid hb1
  clear hb1
  go_wp2_with fail
  refine (num_any w1 (.slice none 0 0) [] n (nil_row _) (by simp) hn).mono ?_
  rintro e w2 ⟨v2, rfl, hown2, hext2, hnn2⟩
  have hl10 : (WM.num n).length ≤ 10 := WM.enc_length 9 _
  have hl1 : 1 ≤ (WM.num n).length := by
    have := WM.enc_ne 9 (WM.zig n)
    cases h : WM.num n with
    | nil => exact absurd h this
    | cons _ _ => simp
  rw [List.nil_append] at hown2
  have hr2 := bytes_of_row hown2
  have hb2 : Below w.heap.size w w2 := H1.out.trans ((hext2.below rfl).mono H1.out.size)
  have HR2 := Lib.hid hr2
  have HB2 := Lib.hid hb2
  obtain ⟨g2, c2, rfl, hc2, hm2⟩ := row_shape hown2 hnn2
  clear hown2 hext2 hnn2 hr2 hb2 H1
  have hemp := row_new w2 [] (by decide)
  simp only [u8s, List.map_nil, List.length_nil] at hemp
  have hsrc2 : SrcCells (w2.alloc (.cells #[] 5)) (.slice (some ⟨g2, 0, none⟩) (WM.num n).length c2) (WM.num n).length (u8s (WM.num n)) :=
    src_bytes ((tSlice tByte).below HR2.out ((Below.refl _ _).alloc (Nat.le_refl _) _))
  have HE := Lib.hid hemp
  have HS := Lib.hid hsrc2
  clear hemp hsrc2
  go_wp2_with (at_builtin; refine wpList_src _ rfl (.tmp 17) (.tmp 18) 22 rfl 5 i0 (.int .u8 0) 1 1 Try.underlying22 hi hz0 hz1 hz2 rfl (by decide) _ _ _ rfl HE.out _ _ _ rfl HS.out ?c1 ?c2 ?c3 ?c4 ?_)
  case c1 => simp [u8s]
  case c2 => exact u8s_one _
  case c3 => unfold maxLen; omega
  case c4 => omega
  intro v3 w3 hown3 hext3 hnn3
  have hnn3' : v3 ≠ .slice none 0 0 := fun h => by first | exact hnn3 h | simpa using (hnn3.1 h).1
  have h20 : ∀ k, (Value.slice (some ⟨w2.heap.size, 0, none⟩) 0 0).ownBlock = some k → w2.heap.size ≤ k := fun k h => by simp [Value.ownBlock] at h; omega
  have hb3 : Below w2.heap.size w2 w3 := ((Below.refl _ _).alloc (Nat.le_refl _) _).trans (hext3.belowOf (by simp) h20)
  have hown3ge := hext3.own_ge (by simp) h20
  have hsrcb : SrcCells w3 vb b.length (u8s b) := src_bytes ((tSlice tByte).below HB.out (HB2.out.trans (hb3.mono HB2.out.size)))
  have HO3 := Lib.hid hown3
  have HS3 := Lib.hid hsrcb
  have HB3 := Lib.hid hb3
  have HG3 := Lib.hid hown3ge
  clear hown3 hext3 hnn3 hsrcb hb3 h20 HE HS hown3ge
  go_wp2_with (at_builtin; refine wpList_src _ rfl (.tmp 19) (.tmp 20) 22 rfl 5 i0 (.int .u8 0) 1 1 Try.underlying22 hi hz0 hz1 hz2 rfl (by decide) _ _ _ rfl HO3.out _ _ _ rfl HS3.out ?d1 ?d2 ?d3 ?d4 ?_)
  case d1 => simp [u8s]
  case d2 => exact u8s_one _
  case d3 => unfold maxLen; omega
  case d4 => omega
  intro v4 w4 hown4 hext4 hnn4
  have hb4 : Below w2.heap.size w3 w4 := hext4.belowOf HB3.out.size HG3.out
  have hr4 : (tSlice tByte).R (Under w4.heap.size) w4 [v4] (WM.num n ++ b) := bytes_of_row (by simpa [u8s] using hown4)
  have HR4 := Lib.hid (getNum_any _ _ _ _ hr4)
  have e4 := WM.getNum_num n hn.1 hn.2 b
  have hb24 : Below w2.heap.size w2 w4 := HB3.out.trans hb4
  have HB24 := Lib.hid hb24
  have HE4 := Lib.hid e4
  clear hown4 hext4 hnn4 hr4 hb4 hb24 e4 HS3 HO3 HB3 HG3 hnn3'
  go_wp2_with fail
  refine HR4.out.mono ?_
  rintro e w5 ⟨rfl, rfl⟩
  rw [HE4.out]
  clear HE4 HR4
  have hr5 : (tSlice tByte).R (Under w4.heap.size) w4 [.slice (some ⟨g2, 0, none⟩) ((WM.num n).length - 1) c2] (WM.num n).dropLast := by
    have h := (tSlice tByte).below HR2.out HB24.out
    have := tSlice_take h ((WM.num n).length - 1) (by omega)
    rwa [← List.dropLast_eq_take] at this
  have HG5 := Lib.hid (getNum_any _ _ _ _ hr5)
  clear hr5
  go_wp2_with fail
  refine HG5.out.mono ?_
  rintro e w5 ⟨rfl, rfl⟩
  rw [WM.getNum_cut n]
  have hb4 : Below w.heap.size w w4 := HB2.out.trans (HB24.out.mono HB2.out.size)
  have hrb := (tSlice tByte).below HB.out hb4
  have hg6 := getNum_any _ _ _ _ hrb
  have herr := WM.getFrom_err b 0 0
  have hok := WM.getNum_ok b
  have hx64 := WM.getNum_i64 b
  rw [show WM.getFrom 0 0 b = WM.getNum b from rfl] at herr
  generalize WM.getNum b = g at *
  obtain ⟨x, k, er⟩ := g
  simp only at hg6 herr hok hx64
  have HG6 := Lib.hid hg6
  have HB4 := Lib.hid hb4
  have HRB := Lib.hid hrb
  clear hg6 HG5 HR2 HB24 HB2 hb4 hrb
  by_cases he : er = 0
  · subst he
    obtain ⟨k, hk, hk1, rfl, hnum⟩ := hok rfl
    have hx64i : I64 x := hx64 rfl
    clear hok hx64
    clear herr
    go_wp2_with fail
    refine HG6.out.mono ?_
    rintro e w6 ⟨rfl, rfl⟩
    have hbne : b ≠ [] := by intro h; subst h; simp at hk; omega
    obtain ⟨bb, off, cap, rfl, hle, hcm, hS, hcb⟩ := byte_cells HRB.out hbne
    have hpre : ∀ W, Below w.heap.size w W → (convert 22 9 (.slice (some ⟨bb, off, none⟩) k cap)).run Try.prog W = .ok (.string ⟨(b.take k).toArray⟩) W := fun W hW =>
      conv_row (tSlice_take ((tSlice tByte).below HB.out hW) k hk) (by rw [← hnum]; exact WM.enc_ne 9 _)
    have HP := Lib.hid hpre
    have hlne : b.take k ≠ [] := by rw [← hnum]; exact WM.enc_ne 9 _
    have hkc : k ≤ cap := by omega
    have HN := Lib.hid (fun W => num_nil W x hx64i)
    rw [hnum] at HN
    clear hcb hpre hnum hS HG6 HRB
    generalize b.take k = l at *
    go_wp2_with fail
    refine wp_region_grow
      [([(7, none)], none), ([(67, some 0)], none), ([(68, some 1)], none),
  ([(7, none), (69, some 2)], some (69, true)), ([(1, none), (69, some 2)], some (69, true)),
  ([(71, some 4), (69, some 2)], some (69, true)), ([(70, some 3), (72, some 5), (69, some 2)], some (69, true)),
  ([(69, some 2), (73, some 6)], none), ([(74, some 7)], none), ([(6, none), (75, some 8)], some (75, true)),
  ([(76, some 9), (75, some 8)], some (75, true)), ([(77, some 10), (75, some 8)], some (75, true)),
  ([(1, none), (75, some 8)], some (75, true)), ([(7, none), (75, some 8)], some (75, true)),
  ([(79, some 12), (80, some 13), (75, some 8)], some (75, true)), ([(81, some 14), (75, some 8)], some (75, true)),
  ([(78, some 11), (82, some 15), (75, some 8)], some (75, true)), ([(75, some 8), (83, some 16)], none),
  ([(84, some 17)], none)]
      [fun v _ => v = .int .i64 k, fun v _ => v = .bool true, fun v _ => v = .bool true, fun v _ => v = .int .i64 k, fun v _ => v = .slice (some ⟨bb, off, none⟩) b.length cap,
       fun v _ => v = .int .i64 b.length, fun v _ => v = .bool true, fun v _ => v = .bool true, fun v _ => v = .bool true, fun v _ => v = .int .i64 x,
       fun v W => (tSlice tByte).R (Under W.heap.size) W [v] l, fun v _ => v = .string ⟨l.toArray⟩, fun v _ => v = .slice (some ⟨bb, off, none⟩) b.length cap, fun v _ => v = .int .i64 k,
       fun v _ => v = .slice (some ⟨bb, off, none⟩) k cap, fun v _ => v = .string ⟨l.toArray⟩, fun v _ => v = .bool true, fun v _ => v = .bool true, fun v _ => v = .bool true]
      (by kernel_rfl) (by kernel_rfl) (by kernel_rfl) (by kernel_rfl) rfl ?st ?steps ?fin
    case st =>
      simp only [stableAll, and_true]
      refine ⟨?_, ?_, ?_, ?_, ?_, ?_, ?_, ?_, ?_, ?_, ?_, ?_, ?_, ?_, ?_, ?_, ?_, ?_, ?_⟩
      all_goals intro v W W' h hle
      all_goals first | exact h | exact (tSlice tByte).below h hle
    case steps =>
      simp only [rowSteps, and_true]
      refine ⟨?_, ?_, ?_, ?_, ?_, ?_, ?_, ?_, ?_, ?_, ?_, ?_, ?_, ?_, ?_, ?_, ?_, ?_, ?_⟩
      all_goals (intro ev W hc hgl hfn hle hk)
      all_goals simp [knownRow, knowAt] at hk
      all_goals go_simp
      · omega
      · exact HN.out W
      · rw [conv_row hk.1 hlne]
        go_simp
      · rw [HP.out W (HB4.out.drew.trans (Below.mono hle HB4.out.drew.size))]
        go_simp
    case fin =>
      intro W hle
      simp only [flowEnd, forall_eq]
      intro v _
      go_simp
      have HW := Lib.hid (HB4.out.drew.trans (Below.mono hle HB4.out.drew.size))
      clear hle HB HN HP
      go_wp2
      go_ret
      exact ⟨rfl, HW.out⟩
  · obtain ⟨rfl, rfl⟩ := herr he
    have he' : (er == 0) = false := by simpa using he
    clear hok hx64
    go_wp2_with fail
    refine HG6.out.mono ?_
    rintro e w6 ⟨rfl, rfl⟩
    go_wp2
    go_ret
    exact ⟨rfl, HB4.out⟩
end Go.Proofs.Ytckhbfbbpdjmdaa