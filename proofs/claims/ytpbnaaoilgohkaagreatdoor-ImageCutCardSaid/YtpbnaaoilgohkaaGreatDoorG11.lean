/- The number that bytes begin with. The text that bytes begin with. The readers: numbers, texts, counts. The readers: numbers, texts, counts, in the machine. The readers: values. The writer: programs. What a call is handed is read by value from then on, in part. Lists of values, and of cells, that are the same; and that may be. The laws' first question, asked of closed facts. The machine: Pack. The machine: Pack, all of it. An agent's bytes. Right agents, that go on or are away: what is asked of them, and how they pass into one another. -/
import Derived.Test.YtpbnaaoilgohkaaGreatDoorG10
import Derived.Test.YtpbnaaoilgohkaaGreatDoorG9
import Derived.Test.YtpbnaaoilgohkaaGreatDoorG8
set_option linter.unusedSimpArgs false
set_option linter.unusedVariables false
set_option maxRecDepth 8000
namespace Go.Proofs.YtpbnaaoilgohkaaGreatDoor
open Go Go.RowKit
theorem zapq {b : Str} {i : Nat} (h : i < b.length) : (bsR b)[i]? = some [.int .u8 (b[i].toNat : Int)] := by simp [bsR, h]
theorem min7 {i : Nat} (h : i ≤ 9) : min ((7 : Int) * i).toNat IntKind.u64.bits = 7 * i := by
  have : IntKind.u64.bits = 64 := rfl
  omega
theorem zann (u : Nat) : ((u : Nat) : Int).fdiv 2 = (u : Int) / 2 := Int.fdiv_eq_ediv_of_nonneg _ (by omega)
set_option maxRecDepth 20000 in
set_option maxHeartbeats 2000000 in
theorem zwm (b : Str) (hb : b.length ≤ 4611686018427387904) : QC Tryz.prog 48 [.ro (bsR b)] (.tup [.int .i64 (WM.getNum b).1, .int .i64 (WM.getNum b).2.1, .int .i64 (WM.getNum b).2.2]) := by
  refine QC.of' fun H nx => ?_
  suffices main : ∀ Q : AV → Heap → Nat → Prop, (∀ H' n', Keep nx H' H → Q (.tup [.int .i64 (WM.getNum b).1, .int .i64 (WM.getNum b).2.1, .int .i64 (WM.getNum b).2.2]) H' n') → za Tryz.prog 48 [.ro (bsR b)] H nx Q from
    main _ fun H' n' h => ⟨.same _ (.tup _ fun j v hv => by
      match j, hv with
      | 0, hv => cases hv; exact .int _ _
      | 1, hv => cases hv; exact .int _ _
      | 2, hv => cases hv; exact .int _ _
      | j + 3, hv => simp at hv), h⟩
  intro Q hQ
  refine zuv _ H nx _ ?_
  simp [zpo, zbb]
  refine LP.mk (fun k xs H' n' => ∃ (i u : Nat), k = b.length - i ∧ i ≤ b.length ∧ i ≤ 9 ∧ xs = [.int .u64 u, .ro (bsR b), .int .i64 b.length, .int .i64 i] ∧ u < 2 ^ (7 * i) ∧ WM.getFrom i u (b.drop i) = WM.getNum b ∧ Keep nx H' H) b.length ⟨0, 0, rfl, by omega, by omega, rfl, by simp, rfl, fun _ _ => rfl⟩ ?_
  rintro k xs H' n' ⟨i, u, rfl, hil, hi9, rfl, hu, hf, hk⟩
  suffices key : ∀ K : J3, (∀ (u : Nat), i + 1 ≤ b.length → i + 1 ≤ 9 → u < 2 ^ (7 * (i + 1)) → WM.getFrom (i + 1) u (b.drop (i + 1)) = WM.getNum b → K [.int .u64 u, .ro (bsR b), .int .i64 b.length, .int .i64 (i + 1 : Nat)] H' n') →
      zaz Q K [.int .u64 u, .ro (bsR b), .int .i64 b.length, .int .i64 i] H' n' from
    key _ fun u h1 h2 h3 h4 => ⟨b.length - (i + 1), by omega, i + 1, u, rfl, h1, h2, rfl, h3, h4, hk⟩
  intro K hK
  have fin := hQ H' n' hk
  rw [← hf] at fin
  by_cases hlt : i < b.length
  · have hadd : IntKind.i64.wrap ((i : Int) + 1) = ((i + 1 : Nat) : Int) := by rw [i64w (by omega)]; rfl
    have h7 : IntKind.i64.wrap (7 * (i : Int)) = 7 * i := i64w (by omega)
    have hcell := zapq hlt
    have hcd : b.drop i = b[i] :: b.drop (i + 1) := List.drop_eq_getElem_cons hlt
    rw [hcd] at hf fin
    have hc := b[i].toNat_lt
    generalize b[i] = cc at *
    have hin : i < (bsR b).length := by rw [zbb]; exact hlt
    have hs9 : ¬ (9 : Int) < i := by omega
    have hi0 : ¬ 9 < i := by omega
    by_cases hr : i = 9 ∧ 1 < cc.toNat
    · have e : WM.getFrom i u (cc :: b.drop (i + 1)) = (0, 0, 3) := by unfold WM.getFrom; rw [if_pos (.inr hr)]
      rw [e] at fin
      have hr1 : (i : Int) = 9 := by omega
      have hr3 : (1 : Int) < cc.toNat := by omega
      simp [zaz, hlt, hcell, hs9, hr3]
      exact ⟨hin, fun _ => fin, fun h => absurd hr1 h⟩
    have h9 : i = 9 → cc.toNat ≤ 1 := fun h => by
      have : ¬ 1 < cc.toNat := fun h2 => hr ⟨h, h2⟩
      omega
    have st := zalj i u cc.toNat hi9 hu (by omega) h9
    have sl := zadj i u cc.toNat hi9 hu (by omega) h9
    have sn := zaaa i u cc.toNat hu
    have e0 : WM.getFrom i u (cc :: b.drop (i + 1)) = if 128 ≤ cc.toNat then WM.getFrom (i + 1) (u + cc.toNat % 128 * 2 ^ (7 * i)) (b.drop (i + 1)) else if cc.toNat = 0 ∧ 0 < i then (0, 0, 2) else (WM.zag (u + cc.toNat % 128 * 2 ^ (7 * i)), (i : Int) + 1, 0) := by
      conv => lhs; unfold WM.getFrom
      rw [if_neg (fun h => h.elim hi0 hr)]
    rw [e0] at fin hf
    generalize hq : u + cc.toNat % 128 * 2 ^ (7 * i) = q at *
    generalize cc.toNat = m at *
    have hm7 := min7 hi9
    by_cases h128 : 128 ≤ m
    · rw [if_pos h128] at hf
      have h128' : (128 : Int) ≤ m := by omega
      have i9 : ¬ i = 9 := fun h => by have := h9 h; omega
      have i9' : ¬ (i : Int) = 9 := by omega
      have hk2 := hK q (by omega) (by omega) sn hf
      have h70 : (0 : Int) ≤ 7 * i := by omega
      have hcast : ((i + 1 : Nat) : Int) = (i : Int) + 1 := by omega
      rw [hcast] at hk2 hadd
      simp [zaz, hlt, hcell, hs9, i9', h128', h7, hm7, st, hadd]
      exact ⟨hin, h70, hk2⟩
    · rw [if_neg h128] at fin
      have h128' : ¬ (128 : Int) ≤ m := by omega
      have h9' : ¬ (1 : Int) < m ∨ ¬ (i : Int) = 9 := by omega
      have h70 : (0 : Int) ≤ 7 * i := by omega
      have p1 : (2 : Int) ^ min (1 : Nat) IntKind.u64.bits = 2 := rfl
      have hw64 : IntKind.i64.wrap ((q : Int) / 2) = wrap64 ((q : Int) / 2) := by rw [IntKind.wrap_i64]; unfold wrap64; rfl
      have hcast : ((i + 1 : Nat) : Int) = (i : Int) + 1 := by omega
      rw [hcast] at hadd
      have sg : IntKind.i64.signed = true := rfl
      by_cases hz : m = 0 ∧ 0 < i
      · rw [if_pos hz] at fin
        obtain ⟨rfl, hz2⟩ := hz
        simp [zaz, hlt, hcell, hs9, h7, h70]
        exact ⟨hin, fun _ => fin, fun h => absurd h (by omega)⟩
      · rw [if_neg hz] at fin
        by_cases hodd : q % 2 = 1
        · have o1 := zang q sl hodd
          have o2 := zanx q sl hodd
          simp only [beq_iff_eq] at o1
          simp [zaz, hlt, hcell, hs9, h128', h7, hm7, st, hadd, p1, zann, hw64, sg, o1, o2, h70]
          exact ⟨hin, fun h => ⟨fun h1 => absurd h1 (by have := h9 (by omega); omega), fun _ => ⟨fun h2 => ⟨fun h3 => absurd ⟨h2, h3⟩ hz, fun _ => fin⟩, fun _ => fin⟩⟩, fun _ => ⟨fun h2 => ⟨fun h3 => absurd ⟨h2, h3⟩ hz, fun _ => fin⟩, fun _ => fin⟩⟩
        · have o1 := zajw q sl hodd
          have o2 := zaka q sl hodd
          have o1' : ¬ bits BinOp.and IntKind.u64 (q : Int) 1 = 1 := by simpa using o1
          simp [zaz, hlt, hcell, hs9, h128', h7, hm7, st, hadd, p1, zann, hw64, o1', o2, h70]
          exact ⟨hin, fun h => ⟨fun h1 => absurd h1 (by have := h9 (by omega); omega), fun _ => ⟨fun h2 => ⟨fun h3 => absurd ⟨h2, h3⟩ hz, fun _ => fin⟩, fun _ => fin⟩⟩, fun _ => ⟨fun h2 => ⟨fun h3 => absurd ⟨h2, h3⟩ hz, fun _ => fin⟩, fun _ => fin⟩⟩
  · obtain rfl : i = b.length := by omega
    rw [List.drop_length] at fin
    simp [zaz]
    exact fin
end Go.Proofs.YtpbnaaoilgohkaaGreatDoor
set_option maxRecDepth 8000
namespace Go.Proofs.YtpbnaaoilgohkaaGreatDoor
open Go Go.RowKit
section
variable {ki kj : IntKind}
theorem zafu {s : Nat} {xs : List (List AV)} {a b : Int} {H : Heap} {k : AV → Prop} (hs : ∀ x ∈ xs, x.length = s) (h0 : 0 ≤ a) (h1 : a ≤ b) (h2 : b ≤ xs.length) (hk : k (.ro ((xs.take b.toNat).drop a.toNat))) : SL s (.ro xs) (some (.int ki a)) (some (.int kj b)) H k := by
  simp only [SL, zby, lohi, PURE, qk]
  exact ⟨h0, h1, h2, hs, hk⟩
end
theorem zvk : ∀ s : Str, bytesOf? (bsV s) = some s
  | [] => rfl
  | c :: r => by
    have ih := zvk r
    simp only [bsV] at ih
    simp [bsV, bytesOf?, ih]
theorem zacf {s : Str} {H : Heap} {k : AV → Prop} (hk : k (.str s)) : CBS (.ro (bsR s)) H k := by
  have e : ze 1 H (.ro (bsR s)) = some (s.length, bsV s, []) := by
    simp only [ze, zbb, zrw]
    rw [if_pos]
    simpa using zjz s
  simp only [CBS, zks, e, zvk, qk]
  exact hk
theorem zaov (b : Str) (i j : Nat) : ((bsR b).take j).drop i = bsR ((b.take j).drop i) := by simp [bsR]
theorem zajs {A : Nat → Prop} (a : Str) (b c : Int) : Bel A (.tup [.str a, .int .i64 b, .int .i64 c]) := .tup _ fun j v hv => by
  match j, hv with
  | 0, hv => cases hv; exact .str _
  | 1, hv => cases hv; exact .int _ _
  | 2, hv => cases hv; exact .int _ _
  | j + 3, hv => simp at hv
theorem zaoo {n nx : Nat} {a : Str} {b c : Int} {H' H : Heap} (h : Keep nx H' H) : Frz H' n (.tup [.str a, .int .i64 b, .int .i64 c]) (.tup [.str a, .int .i64 b, .int .i64 c]) ∧ Keep nx H' H := ⟨.same _ (zajs a b c), h⟩
set_option maxRecDepth 20000 in
set_option maxHeartbeats 2000000 in
theorem zacv (b : Str) (most : Int) (hb : b.length ≤ 4611686018427387904) : QC Tryz.prog 75 [.ro (bsR b), .int .i64 most] (.tup [.str (WM.getText b most).1, .int .i64 (WM.getText b most).2.1, .int .i64 (WM.getText b most).2.2]) := by
  refine QC.of' fun H nx => ?_
  suffices main : ∀ Q : AV → Heap → Nat → Prop, (∀ H' n', Keep nx H' H → Q (.tup [.str (WM.getText b most).1, .int .i64 (WM.getText b most).2.1, .int .i64 (WM.getText b most).2.2]) H' n') → za Tryz.prog 75 [.ro (bsR b), .int .i64 most] H nx Q from
    main _ fun H' n' h => zaoo h
  intro Q hQ
  refine ztb _ _ H nx _ ?_
  unfold znq
  refine QC.call (zwm b hb) ?_
  have fin := hQ H nx fun _ _ => rfl
  unfold WM.getText at fin
  by_cases h1 : (WM.getNum b).2.2 = 0
  case neg =>
    rw [if_pos h1] at fin
    simp [zck, h1]
    exact fin
  rw [if_neg (fun h => h h1)] at fin
  obtain ⟨k, hk, hk1, hn, _⟩ := WM.getNum_ok b h1
  by_cases h2 : (WM.getNum b).1 < 0
  · rw [if_pos (.inl h2)] at fin
    simp [zck, h1, h2]
    exact fin
  by_cases h3 : most < (WM.getNum b).1
  · rw [if_pos (.inr h3)] at fin
    simp [zck, h1, h2, h3]
    exact fin
  rw [if_neg (fun h => h.elim h2 h3)] at fin
  rw [hn] at fin
  generalize (WM.getNum b).1 = n at *
  have hw : IntKind.i64.wrap ((b.length : Int) - k) = (b.length : Int) - k := i64w (by omega)
  by_cases h4 : (b.length : Int) - k < n
  · rw [if_pos h4] at fin
    simp [zck, h1, hn, h2, h3, zbb, hw, h4]
    exact fin
  · rw [if_neg h4] at fin
    have hw2 : IntKind.i64.wrap ((k : Int) + n) = (k : Int) + n := i64w (by omega)
    simp [zck, h1, hn, h2, h3, zbb, hw, h4, hw2]
    refine zafu (zjz b) (by omega) (by omega) (by rw [zbb]; omega) ?_
    rw [zaov]
    refine zacf ?_
    have e : (b.take ((k : Int) + n).toNat).drop ((k : Int)).toNat = (b.drop ((k : Int)).toNat).take n.toNat := by
      rw [List.drop_take]; congr 1; omega
    rw [e]
    exact fin
end Go.Proofs.YtpbnaaoilgohkaaGreatDoor
set_option maxRecDepth 8000
namespace Go.Proofs.YtpbnaaoilgohkaaGreatDoor
open Go Go.RowKit
namespace VM
def rdNum (st : St) : Int × St := if st.2 ≠ 0 then (0, st) else if (WM.getNum st.1).2.2 ≠ 0 then (0, (st.1, (WM.getNum st.1).2.2)) else ((WM.getNum st.1).1, (st.1.drop (WM.getNum st.1).2.1.toNat, 0))
def rdText (most : Int) (st : St) : Str × St := if st.2 ≠ 0 then ([], st) else if (WM.getText st.1 most).2.2 ≠ 0 then ([], (st.1, (WM.getText st.1 most).2.2)) else ((WM.getText st.1 most).1, (st.1.drop (WM.getText st.1 most).2.1.toNat, 0))
def rdFail (e : Int) (st : St) : St := if st.2 = 0 then (st.1, e) else st
def rdCount (most : Int) (st : St) : Int × St := if (rdNum st).1 < 0 ∨ most < (rdNum st).1 then (0, rdFail 4 (rdNum st).2) else rdNum st
theorem goes_num (st : St) : Goes rNum st (rdNum st).1 (rdNum st).2 := by
  refine ⟨fun h => by unfold rdNum; rw [if_pos h], fun h x r hr => ?_, fun h e hr => ?_⟩
  · unfold rNum at hr
    unfold rdNum
    rw [if_neg (fun h2 => h2 h)]
    split at hr
    · cases hr
    · rename_i h1; rw [if_neg h1]; cases hr; exact ⟨rfl, rfl⟩
  · unfold rNum at hr
    unfold rdNum
    rw [if_neg (fun h2 => h2 h)]
    split at hr
    · rename_i h1; rw [if_pos h1]; cases hr; exact ⟨h1, rfl⟩
    · cases hr
theorem goes_text (most : Int) (st : St) : Goes (rText most) st (rdText most st).1 (rdText most st).2 := by
  refine ⟨fun h => by unfold rdText; rw [if_pos h], fun h x r hr => ?_, fun h e hr => ?_⟩
  · unfold rText at hr
    unfold rdText
    rw [if_neg (fun h2 => h2 h)]
    split at hr
    · cases hr
    · rename_i h1; rw [if_neg h1]; cases hr; exact ⟨rfl, rfl⟩
  · unfold rText at hr
    unfold rdText
    rw [if_neg (fun h2 => h2 h)]
    split at hr
    · rename_i h1; rw [if_pos h1]; cases hr; exact ⟨h1, rfl⟩
    · cases hr
theorem goes_count (most : Int) (st : St) : Goes (rCount most) st (rdCount most st).1 (rdCount most st).2 := by
  have g := goes_num st
  unfold rdCount
  refine ⟨fun h => ?_, fun h x r hr => ?_, fun h e hr => ?_⟩
  · have h1 := g.stuck h
    split
    · show (rdFail 4 (rdNum st).2).2 = st.2
      unfold rdFail
      rw [if_neg (by rw [h1]; exact h)]; exact h1
    · exact h1
  · unfold rCount at hr
    split at hr
    · rename_i n r' hm
      obtain ⟨e1, e2⟩ := g.good h _ _ hm
      rw [e1, e2]
      split at hr
      · cases hr
      · rename_i h2
        cases hr
        rw [if_neg h2]
        exact ⟨e1, e2⟩
    · cases hr
  · unfold rCount at hr
    split at hr
    · rename_i n r' hm
      obtain ⟨e1, e2⟩ := g.good h _ _ hm
      rw [e1, e2]
      split at hr
      · rename_i h2
        cases hr
        rw [if_pos h2]
        exact ⟨by omega, by unfold rdFail; rw [if_pos rfl]⟩
      · cases hr
    · rename_i e' hm
      cases hr
      obtain ⟨h1, h2⟩ := g.bad h _ hm
      refine ⟨h1, ?_⟩
      split
      · show (rdFail 4 (rdNum st).2).2 = e
        unfold rdFail
        rw [if_neg (by rw [h2]; exact h1)]; exact h2
      · exact h2
theorem Goes.snoc {α : Type} {m : Rd α} {st st1 st2 : St} {l : List α} {a : α} : ∀ {n : Nat}, Goes (rMany m n) st l st1 → Goes m st1 a st2 → Goes (rMany m (n + 1)) st (l ++ [a]) st2 := by
  have key : ∀ (n : Nat) (b : Str), rMany m (n + 1) b = match rMany m n b with
      | .no e => .no e
      | .ok l r => match m r with
        | .no e => .no e
        | .ok a r => .ok (l ++ [a]) r := by
    have eq : ∀ (k : Nat) (b : Str), rMany m (k + 1) b = match m b with | .ok a r => (match rMany m k r with | .ok l r => .ok (a :: l) r | .no e => .no e) | .no e => .no e := by
      intro k b
      show Rd.bind m (fun a => Rd.bind (rMany m k) fun l => Rd.pure (a :: l)) b = _
      unfold Rd.bind
      cases m b with
      | no e => rfl
      | ok a r =>
        simp only
        cases rMany m k r with
        | no e => rfl
        | ok l r2 => rfl
    intro n
    induction n with
    | zero =>
      intro b
      show Rd.bind m (fun a => Rd.bind (Rd.pure []) fun l => Rd.pure (a :: l)) b = match m b with | .no e => .no e | .ok a r => .ok ([] ++ [a]) r
      unfold Rd.bind
      cases m b with
      | ok a r => rfl
      | no e => rfl
    | succ n ih =>
      intro b
      rw [eq (n + 1) b, eq n b]
      cases m b with
      | no e => rfl
      | ok a r =>
        simp only
        rw [ih r]
        cases rMany m n r with
        | no e => rfl
        | ok l r2 =>
          simp only
          cases m r2 with
          | no e => rfl
          | ok c r3 => rfl
  intro n h h2
  refine ⟨fun he => ?_, fun he x r hr => ?_, fun he e hr => ?_⟩
  · have h1 := h.stuck he
    rw [← h1]; exact h2.stuck (by rw [h1]; exact he)
  · rw [key] at hr
    split at hr
    · cases hr
    · rename_i l' r' hm
      obtain ⟨rfl, rfl⟩ := h.good he _ _ hm
      split at hr
      · cases hr
      · rename_i a' r2 hm2
        obtain ⟨rfl, rfl⟩ := h2.good rfl _ _ hm2
        cases hr
        exact ⟨rfl, rfl⟩
  · rw [key] at hr
    split at hr
    · rename_i e' hm
      cases hr
      obtain ⟨h1, h3⟩ := h.bad he _ hm
      refine ⟨h1, ?_⟩
      rw [← h3]; exact h2.stuck (by rw [h3]; exact h1)
    · rename_i l' r' hm
      obtain ⟨rfl, rfl⟩ := h.good he _ _ hm
      split at hr
      · rename_i e' hm2
        cases hr
        exact h2.bad rfl _ hm2
      · cases hr
end VM
end Go.Proofs.YtpbnaaoilgohkaaGreatDoor
set_option maxRecDepth 8000
namespace Go.Proofs.YtpbnaaoilgohkaaGreatDoor
open Go Go.RowKit
def PRd (st : VM.St) : AObj := .row 2 [.ro (bsR st.1), .int .i64 st.2]
theorem zla {H : Heap} {g : Nat} {o : AObj} (h : H g = some o) : H.put g (some o) = H := by
  funext y
  by_cases hy : y = g
  · subst hy; rw [Heap.put_at, h]
  · rw [Heap.put_ne _ _ hy]
theorem zahz {ki : IntKind} {b : Str} {k : Nat} {H : Heap} {kk : AV → Prop} (h : k ≤ b.length) (hk : kk (.ro (bsR (b.drop k)))) : SL 1 (.ro (bsR b)) (some (.int ki (k : Int))) none H kk := by
  simp only [SL, zby, lohi, PURE, qk, Int.toNat_natCast, List.take_length]
  refine ⟨by omega, by rw [zbb]; omega, Int.le_refl _, zjz b, ?_⟩
  have e : (bsR b).drop k = bsR (b.drop k) := by simp [bsR]
  rw [e]; exact hk
theorem zagr {b : Str} {most : Int} (h : (WM.getText b most).2.2 = 0) : ∃ k : Nat, k ≤ b.length ∧ (WM.getText b most).2.1 = (k : Int) := by
  unfold WM.getText at h ⊢
  by_cases h1 : (WM.getNum b).2.2 ≠ 0
  · rw [if_pos h1] at h; exact absurd h h1
  rw [if_neg h1] at h ⊢
  obtain ⟨k, hk, _, hn, _⟩ := WM.getNum_ok b (Classical.not_not.1 h1)
  by_cases h2 : (WM.getNum b).1 < 0 ∨ most < (WM.getNum b).1
  · rw [if_pos h2] at h; simp at h
  rw [if_neg h2] at h ⊢
  by_cases h3 : (b.length : Int) - (WM.getNum b).2.1 < (WM.getNum b).1
  · rw [if_pos h3] at h; simp at h
  rw [if_neg h3]
  exact ⟨k + (WM.getNum b).1.toNat, by omega, by simp only [hn]; omega⟩
section
variable {p n : Nat} {st : VM.St} {H : Heap} {Q : AV → Heap → Nat → Prop}
theorem zhq {e : Int} (hg : H p = some (PRd st)) (hq : Q (.tup []) (H.put p (some (PRd (VM.rdFail e st)))) n) : za Tryz.prog 24 [.ptr p 0, .int .i64 e] H n Q := by
  refine znh _ _ H n _ ?_
  have hg' := hg
  unfold PRd at hg'
  unfold VM.rdFail at hq
  by_cases h : st.2 = 0
  · rw [if_pos h] at hq
    simp [zea, hg', h]
    simpa [PRd] using hq
  · rw [if_neg h, zla hg] at hq
    simp [zea, hg', h]
    exact hq
set_option maxHeartbeats 1000000 in
theorem zbt (hg : H p = some (PRd st)) (hb : st.1.length ≤ 4611686018427387904) (hq : Q (.int .i64 (VM.rdNum st).1) (H.put p (some (PRd (VM.rdNum st).2))) n) : za Tryz.prog 19 [.ptr p 0] H n Q := by
  refine zpe _ H n _ ?_
  have hg' := hg
  unfold PRd at hg'
  unfold VM.rdNum at hq
  by_cases h : st.2 = 0
  case neg =>
    rw [if_pos h, zla hg] at hq
    simp [zej, hg', h]
    exact hq
  rw [if_neg (fun h2 => h2 h)] at hq
  simp [zej, hg', h]
  refine QC.call (zwm st.1 hb) ?_
  by_cases h1 : (WM.getNum st.1).2.2 = 0
  case neg =>
    rw [if_pos h1] at hq
    simp [zek, h1]
    refine zhq hg ?_
    unfold VM.rdFail
    rw [if_pos h]
    simp [zjk]
    exact hq
  rw [if_neg (fun h2 => h2 h1)] at hq
  obtain ⟨k, hk, hk1, hn, _⟩ := WM.getNum_ok st.1 h1
  rw [hn, Int.toNat_natCast] at hq
  simp [zek, h1, hg', hn]
  refine zahz hk ?_
  simpa [PRd, h] using hq
set_option maxHeartbeats 1000000 in
theorem zabe {most : Int} (hg : H p = some (PRd st)) (hb : st.1.length ≤ 4611686018427387904) (hq : Q (.str (VM.rdText most st).1) (H.put p (some (PRd (VM.rdText most st).2))) n) : za Tryz.prog 49 [.ptr p 0, .int .i64 most] H n Q := by
  refine zng _ _ H n _ ?_
  have hg' := hg
  unfold PRd at hg'
  unfold VM.rdText at hq
  by_cases h : st.2 = 0
  case neg =>
    rw [if_pos h, zla hg] at hq
    simp [zdy, hg', h]
    exact hq
  rw [if_neg (fun h2 => h2 h)] at hq
  simp [zdy, hg', h]
  refine QC.call (zacv st.1 most hb) ?_
  by_cases h1 : (WM.getText st.1 most).2.2 = 0
  case neg =>
    rw [if_pos h1] at hq
    simp [zdz, h1]
    refine zhq hg ?_
    unfold VM.rdFail
    rw [if_pos h]
    simp [zjc]
    exact hq
  rw [if_neg (fun h2 => h2 h1)] at hq
  obtain ⟨k, hk, hn⟩ := zagr h1
  rw [hn, Int.toNat_natCast] at hq
  simp [zdz, h1, hg', hn]
  refine zahz hk ?_
  simpa [PRd, h] using hq
set_option maxHeartbeats 1000000 in
theorem zhv {most : Int} (hg : H p = some (PRd st)) (hb : st.1.length ≤ 4611686018427387904) (hq : Q (.int .i64 (VM.rdCount most st).1) (H.put p (some (PRd (VM.rdCount most st).2))) n) : za Tryz.prog 21 [.ptr p 0, .int .i64 most] H n Q := by
  refine zmu _ _ H n _ ?_
  unfold zic
  refine zbt hg hb ?_
  unfold VM.rdCount at hq
  have put2 : ∀ x y : Option AObj, (H.put p x).put p y = H.put p y := fun x y => by
    funext g
    by_cases hgp : g = p
    · subst hgp; rw [Heap.put_at, Heap.put_at]
    · rw [Heap.put_ne _ _ hgp, Heap.put_ne _ _ hgp, Heap.put_ne _ _ hgp]
  generalize VM.rdNum st = r at *
  by_cases h1 : r.1 < 0
  · rw [if_pos (.inl h1)] at hq
    simp [zcm, h1]
    refine zhq (st := r.2) (Heap.put_at _ _ _) ?_
    rw [put2]
    simp [zcn]
    exact hq
  by_cases h2 : most < r.1
  · rw [if_pos (.inr h2)] at hq
    simp [zcm, h1, h2]
    refine zhq (st := r.2) (Heap.put_at _ _ _) ?_
    rw [put2]
    simp [zcn]
    exact hq
  · rw [if_neg (fun h => h.elim h1 h2)] at hq
    simp [zcm, h1, h2]
    exact hq
end
end Go.Proofs.YtpbnaaoilgohkaaGreatDoor
set_option maxRecDepth 8000
namespace Go.Proofs.YtpbnaaoilgohkaaGreatDoor
open Go Go.RowKit
namespace VM
def rdVal (st : St) : Val × St := if (rdNum st).1 = 1 then (⟨(rdNum st).1, 0, (rdText 60 (rdNum st).2).1⟩, (rdText 60 (rdNum st).2).2) else (⟨(rdNum st).1, (rdNum (rdNum st).2).1, []⟩, (rdNum (rdNum st).2).2)
theorem goes_val (st : St) : Goes rVal st (rdVal st).1 (rdVal st).2 := by
  unfold rVal rdVal
  refine (goes_num st).bind ?_
  by_cases h : (rdNum st).1 = 1
  · rw [if_pos h, if_pos h]
    exact (goes_text 60 _).bind (Goes.pure _ _)
  · rw [if_neg h, if_neg h]
    exact (goes_num _).bind (Goes.pure _ _)
def rdMany {α : Type} (m : St → α × St) : Nat → St → List α × St
  | 0, st => ([], st)
  | n + 1, st => ((rdMany m n st).1 ++ [(m (rdMany m n st).2).1], (m (rdMany m n st).2).2)
theorem goes_many {α : Type} {r : Rd α} {m : St → α × St} (h : ∀ st, Goes r st (m st).1 (m st).2) : ∀ (n : Nat) (st : St), Goes (rMany r n) st (rdMany m n st).1 (rdMany m n st).2
  | 0, _ => Goes.pure _ _
  | n + 1, st => (goes_many h n st).snoc (h _)
theorem rdMany_len {α : Type} (m : St → α × St) : ∀ (n : Nat) (st : St), (rdMany m n st).1.length = n
  | 0, _ => rfl
  | n + 1, _ => by simp [rdMany, rdMany_len m n _]
def rdVals (most : Int) (st : St) : List Val × St := rdMany rdVal (rdCount most st).1.toNat (rdCount most st).2
def Short {α : Type} (m : St → α × St) : Prop := ∀ st, (m st).2.1.length ≤ st.1.length
theorem short_num : Short rdNum := fun st => by
  unfold rdNum
  split
  · exact Nat.le_refl _
  · split
    · exact Nat.le_refl _
    · simp only [List.length_drop]; omega
theorem short_text (most : Int) : Short (rdText most) := fun st => by
  unfold rdText
  split
  · exact Nat.le_refl _
  · split
    · exact Nat.le_refl _
    · simp only [List.length_drop]; omega
theorem short_count (most : Int) : Short (rdCount most) := fun st => by
  unfold rdCount
  have := short_num st
  split
  · show (rdFail 4 (rdNum st).2).1.length ≤ _
    unfold rdFail
    split <;> exact this
  · exact this
theorem short_val : Short rdVal := fun st => by
  unfold rdVal
  have h := short_num st
  split
  · exact Nat.le_trans (short_text 60 _) h
  · exact Nat.le_trans (short_num _) h
theorem short_many {α : Type} {m : St → α × St} (h : Short m) : ∀ n, Short (rdMany m n)
  | 0 => fun _ => Nat.le_refl _
  | n + 1 => fun st => Nat.le_trans (h _) (short_many h n st)
theorem short_vals (most : Int) : Short (rdVals most) := fun st => Nat.le_trans (short_many short_val _ _) (short_count most st)
theorem rdCount_range {most : Int} (h : 0 ≤ most) (st : St) : 0 ≤ (rdCount most st).1 ∧ (rdCount most st).1 ≤ most := by
  unfold rdCount
  split
  · exact ⟨by simp, by simpa using h⟩
  · omega
end VM
section
variable {g : Nat} {st st' : VM.St} {H : Heap} {n : Nat} {Q : QT}
theorem zacm (A : Nat → Prop) : BelO A (PRd st) := by
  intro i y hy
  match i with
  | 0 => simp at hy; subst hy; exact .ro _ fun _ x _ v hx hv => zcw (zack _ x (List.mem_of_getElem? hx) v (List.mem_of_getElem? hv))
  | 1 => simp at hy; subst hy; exact .int _ _
  | i + 2 => simp at hy
theorem za.rd {P : Program} {f : FuncId} {args : List AV} {r : AV} (hg : H g = some (PRd st)) (hraw : g < n → za P f args H n fun v H' _ => Frz H' n v r ∧ H' g = some (PRd st') ∧ ∀ y, y < n → y ≠ g → H' y = H y) (hq : Q r (H.put g (some (PRd st'))) n) : za P f args H n Q := by
  refine za.tidy fun hlive => ?_
  have hgn := hlive g _ hg
  refine (za.gc (R := fun v H' => v = r ∧ H' = H.put g (some (PRd st'))) (hraw hgn) fun v H' n' ⟨h1, h2, h3⟩ => ⟨r, _, ⟨rfl, rfl⟩, h1, fun y o ho => ?_⟩).mono fun v H' n' ⟨⟨h1, h2⟩, h3⟩ => by subst h1; subst h2; subst h3; exact hq
  by_cases hy : y = g
  · subst hy
    rw [Heap.put_at] at ho
    cases ho
    exact ⟨hgn, h2, .inr (zacm _)⟩
  · rw [Heap.put_ne _ _ hy] at ho
    exact ⟨hlive y o ho, by rw [h3 y (hlive y o ho) hy]; exact ho, .inl ho⟩
theorem LC.rd {f : FuncId} {args : List AV} {r : AV} (hg : H g = some (PRd st)) (hr : ∀ A : Nat → Prop, Bel A r)
    (h : ∀ (H : Heap) (n : Nat) (Q : QT), H g = some (PRd st) → Q r (H.put g (some (PRd st'))) n → za Tryz.prog f args H n Q) : LC Tryz.prog f args H [g] [] [(g, some (PRd st'))] r := by
  refine LC.of_calls (fun x hx => ?_) (by simp [domD]) (fun A _ _ => hr A) (fun A _ _ x o hx ho => ?_) fun H' n' ha => ?_
  · simp at hx; subst hx; rw [hg]; rfl
  · simp [domD] at hx; subst hx
    simp at ho
    subst ho
    exact zacm _
  · obtain ⟨a1, a2⟩ := ha g (by simp)
    refine h H' n' _ (a1.trans hg) ⟨rfl, Nat.le_refl _, fun x _ hx => ?_, fun x o hx ho => ?_⟩
    · simp [domD] at hx
      exact Heap.put_ne _ _ hx
    · simp [domD] at hx; subst hx
      simp at ho
      rw [Heap.put_at, ho]
theorem zt.rd {f : FuncId} {args : List AV} {r : AV} {kt : Kt} (hg : H g = some (PRd st)) (hr : ∀ A : Nat → Prop, Bel A r)
    (h : ∀ (H : Heap) (n : Nat) (Q : QT), H g = some (PRd st) → Q r (H.put g (some (PRd st'))) n → za Tryz.prog f args H n Q) (hk : kt r [g] [] [(g, some (PRd st'))]) : zt Tryz.prog (.clo f []) args H n kt :=
  ⟨_, [g], [], _, .inl rfl, by rw [List.append_nil]; exact LC.rd hg hr h, hk⟩
end
theorem put_put {H : Heap} {p : Nat} {x y : Option AObj} : (H.put p x).put p y = H.put p y := by
  funext g
  by_cases hgp : g = p
  · subst hgp; rw [Heap.put_at, Heap.put_at]
  · rw [Heap.put_ne _ _ hgp, Heap.put_ne _ _ hgp, Heap.put_ne _ _ hgp]
set_option maxRecDepth 20000 in
set_option maxHeartbeats 2000000 in
theorem ztn {p n : Nat} {st : VM.St} {H : Heap} {Q : QT} (hg : H p = some (PRd st)) (hb : st.1.length ≤ 4611686018427387904) (hq : Q (.agg (VM.rdVal st).1.avs) (H.put p (some (PRd (VM.rdVal st).2))) n) : za Tryz.prog 23 [.ptr p 0] H n Q := by
  refine za.rd hg (fun hpn => ?_) hq
  refine zmt _ H n _ ?_
  have sn := VM.short_num st
  unfold VM.rdVal
  have ne_0 : p ≠ n ∧ n ≠ p ∧ p ≠ n + 1 ∧ n + 1 ≠ p := ⟨by omega, by omega, by omega, by omega⟩
  simp [zhz]
  refine zbt (st := st) (by rw [Heap.put_ne _ _ (by omega)]; exact hg) hb ?_
  generalize VM.rdNum st = r at *
  by_cases h1 : r.1 = 1
  · have s2 := Nat.le_trans (VM.short_text 60 r.2) sn
    simp [zdr, h1]
    generalize hX : Heap.put _ (n + 1) _ = X
    have x0 : X p = some (PRd r.2) := by rw [← hX, Heap.put_ne _ _ (by omega), Heap.put_at]
    have x1 : X n = some (.row 3 [.int .i64 0, .int .i64 0, .str []]) := by rw [← hX, Heap.put_ne _ _ (by omega), Heap.put_ne _ _ (by omega), Heap.put_at]
    have x2 : X (n + 1) = some (.row 3 [.int .i64 1, .int .i64 0, .str []]) := by rw [← hX, Heap.put_at]
    have xk : ∀ y, y < n → y ≠ p → X y = H y := fun y h1 h2 => by rw [← hX, Heap.put_ne _ _ (by omega), Heap.put_ne _ _ h2, Heap.put_ne _ _ (by omega)]
    clear hX
    refine zabe x0 (by omega) ?_
    generalize VM.rdText 60 r.2 = q at *
    simp [zib, x1, x2, ne_0]
    refine ⟨rfl, fun y h2 h3 => ?_⟩
    rw [if_neg (by omega), if_neg (by omega), if_neg h3]
    exact xk y h2 h3
  · have s2 := Nat.le_trans (VM.short_num r.2) sn
    simp [zdr, h1]
    generalize hX : Heap.put _ (n + 1) _ = X
    have x0 : X p = some (PRd r.2) := by rw [← hX, Heap.put_ne _ _ (by omega), Heap.put_at]
    have x1 : X n = some (.row 3 [.int .i64 0, .int .i64 0, .str []]) := by rw [← hX, Heap.put_ne _ _ (by omega), Heap.put_ne _ _ (by omega), Heap.put_at]
    have x2 : X (n + 1) = some (.row 3 [.int .i64 r.1, .int .i64 0, .str []]) := by rw [← hX, Heap.put_at]
    have xk : ∀ y, y < n → y ≠ p → X y = H y := fun y h1 h2 => by rw [← hX, Heap.put_ne _ _ (by omega), Heap.put_ne _ _ h2, Heap.put_ne _ _ (by omega)]
    clear hX
    refine zbt x0 (by omega) ?_
    generalize VM.rdNum r.2 = q at *
    simp [zia, x1, x2, ne_0]
    refine ⟨rfl, fun y h2 h3 => ?_⟩
    rw [if_neg (by omega), if_neg (by omega), if_neg h3]
    exact xk y h2 h3
set_option maxRecDepth 20000 in
set_option maxHeartbeats 2000000 in
theorem zwt {p n : Nat} {st : VM.St} {most : Int} {H : Heap} {Q : QT} (hm : 0 ≤ most ∧ most ≤ 4096) (hg : H p = some (PRd st)) (hb : st.1.length ≤ 4611686018427387904) (hq : Q (.ro ((VM.rdVals most st).1.map Val.avs)) (H.put p (some (PRd (VM.rdVals most st).2))) n) : za Tryz.prog 22 [.ptr p 0, .int .i64 most] H n Q := by
  refine za.rd hg (fun hpn => ?_) hq
  refine zlw _ _ H n _ ?_
  unfold zhc
  refine zhv hg hb ?_
  have sc := VM.short_count most st
  have rg := VM.rdCount_range hm.1 st
  unfold VM.rdVals
  generalize VM.rdCount most st = c at *
  obtain ⟨k, hk⟩ := Int.eq_ofNat_of_zero_le rg.1
  rw [hk, Int.toNat_natCast]
  simp only [zhd]
  refine LP.mk (fun m xs H' n' => ∃ (i : Nat) (l : AV), m = k - i ∧ i ≤ k ∧ xs = [.ptr p 0, l, .int .i64 k, .int .i64 i] ∧ n ≤ n' ∧ H' p = some (PRd (VM.rdMany VM.rdVal i c.2).2) ∧ Slot H' 3 i (rowV (VM.rdMany VM.rdVal i c.2).1) l ∧ (∀ y ∈ own l, n ≤ y ∧ y < n') ∧ ∀ y, y < n → y ≠ p → H' y = H y) k ⟨0, .nils, rfl, by omega, rfl, Nat.le_refl _, Heap.put_at _ _ _, .inl ⟨rfl, .inl rfl⟩, by simp [own], fun y _ h2 => Heap.put_ne _ _ h2⟩ ?_
  rintro m xs H' n' ⟨i, l, rfl, hik, rfl, hn, hp, sl, ow, kp⟩
  have sm := Nat.le_trans (VM.short_many VM.short_val i c.2) sc
  by_cases hlt : i < k
  · have hadd : IntKind.i64.wrap ((i : Int) + 1) = ((i + 1 : Nat) : Int) := by rw [i64w (by omega)]; rfl
    have hlt' : (i : Int) < k := by omega
    simp [zdl, hlt]
    refine ztn hp (by omega) ?_
    have er : VM.rdMany VM.rdVal (i + 1) c.2 = ((VM.rdMany VM.rdVal i c.2).1 ++ [(VM.rdVal (VM.rdMany VM.rdVal i c.2).2).1], (VM.rdVal (VM.rdMany VM.rdVal i c.2).2).2) := rfl
    have ll := VM.rdMany_len VM.rdVal i c.2
    generalize VM.rdMany VM.rdVal i c.2 = q at *
    generalize hv : VM.rdVal q.2 = v at *
    simp [zhe, hadd]
    have lt : ∀ y ∈ own l, y < n' := fun y hy => (ow y hy).2
    have s1 : Slot ((H'.put p (some (PRd v.2))).put n' (some (.row 3 v.1.avs))) 3 i (rowV q.1) l := sl.keep fun y hy => by
      have := ow y hy
      rw [Heap.put_ne _ _ (by omega), Heap.put_ne _ _ (by omega)]
    refine s1.app (new := v.1.avs) (by rw [zabg]; omega) (Heap.put_at _ _ _) rfl (List.all_eq_true.2 fun c hc => zhp (zdj _ c hc)) (by omega) fun H2 h1 h2 => ?_
    have e1 : ((i + 1 : Nat) : Int) = (i : Int) + 1 := by omega
    refine ⟨k - (i + 1), by omega, i + 1, rfl, by omega, _, ⟨rfl, e1.symm⟩, by omega, ?_, ?_, fun y hy => ?_, fun y h3 h4 => ?_⟩
    · rw [h2 p (fun h => by have := ow p h; omega) (by omega), Heap.put_ne _ _ (by omega), Heap.put_at, er]
    · rw [er]
      refine Slot.full ?_ ?_
      · rw [h1, zvu]; simp [rowV]
      · rw [zabg]; simp; omega
    · have e : y = n' + 1 := by simpa [own] using hy
      omega
    · rw [h2 y (fun h => by have := ow y h; omega) (by omega), Heap.put_ne _ _ (by omega), Heap.put_ne _ _ h4]
      exact kp y h3 h4
  · obtain rfl : i = k := by omega
    have ll := VM.rdMany_len VM.rdVal i c.2
    generalize VM.rdMany VM.rdVal i c.2 = q at *
    simp [zdl]
    refine ⟨?_, hp, kp⟩
    subst ll
    exact sl.frzV fun y hy => (ow y hy).1
end Go.Proofs.YtpbnaaoilgohkaaGreatDoor
set_option maxRecDepth 8000
namespace Go.Proofs.YtpbnaaoilgohkaaGreatDoor
open Go Go.RowKit
structure zacq (p : Prg) : Prop where
  words : p.words.length ≤ 4096 ∧ ∀ w ∈ p.words, w.length ≤ 4096
  codes : p.codes.length ≤ 4096 ∧ ∀ c ∈ p.codes, c.ins.length ≤ 4096 ∧ I64 c.params ∧ I64 c.vars ∧ ∀ i ∈ c.ins, I64 i.op ∧ I64 i.a ∧ I64 i.b
theorem zyz (i : Ins) : VM.insB i = zy [i.op, i.a, i.b] := by simp [VM.insB, zy]
theorem zzk (c : Cod) : VM.codB c = zy [c.params, c.vars, (c.ins.length : Int)] ++ c.ins.flatMap VM.insB := by simp [VM.codB, zy]
theorem zabn (i : Ins) : (VM.insB i).length ≤ 30 := by rw [zyz]; exact zcs _
theorem zwc {c : Cod} (h : c.ins.length ≤ 4096) : (VM.codB c).length ≤ 200000 := by
  rw [zzk, List.length_append]
  have h1 := zcs [c.params, c.vars, (c.ins.length : Int)]
  have h2 := zct (l := c.ins) (f := VM.insB) (k := 30) fun i _ => zabn i
  simp only [List.length_cons, List.length_nil] at h1
  omega
set_option maxRecDepth 20000 in
set_option maxHeartbeats 4000000 in
theorem zacu {p g n : Nat} {l : AV} {bs : Str} {pr : Prg} {cs : List AV} {H : Heap} {Q : AV → Heap → Nat → Prop} (w : WrM p l bs H n) (sp : zacq pr) (hg : H g = some (.row 9 cs)) (hgp : g < p) (c2 : cs[2]? = some (.ro (pr.codes.map Cod.avs))) (c3 : cs[3]? = some (.ro (pr.words.map fun w => [.str w]))) (hb : bs.length ≤ 1000000000000)
    (hq : ∀ H' n' l', WExt p l H n l' (bs ++ VM.prgB pr) H' n' → Q (.tup []) H' n') : za Tryz.prog 29 [.ptr p 0, .ptr g 2] H n Q := by
  refine zkx _ _ H n _ ?_
  obtain ⟨⟨w1, w2⟩, c1, c4⟩ := sp
  have lt := w.lt
  have gk : ∀ {H' : Heap} {n' : Nat} {l' : AV} {bs' : Str}, WExt p l H n l' bs' H' n' → H' g = some (.row 9 cs) := fun e => (e.keep g (by omega) (by omega) fun h => by have := w.ow g h; omega).trans hg
  simp [zfu, hg, c3]
  refine w.ext.nums [(pr.words.length : Int)] (by simp; omega) (by simp; omega) fun H2 n2 l2 e2 _ => ?_
  have en : zy [(pr.words.length : Int)] = WM.num pr.words.length := by simp [zy]
  rw [en] at e2
  have nl := zad pr.words.length
  have g2 := gk e2
  simp [zfv, g2, c3]
  have hwl : ∀ s ∈ pr.words, (VM.textB s).length ≤ 4106 := fun s h => by have := zod s; have := w2 s h; omega
  refine LP.mk (fun k xs H' n' => ∃ (i : Nat) (l' : AV), k = pr.words.length - i ∧ i ≤ pr.words.length ∧ xs = [.ptr p 0, .ptr g 2, .ro (pr.words.map fun w => [.str w]), .int .i64 pr.words.length, .int .i64 i] ∧ WExt p l H n l' (bs ++ WM.num pr.words.length ++ (pr.words.take i).flatMap VM.textB) H' n') pr.words.length ⟨0, l2, rfl, by omega, rfl, by simpa using e2⟩ ?_
  rintro k xs H' n' ⟨i, l', rfl, hil, rfl, ext⟩
  have hft := zfr hwl hil
  have hp := ext.wr.row
  by_cases hlt : i < pr.words.length
  · have hadd : IntKind.i64.wrap ((i : Int) + 1) = ((i + 1 : Nat) : Int) := by rw [i64w (by omega)]; rfl
    have hm : pr.words[i]? = some pr.words[i] := List.getElem?_eq_getElem hlt
    have hmi := w2 _ (List.getElem_mem hlt)
    generalize hmm : pr.words[i] = m at hm hmi
    have hsn := zfs (f := VM.textB) hm
    simp [zda, hlt, hmm, hp]
    refine zaaw ext.wr.slot (by rw [List.length_append, List.length_append]; omega) (fun y hy => (ext.wr.ow y hy).2) fun H3 n3 g3 b3 => ?_
    have er := ext.row b3
    rw [List.append_assoc _ _ (VM.textB m), ← hsn] at er
    have hp3 : H3 p = some (.row 1 [l']) := by rw [b3.keep p ext.wr.lt fun h => by have := ext.wr.ow p h; omega]; exact hp
    rw [List.append_assoc _ _ (VM.textB m), ← hsn]
    simp [zfz, hp3, hadd]
    exact ⟨pr.words.length - (i + 1), by omega, i + 1, rfl, by omega, rfl, _, by simpa using er⟩
  · obtain rfl : i = pr.words.length := by omega
    rw [List.take_length] at ext hft
    have g3 := gk ext
    simp [zda, g3, c2]
    refine ext.nums [(pr.codes.length : Int)] (by rw [List.length_append, List.length_append, List.length_singleton]; omega) (by simp; omega) fun H4 n4 l4 e4 _ => ?_
    have en4 : zy [(pr.codes.length : Int)] = WM.num pr.codes.length := by simp [zy]
    rw [en4] at e4
    have nl4 := zad pr.codes.length
    have g4 := gk e4
    simp [zfw, g4, c2]
    generalize hB : bs ++ WM.num pr.words.length ++ pr.words.flatMap VM.textB ++ WM.num pr.codes.length = B at e4
    have hBl : B.length ≤ 1100000000000 := by rw [← hB]; simp only [List.length_append]; omega
    have hcl : ∀ c ∈ pr.codes, (VM.codB c).length ≤ 200000 := fun c h => zwc (c4 c h).1
    refine LP.mk (fun k xs H' n' => ∃ (i : Nat) (l' : AV), k = pr.codes.length - i ∧ i ≤ pr.codes.length ∧ xs = [.ptr p 0, .ro (pr.codes.map Cod.avs), .int .i64 pr.codes.length, .int .i64 i] ∧ WExt p l H n l' (B ++ (pr.codes.take i).flatMap VM.codB) H' n') pr.codes.length ⟨0, l4, rfl, by omega, rfl, by simpa using e4⟩ ?_
    clear e4 g4 ext g3 hp e2 g2
    rintro k xs H' n' ⟨i, l', rfl, hil, rfl, ext⟩
    have hft := zfr hcl hil
    suffices key : ∀ K : J3, (∀ H' n' l', i + 1 ≤ pr.codes.length → WExt p l H n l' (B ++ (pr.codes.take (i + 1)).flatMap VM.codB) H' n' → K [.ptr p 0, .ro (pr.codes.map Cod.avs), .int .i64 pr.codes.length, .int .i64 (i + 1 : Nat)] H' n') →
        zbw Q K [.ptr p 0, .ro (pr.codes.map Cod.avs), .int .i64 pr.codes.length, .int .i64 i] H' n' from
      key _ fun H' n' l' h1 h2 => ⟨pr.codes.length - (i + 1), by omega, i + 1, l', rfl, h1, rfl, h2⟩
    intro K hK
    by_cases hlt : i < pr.codes.length
    · have hadd : IntKind.i64.wrap ((i : Int) + 1) = ((i + 1 : Nat) : Int) := by rw [i64w (by omega)]; rfl
      have hm : pr.codes[i]? = some pr.codes[i] := List.getElem?_eq_getElem hlt
      obtain ⟨d1, d2, d3, d4⟩ := c4 _ (List.getElem_mem hlt)
      generalize hmm : pr.codes[i] = m at hm d1 d2 d3 d4
      have hsn := zfs (f := VM.codB) hm
      simp [zbw, hlt, hmm, Cod.avs]
      have ep := ext.put (.row 3 m.avs)
      refine ep.nums [m.params, m.vars, (m.ins.length : Int)] (by rw [List.length_append]; simp only [List.length_cons, List.length_nil]; omega) (by simp; exact ⟨d2, d3, by omega⟩) fun H5 n5 l5 e5 k5 => ?_
      have hrow : H5 n' = some (.row 3 m.avs) := by rw [k5 n' (by omega) (by have := ext.wr.lt; omega) fun h => (by have := ext.wr.ow _ h; omega), Heap.put_at]
      have nl5 := zcs [m.params, m.vars, (m.ins.length : Int)]
      simp only [List.length_cons, List.length_nil] at nl5
      simp [zfx, hrow, Cod.avs]
      generalize hC : B ++ (pr.codes.take i).flatMap VM.codB ++ zy [m.params, m.vars, (m.ins.length : Int)] = C at e5
      have hCl : C.length ≤ 1200000000000 := by rw [← hC]; simp only [List.length_append]; omega
      refine LP.mk (fun k xs H' n' => ∃ (j : Nat) (l' : AV), k = m.ins.length - j ∧ j ≤ m.ins.length ∧ xs = [.ptr p 0, .ro (pr.codes.map Cod.avs), .int .i64 pr.codes.length, .int .i64 i, .ro (m.ins.map Ins.avs), .int .i64 m.ins.length, .int .i64 j] ∧ WExt p l H n l' (C ++ (m.ins.take j).flatMap VM.insB) H' n') m.ins.length ⟨0, l5, rfl, by omega, rfl, by simpa using e5⟩ ?_
      clear e5 k5 hrow ep
      rintro k xs H6 n6 ⟨j, l6, rfl, hjl, rfl, ex6⟩
      have hft6 := zfr (l := m.ins) (f := VM.insB) (k := 30) (fun x _ => zabn x) hjl
      by_cases hjt : j < m.ins.length
      · have hadd6 : IntKind.i64.wrap ((j : Int) + 1) = ((j + 1 : Nat) : Int) := by rw [i64w (by omega)]; rfl
        have hmj : m.ins[j]? = some m.ins[j] := List.getElem?_eq_getElem hjt
        obtain ⟨f1, f2, f3⟩ := d4 _ (List.getElem_mem hjt)
        generalize hmi : m.ins[j] = q at hmj f1 f2 f3
        have hsn6 := zfs (f := VM.insB) hmj
        simp [zdb, hjt, hmi, Ins.avs]
        have ep6 := ex6.put (.row 3 q.avs)
        refine ep6.nums [q.op, q.a, q.b] (by rw [List.length_append]; simp only [List.length_cons, List.length_nil]; omega) (by simp; exact ⟨f1, f2, f3⟩) fun H7 n7 l7 e7 _ => ?_
        rw [← zyz, List.append_assoc, ← hsn6] at e7
        simp [zfy, hadd6]
        exact ⟨m.ins.length - (j + 1), by omega, j + 1, rfl, by omega, rfl, _, by simpa using e7⟩
      · obtain rfl : j = m.ins.length := by omega
        rw [List.take_length, ← hC, List.append_assoc _ _ (m.ins.flatMap VM.insB), ← zzk, List.append_assoc, ← hsn] at ex6
        simp [zdb, hadd]
        exact hK _ _ _ (by omega) ex6
    · obtain rfl : i = pr.codes.length := by omega
      rw [List.take_length, ← hB] at ext
      simp [zbw]
      refine hq _ _ l' ?_
      have e : bs ++ VM.prgB pr = bs ++ WM.num pr.words.length ++ pr.words.flatMap VM.textB ++ WM.num pr.codes.length ++ pr.codes.flatMap VM.codB := by unfold VM.prgB; simp only [List.append_assoc]
      rw [e]; exact ext
end Go.Proofs.YtpbnaaoilgohkaaGreatDoor
set_option maxRecDepth 8000
namespace Go.Proofs.YtpbnaaoilgohkaaGreatDoor
open Go Go.RowKit
def zes (H : Heap) (G : Nat → Prop) (xs ys : List AV) : Prop := ys.length = xs.length ∧ ∀ (j : Nat) (v u : AV), xs[j]? = some v → ys[j]? = some u → FrzP H G v u
theorem zes.nil {H : Heap} {G : Nat → Prop} : zes H G [] [] := ⟨rfl, fun j v u h => by simp at h⟩
theorem zes.cons {H : Heap} {G : Nat → Prop} {v u : AV} {xs ys : List AV} (h : FrzP H G v u) (k : zes H G xs ys) : zes H G (v :: xs) (u :: ys) := by
  refine ⟨by simp [k.1], fun j a b ha hb => ?_⟩
  cases j with
  | zero => simp at ha hb; subst ha; subst hb; exact h
  | succ j => exact k.2 j a b (by simpa using ha) (by simpa using hb)
theorem za.thaw {P : Program} {f : FuncId} {args args' : List AV} {H H0 : Heap} {nx : Nat} {G : Nat → Prop} {Q : AV → Heap → Nat → Prop} (h : za P f args H0 nx Q) (hf : zes H G args' args) (h0 : ∀ g o, H0 g = some o → ¬ G g ∧ H g = some o) : za P f args' H nx Q := by
  intro ρ w cargs s ha
  obtain ⟨s0, f0⟩ := s.drop (H' := H0) fun g o ho => (h0 g o ho).2
  refine zj (h ρ w cargs s0 ⟨ha.1.trans hf.1.symm, fun j u c hu hc => ?_⟩) fun cv w' ⟨r', H', nx', ρ', q1, q3, q4, q5⟩ => ⟨r', H', nx', ρ', q1, q3, q4, f0.trans q5⟩
  have hj : j < args'.length := by have := (List.getElem?_eq_some_iff.1 hu).1; rw [hf.1] at this; exact this
  have hv : args'[j]? = some args'[j] := List.getElem?_eq_getElem hj
  exact (hf.2 j _ u hv hu).rel s h0 c (ha.2 j _ c hv hc)
end Go.Proofs.YtpbnaaoilgohkaaGreatDoor
set_option maxRecDepth 8000
namespace Go.Proofs.YtpbnaaoilgohkaaGreatDoor
open Go Go.RowKit
end Go.Proofs.YtpbnaaoilgohkaaGreatDoor
set_option maxRecDepth 8000
namespace Go.Proofs.YtpbnaaoilgohkaaGreatDoor
open Go Go.RowKit
theorem zamw (h : List Cl) (l : List Val) (hr : VM.right h l = true) (hs : h.length * 64 ≤ 140737488355328) (hl : l.length * 32 ≤ 140737488355328) : QC Tryz.prog 54 [.ro (h.map Cl.avs), .ro (l.map Val.avs)] (.tup [.ro ((VM.canonV h l).map Val.avs), .ro ((VM.canonC h l).map Cl.avs)]) :=
  QC.of' fun H nx => zamx h l hr hs hl .ro .ro
end Go.Proofs.YtpbnaaoilgohkaaGreatDoor
set_option maxRecDepth 8000
namespace Go.Proofs.YtpbnaaoilgohkaaGreatDoor
open Go Go.RowKit
section
variable {ki : IntKind}
theorem zaaz {s : Nat} {xs : List (List AV)} {a : Int} {H : Heap} {k : AV → Prop} (hs : ∀ x ∈ xs, x.length = s) (h0 : 0 ≤ a) (h1 : a ≤ xs.length) (hk : k (.ro (xs.drop a.toNat))) : SL s (.ro xs) (some (.int ki a)) none H k := by
  simp only [SL, zby, lohi, PURE, qk, Int.toNat_natCast, List.take_length]
  exact ⟨h0, h1, Int.le_refl _, hs, hk⟩
end
theorem Slot.cp {H : Heap} {sz k : Nat} {cells : List AV} {a : AV} {kh : AV → Heap → Prop} (hg : Slot H sz k cells a) {ys rest : List (List AV)} (hs : ∀ x ∈ ys ++ rest, x.length = sz) (hy : ys.length = k) (hone : ∀ x ∈ ys ++ rest, ∀ c ∈ x, c.one = true)
    (hk : ∀ H', Slot H' sz k ys.flatten a → (∀ g, g ∉ own a → H' g = H g) → kh (.int .i64 k) H') : CP sz a (.ro (ys ++ rest)) H kh := by
  have hsrc := ztj (H := H) hs
  rcases hg with ⟨rfl, rfl | rfl⟩ | ⟨g, cs, rfl, h1, h2, h3⟩
  · unfold CP COPY
    rw [hsrc]
    exact hk _ (.inl ⟨rfl, .inl rfl⟩) fun g _ => rfl
  · unfold CP COPY
    rw [hsrc]
    exact hk _ (.inl ⟨rfl, .inr rfl⟩) fun g _ => rfl
  · have hl : ys.flatten.length = k * sz := by rw [zdm fun x hx => hs x (List.mem_append_left _ hx), hy]
    refine zaot hsrc h1 (by omega) ?_ ?_
    · refine List.all_eq_true.2 fun c hc => ?_
      obtain ⟨x, hx, hcx⟩ := List.mem_flatten.1 hc
      exact hone x hx c hcx
    · have e : min (ys ++ rest).length k = k := by simp [hy]
      rw [e]
      have et : ((ys ++ rest).flatten.take (k * sz)) = ys.flatten := by rw [List.flatten_append, List.take_append_of_le_length (by omega), List.take_of_length_le (by omega)]
      rw [et]
      refine hk _ (.inr ⟨g, _, rfl, Heap.put_at _ _ _, ?_, ?_⟩) fun x hx => Heap.put_ne _ _ (by simpa [own] using hx)
      · unfold zak
        simp [hl]
      · unfold zak
        simp [hl]
theorem Slot.gather {H : Heap} {sz k bytes nx m : Nat} {cells new : List AV} {a x : AV} {rdx : List Nat} {kt : Kt} (hg : Slot H sz k cells a) (hlen : cells.length = k * sz) (hs : ze sz H x = some (m, new, rdx)) (hnl : new.length = m * sz) (hone : new.all AV.one = true)
    (hb : (k + m) * bytes ≤ 140737488355328) (hk : ∀ v rd fr D, fr.length ≤ 1 → (∀ g ∈ domD D, g ∈ own a ∨ g = nx) → Slot (H.apply D) sz (k + m) (cells ++ new) v → (∀ g ∈ own v, g = nx ∧ fr.length = 1) → (∀ g, g ∉ own a → g ≠ nx → (H.apply D) g = H g) → kt v rd fr D) : zx sz bytes a x H nx kt := by
  rcases hg with ⟨rfl, rfl | rfl⟩ | ⟨g, cs, rfl, h1, h2, h3⟩
  · have hc : cells = [] := List.eq_nil_of_length_eq_zero (by omega)
    subst hc
    rw [zpi, hs, optk]
    refine ⟨hone, fun hm => ?_, fun hm => ⟨by simpa using hb, ?_⟩⟩
    · simp only at hm; subst hm
      exact hk _ _ _ _ (by simp) (by simp) (.inl ⟨rfl, .inl rfl⟩) (by simp [own]) fun g _ _ => rfl
    · exact hk _ _ _ _ (by simp) (by simp) (.inr ⟨nx, new, by simp, by simp only [zan, zbc, Heap.put_at], by rw [List.nil_append, List.take_of_length_le (by rw [Nat.zero_add]; omega)], by rw [Nat.zero_add]; omega⟩) (by simp [own]) fun g _ hx => by simp only [zan, zbc]; exact Heap.put_ne _ _ hx
  · have hc : cells = [] := List.eq_nil_of_length_eq_zero (by omega)
    subst hc
    rw [zzu, hs, optk]
    refine ⟨hone, fun hm => ?_, fun hm => ⟨by simpa using hb, ?_⟩⟩
    · simp only at hm; subst hm
      exact hk _ _ _ _ (by simp) (by simp) (.inl ⟨rfl, .inr rfl⟩) (by simp [own]) fun g _ _ => rfl
    · exact hk _ _ _ _ (by simp) (by simp) (.inr ⟨nx, new, by simp, by simp only [zan, zbc, Heap.put_at], by rw [List.nil_append, List.take_of_length_le (by rw [Nat.zero_add]; omega)], by rw [Nat.zero_add]; omega⟩) (by simp [own]) fun g _ hx => by simp only [zan, zbc]; exact Heap.put_ne _ _ hx
  · rw [zma, hs, optk, h1, rowk]
    refine ⟨rfl, hone, by omega, Nat.le_add_right_of_le hb, hk _ _ _ _ (by simp) (by simp [own]) (.inr ⟨nx, cells ++ new, rfl, ?_, ?_, ?_⟩) (by simp [own]) (fun x hx1 hx => ?_)⟩
    · simp only [zan, zbc]; rw [Heap.put_at, List.drop_zero, h2]
    · rw [List.take_of_length_le]; rw [List.length_append, hlen, hnl, Nat.add_mul]; exact Nat.le_refl _
    · rw [List.length_append, hlen, hnl, Nat.add_mul]; exact Nat.le_refl _
    · simp only [zan, zbc]; rw [Heap.put_ne _ _ hx, Heap.put_ne _ _ (by simpa [own] using hx1)]
theorem QC.thaw {P : Program} {f : FuncId} {args args' : List AV} {r : AV} (h : QC P f args r) {H H0 : Heap} {nx : Nat} {G : Nat → Prop} (hf : zes H G args' args) (h0 : ∀ g o, H0 g = some o → ¬ G g ∧ H g = some o) {kk : AV → Heap → Nat → Prop} (hk : kk r H0 nx) : za P f args' H nx kk :=
  za.thaw ((h H0 nx).mono fun v H' n' ⟨a, b, c⟩ => by subst a; subst b; subst c; exact hk) hf h0
theorem zrn : ∀ {ss : List (AV × AV)} {k i : Nat} {s t : AV × AV} {g : Nat}, (owns ss).Nodup → ss[k]? = some s → ss[i]? = some t → k ≠ i → g ∈ own s.1 ++ own s.2 → g ∈ own t.1 ++ own t.2 → False
  | [], k, i, s, t, g, _, h, _, _, _, _ => by simp at h
  | u :: ss, k, i, s, t, g, nd, h1, h2, hne, m1, m2 => by
    have e : owns (u :: ss) = (own u.1 ++ own u.2) ++ owns ss := by simp [owns]
    rw [e, List.nodup_append] at nd
    obtain ⟨_, n2, n3⟩ := nd
    have mem : ∀ {j : Nat} {v : AV × AV}, ss[j]? = some v → g ∈ own v.1 ++ own v.2 → g ∈ owns ss := fun hv hg => List.mem_flatMap.2 ⟨_, List.mem_of_getElem? hv, hg⟩
    match k, i with
    | 0, 0 => exact hne rfl
    | 0, i + 1 =>
      simp at h1 h2; subst h1
      exact n3 g m1 g (mem h2 m2) rfl
    | k + 1, 0 =>
      simp at h1 h2; subst h2
      exact n3 g m2 g (mem h1 m1) rfl
    | k + 1, i + 1 => exact zrn n2 (by simpa using h1) (by simpa using h2) (by omega) m1 m2
theorem zaa.set {H H' : Heap} {fs : List Frm} {ss : List (AV × AV)} {i : Nat} {f : Frm} {s : AV × AV} (h : zaa H fs ss) (nd : (owns ss).Nodup) (hs : ss[i]? = some s) (hk : ∀ g, g ∉ own s.1 → g ∉ own s.2 → H' g = H g) (h1 : Slot H' 3 f.vars.length (rowV f.vars) s.1) (h2 : Slot H' 3 f.stack.length (rowV f.stack) s.2) : zaa H' (fs.set i f) ss := by
  refine ⟨by simp [h.1], fun k f' s' hf hs' => ?_⟩
  by_cases e : k = i
  · subst e
    rw [hs] at hs'; cases hs'
    have hl : k < fs.length := by rw [← h.1]; exact (List.getElem?_eq_some_iff.1 hs).1
    rw [List.getElem?_set_self hl] at hf
    cases hf
    exact ⟨h1, h2⟩
  · rw [List.getElem?_set_ne (Ne.symm e)] at hf
    obtain ⟨q1, q2⟩ := h.2 k f' s' hf hs'
    have hd : ∀ g, (g ∈ own s'.1 ∨ g ∈ own s'.2) → g ∉ own s.1 ∧ g ∉ own s.2 := fun g hg => by
      exact ⟨fun hx => zrn nd hs' hs e (List.mem_append.2 hg) (List.mem_append_left _ hx), fun hx => zrn nd hs' hs e (List.mem_append.2 hg) (List.mem_append_right _ hx)⟩
    exact ⟨q1.keep fun g hg => hk g (hd g (.inl hg)).1 (hd g (.inl hg)).2, q2.keep fun g hg => hk g (hd g (.inr hg)).1 (hd g (.inr hg)).2⟩
end Go.Proofs.YtpbnaaoilgohkaaGreatDoor
set_option maxRecDepth 8000
namespace Go.Proofs.YtpbnaaoilgohkaaGreatDoor
open Go Go.RowKit
theorem zabr : ∀ {fs : List Frm} {ss : List (AV × AV)} {i : Nat} {f : Frm} {s : AV × AV}, ss.length = fs.length → fs[i]? = some f → ss[i]? = some s → ((frow fs ss).drop (i * 4)).take 4 = [.int .i64 f.fn, .int .i64 f.at_, s.1, s.2]
  | [], _, i, f, s, _, h, _ => by simp at h
  | _ :: _, [], i, f, s, h0, _, h => by simp at h
  | g :: fs, t :: ss, 0, f, s, h0, h1, h2 => by simp at h1 h2; subst h1; subst h2; simp [frow]
  | g :: fs, t :: ss, i + 1, f, s, h0, h1, h2 => by
    have := zabr (fs := fs) (ss := ss) (i := i) (f := f) (s := s) (by simpa using h0) (by simpa using h1) (by simpa using h2)
    rw [← this, show (i + 1) * 4 = i * 4 + 1 + 1 + 1 + 1 by omega]
    simp [frow]
theorem zajf {cs : List AV} {fs : List Frm} {ss : List (AV × AV)} {i : Nat} {f : Frm} {s : AV × AV} (h : cs.take (fs.length * 4) = frow fs ss) (hl : ss.length = fs.length) (h1 : fs[i]? = some f) (h2 : ss[i]? = some s) : (cs.drop (i * 4)).take 4 = [.int .i64 f.fn, .int .i64 f.at_, s.1, s.2] := by
  have e := zabr hl h1 h2
  have hi := (List.getElem?_eq_some_iff.1 h1).1
  rw [← h, List.drop_take, List.take_take] at e
  rw [← e]; congr 1; omega
theorem Slot.frzP {H : Heap} {G : Nat → Prop} {sz : Nat} {xs : List (List AV)} {a : AV} (hs : Slot H sz xs.length xs.flatten a) (ho : ∀ g ∈ own a, G g) (hsz : ∀ x ∈ xs, x.length = sz) : FrzP H G a (.ro xs) := by
  rcases hs with ⟨h0, rfl | rfl⟩ | ⟨g, cs, rfl, h1, h2, h3⟩
  · rw [List.eq_nil_of_length_eq_zero h0]; exact .nils
  · rw [List.eq_nil_of_length_eq_zero h0]; exact .zs
  · refine FrzP.row (ho g (by simp [own])) h1 rfl hsz (fun i x j v hx hv => ⟨v, ?_, .same _⟩) h3
    have := zaiq hsz hx hv
    rw [← h2, List.getElem?_take] at this
    split at this
    · exact this
    · cases this
def zn (fs : List Frm) : List Val := fs.flatMap fun f => f.vars ++ f.stack
theorem zabh (fs : List Frm) (f : Frm) : zn (fs ++ [f]) = zn fs ++ f.vars ++ f.stack := by simp [zn]
theorem zadc {fs : List Frm} (i : Nat) : (zn (fs.take i)).length ≤ (zn fs).length := by
  have e : zn fs = zn (fs.take i) ++ zn (fs.drop i) := by unfold zn; rw [← List.flatMap_append, List.take_append_drop]
  rw [e, List.length_append]; omega
set_option maxRecDepth 20000 in
set_option maxHeartbeats 1000000 in
theorem zadh {a : Agt} {H5 : Heap} {lo n1 gf p1 : Nat} {ss : List (AV × AV)} {cs : List AV} {Q : AV → Heap → Nat → Prop} (hb : (zn a.frames).length ≤ 4096) (hfl : a.frames.length ≤ 4096) (c1 : H5 gf = some (.row 4 cs)) (c2 : cs.take (a.frames.length * 4) = frow a.frames ss) (c3 : a.frames.length * 4 ≤ cs.length)
    (fr : zaa H5 a.frames ss) (bd : ∀ g, (g = gf ∨ g ∈ owns ss) → lo ≤ g ∧ g < n1)
    (hend : ∀ H' n' l, n1 + 1 ≤ n' → (∀ g, g < n1 + 1 → H' g = H5 g) → Slot H' 3 (zn a.frames).length (rowV (zn a.frames)) l → (∀ g ∈ own l, n1 < g ∧ g < n') →
      FA 5 (.ptr n1 0) fun v29 => LD false 1 v29 H' fun v30 => za Tryz.prog 54 [v30, l] H' n' (zre [.ptr p1 0, .ptr n1 0, l, .slc gf 0 a.frames.length, .int .i64 a.frames.length, .int .i64 a.frames.length] Q)) :
    LP (zin Q) [.ptr p1 0, .ptr n1 0, .nils, .slc gf 0 a.frames.length, .int .i64 a.frames.length, .int .i64 0] H5 (n1 + 1) := by
  refine LP.mk (fun k xs H' n' => ∃ (i : Nat) (l : AV), k = a.frames.length - i ∧ i ≤ a.frames.length ∧ xs = [.ptr p1 0, .ptr n1 0, l, .slc gf 0 a.frames.length, .int .i64 a.frames.length, .int .i64 i] ∧ n1 + 1 ≤ n' ∧ (∀ g, g < n1 + 1 → H' g = H5 g) ∧
    Slot H' 3 (zn (a.frames.take i)).length (rowV (zn (a.frames.take i))) l ∧ ∀ g ∈ own l, n1 < g ∧ g < n') a.frames.length ⟨0, .nils, rfl, by omega, rfl, Nat.le_refl _, fun _ _ => rfl, .inl ⟨rfl, .inl rfl⟩, by simp [own]⟩ ?_
  rintro k xs H' n' ⟨i, l, rfl, hi, rfl, hn, keep, sl, bl⟩
  suffices key : ∀ K : J3, (∀ (i' : Nat) (l : AV) H' n', a.frames.length - i' < a.frames.length - i → i' ≤ a.frames.length → n1 + 1 ≤ n' → (∀ g, g < n1 + 1 → H' g = H5 g) → Slot H' 3 (zn (a.frames.take i')).length (rowV (zn (a.frames.take i'))) l → (∀ g ∈ own l, n1 < g ∧ g < n') → K [.ptr p1 0, .ptr n1 0, l, .slc gf 0 a.frames.length, .int .i64 a.frames.length, .int .i64 i'] H' n') →
      zin Q K [.ptr p1 0, .ptr n1 0, l, .slc gf 0 a.frames.length, .int .i64 a.frames.length, .int .i64 i] H' n' from
    key _ fun i' l H' n' h1 h2 h3 h4 h5 h6 => ⟨_, h1, i', l, rfl, h2, rfl, h3, h4, h5, h6⟩
  intro K hK
  by_cases hil : i < a.frames.length
  · have hf : a.frames[i]? = some a.frames[i] := List.getElem?_eq_getElem hil
    have hs : ss[i]? = some (ss[i]'(by rw [fr.1]; exact hil)) := List.getElem?_eq_getElem _
    generalize a.frames[i] = f at hf
    generalize ss[i]'(by rw [fr.1]; exact hil) = s at hs
    obtain ⟨sv, st⟩ := fr.2 i f s hf hs
    have hgf := bd gf (.inl rfl)
    have e1 : H' gf = some (.row 4 cs) := (keep gf (by omega)).trans c1
    have e2 := zajf c2 fr.1 hf hs
    have one : s.1.one = true ∧ s.2.one = true := ⟨sv.one.2.1, st.one.2.1⟩
    have hsm : ∀ g, (g ∈ own s.1 ∨ g ∈ own s.2) → g < n1 := fun g hg => by
      refine (bd g (.inr (List.mem_flatMap.2 ⟨s, List.mem_of_getElem? hs, ?_⟩))).2
      simpa using hg
    have htk : a.frames.take (i + 1) = a.frames.take i ++ [f] := zoe hf
    have hle := zadc (fs := a.frames) (i + 1)
    have hadd : IntKind.i64.wrap ((i : Int) + 1) = ((i + 1 : Nat) : Int) := by rw [i64w (by omega)]; rfl
    have hr1 : zn (a.frames.take (i + 1)) = zn (a.frames.take i) ++ f.vars ++ f.stack := by rw [htk, zabh]
    rw [hr1] at hle
    simp only [List.length_append] at hle
    simp [zin, hil, e1, e2, sv.one, st.one]
    refine ⟨by omega, ?_⟩
    have lst : (frow a.frames ss).length = a.frames.length * 4 := zmx fr.1
    have b0 : ∀ l : List Val, (rowV l).all AV.one = true := fun l => List.all_eq_true.2 fun c hc => zhp (zof _ c hc)
    have z0 : ∀ l : List Val, l.length = 0 → rowV l = [] := fun l h => by rw [List.eq_nil_of_length_eq_zero h]; rfl
    generalize hX : Heap.put H' n' _ = HX
    have x1 : HX n' = some (.row 4 [.int .i64 f.fn, .int .i64 f.at_, s.1, s.2]) := by rw [← hX, Heap.put_at]
    have xk : ∀ g, g ≠ n' → HX g = H' g := fun g hg => by rw [← hX, Heap.put_ne _ _ hg]
    have xs : ∀ g, (g ∈ own s.1 ∨ g ∈ own s.2) → HX g = H5 g := fun g hg => by have := hsm g hg; rw [xk g (by omega), keep g (by omega)]
    obtain ⟨rd0, hs1⟩ := (sv.keep fun g hg => xs g (.inl hg)).src (z0 f.vars)
    refine Slot.gather (sl.keep fun g hg => xk g (by have := bl g hg; omega)) (by simp) hs1 (by simp) (b0 _) (by omega) fun v1 rd1 fr1 D1 l1 d1 s1 o1 k1 => ?_
    have y1 : (HX.apply D1) n' = some (.row 4 [.int .i64 f.fn, .int .i64 f.at_, s.1, s.2]) := by rw [k1 n' (fun h => by have := bl _ h; omega) (by omega)]; exact x1
    have yk : ∀ g, g < n1 + 1 → (HX.apply D1) g = H5 g := fun g hg => by rw [k1 g (fun h => by have := bl _ h; omega) (by omega), xk g (by omega), keep g hg]
    have dd : n' ∉ domD D1 := fun h => by
      rcases d1 n' h with h | h
      · have := bl _ h; omega
      · omega
    generalize HX.apply D1 = HY at *
    simp only [y1, rowk]
    simp
    obtain ⟨rd2, hs2⟩ := (st.keep fun g hg => yk g (by have := hsm g (.inr hg); omega)).src (z0 f.stack)
    refine Slot.gather s1 (by simp; omega) hs2 (by simp) (b0 _) (by omega) fun v2 rd3 fr2 D2 l2 d2 s2 o2 k2 => ?_
    have zk : ∀ g, g < n1 + 1 → (HY.apply D2) g = H5 g := fun g hg => by rw [k2 g (fun h => by have := o1 _ h; omega) (by omega), yk g hg]
    generalize HY.apply D2 = HZ at *
    refine zdn (fun g _ => by simp) (zdn (fun g _ => by simp) (zdn (fun g hg => by simp; rintro rfl; exact dd hg) (zdn (fun g _ => by simp) ?_)))
    rw [hadd]
    refine hK (i + 1) v2 HZ _ (by omega) (by omega) (by omega) zk ?_ fun g hg => ?_
    · rw [hr1, zvu, zvu]
      simpa [Nat.add_assoc] using s2
    · have := o2 g hg; omega
  · obtain rfl : i = a.frames.length := by omega
    rw [List.take_length] at sl
    have := hend H' n' l hn keep sl bl
    simpa [zin] using this
theorem zabq {p : Val → Val} : ∀ (fs : List Frm) (ss : List (AV × AV)), frow (fs.map fun f => { f with vars := f.vars.map p, stack := f.stack.map p }) ss = frow fs ss
  | [], _ => rfl
  | _ :: _, [] => rfl
  | f :: fs, s :: ss => by simp only [List.map_cons, frow]; rw [zabq fs ss]
def pkF (p : Val → Val) (f : Frm) : Frm := { f with vars := f.vars.map p, stack := f.stack.map p }
set_option maxRecDepth 20000 in
set_option maxHeartbeats 1000000 in
theorem zaif {fs : List Frm} {id trip : Int} {pr : Prg} {m : Pmt} {p : Val → Val} {hp : List Cl} {H1 : Heap} {n1 gf p1 n : Nat} {ss : List (AV × AV)} {cs : List AV} {ha : AV} {Q : AV → Heap → Nat → Prop} (hfl : fs.length ≤ 4096) (c1 : H1 gf = some (.row 4 cs)) (c2 : cs.take (fs.length * 4) = frow fs ss) (c3 : fs.length * 4 ≤ cs.length)
    (fr : zaa H1 fs ss) (nd : (owns ss).Nodup) (g0 : gf ∉ owns ss) (g1 : n1 ∉ owns ss) (g2 : p1 ∉ owns ss) (g3 : p1 ≠ n1) (r1 : H1 n1 = some (.row 9 (zap id trip pr (.slc gf 0 fs.length) ha m))) (r2 : ∃ z, H1 p1 = some (.row 9 z) ∧ z.length = 9)
    (hend : ∀ H', zaa H' (fs.map (pkF p)) ss → (∀ g, g ∉ owns ss → g ≠ n1 → g ≠ p1 → H' g = H1 g) → Q (.agg (zap id trip pr (.slc gf 0 fs.length) (.ro (hp.map Cl.avs)) m)) H' n) :
    LP (zio Q) [.ptr p1 0, .ptr n1 0, .ro ((zn fs).map fun v => (p v).avs), .ro (hp.map Cl.avs), .int .i64 fs.length, .int .i64 0] H1 n := by
  refine LP.mk (fun k xs H' n' => ∃ i : Nat, k = fs.length - i ∧ i ≤ fs.length ∧ n' = n ∧ xs = [.ptr p1 0, .ptr n1 0, .ro ((zn (fs.drop i)).map fun v => (p v).avs), .ro (hp.map Cl.avs), .int .i64 fs.length, .int .i64 i] ∧
    zaa H' ((fs.take i).map (pkF p) ++ fs.drop i) ss ∧ ∀ g, g ∉ owns ss → H' g = H1 g) fs.length ⟨0, rfl, by omega, rfl, rfl, by simpa using fr, fun _ _ => rfl⟩ ?_
  rintro k xs H' n' ⟨i, rfl, hi, rfl, rfl, fr', keep⟩
  suffices key : ∀ K : J3, (∀ (i' : Nat) H', fs.length - i' < fs.length - i → i' ≤ fs.length → zaa H' ((fs.take i').map (pkF p) ++ fs.drop i') ss → (∀ g, g ∉ owns ss → H' g = H1 g) → K [.ptr p1 0, .ptr n1 0, .ro ((zn (fs.drop i')).map fun v => (p v).avs), .ro (hp.map Cl.avs), .int .i64 fs.length, .int .i64 i'] H' n') →
      zio Q K [.ptr p1 0, .ptr n1 0, .ro ((zn (fs.drop i)).map fun v => (p v).avs), .ro (hp.map Cl.avs), .int .i64 fs.length, .int .i64 i] H' n' from
    key _ fun i' H' h1 h2 h3 h4 => ⟨_, h1, i', rfl, h2, rfl, rfl, h3, h4⟩
  intro K hK
  have e0 := (keep _ g0).trans c1
  have e1 := (keep _ g1).trans r1
  obtain ⟨z, z1, z2⟩ := r2
  have e2 := (keep _ g2).trans z1
  by_cases hil : i < fs.length
  · have hf : fs[i]? = some fs[i] := List.getElem?_eq_getElem hil
    have hs : ss[i]? = some (ss[i]'(by rw [fr.1]; exact hil)) := List.getElem?_eq_getElem _
    have hdrop : fs.drop i = fs[i] :: fs.drop (i + 1) := List.drop_eq_getElem_cons hil
    have htk : fs.take (i + 1) = fs.take i ++ [fs[i]] := zoe hf
    generalize fs[i] = f at *
    generalize ss[i]'(by rw [fr.1]; exact hil) = s at hs
    have e3 := zajf c2 fr.1 hf hs
    have hadd : IntKind.i64.wrap ((i : Int) + 1) = ((i + 1 : Nat) : Int) := by rw [i64w (by omega)]; rfl
    have hm : ((fs.take i).map (pkF p) ++ fs.drop i)[i]? = some f := by rw [List.getElem?_append_right (by simp; omega)]; simp [Nat.min_eq_left (Nat.le_of_lt hil), hf]
    obtain ⟨sv, st⟩ := fr'.2 i f s hm hs
    have hroots : zn (fs.drop i) = f.vars ++ (f.stack ++ zn (fs.drop (i + 1))) := by rw [hdrop]; simp [zn]
    have q2 : cs[i * 4 + 2]? = some s.1 := by
      have := congrArg (·[2]?) e3
      simpa using this
    have q3 : cs[i * 4 + 3]? = some s.2 := by
      have := congrArg (·[3]?) e3
      simpa using this
    rw [hroots]
    have hown : ∀ g, (g ∈ own s.1 ∨ g ∈ own s.2) → g ∈ owns ss := fun g hg => List.mem_flatMap.2 ⟨s, List.mem_of_getElem? hs, by simpa using hg⟩
    have hdis : ∀ g ∈ own s.1, g ∉ own s.2 := by
      obtain ⟨hi1, rfl⟩ := List.getElem?_eq_some_iff.1 hs
      have hsub : (own ss[i].1 ++ own ss[i].2).Sublist (owns ss) := List.sublist_flatten_of_mem (List.mem_map.2 ⟨_, List.getElem_mem hi1, rfl⟩)
      have := List.nodup_append.1 (nd.sublist hsub)
      exact fun g h1 h2 => this.2.2 g h1 g h2 rfl
    have len3 : ∀ l : List Val, ∀ x ∈ l.map (fun v => (p v).avs), x.length = 3 := fun l x hx => by obtain ⟨v, _, rfl⟩ := List.mem_map.1 hx; rfl
    have one3 : ∀ l : List Val, ∀ x ∈ l.map (fun v => (p v).avs), ∀ c ∈ x, c.one = true := fun l x hx c hc => by obtain ⟨v, _, rfl⟩ := List.mem_map.1 hx; exact zhp (zdj _ c hc)
    have fl : ∀ l : List Val, (l.map fun v => (p v).avs).flatten = rowV (l.map p) := fun l => by simp [rowV, List.map_map, Function.comp_def]
    simp [zio, hil, e0, e1, zap, q2, q3]
    refine Slot.cp sv (fun x hx => ?_) (by simp) (fun x hx => ?_) fun H2 s2 k2 => ?_
    · rw [← List.map_append, ← List.map_append] at hx; exact len3 _ x hx
    · rw [← List.map_append, ← List.map_append] at hx; exact one3 _ x hx
    refine zaaz (fun x hx => ?_) (by omega) (by simp; omega) ?_
    · rw [← List.map_append, ← List.map_append] at hx; exact len3 _ x hx
    have h2 : H2 gf = some (.row 4 cs) := by rw [k2 gf (fun h => g0 (hown _ (.inl h)))]; exact e0
    have hd1 : ∀ (A B : List (List AV)) (n : Nat), A.length = n → (A ++ B).drop ((n : Int).toNat) = B := fun A B n h => by simp [← h]
    rw [hd1 _ _ _ (by simp)]
    simp only [h2, rowk, q3, optk]
    refine Slot.cp (st.keep fun g hg => k2 g fun h => hdis g h hg) (fun x hx => ?_) (by simp) (fun x hx => ?_) fun H3 s3 k3 => ?_
    · rw [← List.map_append] at hx; exact len3 _ x hx
    · rw [← List.map_append] at hx; exact one3 _ x hx
    refine zaaz (fun x hx => ?_) (by omega) (by simp; omega) ?_
    · rw [← List.map_append] at hx; exact len3 _ x hx
    rw [hd1 _ _ _ (by simp), hadd]
    rw [fl] at s2 s3
    have e4 : (fs.take (i + 1)).map (pkF p) ++ fs.drop (i + 1) = ((fs.take i).map (pkF p) ++ fs.drop i).set i (pkF p f) := by
      rw [htk, hdrop, List.set_append_right _ _ (by simp; omega)]
      simp [Nat.min_eq_left (Nat.le_of_lt hil)]
    refine hK (i + 1) H3 (by omega) (by omega) ?_ fun g hg => ?_
    · rw [e4]
      refine fr'.set nd hs (fun g h1 h2 => by rw [k3 g h2, k2 g h1]) ?_ ?_
      · have := s2.keep (H' := H3) fun g hg => k3 g (hdis g hg)
        simpa [pkF] using this
      · simpa [pkF] using s3
    · rw [k3 g (fun h => hg (hown _ (.inr h))), k2 g (fun h => hg (hown _ (.inl h)))]
      exact keep g hg
  · obtain rfl : i = fs.length := by omega
    rw [List.take_length, List.drop_length, List.append_nil] at fr'
    simp [zio, e1, e2, zap, z2, g3]
    have := hend ((H'.put n1 (some (.row 9 (zap id trip pr (.slc gf 0 fs.length) (.ro (hp.map Cl.avs)) m)))).put p1 (some (.row 9 (zap id trip pr (.slc gf 0 fs.length) (.ro (hp.map Cl.avs)) m ++ z.drop 9)))) (fr'.keep fun g hg => ?_) fun g q1 q2 q3 => ?_
    · simpa [zap] using this
    · have a1 : g ≠ p1 := fun e => g2 (e ▸ hg)
      have a2 : g ≠ n1 := fun e => g1 (e ▸ hg)
      rw [Heap.put_ne _ _ a1, Heap.put_ne _ _ a2]
    · rw [Heap.put_ne _ _ q3, Heap.put_ne _ _ q2]; exact keep g q1
set_option maxRecDepth 20000 in
set_option maxHeartbeats 1000000 in
theorem zaog {a : Agt} {fs : List Frm} {f : Frm} (sz : zaaj a) (hfr : a.frames = fs ++ [f]) (hfl : a.frames.length ≤ 4096) (hb : (zn a.frames).length ≤ 4096) (hr : VM.right a.heap (zn a.frames) = true) :
    QC Tryz.prog 27 [.agg a.avs] (.agg (VM.pack a).avs) := by
  refine QC.of' fun H nx => ?_
  refine zzx _ H nx _ ?_
  have av : (AV.agg a.avs).cells = a.avs := by simp
  have al : a.avs.length = 9 := rfl
  have hsu : (AV.agg a.avs).sure = true := by simp [Agt.avs]
  have at9 : a.avs.take 9 = a.avs := by rw [← al, List.take_length]
  unfold zwn
  rw [av, al]
  refine ⟨hsu, ?_⟩
  simp [al, at9]
  refine zapc sz fun H1 n1 ss fa ha hn1 k1 ow => ?_
  generalize hHH : Heap.put _ (nx + 1) _ = HH at *
  have q2 : ∃ z, HH (nx + 1) = some (.row 9 z) ∧ z.length = 9 := ⟨_, by rw [← hHH, Heap.put_at], rfl⟩
  have q4 : Keep nx HH H := fun g hg => by rw [← hHH, Heap.put_ne _ _ (by omega), Heap.put_ne _ _ (by omega)]
  have h1 := ow.hp.one
  obtain ⟨gf, cs, rfl, c1, c2, c3⟩ : ∃ gf cs, fa = .slc gf 0 a.frames.length ∧ H1 gf = some (.row 4 cs) ∧ cs.take (a.frames.length * 4) = frow a.frames ss ∧ a.frames.length * 4 ≤ cs.length := by
    rcases ow.row with ⟨h0, _⟩ | ⟨gf, cs, h2⟩
    · rw [hfr] at h0; simp at h0
    · exact ⟨gf, cs, h2⟩
  have bd : ∀ g, (g = gf ∨ g ∈ owns ss) → nx + 2 ≤ g ∧ g < n1 := fun g hg => ow.bd g (by rcases hg with rfl | h <;> simp [own, *])
  have bh : ∀ g ∈ own ha, nx + 2 ≤ g ∧ g < n1 := fun g hg => ow.bd g (by simp [hg])
  have nd := ow.nd
  have e0 : own (AV.slc gf 0 a.frames.length) = [gf] := rfl
  rw [e0, List.singleton_append, List.nodup_cons, List.nodup_append] at nd
  obtain ⟨nd1, nd2, nd3, nd4⟩ := nd
  simp only [List.mem_append, not_or] at nd1
  simp [zwo, zap, h1.1, h1.2.1, h1.2.2]
  generalize hX : Heap.put H1 n1 _ = HX
  have x1 : HX n1 = some (.row 9 (zap a.id a.trip a.prog (.slc gf 0 a.frames.length) ha a.permit)) := by rw [← hX, Heap.put_at]; rfl
  have xk : ∀ g, g < n1 → HX g = H1 g := fun g hg => by rw [← hX, Heap.put_ne _ _ (by omega)]
  refine zadh (lo := nx + 2) hb hfl (by rw [xk gf (bd gf (.inl rfl)).2]; exact c1) c2 c3 (ow.frs.keep fun g hg => xk g (bd g (.inr hg)).2) bd fun H' n' l hn keep sl bl => ?_
  have x2 := (keep n1 (by omega)).trans x1
  simp [x2, zap]
  let G : Nat → Prop := fun g => g ∈ own ha ∨ g ∈ own l
  let H0 : Heap := fun g => if g ∈ own ha ∨ g ∈ own l then none else H' g
  have h0 : ∀ g o, H0 g = some o → ¬ G g ∧ H' g = some o := fun g o hg => by
    by_cases h : g ∈ own ha ∨ g ∈ own l
    · simp only [H0, if_pos h] at hg; cases hg
    · simp only [H0, if_neg h] at hg; exact ⟨h, hg⟩
  have up : ∀ g, g ∉ own ha → g < n1 + 1 → H0 g = HX g := fun g h1 h2 => by
    simp only [H0]
    rw [if_neg (fun h => by
      rcases h with h | h
      · exact h1 h
      · have := bl g h; omega)]
    exact keep g h2
  refine QC.thaw (zamw a.heap (zn a.frames) hr sz.b5 (by omega)) (G := G) (H0 := H0) (zes.cons (Slot.frzP (sz := 6) ?_ (fun g hg => .inl hg) (zhs _)) (zes.cons (Slot.frzP (sz := 3) ?_ (fun g hg => .inr hg) (zhr _)) .nil)) h0 ?_
  · have := ow.hp.keep (H' := H') fun g hg => by have := bh g hg; rw [keep g (by omega), xk g (by omega)]
    simpa [rowC] using this
  · simpa [rowV] using sl
  have y1 : H0 n1 = some (.row 9 (zap a.id a.trip a.prog (.slc gf 0 a.frames.length) ha a.permit)) := by
    rw [up n1 (fun h => by have := bh _ h; omega) (by omega)]; exact x1
  have lowk : ∀ g, g < nx + 2 → H0 g = HH g := fun g hg => by
    rw [up g (fun h => by have := bh _ h; omega) (by omega), xk g (by omega), k1 g (by omega)]
  simp [zre, y1, zap]
  obtain ⟨z, z1, z2⟩ := q2
  have hcv : (VM.canonV a.heap (zn a.frames)).map Val.avs = (zn a.frames).map fun v => (VM.put (VM.order a.heap (zn a.frames)) v).avs := by
    unfold VM.canonV; rw [List.map_map]; rfl
  rw [hcv]
  have gdis : ∀ g ∈ owns ss, g ∉ own ha := fun g hg h => nd4 g h g hg rfl
  refine zaif (id := a.id) (trip := a.trip) (pr := a.prog) (m := a.permit) (p := VM.put (VM.order a.heap (zn a.frames))) (hp := VM.canonC a.heap (zn a.frames)) (ss := ss) (cs := cs) (ha := ha) hfl ?_ c2 c3 (ow.frs.keep fun g hg => ?_) nd3 nd1.2 (fun h => by have := bd _ (.inr h); omega) (fun h => by have := bd _ (.inr h); omega) (by omega) y1 ⟨z, by rw [lowk _ (by omega)]; exact z1, z2⟩ fun H3 fr3 k3 => ?_
  · rw [up gf nd1.1 (by have := bd gf (.inl rfl); omega), xk gf (bd gf (.inl rfl)).2]; exact c1
  · rw [up g (gdis g hg) (by have := bd g (.inr hg); omega), xk g (bd g (.inr hg)).2]
  have hgf := bd gf (.inl rfl)
  refine ⟨?_, fun g hg => ?_⟩
  · have hp : VM.pack a = ⟨a.id, a.trip, a.prog, a.frames.map (pkF (VM.put (VM.order a.heap (zn a.frames)))), VM.canonC a.heap (zn a.frames), a.permit⟩ := rfl
    rw [hp]
    have ef : frow (a.frames.map (pkF (VM.put (VM.order a.heap (zn a.frames))))) ss = frow a.frames ss := zabq _ _
    refine zaio (zaa.frz (cs := cs) fr3 ?_ (by simpa [ef] using c2) (by simpa using c3) (by omega) (fun x hx => by have := bd x (.inr hx); omega) (by simp)) (.same _ (zna (zyt _)))
    rw [k3 gf nd1.2 (by omega) (by omega), up gf nd1.1 (by omega), xk gf hgf.2]; exact c1
  · rw [k3 g (fun h => by have := bd _ (.inr h); omega) (by omega) (by omega), lowk g (by omega)]
    exact q4 g hg
end Go.Proofs.YtpbnaaoilgohkaaGreatDoor
set_option maxRecDepth 8000
namespace Go.Proofs.YtpbnaaoilgohkaaGreatDoor
open Go Go.RowKit
theorem WExt.numsL {p n n' : Nat} {l l' : AV} {bs : Str} {H H' : Heap} {Q : AV → Heap → Nat → Prop} (e : WExt p l H n l' bs H' n') (ns : List Int) (hb : bs.length + 10 * ns.length ≤ 100000000000000) (hi : ∀ m ∈ ns, -9223372036854775808 ≤ m ∧ m ≤ 9223372036854775807)
    (hq : ∀ H2 n2 l2, WExt p l H n l2 (bs ++ zy ns) H2 n2 → (∀ y, y < n' → y ≠ p → y ∉ own l' → H2 y = H' y ∧ y ∉ own l2 ∧ y < n2) → Q (.tup []) H2 n2) : za Tryz.prog 28 [.ptr p 0, .slc n' 0 ns.length] (H'.put n' (some (.row 1 (ns.map (AV.int .i64))))) (n' + 1) Q := by
  have w := e.wr
  have e1 := e.put (.row 1 (ns.map (AV.int .i64)))
  refine zaeh e1.wr (Heap.put_at _ _ _) (by have := w.lt; omega) (fun h => by have := w.ow _ h; omega) (by omega) hb hi fun H2 n2 l2 e2 => hq _ _ _ (e1.trans e2) fun y h1 h2 h3 => ⟨?_, fun h4 => ?_, by have := e2.le; omega⟩
  · rw [e2.keep y (by omega) h2 h3, Heap.put_ne _ _ (by omega)]
  · rcases e2.new y h4 with h5 | h5
    · exact h3 h5
    · omega
theorem ztx (f : Frm) : VM.frmB f = zy [f.fn, f.at_] ++ VM.valsB f.vars ++ VM.valsB f.stack := by simp [VM.frmB, zy]
theorem ztf {l : List Val} (h : I64l l) (hl : l.length ≤ 4096) : (VM.valsB l).length ≤ 20000000 := by
  unfold VM.valsB
  have h1 := zad l.length
  have h2 := zct (l := l) (f := VM.valB) (k := 4116) fun v hv => by have := zjl v; have := (h v hv).2; omega
  rw [List.length_append]
  omega
structure zajz (b : Agt) : Prop where
  prog : zacq b.prog
  id : I64 b.id
  trip : I64 b.trip
  pmt : I64 b.permit.fuel ∧ I64 b.permit.room ∧ I64 b.permit.hops
  frames : b.frames.length ≤ 4096 ∧ ∀ f ∈ b.frames, I64 f.fn ∧ I64 f.at_ ∧ (I64l f.vars ∧ f.vars.length ≤ 4096) ∧ (I64l f.stack ∧ f.stack.length ≤ 4096)
  heap : b.heap.length ≤ 4096 ∧ ∀ c ∈ b.heap, (I64v c.left ∧ c.left.text.length ≤ 4096) ∧ (I64v c.right ∧ c.right.text.length ≤ 4096)
theorem zalw {f : Frm} (h1 : I64l f.vars ∧ f.vars.length ≤ 4096) (h2 : I64l f.stack ∧ f.stack.length ≤ 4096) : (VM.frmB f).length ≤ 50000000 := by
  rw [ztx, List.length_append, List.length_append]
  have := zcs [f.fn, f.at_]
  have := ztf h1.1 h1.2
  have := ztf h2.1 h2.2
  simp only [List.length_cons, List.length_nil] at *
  omega
theorem zaer {c : Cl} (h1 : c.left.text.length ≤ 4096) (h2 : c.right.text.length ≤ 4096) : (VM.clB c).length ≤ 10000 := by
  unfold VM.clB
  have := zjl c.left
  have := zjl c.right
  rw [List.length_append]
  omega
theorem zald {p : Prg} (h : zacq p) : (VM.prgB p).length ≤ 1000000000 := by
  unfold VM.prgB
  have h1 := zad p.words.length
  have h2 := zad p.codes.length
  have h3 := zct (l := p.words) (f := VM.textB) (k := 4106) fun w hw => by have := zod w; have := h.words.2 w hw; omega
  have h4 := zct (l := p.codes) (f := VM.codB) (k := 200000) fun c hc => zwc (h.codes.2 c hc).1
  have := h.words.1
  have := h.codes.1
  simp only [List.length_append]
  omega
set_option maxRecDepth 20000 in
set_option maxHeartbeats 4000000 in
theorem zamz {a : Agt} {fs : List Frm} {f : Frm} (sz : zaaj a) (hfr : a.frames = fs ++ [f]) (hfl : a.frames.length ≤ 4096) (hroots : (zn a.frames).length ≤ 4096) (hr : VM.right a.heap (zn a.frames) = true) (sm : zajz (VM.pack a)) :
    QC Tryz.prog 9 [.agg a.avs] (.ro (bsR (VM.image a))) := by
  refine QC.of' fun H nx => ?_
  refine zuy _ H nx _ ?_
  have al : a.avs.length = 9 := rfl
  have at9 : a.avs.take 9 = a.avs := rfl
  have hsu : (AV.agg a.avs).sure = true := by simp [Agt.avs]
  unfold zqc
  refine ⟨hsu, ?_⟩
  simp [al, at9]
  refine QC.call (zaog sz hfr hfl hroots hr) ?_
  have him : VM.image a = VM.agtB (VM.pack a) ++ WM.num (WM.sum (VM.agtB (VM.pack a))) := rfl
  rw [him]
  generalize VM.pack a = b at *
  clear hfr hfl hroots hr sz at9 al hsu
  have bl : b.avs.length = 9 := rfl
  have bt : b.avs.take 9 = b.avs := rfl
  have bd : b.avs.drop 9 = [] := rfl
  have hsb : (AV.agg b.avs).sure = true := by simp [Agt.avs]
  have bav : b.avs = [.int .i64 b.id, .int .i64 b.trip, .ro (b.prog.codes.map Cod.avs), .ro (b.prog.words.map fun w => [.str w]), .ro (b.frames.map Frm.avs), .ro (b.heap.map Cl.avs), .int .i64 b.permit.fuel, .int .i64 b.permit.room, .int .i64 b.permit.hops] := rfl
  have ne_0 : nx ≠ nx + 1 ∧ nx + 1 ≠ nx ∧ nx ≠ nx + 1 + 1 ∧ nx + 1 + 1 ≠ nx := ⟨by omega, by omega, by omega, by omega⟩
  simp [zop, bav]
  rw [← bav]
  generalize hX : Heap.put _ (nx + 1 + 1) _ = X
  have x1 : X (nx + 1 + 1) = some (.row 1 [.nils]) := by rw [← hX, Heap.put_at]
  have x2 : X (nx + 1) = some (.row 9 b.avs) := by rw [← hX, Heap.put_ne _ _ (by omega), Heap.put_at]
  have xk : ∀ y, y < nx → X y = H y := fun y hy => by rw [← hX, Heap.put_ne _ _ (by omega), Heap.put_ne _ _ (by omega), Heap.put_ne _ _ (by omega)]
  clear hX
  have w : WrM (nx + 1 + 1) .nils [] X (nx + 1 + 2) := ⟨x1, .inl ⟨rfl, .inl rfl⟩, by simp [own], by omega⟩
  have gk : ∀ {H' : Heap} {n' : Nat} {l' : AV} {bs' : Str}, WExt (nx + 1 + 1) .nils X (nx + 1 + 2) l' bs' H' n' → H' (nx + 1) = some (.row 9 b.avs) := fun e => (e.keep _ (by omega) (by omega) (by simp [own])).trans x2
  have b4 : b.avs[4]? = some (.ro (b.frames.map Frm.avs)) := rfl
  have b5 : b.avs[5]? = some (.ro (b.heap.map Cl.avs)) := rfl
  obtain ⟨sp, s1, s2, ⟨s3, s4, s5⟩, ⟨f1, f2⟩, ⟨h1, h2⟩⟩ := sm
  refine w.ext.nums [b.id, b.trip, b.permit.fuel, b.permit.room, b.permit.hops] (by simp) (by simp; exact ⟨s1, s2, s3, s4, s5⟩) fun H1 n1 l1 e1 _ => ?_
  rw [List.nil_append] at e1
  have nl1 := zcs [b.id, b.trip, b.permit.fuel, b.permit.room, b.permit.hops]
  simp only [List.length_cons, List.length_nil] at nl1
  simp only [zoq]
  refine zacu e1.wr sp (gk e1) (by omega) rfl rfl (by omega) fun H2 n2 l2 e2' => ?_
  have e2 := e1.trans e2'
  have pl := zald sp
  have g2 := gk e2
  simp [zor, g2, b4]
  refine e2.nums [(b.frames.length : Int)] (by rw [List.length_append, List.length_singleton]; omega) (by simp; omega) fun H3 n3 l3 e3 _ => ?_
  have nl3 := zcs [(b.frames.length : Int)]
  simp only [List.length_singleton] at nl3
  have g3 := gk e3
  simp [zqd, g3, b4]
  generalize hB : zy [b.id, b.trip, b.permit.fuel, b.permit.room, b.permit.hops] ++ VM.prgB b.prog ++ zy [(b.frames.length : Int)] = B at e3
  have hBl : B.length ≤ 2000000000 := by rw [← hB]; simp only [List.length_append]; omega
  have hfl : ∀ f ∈ b.frames, (VM.frmB f).length ≤ 50000000 := fun f hf => zalw (f2 f hf).2.2.1 (f2 f hf).2.2.2
  have hcl : ∀ c ∈ b.heap, (VM.clB c).length ≤ 10000 := fun c hc => zaer (h2 c hc).1.2 (h2 c hc).2.2
  refine LP.mk (fun k xs H' n' => ∃ (i : Nat) (l' : AV), k = b.frames.length - i ∧ i ≤ b.frames.length ∧ xs = [.ptr (nx + 1) 0, .ptr (nx + 1 + 1) 0, .ro (b.frames.map Frm.avs), .int .i64 b.frames.length, .int .i64 i] ∧ WExt (nx + 1 + 1) .nils X (nx + 1 + 2) l' (B ++ (b.frames.take i).flatMap VM.frmB) H' n') b.frames.length ⟨0, l3, rfl, by omega, rfl, by simpa using e3⟩ ?_
  clear e3 g3 e2 g2 e2' e1
  rintro k xs H4 n4 ⟨i, l4, rfl, hil, rfl, e4⟩
  have hft := zfr hfl hil
  by_cases hlt : i < b.frames.length
  · have hadd : IntKind.i64.wrap ((i : Int) + 1) = ((i + 1 : Nat) : Int) := by rw [i64w (by omega)]; rfl
    have hm : b.frames[i]? = some b.frames[i] := List.getElem?_eq_getElem hlt
    obtain ⟨d1, d2, ⟨d3, d4⟩, ⟨d5, d6⟩⟩ := f2 _ (List.getElem_mem hlt)
    generalize hmm : b.frames[i] = m at hm d1 d2 d3 d4 d5 d6
    have hsn := zfs (f := VM.frmB) hm
    simp [zjv, hlt, hmm, Frm.avs]
    have ep := e4.put (.row 4 m.avs)
    have lp := e4.wr.lt
    have nop : n4 ∉ own l4 := fun h => by have := e4.wr.ow _ h; omega
    refine ep.numsL [m.fn, m.at_] (by rw [List.length_append]; simp only [List.length_cons, List.length_nil]; omega) (by simp; exact ⟨d1, d2⟩) fun H5 n5 l5 e5 k5 => ?_
    have nl5 := zcs [m.fn, m.at_]
    simp only [List.length_cons, List.length_nil] at nl5
    obtain ⟨r5, o5, lt5⟩ := k5 n4 (by omega) (by omega) nop
    rw [Heap.put_at] at r5
    simp [zqj, r5, Frm.avs]
    refine zyp e5.wr d3 (by omega) (by simp only [List.length_append]; omega) fun H6 n6 l6 e6 => ?_
    have e6' := e5.trans e6
    have lv := ztf d3 d4
    have r6 : H6 n4 = some (.row 4 m.avs) := (e6.keep n4 lt5 (by omega) o5).trans r5
    simp [zqk, r6, Frm.avs]
    refine zyp e6'.wr d5 (by omega) (by simp only [List.length_append]; omega) fun H7 n7 l7 e7 => ?_
    have e7' := e6'.trans e7
    have eb : B ++ (b.frames.take i).flatMap VM.frmB ++ zy [m.fn, m.at_] ++ VM.valsB m.vars ++ VM.valsB m.stack = B ++ (b.frames.take (i + 1)).flatMap VM.frmB := by rw [hsn, ztx]; simp only [List.append_assoc]
    rw [eb] at e7'
    simp [zql, hadd]
    exact ⟨b.frames.length - (i + 1), by omega, i + 1, rfl, by omega, rfl, _, e7'⟩
  · obtain rfl : i = b.frames.length := by omega
    rw [List.take_length] at e4 hft
    have g4 := gk e4
    simp [zjv, g4, b5]
    refine e4.nums [(b.heap.length : Int)] (by rw [List.length_append, List.length_singleton]; omega) (by simp; omega) fun H5 n5 l5 e5 _ => ?_
    have nl5 := zcs [(b.heap.length : Int)]
    simp only [List.length_singleton] at nl5
    have g5 := gk e5
    simp [zqe, g5, b5]
    generalize hC : B ++ b.frames.flatMap VM.frmB ++ zy [(b.heap.length : Int)] = C at e5
    have hCl : C.length ≤ 500000000000 := by rw [← hC]; simp only [List.length_append]; omega
    refine LP.mk (fun k xs H' n' => ∃ (i : Nat) (l' : AV), k = b.heap.length - i ∧ i ≤ b.heap.length ∧ xs = [.ptr (nx + 1 + 1) 0, .ro (b.heap.map Cl.avs), .int .i64 b.heap.length, .int .i64 i] ∧ WExt (nx + 1 + 1) .nils X (nx + 1 + 2) l' (C ++ (b.heap.take i).flatMap VM.clB) H' n') b.heap.length ⟨0, l5, rfl, by omega, rfl, by simpa using e5⟩ ?_
    clear e5 g5 e4 g4
    rintro k xs H6 n6 ⟨i, l6, rfl, hil, rfl, e6⟩
    have hft6 := zfr hcl hil
    by_cases hlt : i < b.heap.length
    · have hadd : IntKind.i64.wrap ((i : Int) + 1) = ((i + 1 : Nat) : Int) := by rw [i64w (by omega)]; rfl
      have hm : b.heap[i]? = some b.heap[i] := List.getElem?_eq_getElem hlt
      obtain ⟨⟨d1, d2⟩, ⟨d3, d4⟩⟩ := h2 _ (List.getElem_mem hlt)
      generalize hmm : b.heap[i] = m at hm d1 d2 d3 d4
      have hsn := zfs (f := VM.clB) hm
      simp [zjw, hlt, hmm, Cl.avs, Val.avs]
      have ep := e6.put (.row 6 m.avs)
      have lp := e6.wr.lt
      have nop : n6 ∉ own l6 := fun h => by have := e6.wr.ow _ h; omega
      refine zvt ep.wr d1 (by simp only [List.length_append]; omega) fun H7 n7 l7 e7 => ?_
      have vl := zjl m.left
      have e7' := ep.trans e7
      have r7 : H7 n6 = some (.row 6 m.avs) := by rw [e7.keep n6 (by omega) (by omega) nop, Heap.put_at]; rfl
      simp [zqh, r7, Cl.avs, Val.avs]
      refine zvt e7'.wr d3 (by simp only [List.length_append]; omega) fun H8 n8 l8 e8 => ?_
      have e8' := e7'.trans e8
      have eb : C ++ (b.heap.take i).flatMap VM.clB ++ VM.valB m.left ++ VM.valB m.right = C ++ (b.heap.take (i + 1)).flatMap VM.clB := by rw [hsn]; unfold VM.clB; simp only [List.append_assoc]
      rw [eb] at e8'
      simp [zqi, hadd]
      exact ⟨b.heap.length - (i + 1), by omega, i + 1, rfl, by omega, rfl, _, e8'⟩
    · obtain rfl : i = b.heap.length := by omega
      rw [List.take_length] at e6 hft6
      have ea : C ++ b.heap.flatMap VM.clB = VM.agtB b := by rw [← hC, ← hB]; simp [VM.agtB, zy]
      have hal : (VM.agtB b).length ≤ 600000000000 := by rw [← ea]; simp only [List.length_append]; omega
      rw [ea] at e6
      have rp := e6.wr.row
      simp [zjw, rp]
      have hsm := zyq (VM.agtB b) 2166136261 (by omega)
      have hs64 : (WM.sum (VM.agtB b) : Int) ≤ 9223372036854775807 := by
        have e : WM.sum (VM.agtB b) = (VM.agtB b).foldl WM.sumStep 2166136261 := rfl
        rw [e]; omega
      refine QC.readsC (zany (VM.agtB b) (by omega)) (by simp) (LFrz.cons (Slot.frzB e6.wr.slot fun _ _ => Nat.zero_le _) LFrz.nil) ?_
      simp [zqf]
      refine e6.nums [((WM.sum (VM.agtB b) : Nat) : Int)] (by rw [List.length_singleton]; omega) (by simp; omega) fun H7 n7 l7 e7 _ => ?_
      have en : zy [((WM.sum (VM.agtB b) : Nat) : Int)] = WM.num (WM.sum (VM.agtB b)) := by simp [zy]
      rw [en] at e7
      have r7 := e7.wr.row
      simp [zqg, r7]
      refine ⟨Slot.frzB e7.wr.slot fun y hy => (by have := e7.wr.ow y hy; omega), fun y hy => ?_⟩
      rw [e7.keep y (by omega) (by omega) (by simp [own])]
      exact xk y hy
end Go.Proofs.YtpbnaaoilgohkaaGreatDoor
set_option maxRecDepth 8000
namespace Go.Proofs.YtpbnaaoilgohkaaGreatDoor
namespace VM
structure Went (p : Prg) (f : Frm) : Prop where
  pos : 0 < f.at_
  op : ((codeAt p f.fn).ins.getD (f.at_.toNat - 1) ⟨0, 0, 0⟩).op = 13
  seen : 0 ≤ (hts p f).getD (f.at_.toNat - 1) 0
  hei : (hts p f)[f.at_.toNat]? = some ((f.stack.length : Int) + 1)
section
variable {a : Agt} {k : Nat} {f : Frm}
end
theorem chain_get {p : Prg} {fs : List Frm} {fn : Int} (h : WChain p fs fn) : ∀ (f : Frm), f.fn = fn → ∀ (k : Nat) (g : Frm), fs[k]? = some g → Waits p g ((((fs ++ [f])[k + 1]?).map (·.fn)).getD 0) := by
  induction h with
  | nil fn => intro f _ k g hg; simp at hg
  | snoc gs g' fn hc hw ih =>
    intro f hf k g hg
    by_cases hk : k < gs.length
    · rw [List.getElem?_append_left hk] at hg
      have := ih g' rfl k g hg
      rw [List.append_assoc, show k + 1 = k + 1 from rfl]
      have e : (gs ++ ([g'] ++ [f]))[k + 1]? = (gs ++ [g'])[k + 1]? := by
        rw [← List.append_assoc, List.getElem?_append_left (by simp; omega)]
      rw [e]; exact this
    · have hk' : k = gs.length := by have := (List.getElem?_eq_some_iff.1 hg).1; simp at this; omega
      subst hk'
      rw [List.getElem?_append_right (Nat.le_refl _)] at hg
      simp at hg
      subst hg
      have e : ((gs ++ [g']) ++ [f])[gs.length + 1]? = some f := by
        rw [List.getElem?_append_right (by simp)]; simp
      rw [e]
      simp only [Option.map_some, Option.getD_some, hf]
      exact hw
structure Gone (a : Agt) (fs : List Frm) (f : Frm) : Prop where
  fr : a.frames = fs ++ [f]
  prog : program a.prog = 0
  id : 0 ≤ a.id ∧ a.id ≤ 1073741824
  trip : 0 ≤ a.trip ∧ a.trip ≤ 1073741824
  fuel : 0 ≤ a.permit.fuel ∧ a.permit.fuel ≤ 2000
  room : 0 ≤ a.permit.room
  hops : 0 ≤ a.permit.hops ∧ a.permit.hops ≤ 12
  flen : fs.length < 12
  hlen : (a.heap.length : Int) + a.permit.room ≤ 60
  ok : ∀ g ∈ fs ++ [f], FrOk a.prog a.heap.length g
  chain : WChain a.prog fs f.fn
  went : Went a.prog f
  cells : ∀ c ∈ a.heap, WrongOk c.left a.heap.length ∧ WrongOk c.right a.heap.length
theorem frame_gone {a : Agt} {k : Nat} {f : Frm} (hp : program a.prog = 0) (hk : a.frames[k]? = some f) (h : frame a k true = 0) : FrOk a.prog a.heap.length f ∧ (k + 1 = a.frames.length → Went a.prog f) ∧ (k + 1 ≠ a.frames.length → Waits a.prog f (((a.frames[k + 1]?).map (·.fn)).getD 0)) := by
  unfold frame at h
  rw [hk] at h
  simp only at h
  by_cases hfn : 0 ≤ f.fn
  case neg => rw [if_neg hfn] at h; simp at h
  rw [if_pos hfn] at h
  cases hc : a.prog.codes[f.fn.toNat]? with
  | none => rw [hc] at h; simp at h
  | some c =>
  rw [hc] at h
  simp only at h
  by_cases hat : 0 ≤ f.at_
  case neg => rw [if_neg hat] at h; simp at h
  rw [if_pos hat] at h
  cases hi : c.ins[f.at_.toNat]? with
  | none => rw [hi] at h; simp at h
  | some i =>
  rw [hi] at h
  simp only at h
  by_cases hv : (f.vars.length : Int) ≠ c.vars
  · rw [if_pos hv] at h; omega
  rw [if_neg hv] at h
  have hcode := (List.getElem?_eq_some_iff.1 hc).1
  have hca : codeAt a.prog f.fn = c := by unfold codeAt; rw [List.getD_eq_getElem?_getD, hc]; rfl
  have hil := (List.getElem?_eq_some_iff.1 hi).1
  obtain ⟨pr, _⟩ := zbv hp
  obtain ⟨_, calm, hz⟩ := pr _ (List.mem_of_getElem? hc)
  have hlen := (zeh calm hz).1
  have hh : (heights c.ins).1[f.at_.toNat]? = some ((heights c.ins).1.getD f.at_.toNat 0) := by
    rw [List.getD_eq_getElem?_getD, List.getElem?_eq_getElem (by omega)]; rfl
  have main : VM.firstErr (fun v => wrong v a.heap.length) (f.vars ++ f.stack) = 0 ∧ f.at_ ≠ 0 ∧ 0 ≤ (heights c.ins).1.getD (f.at_.toNat - 1) 0 ∧ (heights c.ins).1.getD f.at_.toNat 0 = f.stack.length + 1 ∧ (k + 1 = a.frames.length → (c.ins.getD (f.at_.toNat - 1) ⟨0, 0, 0⟩).op = 13) ∧ (k + 1 ≠ a.frames.length → (c.ins.getD (f.at_.toNat - 1) ⟨0, 0, 0⟩).op = 17 ∧
      (c.ins.getD (f.at_.toNat - 1) ⟨0, 0, 0⟩).a = ((a.frames[k + 1]?).map (·.fn)).getD 0) := by
    by_cases hlast : k + 1 = a.frames.length
    · simp only [hlast, decide_true, Bool.not_true, Bool.false_or, Bool.true_and, Bool.false_and, Bool.or_true, if_true] at h
      by_cases hw : (decide (f.at_ = 0) || (decide ((c.ins.getD (f.at_.toNat - 1) ⟨0, 0, 0⟩).op ≠ 13) || decide ((heights c.ins).1.getD (f.at_.toNat - 1) 0 < 0))) = true
      · rw [if_pos hw] at h; omega
      · rw [if_neg hw] at h
        by_cases hst : (heights c.ins).1.getD f.at_.toNat 0 - 1 < 0 ∨ (f.stack.length : Int) ≠ (heights c.ins).1.getD f.at_.toNat 0 - 1
        · rw [if_pos hst] at h; omega
        · rw [if_neg hst] at h
          simp only [Bool.or_eq_true, decide_eq_true_eq, not_or, Classical.not_not] at hw
          obtain ⟨w1, w2, w4⟩ := hw
          exact ⟨h, w1, by omega, by omega, fun _ => w2, fun hx => absurd hlast hx⟩
    · simp only [hlast, decide_false, Bool.not_false, Bool.true_and, Bool.or_false, Bool.false_and, Bool.true_or, if_true] at h
      by_cases hw : (decide (f.at_ = 0) || (decide ((c.ins.getD (f.at_.toNat - 1) ⟨0, 0, 0⟩).op ≠ 17) || decide ((c.ins.getD (f.at_.toNat - 1) ⟨0, 0, 0⟩).a ≠ ((a.frames[k + 1]?).map (·.fn)).getD 0) || decide ((heights c.ins).1.getD (f.at_.toNat - 1) 0 < 0))) = true
      · rw [if_pos hw] at h; omega
      · rw [if_neg hw] at h
        by_cases hst : (heights c.ins).1.getD f.at_.toNat 0 - 1 < 0 ∨ (f.stack.length : Int) ≠ (heights c.ins).1.getD f.at_.toNat 0 - 1
        · rw [if_pos hst] at h; omega
        · rw [if_neg hst] at h
          simp only [Bool.or_eq_true, decide_eq_true_eq, not_or, Classical.not_not] at hw
          obtain ⟨w1, ⟨w2, w3⟩, w4⟩ := hw
          exact ⟨h, w1, by omega, by omega, fun hx => absurd hx hlast, fun _ => ⟨w2, w3⟩⟩
  obtain ⟨m1, w1, w4, w5, m2, m3⟩ := main
  obtain ⟨e1, e2⟩ := firstErr_app m1
  refine ⟨⟨hfn, hat, hcode, by rw [hca]; exact hil, by rw [hca]; omega, fun v hv => wrong_ok (e1 v hv), fun v hv => wrong_ok (e2 v hv)⟩, fun hlast => ?_, fun hlast => ?_⟩
  · refine ⟨by omega, by rw [hca]; exact m2 hlast, by unfold hts; rw [hca]; exact w4, ?_⟩
    unfold hts
    rw [hca, hh, w5]
  · obtain ⟨w2, w3⟩ := m3 hlast
    refine ⟨by omega, by rw [hca]; exact w2, by rw [hca]; exact w3, by unfold hts; rw [hca]; exact w4, ?_⟩
    unfold hts
    rw [hca, hh, w5]
theorem agent_gone {a : Agt} (h : agent a true = 0) : ∃ fs f, Gone a fs f := by
  unfold agent at h
  by_cases h1 : program a.prog ≠ 0
  · rw [if_pos h1] at h; exact absurd h h1
  rw [if_neg h1] at h
  have hp := Classical.not_not.1 h1
  split at h
  · omega
  rename_i h2
  split at h
  · omega
  rename_i h3
  split at h
  · omega
  rename_i h4
  by_cases h5 : framesErr a true ≠ 0
  · rw [if_pos h5] at h; exact absurd h h5
  rw [if_neg h5] at h
  have hfr := zax (Classical.not_not.1 h5)
  have hcell := zax h
  obtain ⟨n, hn⟩ : ∃ n, a.frames.length = n + 1 := ⟨a.frames.length - 1, by omega⟩
  have hlast : a.frames[n]? = some a.frames[n] := List.getElem?_eq_getElem (by omega)
  have hall : ∀ (k : Nat) (g : Frm), a.frames[k]? = some g → frame a k true = 0 := fun k g hg => hfr k (List.mem_range.2 (List.getElem?_eq_some_iff.1 hg).1)
  have hsplit : a.frames = a.frames.take n ++ [a.frames[n]] := by
    have : a.frames.take (n + 1) = a.frames.take n ++ [a.frames[n]] := by rw [List.take_add_one, hlast]; rfl
    rw [← this, List.take_of_length_le (by omega)]
  refine ⟨a.frames.take n, a.frames[n], hsplit, hp, by omega, by omega, by omega, by omega, by omega, by rw [List.length_take]; omega, by omega, fun g hg => ?_, ?_, (frame_gone hp hlast (hall n _ hlast)).2.1 (by omega), fun c hc => ?_⟩
  · rw [← hsplit] at hg
    obtain ⟨k, hk, rfl⟩ := List.getElem_of_mem hg
    exact (frame_gone hp (List.getElem?_eq_getElem hk) (hall k _ (List.getElem?_eq_getElem hk))).1
  · exact chain_of n _ hlast fun j g hj hg => (frame_gone hp hg (hall j g hg)).2.2 (by omega)
  · have := hcell c hc
    unfold cellErr at this
    split at this
    · rename_i hx; exact absurd this hx
    · rename_i hx
      exact ⟨wrong_ok (Classical.not_not.1 hx), wrong_ok this⟩
end VM
end Go.Proofs.YtpbnaaoilgohkaaGreatDoor
