/- The machine in memory: what changes, and what stays. A call that changes what it is handed by address, where the order is drawn: what it leaves names no more than what was there named. Cutting and copying rows. Agents as bytes, and back: the plain functions. Numbers and texts as bytes, behind an owned row. A copy of an agent: the program's part. The writer: numbers, values, programs. A copy of an agent: the frames' part. A copy of an agent. Agents, by value. Sums of bytes. -/
import Derived.Test.YtpbnaaoilgohkaaGreatDoorG9
import Derived.Test.YtpbnaaoilgohkaaGreatDoorG8
set_option linter.unusedSimpArgs false
set_option linter.unusedVariables false
set_option maxRecDepth 8000
namespace Go.Proofs.YtpbnaaoilgohkaaGreatDoor
open Go Go.RowKit
structure zanu (n gr gs gf : Nat) (ha : AV) (ss : List (AV × AV)) (va sa : AV) : Prop where
  rs : gr ≠ gs
  rf : gr ≠ gf
  sf : gs ≠ gf
  r : gr < n
  s : gs < n
  f : gf < n
  h : ∀ g ∈ own ha, g < n ∧ g ≠ gr ∧ g ≠ gs ∧ g ≠ gf ∧ g ∉ owns ss ∧ g ∉ own va ∧ g ∉ own sa
  w : ∀ g ∈ owns ss, g < n ∧ g ≠ gr ∧ g ≠ gs ∧ g ≠ gf ∧ g ∉ own ha ∧ g ∉ own va ∧ g ∉ own sa
  v : ∀ g ∈ own va, g < n ∧ g ≠ gr ∧ g ≠ gs ∧ g ≠ gf ∧ g ∉ own ha ∧ g ∉ owns ss ∧ g ∉ own sa
  t : ∀ g ∈ own sa, g < n ∧ g ≠ gr ∧ g ≠ gs ∧ g ≠ gf ∧ g ∉ own ha ∧ g ∉ owns ss ∧ g ∉ own va
theorem zajv {lo n gr gs gf : Nat} {ha va sa : AV} {ss : List (AV × AV)} (nd : (gr :: gs :: gf :: (own ha ++ (owns ss ++ (own va ++ own sa)))).Nodup) (gsn : gs < n) (bd : ∀ g ∈ gr :: gf :: (own ha ++ (owns ss ++ (own va ++ own sa))), lo ≤ g ∧ g < n) : zanu n gr gs gf ha ss va sa := by
  simp only [List.nodup_cons, List.nodup_append, List.mem_cons, List.mem_append, not_or] at nd
  simp only [List.mem_cons, List.mem_append] at bd
  obtain ⟨⟨a1, a2, a3, a4, a5, a6⟩, ⟨b1, b2, b3, b4, b5⟩, ⟨c1, c2, c3, c4⟩, n1, ⟨n2, ⟨n3, n4, n5⟩, n6⟩, n7⟩ := nd
  refine ⟨a1, a2, b1, (bd gr (by simp)).2, gsn, (bd gf (by simp)).2, fun g hg => ⟨(bd g (by simp [hg])).2, fun e => a3 (e ▸ hg), fun e => b2 (e ▸ hg), fun e => c1 (e ▸ hg), fun h => n7 g hg g (.inl h) rfl, fun h => n7 g hg g (.inr (.inl h)) rfl, fun h => n7 g hg g (.inr (.inr h)) rfl⟩,
    fun g hg => ⟨(bd g (by simp [hg])).2, fun e => a4 (e ▸ hg), fun e => b3 (e ▸ hg), fun e => c2 (e ▸ hg), fun h => n7 g h g (.inl hg) rfl, fun h => n6 g hg g (.inl h) rfl, fun h => n6 g hg g (.inr h) rfl⟩,
    fun g hg => ⟨(bd g (by simp [hg])).2, fun e => a5 (e ▸ hg), fun e => b4 (e ▸ hg), fun e => c3 (e ▸ hg), fun h => n7 g h g (.inr (.inl hg)) rfl, fun h => n6 g h g (.inl hg) rfl, fun h => n5 g hg g h rfl⟩,
    fun g hg => ⟨(bd g (by simp [hg])).2, fun e => a6 (e ▸ hg), fun e => b5 (e ▸ hg), fun e => c4 (e ▸ hg), fun h => n7 g h g (.inr (.inr hg)) rfl, fun h => n6 g h g (.inr hg) rfl, fun h => n5 g h g hg rfl⟩⟩
theorem zaih (a : AV) : (own a).Nodup := by cases a <;> simp [own]
section
variable {H0 H : Heap} {lo n gr gs gf : Nat} {id trip : Int} {p : Prg} {s : Spt} {fs : List Frm} {ss : List (AV × AV)} {f : Frm} {va sa : AV} {h : List Cl} {ha : AV} {m : Pmt} {e : Evt}
theorem RL.apart (st : RL H0 H lo n gr gs gf id trip p s fs ss f va sa h ha m e) : zanu n gr gs gf ha ss va sa := zajv st.nd st.gsn st.bd
theorem RL.upd (st : RL H0 H lo n gr gs gf id trip p s fs ss f va sa h ha m e) {H' : Heap} {n' : Nat} {f' : Frm} {va' sa' : AV} {h' : List Cl} {ha' : AV} {m' : Pmt} {e' : Evt} (hn : n ≤ n')
    (run' : H' gr = some (.row 13 (zabd id trip p (.slc gf 0 (fs.length + 1)) ha' m' gs e'))) (fr' : ∃ cs, H' gf = some (.row 4 cs) ∧ cs.take ((fs.length + 1) * 4) = frow fs ss ++ [.int .i64 f'.fn, .int .i64 f'.at_, va', sa'] ∧ (fs.length + 1) * 4 ≤ cs.length)
    (sv' : Slot H' 3 f'.vars.length (rowV f'.vars) va') (st' : Slot H' 3 f'.stack.length (rowV f'.stack) sa') (hp' : Slot H' 6 h'.length (rowC h') ha')
    (hk : ∀ g, g < n → g ≠ gr → g ≠ gf → g ∉ own ha → g ∉ own va → g ∉ own sa → H' g = H g)
    (oh : ∀ g ∈ own ha', g ∈ own ha ∨ (n ≤ g ∧ g < n')) (ov : ∀ g ∈ own va', g ∈ own va ∨ (n ≤ g ∧ g < n')) (ot : ∀ g ∈ own sa', g ∈ own sa ∨ (n ≤ g ∧ g < n'))
    (nd3 : (own ha' ++ (own va' ++ own sa')).Nodup) : RL H0 H' lo n' gr gs gf id trip p s fs ss f' va' sa' h' ha' m' e' := by
  have ap := st.apart
  have b := st.bd
  simp only [List.mem_cons, List.mem_append] at b
  refine ⟨run', fr', st.frs.keep fun g hg => ?_, sv', st', hp', by rw [hk gs ap.s ap.rs.symm ap.sf (fun h => (ap.h _ h).2.2.1 rfl) (fun h => (ap.v _ h).2.2.1 rfl) (fun h => (ap.t _ h).2.2.1 rfl)]; exact st.spot, ?_, by have := st.gsn; omega, ?_, ?_, by have := st.le; omega⟩
  · obtain ⟨w1, w2, w3, w4, w5, w6, w7⟩ := ap.w g hg
    exact hk g w1 w2 w4 w5 w6 w7
  · have mh : ∀ g ∈ own ha', g ≠ gr ∧ g ≠ gs ∧ g ≠ gf ∧ g ∉ owns ss := fun g hg => by
      rcases oh g hg with h | h
      · obtain ⟨w1, w2, w3, w4, w5, w6, w7⟩ := ap.h g h; exact ⟨w2, w3, w4, w5⟩
      · have := ap.r; have := ap.s; have := ap.f
        exact ⟨by omega, by omega, by omega, fun hx => by have := (ap.w g hx).1; omega⟩
    have mv : ∀ g ∈ own va', g ≠ gr ∧ g ≠ gs ∧ g ≠ gf ∧ g ∉ owns ss := fun g hg => by
      rcases ov g hg with h | h
      · obtain ⟨w1, w2, w3, w4, w5, w6, w7⟩ := ap.v g h; exact ⟨w2, w3, w4, w6⟩
      · have := ap.r; have := ap.s; have := ap.f
        exact ⟨by omega, by omega, by omega, fun hx => by have := (ap.w g hx).1; omega⟩
    have mt : ∀ g ∈ own sa', g ≠ gr ∧ g ≠ gs ∧ g ≠ gf ∧ g ∉ owns ss := fun g hg => by
      rcases ot g hg with h | h
      · obtain ⟨w1, w2, w3, w4, w5, w6, w7⟩ := ap.t g h; exact ⟨w2, w3, w4, w6⟩
      · have := ap.r; have := ap.s; have := ap.f
        exact ⟨by omega, by omega, by omega, fun hx => by have := (ap.w g hx).1; omega⟩
    have ndw : (owns ss).Nodup := by
      have := st.nd
      simp only [List.nodup_cons, List.nodup_append] at this
      exact this.2.2.2.2.1.1
    simp only [List.nodup_append] at nd3
    obtain ⟨z1, ⟨z2, z3, z4⟩, z5⟩ := nd3
    simp only [List.nodup_cons, List.nodup_append, List.mem_cons, List.mem_append, not_or]
    refine ⟨⟨ap.rs, ap.rf, fun h => (mh _ h).1 rfl, fun h => (ap.w _ h).2.1 rfl, fun h => (mv _ h).1 rfl, fun h => (mt _ h).1 rfl⟩, ⟨ap.sf, fun h => (mh _ h).2.1 rfl, fun h => (ap.w _ h).2.2.1 rfl, fun h => (mv _ h).2.1 rfl, fun h => (mt _ h).2.1 rfl⟩, ⟨fun h => (mh _ h).2.2.1 rfl, fun h => (ap.w _ h).2.2.2.1 rfl, fun h => (mv _ h).2.2.1 rfl, fun h => (mt _ h).2.2.1 rfl⟩, z1, ⟨ndw, ⟨z2, z3, z4⟩, ?_⟩, ?_⟩
    · rintro x hx y (hy | hy) rfl
      · exact (mv _ hy).2.2.2 hx
      · exact (mt _ hy).2.2.2 hx
    · rintro x hx y (hy | hy | hy) rfl
      · exact (mh _ hx).2.2.2 hy
      · exact z5 _ hx _ (List.mem_append_left _ hy) rfl
      · exact z5 _ hx _ (List.mem_append_right _ hy) rfl
  · intro g hg
    have hl := st.le
    simp only [List.mem_cons, List.mem_append] at hg
    have old : (lo ≤ g ∧ g < n) → lo ≤ g ∧ g < n' := fun h => by omega
    have new : (n ≤ g ∧ g < n') → lo ≤ g ∧ g < n' := fun h => by omega
    rcases hg with hg | hg | hg | hg | hg | hg
    · exact old (b g (.inl hg))
    · exact old (b g (.inr (.inl hg)))
    · rcases oh g hg with h | h
      · exact old (b g (.inr (.inr (.inl h))))
      · exact new h
    · exact old (b g (.inr (.inr (.inr (.inl hg)))))
    · rcases ov g hg with h | h
      · exact old (b g (.inr (.inr (.inr (.inr (.inl h))))))
      · exact new h
    · rcases ot g hg with h | h
      · exact old (b g (.inr (.inr (.inr (.inr (.inr h))))))
      · exact new h
  · intro g hg
    have lb : ∀ x, (x = gr ∨ x = gf ∨ x ∈ own ha ∨ x ∈ owns ss ∨ x ∈ own va ∨ x ∈ own sa) → lo ≤ x := fun x hx => (b x hx).1
    have hl := st.le
    rw [hk g (by omega) (fun e => by have := lb gr (.inl rfl); omega) (fun e => by have := lb gf (.inr (.inl rfl)); omega) (fun h => by have := lb g (.inr (.inr (.inl h))); omega) (fun h => by have := lb g (.inr (.inr (.inr (.inr (.inl h))))); omega) (fun h => by have := lb g (.inr (.inr (.inr (.inr (.inr h))))); omega)]
    exact st.keep g hg
theorem RL.nd3 (st : RL H0 H lo n gr gs gf id trip p s fs ss f va sa h ha m e) : (own ha ++ (own va ++ own sa)).Nodup := by
  have := st.nd
  simp only [List.nodup_cons, List.nodup_append, List.mem_append] at this
  obtain ⟨_, _, _, n1, ⟨n2, ⟨n3, n4, n5⟩, n6⟩, n7⟩ := this
  simp only [List.nodup_append, List.mem_append]
  exact ⟨n1, ⟨n3, n4, n5⟩, fun a ha b hb => n7 a ha b (.inr hb)⟩
theorem RL.more (st : RL H0 H lo n gr gs gf id trip p s fs ss f va sa h ha m e) {H' : Heap} {n' : Nat} (hn : n ≤ n') (hk : ∀ g, g < n → H' g = H g) : RL H0 H' lo n' gr gs gf id trip p s fs ss f va sa h ha m e := by
  have ap := st.apart
  obtain ⟨cs, c1, c2⟩ := st.fr
  exact st.upd hn (by rw [hk _ ap.r]; exact st.run) ⟨cs, by rw [hk _ ap.f]; exact c1, c2⟩ (st.sv.keep fun g hg => hk g (ap.v g hg).1) (st.st.keep fun g hg => hk g (ap.t g hg).1) (st.hp.keep fun g hg => hk g (ap.h g hg).1) (fun g hg _ _ _ _ _ => hk g hg) (fun g hg => .inl hg) (fun g hg => .inl hg) (fun g hg => .inl hg) st.nd3
end
end Go.Proofs.YtpbnaaoilgohkaaGreatDoor
set_option maxRecDepth 8000
namespace Go.Proofs.YtpbnaaoilgohkaaGreatDoor
open Go Go.RowKit
theorem zaju {D : zg} : ∀ {H H' : Heap} {g : Nat}, g ∈ domD D → (H.apply D) g = (H'.apply D) g := by
  induction D with
  | nil => intro H H' g hg; simp at hg
  | cons d r ih =>
    obtain ⟨g', o⟩ := d
    intro H H' g hg
    show ((H.put g' o).apply r) g = ((H'.put g' o).apply r) g
    by_cases hr : g ∈ domD r
    · exact ih hr
    · rw [zkp hr, zkp hr]
      have : g = g' := by simpa [hr] using hg
      subst this
      rw [Heap.put_at, Heap.put_at]
theorem LC.of_calls {P : Program} {f : FuncId} {args : List AV} {r : AV} {H0 : Heap} {rd : List Nat} {D : zg} (hrd : ∀ g ∈ rd, (H0 g).isSome = true) (hdom : ∀ g ∈ domD D, g ∈ rd) (hr : ∀ A : Nat → Prop, (∀ g ∈ rd, A g) → (∀ g ∈ rd, ∀ o, H0 g = some o → BelO A o) → Bel A r)
    (hb : ∀ A : Nat → Prop, (∀ g ∈ rd, A g) → (∀ g ∈ rd, ∀ o, H0 g = some o → BelO A o) → ∀ g o, g ∈ domD D → (H0.apply D) g = some o → BelO A o)
    (h : ∀ H nx, (∀ g ∈ rd, H g = H0 g ∧ g < nx) → za P f args H nx fun v H' nx' => v = r ∧ nx ≤ nx' ∧ (∀ g, g < nx → g ∉ domD D → H' g = H g) ∧ (∀ g o, g ∈ domD D → (H0.apply D) g = some o → H' g = some o)) : LC P f args H0 rd [] D r := by
  intro A ρ H w cargs ⟨N, hN⟩ s ha hag _
  have sN : Sim (· < N) ρ H w := ⟨fun g o ho => hN g (s.live g o ho), fun g o ho => (s.obj g o ho).mono rfl (fun _ _ h => h) (fun g hg => ⟨rfl, hN g hg⟩), s.inj, s.lay⟩
  have aN : LRel (Kof ρ H w) ρ (· < N) args cargs.toList := ⟨ha.1, fun j v c hv hc => (ha.2 j v c hv hc).mono (fun _ _ h => h) (fun g hg => ⟨rfl, hN g hg⟩)⟩
  have hrdA : ∀ g ∈ rd, A g := fun g hg => by
    obtain ⟨o, ho⟩ := Option.isSome_iff_exists.1 (hrd g hg)
    exact s.live g o ((hag g hg).trans ho)
  have hrdB : ∀ g ∈ rd, ∀ o, H0 g = some o → BelO A o := fun g hg o ho => (s.obj g o ((hag g hg).trans ho)).bel
  refine zj (h H N (fun g hg => ⟨hag g hg, hN g (hrdA g hg)⟩) ρ w cargs sN aN) fun cv w' ⟨v, H', nx', ρ', ⟨hv, hnx, hsame, hchg⟩, q3, q4, q5⟩ => ?_
  subst hv
  have hρ : ∀ g, g < N → ρ' g = ρ g := fun g hg => (q5.agree g hg).1
  have hAe : (fun x => A x ∨ x ∈ ([] : List Nat)) = A := by funext x; simp
  have lv : ∀ g o, (H.apply D) g = some o → A g ∧ H' g = some o ∧ BelO A o := fun g o ho => by
    by_cases hg : g ∈ domD D
    · rw [zaju (H' := H0) hg] at ho
      exact ⟨hrdA g (hdom g hg), hchg g o hg ho, hb A hrdA hrdB g o hg ho⟩
    · rw [zkp hg] at ho
      have hA := s.live g o ho
      exact ⟨hA, by rw [hsame g (hN g hA) hg]; exact ho, (s.obj g o ho).bel⟩
  have hK : ∀ b o, Kof ρ' H' w' b = some o → Kof ρ' (H.apply D) w' b = some o := fun b o hb => by
    obtain ⟨h1, h2⟩ := zo.1 hb
    refine zo.2 ⟨fun g hg => ?_, h2⟩
    obtain ⟨o1, ho1⟩ := Option.isSome_iff_exists.1 hg
    exact h1 g (by rw [(lv g o1 ho1).2.1]; rfl)
  refine ⟨ρ', ?_, ?_, ?_⟩
  · rw [hAe]
    refine ⟨fun g o ho => (lv g o ho).1, fun g o ho => ?_, fun x y hx hy hxy => ?_, q3.lay.mono hK⟩
    · obtain ⟨_, h1, h2⟩ := lv g o ho
      exact ((q3.obj g o h1).restrict h2).mono rfl hK (fun _ h => ⟨rfl, h⟩)
    · obtain ⟨o1, ho1⟩ := Option.isSome_iff_exists.1 hx
      obtain ⟨o2, ho2⟩ := Option.isSome_iff_exists.1 hy
      exact q3.inj x y (by rw [(lv x o1 ho1).2.1]; rfl) (by rw [(lv y o2 ho2).2.1]; rfl) hxy
  · rw [hAe]
    exact (q4.restrict (hr A hrdA hrdB)).mono hK (fun g hg => ⟨rfl, hg⟩)
  · rw [hAe]
    exact ⟨fun g hg => ⟨hρ g (hN g hg), hg⟩, fun b o hb => hK b o (q5.k b o hb), q5.os, q5.tape, q5.output, q5.size⟩
theorem LC.of_callsN {P : Program} {f : FuncId} {args : List AV} {r : AV} {H0 : Heap} {rd : List Nat} {D : zg} {g0 : Nat} (hrd : ∀ g ∈ rd, (H0 g).isSome = true) (hdom : ∀ g ∈ domD D, g ∈ rd ∨ g = g0)
    (h : ∀ A : Nat → Prop, (∀ g ∈ rd, A g) → (∀ g ∈ rd, ∀ o, H0 g = some o → BelO A o) → ∀ H nx, (∀ g ∈ rd, H g = H0 g ∧ g < nx) → za P f args H nx fun v H' nx' => ∃ gn, nx ≤ gn ∧ gn < nx' ∧ Rn A gn g0 v r ∧ (∀ g, g < nx → g ∉ domD D → H' g = H g) ∧
      (∀ g o, g ∈ domD D → g ≠ g0 → (H.apply D) g = some o → ∃ o', H' g = some o' ∧ RnO A gn g0 o' o) ∧ (∃ o o', (H.apply D) g0 = some o ∧ H' gn = some o' ∧ RnO A gn g0 o' o)) : LC P f args H0 rd [g0] D r := by
  intro A ρ H w cargs ⟨N0, hN0⟩ s ha hag hfresh
  obtain ⟨N, hN, hg0N⟩ : ∃ N, (∀ g, A g → g < N) ∧ g0 < N := ⟨max N0 (g0 + 1), fun g hg => by have := hN0 g hg; omega, by omega⟩
  have hg0 : ¬ A g0 := hfresh g0 (by simp)
  have sN : Sim (· < N) ρ H w := ⟨fun g o ho => hN g (s.live g o ho), fun g o ho => (s.obj g o ho).mono rfl (fun _ _ h => h) (fun g hg => ⟨rfl, hN g hg⟩), s.inj, s.lay⟩
  have aN : LRel (Kof ρ H w) ρ (· < N) args cargs.toList := ⟨ha.1, fun j v c hv hc => (ha.2 j v c hv hc).mono (fun _ _ h => h) (fun g hg => ⟨rfl, hN g hg⟩)⟩
  have hrdA : ∀ g ∈ rd, A g := fun g hg => by
    obtain ⟨o, ho⟩ := Option.isSome_iff_exists.1 (hrd g hg)
    exact s.live g o ((hag g hg).trans ho)
  have hrdB : ∀ g ∈ rd, ∀ o, H0 g = some o → BelO A o := fun g hg o ho => (s.obj g o ((hag g hg).trans ho)).bel
  refine zj (h A hrdA hrdB H N (fun g hg => ⟨hag g hg, hN g (hrdA g hg)⟩) ρ w cargs sN aN) fun cv w' ⟨v, H', nx', ρ', ⟨gn, hgN, hgn, hv, hsame, hchg, onew, onew', hn1, hn2, hn3⟩, q3, q4, q5⟩ => ?_
  have hρ : ∀ g, g < N → ρ' g = ρ g := fun g hg => (q5.agree g hg).1
  let ρ2 : Nat → Loc := fun g => if g = g0 then ρ' gn else ρ' g
  have h20 : ρ2 g0 = ρ' gn := if_pos rfl
  have h2 : ∀ g, g ≠ g0 → ρ2 g = ρ' g := fun g hg => if_neg hg
  have hAne : ∀ g, A g → g ≠ g0 := fun g hg e => hg0 (e ▸ hg)
  have hR : ∀ g, A g → g < nx' → ρ2 g = ρ' g ∧ (A g ∨ g ∈ [g0]) := fun g hg _ => ⟨h2 g (hAne g hg), .inl hg⟩
  have hRA : ∀ g, A g → g < nx' := fun g hg => by have := hN g hg; omega
  have hG : ρ2 g0 = ρ' gn ∧ (A g0 ∨ g0 ∈ [g0]) := ⟨h20, .inr (by simp)⟩
  -- who stands for whom
  have lv : ∀ g o, (H.apply D) g = some o → (A g ∨ g ∈ [g0]) ∧ ∃ g' o', H' g' = some o' ∧ ρ2 g = ρ' g' ∧ (g = g0 → g' = gn) ∧ (g ≠ g0 → g' = g ∧ A g) ∧
      (∀ K, zah K ρ' (· < nx') w' (ρ' g') o' → zah K ρ2 (fun x => A x ∨ x ∈ [g0]) w' (ρ2 g) o) := fun g o ho => by
    by_cases hgg : g = g0
    · subst hgg
      rw [hn1] at ho
      obtain rfl := Option.some.inj ho
      exact ⟨.inr (by simp), gn, onew', hn2, h20, fun _ => rfl, fun h => absurd rfl h, fun K hk => by rw [h20]; exact hk.rn hn3 hR hRA hG⟩
    · by_cases hg : g ∈ domD D
      · obtain ⟨o', h1, h3⟩ := hchg g o hg hgg ho
        have hA : A g := by
          rcases hdom g hg with h | h
          · exact hrdA g h
          · exact absurd h hgg
        exact ⟨.inl hA, g, o', h1, h2 g hgg, fun h => absurd h hgg, fun _ => ⟨rfl, hA⟩, fun K hk => by rw [h2 g hgg]; exact hk.rn h3 hR hRA hG⟩
      · rw [zkp hg] at ho
        have hA := s.live g o ho
        refine ⟨.inl hA, g, o, by rw [hsame g (hN g hA) hg]; exact ho, h2 g hgg, fun h => absurd h hgg, fun _ => ⟨rfl, hA⟩, fun K hk => ?_⟩
        rw [h2 g hgg]
        exact (hk.restrict (s.obj g o ho).bel).mono rfl (fun _ _ h => h) (fun x hx => ⟨h2 x (hAne x hx), .inl hx⟩)
  have hK : ∀ b o, Kof ρ' H' w' b = some o → Kof ρ2 (H.apply D) w' b = some o := fun b o hb => by
    obtain ⟨k1, k2⟩ := zo.1 hb
    refine zo.2 ⟨fun g hg => ?_, k2⟩
    obtain ⟨o1, ho1⟩ := Option.isSome_iff_exists.1 hg
    obtain ⟨_, g', o', e1, e2, _⟩ := lv g o1 ho1
    rw [e2]
    exact k1 g' (by rw [e1]; rfl)
  refine ⟨ρ2, ⟨fun g o ho => (lv g o ho).1, fun g o ho => ?_, fun x y hx hy hxy => ?_, q3.lay.mono hK⟩, ?_, ⟨fun g hg => ⟨(h2 g (hAne g hg)).trans (hρ g (hN g hg)), .inl hg⟩, fun b o hb => hK b o (q5.k b o hb), q5.os, q5.tape, q5.output, q5.size⟩⟩
  · obtain ⟨_, g', o', e1, _, _, _, e4⟩ := lv g o ho
    exact (e4 _ (q3.obj g' o' e1)).mono rfl hK (fun _ h => ⟨rfl, h⟩)
  · obtain ⟨o1, ho1⟩ := Option.isSome_iff_exists.1 hx
    obtain ⟨o2, ho2⟩ := Option.isSome_iff_exists.1 hy
    obtain ⟨_, x', p1, e1, e2, e3, e4, _⟩ := lv x o1 ho1
    obtain ⟨_, y', p2, f1, f2, f3, f4, _⟩ := lv y o2 ho2
    rw [e2, f2] at hxy
    have hxy' := q3.inj x' y' (by rw [e1]; rfl) (by rw [f1]; rfl) hxy
    by_cases hx0 : x = g0
    · by_cases hy0 : y = g0
      · rw [hx0, hy0]
      · have := (f4 hy0).1
        have hAy := hN y (f4 hy0).2
        have := e3 hx0
        omega
    · by_cases hy0 : y = g0
      · have := (e4 hx0).1
        have hAx := hN x (e4 hx0).2
        have := f3 hy0
        omega
      · rw [← (e4 hx0).1, ← (f4 hy0).1]; exact hxy'
  · exact (q4.rn hv hR hRA hG).mono hK (fun g hg => ⟨rfl, hg⟩)
end Go.Proofs.YtpbnaaoilgohkaaGreatDoor
set_option maxRecDepth 8000
namespace Go.Proofs.YtpbnaaoilgohkaaGreatDoor
open Go Go.RowKit
section
variable {ki : IntKind}
@[simp ↓] theorem zakw {s g off len : Nat} {a : Int} {H : Heap} {kt : Kt} : zby s (.slc g off len) none (some (.int ki a)) H kt = ROWK (H g) fun sz _ => sz = s ∧ 0 ≤ a ∧ a ≤ len ∧ kt (.slc g off a.toNat) [g] [] [] := by
  simp only [zby, lohi]
  refine zfh (fun sz cs h => ?_) fun h => ?_
  · simp [h]
  · intro ha
    split at ha
    · rename_i sz cs he; exact h _ _ he
    · exact ha
@[simp ↓] theorem zaft {s g off len : Nat} {a : Int} {H : Heap} {kt : Kt} : zby s (.slc g off len) (some (.int ki a)) none H kt = ROWK (H g) fun sz _ => sz = s ∧ 0 ≤ a ∧ a ≤ len ∧ kt (.slc g (off + a.toNat * s) ((len : Int) - a).toNat) [g] [] [] := by
  simp only [zby, lohi]
  refine zfh (fun sz cs h => ?_) fun h => ?_
  · simp [h]
  · intro ha
    split at ha
    · rename_i sz cs he; exact h _ _ he
    · exact ha
end
section
variable {ki : IntKind}
theorem zaot {e g off len mm : Nat} {x : AV} {H : Heap} {cells news : List AV} {rd : List Nat} {kh : AV → Heap → Prop} (hs : ze e H x = some (mm, news, rd)) (hg : H g = some (.row e cells)) (hle : off + len * e ≤ cells.length) (hone : news.all AV.one = true)
    (hk : kh (.int .i64 (min mm len : Nat)) (H.put g (some (.row e (zak cells off (news.take (min mm len * e))))))) : CP e (.slc g off len) x H kh := by
  unfold CP COPY
  rw [hs]
  simp only [hg]
  exact ⟨trivial, hle, hone, hk⟩
@[simp ↓] theorem zaye {s g off len : Nat} {a : Int} {H : Heap} {k : AV → Prop} : SL s (.slc g off len) (some (.int ki a)) none H k = ROWK (H g) fun sz _ => sz = s ∧ 0 ≤ a ∧ a ≤ len ∧ k (.slc g (off + a.toNat * s) ((len : Int) - a).toNat) := by
  unfold SL
  rw [zaft]; rfl
@[simp ↓] theorem zayf {s g off len : Nat} {a : Int} {H : Heap} {k : AV → Prop} : SL s (.slc g off len) none (some (.int ki a)) H k = ROWK (H g) fun sz _ => sz = s ∧ 0 ≤ a ∧ a ≤ len ∧ k (.slc g off a.toNat) := by
  unfold SL
  rw [zakw]; rfl
@[simp ↓] theorem zavj {s : Nat} {a : Int} {H : Heap} {k : AV → Prop} : SL s .nils (some (.int ki a)) none H k = (a = 0 ∧ k .nils) := by
  simp [SL, zby, lohi, PURE, qk]
@[simp ↓] theorem zavh {s : Nat} {a : Int} {H : Heap} {k : AV → Prop} : SL s .zs (some (.int ki a)) none H k = (a = 0 ∧ k .zs) := by
  simp [SL, zby, lohi, PURE, qk]
@[simp ↓] theorem zavi {s : Nat} {a : Int} {H : Heap} {k : AV → Prop} : SL s .zs none (some (.int ki a)) H k = (a = 0 ∧ k .zs) := by
  simp [SL, zby, lohi, PURE, qk]
@[simp ↓] theorem zavk {s : Nat} {a : Int} {H : Heap} {k : AV → Prop} : SL s .nils none (some (.int ki a)) H k = (a = 0 ∧ k .nils) := by
  simp [SL, zby, lohi, PURE, qk]
end
theorem zyx (ss : List (AV × AV)) (t : AV × AV) : owns (ss ++ [t]) = owns ss ++ (own t.1 ++ own t.2) := by simp [owns]
theorem zvu (a b : List Val) : rowV (a ++ b) = rowV a ++ rowV b := by simp [rowV]
end Go.Proofs.YtpbnaaoilgohkaaGreatDoor
set_option maxRecDepth 8000
namespace Go.Proofs.YtpbnaaoilgohkaaGreatDoor
namespace VM
def textB (s : Str) : Str := WM.num s.length ++ s
def valB (v : Val) : Str := WM.num v.kind ++ (if v.kind = 1 then textB v.text else WM.num v.n)
def insB (i : Ins) : Str := WM.num i.op ++ WM.num i.a ++ WM.num i.b
def codB (c : Cod) : Str := WM.num c.params ++ WM.num c.vars ++ WM.num c.ins.length ++ c.ins.flatMap insB
def prgB (p : Prg) : Str := WM.num p.words.length ++ p.words.flatMap textB ++ WM.num p.codes.length ++ p.codes.flatMap codB
def valsB (l : List Val) : Str := WM.num l.length ++ l.flatMap valB
def frmB (f : Frm) : Str := WM.num f.fn ++ WM.num f.at_ ++ valsB f.vars ++ valsB f.stack
def clB (c : Cl) : Str := valB c.left ++ valB c.right
def agtB (a : Agt) : Str := WM.num a.id ++ WM.num a.trip ++ WM.num a.permit.fuel ++ WM.num a.permit.room ++ WM.num a.permit.hops ++ prgB a.prog ++ WM.num a.frames.length ++ a.frames.flatMap frmB ++ WM.num a.heap.length ++ a.heap.flatMap clB
def withSum (b : Str) : Str := b ++ WM.num (WM.sum b)
def image (a : Agt) : Str := withSum (agtB (pack a))
inductive R (α : Type) where
  | ok (a : α) (r : Str)
  | no (e : Int)
def Rd (α : Type) : Type := Str → R α
def Rd.pure {α : Type} (a : α) : Rd α := fun b => .ok a b
def Rd.bind {α β : Type} (m : Rd α) (f : α → Rd β) : Rd β := fun b => match m b with
  | .ok a r => f a r
  | .no e => .no e
def rNum : Rd Int := fun b => if (WM.getNum b).2.2 ≠ 0 then .no (WM.getNum b).2.2 else .ok (WM.getNum b).1 (b.drop (WM.getNum b).2.1.toNat)
def rCount (most : Int) : Rd Int := fun b => match rNum b with
  | .ok n r => if n < 0 ∨ most < n then .no 4 else .ok n r
  | .no e => .no e
def rText (most : Int) : Rd Str := fun b => if (WM.getText b most).2.2 ≠ 0 then .no (WM.getText b most).2.2 else .ok (WM.getText b most).1 (b.drop (WM.getText b most).2.1.toNat)
def rMany {α : Type} (m : Rd α) : Nat → Rd (List α)
  | 0 => .pure []
  | n + 1 => m.bind fun a => (rMany m n).bind fun l => .pure (a :: l)
def rVal : Rd Val := rNum.bind fun k => if k = 1 then (rText 60).bind fun s => .pure ⟨k, 0, s⟩ else rNum.bind fun n => .pure ⟨k, n, []⟩
def rVals (most : Int) : Rd (List Val) := (rCount most).bind fun n => rMany rVal n.toNat
def rIns : Rd Ins := rNum.bind fun o => rNum.bind fun a => rNum.bind fun b => .pure ⟨o, a, b⟩
def rCod : Rd Cod := rNum.bind fun p => rNum.bind fun v => (rCount 200).bind fun n => (rMany rIns n.toNat).bind fun l => .pure ⟨p, v, l⟩
def rPrg : Rd Prg := (rCount 16).bind fun n => (rMany (rText 12) n.toNat).bind fun ws => (rCount 5).bind fun k => (rMany rCod k.toNat).bind fun cs => .pure ⟨cs, ws⟩
def rFrm : Rd Frm := rNum.bind fun f => rNum.bind fun a => (rVals 8).bind fun vs => (rVals 16).bind fun st => .pure ⟨f, a, vs, st⟩
def rCl : Rd Cl := rVal.bind fun l => rVal.bind fun r => .pure ⟨l, r⟩
def rAgt : Rd Agt := rNum.bind fun id => rNum.bind fun trip => rNum.bind fun fuel => rNum.bind fun room => rNum.bind fun hops => rPrg.bind fun p => (rCount 12).bind fun n => (rMany rFrm n.toNat).bind fun fs => (rCount 60).bind fun k => (rMany rCl k.toNat).bind fun h => rNum.bind fun _ => .pure ⟨id, trip, p, fs, h, ⟨fuel, room, hops⟩⟩
def agt0 : Agt := ⟨0, 0, ⟨[], []⟩, [], [], ⟨0, 0, 0⟩⟩
def parse (b : Str) : Agt × Int := match rAgt b with
  | .no e => (agt0, e)
  | .ok a r => if r ≠ [] then (agt0, 2) else if agent a true ≠ 0 then (agt0, agent a true) else if image a ≠ b then (agt0, 2) else (a, 0)
abbrev St := Str × Int
structure Goes {α : Type} (m : Rd α) (st : St) (a : α) (st' : St) : Prop where
  stuck : st.2 ≠ 0 → st'.2 = st.2
  good : st.2 = 0 → ∀ x r, m st.1 = .ok x r → a = x ∧ st' = (r, 0)
  bad : st.2 = 0 → ∀ e, m st.1 = .no e → e ≠ 0 ∧ st'.2 = e
theorem Goes.pure {α : Type} (a : α) (st : St) : Goes (Rd.pure a) st a st :=
  ⟨fun _ => rfl, fun h x r hr => by cases hr; exact ⟨rfl, Prod.ext rfl h⟩, fun _ e h => by cases h⟩
theorem Goes.bind {α β : Type} {m : Rd α} {k : α → Rd β} {st st1 st2 : St} {a : α} {b : β} (h : Goes m st a st1) (h2 : Goes (k a) st1 b st2) : Goes (m.bind k) st b st2 := by
  refine ⟨fun he => ?_, fun he x r hr => ?_, fun he e hr => ?_⟩
  · have h1 := h.stuck he
    rw [← h1]
    exact h2.stuck (by rw [h1]; exact he)
  · unfold Rd.bind at hr
    split at hr
    · rename_i a' r' hm
      obtain ⟨rfl, rfl⟩ := h.good he _ _ hm
      exact h2.good rfl x r hr
    · cases hr
  · unfold Rd.bind at hr
    split at hr
    · rename_i a' r' hm
      obtain ⟨rfl, rfl⟩ := h.good he _ _ hm
      exact h2.bad rfl e hr
    · rename_i e' hm
      cases hr
      obtain ⟨h1, h3⟩ := h.bad he _ hm
      refine ⟨h1, ?_⟩
      rw [← h3]
      exact h2.stuck (by rw [h3]; exact h1)
theorem Goes.more {α : Type} {m : Rd α} {st st1 st2 : St} {a : α} {l : List α} {n : Nat} (h : Goes m st a st1) (h2 : Goes (rMany m n) st1 l st2) : Goes (rMany m (n + 1)) st (a :: l) st2 :=
  h.bind (h2.bind (Goes.pure _ _))
end VM
end Go.Proofs.YtpbnaaoilgohkaaGreatDoor
set_option maxRecDepth 8000
namespace Go.Proofs.YtpbnaaoilgohkaaGreatDoor
open Go Go.RowKit
@[simp ↓] theorem zavd {ki : IntKind} {n : Int} {k : AV → Prop} : UO .xor (.int ki n) k = k (.int ki (bits .xor ki (if ki.signed then -1 else ki.max) n)) := by
  cases h : ki.signed <;> simp [UO, UN, h, IBIN, zfo, PURE, qk] <;> rfl
@[simp ↓ 2000] theorem zaxl {ki : IntKind} {a b : Int} {k : AV → Prop} : BI .or (.int ki a) (.int ki b) k = k (.int ki (bits .or ki a b)) := zarf
@[simp ↓ 2000] theorem zava {ki : IntKind} {a b : Int} {k : AV → Prop} : BI .and (.int ki a) (.int ki b) k = k (.int ki (bits .and ki a b)) := zapv
@[simp ↓ 2000] theorem zauz {ki : IntKind} {a b : Int} {k : AV → Prop} : BI .xor (.int ki a) (.int ki b) k = k (.int ki (bits .xor ki a b)) := zapt
theorem zanw (n : Int) (h0 : -9223372036854775808 ≤ n) (h : n < 0) :
    bits .xor .u64 IntKind.u64.max (IntKind.u64.wrap (IntKind.u64.wrap n * 2)) = ((WM.zig n : Nat) : Int) := by
  have e0 : IntKind.u64.wrap (IntKind.u64.wrap n * 2) = ((2 * n + 18446744073709551616).toNat : Int) := by
    rw [IntKind.wrap_u64, IntKind.wrap_u64]; omega
  rw [e0]
  have hlt : (2 * n + 18446744073709551616).toNat < 18446744073709551616 := by omega
  have hz : WM.zig n = 18446744073709551616 - 1 - (2 * n + 18446744073709551616).toNat := by unfold WM.zig; rw [if_pos h]; omega
  rw [hz]
  generalize (2 * n + 18446744073709551616).toNat = m at *
  have e1 : bits .xor .u64 IntKind.u64.max (m : Int) = IntKind.u64.wrap ((BitVec.ofInt 64 IntKind.u64.max ^^^ BitVec.ofInt 64 (m : Int)).toNat : Int) := rfl
  have e2 : (BitVec.ofInt 64 IntKind.u64.max) = BitVec.allOnes 64 := by decide
  rw [e1, e2, BitVec.ofInt_natCast, BitVec.allOnes_xor, BitVec.toNat_not, BitVec.toNat_ofNat, IntKind.wrap_u64]
  omega
theorem zanv (n : Int) (h0 : n ≤ 9223372036854775807) (h : ¬ n < 0) : IntKind.u64.wrap (IntKind.u64.wrap n * 2) = ((WM.zig n : Nat) : Int) := by
  rw [IntKind.wrap_u64, IntKind.wrap_u64]
  unfold WM.zig; rw [if_neg h]; omega
def bsV (b : Str) : List AV := b.map fun c => .int .u8 (c.toNat : Int)
theorem zyg (a b : Str) : bsV (a ++ b) = bsV a ++ bsV b := by simp [bsV]
theorem zfq (a : Str) : (bsV a).length = a.length := by simp [bsV]
theorem zus (a : Str) : (bsV a).all AV.one = true := by simp [bsV]
theorem zajp {m : Nat} (h : m < 256) : bsV [UInt8.ofNat m] = [.int .u8 (m : Int)] := by
  simp [bsV, UInt8.toNat_ofNat']; omega
theorem Slot.full {H : Heap} {g sz k : Nat} {cs : List AV} (h : H g = some (.row sz cs)) (hl : cs.length = k * sz) : Slot H sz k cs (.slc g 0 k) :=
  .inr ⟨g, cs, rfl, h, by rw [← hl, List.take_length], by omega⟩
structure BExt (H : Heap) (n : Nat) (l : AV) (H' : Heap) (n' : Nat) (l' : AV) (bs : Str) : Prop where
  le : n ≤ n'
  slot : Slot H' 1 bs.length (bsV bs) l'
  ow : ∀ y ∈ own l', y ∈ own l ∨ (n ≤ y ∧ y < n')
  keep : ∀ y, y < n → y ∉ own l → H' y = H y
theorem BExt.refl {H : Heap} {n : Nat} {l : AV} {bs : Str} (h : Slot H 1 bs.length (bsV bs) l) : BExt H n l H n l bs := ⟨Nat.le_refl _, h, fun _ hy => .inl hy, fun _ _ _ => rfl⟩
theorem BExt.trans {H H' H2 : Heap} {n n' n2 : Nat} {l l' l2 : AV} {bs bs2 : Str} (h : BExt H n l H' n' l' bs) (k : BExt H' n' l' H2 n2 l2 bs2) : BExt H n l H2 n2 l2 bs2 :=
  ⟨Nat.le_trans h.le k.le, k.slot, fun y hy => by
    rcases k.ow y hy with h1 | h1
    · rcases h.ow y h1 with h2 | h2
      · exact .inl h2
      · exact .inr ⟨h2.1, by have := k.le; omega⟩
    · exact .inr ⟨by have := h.le; omega, h1.2⟩, fun y hy hn => by
    rw [k.keep y (by have := h.le; omega) fun h1 => ?_, h.keep y hy hn]
    rcases h.ow y h1 with h2 | h2
    · exact hn h2
    · omega⟩
theorem BExt.byte {H H1 : Heap} {n n1 : Nat} {l l1 : AV} {bs : Str} {m : Nat} (h : BExt H n l H1 n1 l1 bs) (hm : m < 256) (hl : ∀ y ∈ own l, y < n) (hb : bs.length + 1 ≤ 140737488355328) {kk : AV → Heap → Nat → Prop}
    (hk : ∀ H', BExt H n l H' (n1 + 2) (.slc (n1 + 1) 0 (bs.length + 1)) (bs ++ [UInt8.ofNat m]) → H' (n1 + 1) = some (.row 1 (bsV (bs ++ [UInt8.ofNat m]))) → kk (.slc (n1 + 1) 0 (bs.length + 1)) H' (n1 + 2)) : APP 1 1 l1 (.slc n1 0 1) (H1.put n1 (some (.row 1 [.int .u8 (m : Int)]))) (n1 + 1) kk := by
  have hlt : ∀ y ∈ own l1, y < n1 := fun y hy => by
    have := h.le
    rcases h.ow y hy with h1 | h1
    · have := hl y h1; omega
    · omega
  have s1 : Slot (H1.put n1 (some (.row 1 [.int .u8 (m : Int)]))) 1 bs.length (bsV bs) l1 := h.slot.keep fun g hg => Heap.put_ne _ _ (by have := hlt g hg; omega)
  refine s1.app (new := bsV [UInt8.ofNat m]) (by simp [zfq]) (by rw [Heap.put_at, zajp hm]) (by simp [bsV]) (zus _) (by omega) fun H' h1 h2 => ?_
  rw [← zyg] at h1
  refine hk H' ⟨by have := h.le; omega, ?_, fun y hy => ?_, fun y hy hn => ?_⟩ h1
  · have := Slot.full (k := (bs ++ [UInt8.ofNat m]).length) h1 (by rw [zfq]; omega)
    simpa using this
  · have e : y = n1 + 1 := by simpa [own] using hy
    have := h.le
    exact .inr ⟨by omega, by omega⟩
  · have h3 := h.le
    rw [h2 y (fun h4 => ?_) (by omega), Heap.put_ne _ _ (by omega), h.keep y hy hn]
    rcases h.ow y h4 with h5 | h5
    · exact hn h5
    · omega
structure BNew (H : Heap) (n : Nat) (l : AV) (H' : Heap) (n' g : Nat) (bs : Str) : Prop where
  lo : n ≤ g
  hi : g < n'
  row : H' g = some (.row 1 (bsV bs))
  keep : ∀ y, y < n → y ∉ own l → H' y = H y
theorem zaqu (q : Nat) : ((q : Int)).fdiv (2 ^ (min (7 : Int).toNat IntKind.u64.bits)) = ((q / 128 : Nat) : Int) := by
  have : (2 : Int) ^ (min (7 : Int).toNat IntKind.u64.bits) = 128 := rfl
  rw [this, Int.fdiv_eq_ediv_of_nonneg _ (by omega)]
  rfl
set_option maxRecDepth 20000 in
set_option maxHeartbeats 1000000 in
theorem zaed {l : AV} {bs : Str} {n : Int} {H : Heap} {nx : Nat} {Q : AV → Heap → Nat → Prop} (hs : Slot H 1 bs.length (bsV bs) l) (hb : bs.length ≤ 100000000000000) (hn : -9223372036854775808 ≤ n ∧ n ≤ 9223372036854775807) (hl : ∀ y ∈ own l, y < nx)
    (hq : ∀ H' n' g, BNew H nx l H' n' g (bs ++ WM.num n) → Q (.slc g 0 (bs ++ WM.num n).length) H' n') : za Tryz.prog 55 [l, .int .i64 n] H nx Q := by
  refine zxx _ _ H nx _ ?_
  have main : ∀ u : Nat, u = WM.zig n → LP (zgt Q) [l, .int .u64 (u : Int)] H nx := by
    intro u hu
    refine LP.mk (fun k xs H' n' => ∃ (q : Nat) (ys : Str) (l' : AV), xs = [l', .int .u64 (q : Int)] ∧ q < 2 ^ (1 + 7 * k) ∧ ys ++ WM.enc k q = WM.num n ∧ ys.length + k = 9 ∧ BExt H nx l H' n' l' (bs ++ ys)) 9 ⟨u, [], l, rfl, ?_, by rw [hu]; rfl, rfl, by simpa using BExt.refl hs⟩ ?_
    · have := WM.zig_lt n hn.1 hn.2
      rw [hu]; exact this
    rintro k xs H' n' ⟨q, ys, l', rfl, hq1, hq2, hq3, ext⟩
    have hw : IntKind.u8.wrap (q : Int) = (q : Int) % 256 := by rw [IntKind.wrap_u8]
    by_cases h : 128 ≤ q
    · have h' : (128 : Int) ≤ q := by omega
      have h8 : bits .or .u8 ((q : Int) % 256) 128 = ((q % 128 + 128 : Nat) : Int) := by
        have h8 := zaks (q % 256) (by omega)
        have e8 : q % 256 % 128 + 128 = q % 128 + 128 := by omega
        rw [e8] at h8
        exact h8
      cases k with
      | zero => simp at hq1; omega
      | succ k =>
        simp only [WM.enc, if_pos h] at hq2
        simp [zgt, h', hw]
        rw [h8]
        refine ext.byte (m := q % 128 + 128) (by omega) hl (by rw [List.length_append]; omega) fun H2 e2 _ => ?_
        refine ⟨k, by omega, q / 128, ys ++ [UInt8.ofNat (q % 128 + 128)], _, ⟨rfl, zaqu q⟩, ?_, ?_, ?_, ?_⟩
        · have e : (2 : Nat) ^ (1 + 7 * (k + 1)) = 2 ^ (1 + 7 * k) * 128 := by rw [show 1 + 7 * (k + 1) = (1 + 7 * k) + 7 by omega, Nat.pow_add]
          rw [e] at hq1
          omega
        · rw [List.append_assoc]; exact hq2
        · simp; omega
        · rw [← List.append_assoc]; exact e2
    · have h' : ¬ (128 : Int) ≤ q := by omega
      have e0 : WM.enc k q = [UInt8.ofNat q] := by cases k <;> simp [WM.enc, h]
      have hw' : IntKind.u8.wrap (q : Int) = (q : Int) := by rw [IntKind.wrap_u8]; omega
      rw [e0] at hq2
      simp [zgt, h', hw']
      refine ext.byte (m := q) (by omega) hl (by rw [List.length_append]; omega) fun H2 e2 r2 => ?_
      rw [List.append_assoc, hq2] at e2 r2
      have el : (bs ++ ys).length + 1 = (bs ++ WM.num n).length := by rw [← hq2]; simp; omega
      have := ext.le
      have := hq H2 (n' + 2) (n' + 1) ⟨by omega, by omega, r2, e2.keep⟩
      rw [← el] at this
      exact this
  have h2 : (2 : Int) ^ (min 1 IntKind.u64.bits) = 2 := rfl
  by_cases h0 : n < 0
  · have z := zanw n hn.1 h0
    simp [zpa, h0]
    rw [h2, show IntKind.u64.signed = false from rfl, if_neg (by decide), z]
    exact main _ rfl
  · have z := zanv n hn.2 h0
    simp [zpa, h0]
    rw [h2, z]
    exact main _ rfl
theorem zad (n : Int) : (WM.num n).length ≤ 10 := WM.enc_length 9 _
theorem zod (s : Str) : (VM.textB s).length ≤ 10 + s.length := by unfold VM.textB; rw [List.length_append]; have := zad s.length; omega
theorem BNew.lt {H H' : Heap} {n n' g : Nat} {l : AV} {bs : Str} (h : BNew H n l H' n' g bs) : n ≤ n' := by have := h.lo; have := h.hi; omega
theorem zahx (s : Str) (H : Heap) : ze 1 H (.str s) = some (s.length, bsV s, []) := rfl
set_option maxHeartbeats 1000000 in
theorem zaaw {l : AV} {bs s : Str} {H : Heap} {nx : Nat} {Q : AV → Heap → Nat → Prop} (hs : Slot H 1 bs.length (bsV bs) l) (hb : bs.length + s.length ≤ 100000000000000) (hl : ∀ y ∈ own l, y < nx)
    (hq : ∀ H' n' g, BNew H nx l H' n' g (bs ++ VM.textB s) → Q (.slc g 0 (bs ++ VM.textB s).length) H' n') : za Tryz.prog 56 [l, .str s] H nx Q := by
  refine zwl _ _ H nx _ ?_
  simp [zsz]
  refine zaed hs (by omega) (by omega) hl fun H1 n1 g b1 => ?_
  have nl := zad s.length
  have h1 := b1.lo
  have h2 := b1.hi
  have s1 : Slot H1 1 (bs ++ WM.num s.length).length (bsV (bs ++ WM.num s.length)) (.slc g 0 (bs ++ WM.num s.length).length) := Slot.full b1.row (by rw [zfq]; omega)
  simp only [zta]
  unfold APP
  rw [zma, zahx, optk, b1.row, rowk]
  refine ⟨rfl, zus s, by rw [zfq]; omega, Nat.le_add_right_of_le (by rw [List.length_append]; omega), ?_⟩
  have e : bs ++ VM.textB s = bs ++ WM.num s.length ++ s := by rw [List.append_assoc]; rfl
  have el : (bs ++ WM.num s.length).length + s.length = (bs ++ VM.textB s).length := by rw [e, List.length_append (bs := s)]
  have := hq ((H1.put g none).put n1 (some (.row 1 (bsV (bs ++ VM.textB s))))) (n1 + 1) n1 ⟨by omega, by omega, Heap.put_at _ _ _, fun y hy hn => ?_⟩
  · rw [← el] at this
    rw [e, zyg] at this
    simp only [zan, zbc, List.drop_zero, Nat.mul_one, List.length_singleton]
    rw [List.take_of_length_le (by rw [zfq]; omega)]
    exact this
  · rw [Heap.put_ne _ _ (by omega), Heap.put_ne _ _ (by omega), b1.keep y hy hn]
end Go.Proofs.YtpbnaaoilgohkaaGreatDoor
set_option maxRecDepth 8000
namespace Go.Proofs.YtpbnaaoilgohkaaGreatDoor
open Go Go.RowKit
theorem zxa (l : List Ins) : ∀ x ∈ l.map Ins.avs, x.length = 3 := by intro x hx; obtain ⟨v, _, rfl⟩ := List.mem_map.1 hx; rfl
theorem zwq (l : List Str) : ∀ x ∈ l.map (fun w => [AV.str w]), x.length = 1 := by intro x hx; obtain ⟨v, _, rfl⟩ := List.mem_map.1 hx; rfl
theorem zys (l : List Ins) : ∀ x ∈ l.map Ins.avs, ∀ c ∈ x, scal c = true := by
  intro x hx c hc
  obtain ⟨v, _, rfl⟩ := List.mem_map.1 hx
  simp [Ins.avs] at hc
  rcases hc with rfl | rfl | rfl <;> rfl
theorem ztl (l : List Str) : ∀ x ∈ l.map (fun w => [AV.str w]), ∀ c ∈ x, scal c = true := by
  intro x hx c hc
  obtain ⟨v, _, rfl⟩ := List.mem_map.1 hx
  simp at hc
  subst hc; rfl
theorem zabj {xs : List (List AV)} (h : ∀ x ∈ xs, ∀ c ∈ x, scal c = true) : xs.flatten.all AV.one = true := List.all_eq_true.2 fun c hc => by
  obtain ⟨x, hx, hcx⟩ := List.mem_flatten.1 hc
  exact zhp (h x hx c hcx)
def zch (H : Heap) (R : Nat → Prop) (sz : Nat) (xs : List (List AV)) (a : AV) : Prop := (xs = [] ∧ a = .nils) ∨ ∃ g, R g ∧ a = .slc g 0 xs.length ∧ H g = some (.row sz xs.flatten)
theorem zch.more {H H' : Heap} {R R' : Nat → Prop} {sz : Nat} {xs : List (List AV)} {a : AV} (h : zch H R sz xs a) (hR : ∀ g, R g → R' g ∧ H' g = H g) : zch H' R' sz xs a := by
  rcases h with h | ⟨g, h1, h3, h4⟩
  · exact .inl h
  · exact .inr ⟨g, (hR g h1).1, h3, by rw [(hR g h1).2]; exact h4⟩
theorem zch.one {H : Heap} {R : Nat → Prop} {sz : Nat} {xs : List (List AV)} {a : AV} (h : zch H R sz xs a) : a.cells = [a] ∧ a.one = true ∧ a.sure = true := by
  rcases h with ⟨_, rfl⟩ | ⟨g, _, rfl, _⟩ <;> exact ⟨rfl, rfl, rfl⟩
theorem Slot.one {H : Heap} {sz k : Nat} {cells : List AV} {a : AV} (h : Slot H sz k cells a) : a.cells = [a] ∧ a.one = true ∧ a.sure = true := by
  rcases h with ⟨_, rfl | rfl⟩ | ⟨g, cs, rfl, _⟩ <;> exact ⟨rfl, rfl, rfl⟩
theorem zch.frz {H : Heap} {R : Nat → Prop} {sz : Nat} {xs : List (List AV)} {a : AV} {G : Nat → Prop} (h : zch H R sz xs a) (hG : ∀ g, R g → G g) (hs : ∀ x ∈ xs, x.length = sz) : FrzP H G a (.ro xs) := by
  rcases h with ⟨rfl, rfl⟩ | ⟨g, h1, rfl, h4⟩
  · exact .nils
  · refine FrzP.row (hG g h1) h4 rfl hs (fun i x j v hx hv => ?_) (by rw [zdm hs]; exact Nat.le_refl _)
    have hj : j < sz := by
      have := (List.getElem?_eq_some_iff.1 hv).1
      rw [hs x (List.mem_of_getElem? hx)] at this; exact this
    have e1 := zjx hs hx
    have := congrArg (·[j]?) e1
    simp only [List.getElem?_take, List.getElem?_drop, hj, if_true] at this
    exact ⟨v, by rw [this]; exact hv, .same v⟩
theorem zch.slot {H : Heap} {R : Nat → Prop} {sz : Nat} {xs : List (List AV)} {a : AV} (h : zch H R sz xs a) (hs : ∀ x ∈ xs, x.length = sz) : Slot H sz xs.length xs.flatten a ∧ ∀ g ∈ own a, R g := by
  rcases h with ⟨rfl, rfl⟩ | ⟨g, h1, rfl, h4⟩
  · exact ⟨.inl ⟨rfl, .inl rfl⟩, fun g hg => by simp [own] at hg⟩
  · exact ⟨.inr ⟨g, _, rfl, h4, List.take_of_length_le (by rw [zdm hs]; exact Nat.le_refl _), by rw [zdm hs]; exact Nat.le_refl _⟩, fun x hx => by simp [own] at hx; subst hx; exact h1⟩
theorem zajk {l : List Ins} (hl : l.length * 24 ≤ 140737488355328) {a : AV} {H : Heap} {nx : Nat} (ha : zaf H nx 3 (l.map Ins.avs) a) : za Tryz.prog 79 [a] H nx fun v H' nx' => nx ≤ nx' ∧ Keep nx H' H ∧ zch H' (fun g => nx ≤ g ∧ g < nx') 3 (l.map Ins.avs) v := by
  refine zmo _ H nx _ ?_
  unfold zht
  refine zlz (Q := fun v H' nx' => nx ≤ nx' ∧ Keep nx H' H ∧ zch H' (fun g => nx ≤ g ∧ g < nx') 3 (l.map Ins.avs) v) ha (zxa l) (zabj (zys l)) (by simpa using hl) (fun h => ⟨Nat.le_refl _, by simp, .inl ⟨h, rfl⟩⟩) fun H' h1 h2 => ⟨by omega, h2, .inr ⟨nx + 1, ⟨by omega, by omega⟩, rfl, h1⟩⟩
theorem zajj {l : List Str} (hl : l.length * 16 ≤ 140737488355328) {a : AV} {H : Heap} {nx : Nat} (ha : zaf H nx 1 (l.map fun w => [AV.str w]) a) : za Tryz.prog 80 [a] H nx fun v H' nx' => nx ≤ nx' ∧ Keep nx H' H ∧ zch H' (fun g => nx ≤ g ∧ g < nx') 1 (l.map fun w => [AV.str w]) v := by
  refine zih _ H nx _ ?_
  unfold zdo
  refine zlz (Q := fun v H' nx' => nx ≤ nx' ∧ Keep nx H' H ∧ zch H' (fun g => nx ≤ g ∧ g < nx') 1 (l.map fun w => [AV.str w]) v) ha (zwq l) (zabj (ztl l)) (by simpa using hl) (fun h => ⟨Nat.le_refl _, by simp, .inl ⟨h, rfl⟩⟩) fun H' h1 h2 => ⟨by omega, h2, .inr ⟨nx + 1, ⟨by omega, by omega⟩, rfl, h1⟩⟩
theorem zajl {l : List Cl} (hl : l.length * 64 ≤ 140737488355328) {a : AV} {H : Heap} {nx : Nat} (ha : zaf H nx 6 (l.map Cl.avs) a) : za Tryz.prog 82 [a] H nx fun v H' nx' => nx ≤ nx' ∧ Keep nx H' H ∧ zch H' (fun g => nx ≤ g ∧ g < nx') 6 (l.map Cl.avs) v := by
  refine zne _ H nx _ ?_
  unfold ziw
  refine zlz (Q := fun v H' nx' => nx ≤ nx' ∧ Keep nx H' H ∧ zch H' (fun g => nx ≤ g ∧ g < nx') 6 (l.map Cl.avs) v) ha (zhs l) (zali l) (by simpa using hl) (fun h => ⟨Nat.le_refl _, by simp, .inl ⟨h, rfl⟩⟩) fun H' h1 h2 => ⟨by omega, h2, .inr ⟨nx + 1, ⟨by omega, by omega⟩, rfl, h1⟩⟩
def zei (H : Heap) (R : Nat → Prop) (cs : List Cod) (cells : List AV) : Prop := cells.length = cs.length * 3 ∧ ∀ (k : Nat) (c : Cod), cs[k]? = some c → cells[k * 3]? = some (.int .i64 c.params) ∧ cells[k * 3 + 1]? = some (.int .i64 c.vars) ∧ ∃ a, cells[k * 3 + 2]? = some a ∧ zch H R 3 (c.ins.map Ins.avs) a
theorem zei.more {H H' : Heap} {R R' : Nat → Prop} {cs : List Cod} {cells : List AV} (h : zei H R cs cells) (hR : ∀ g, R g → R' g ∧ H' g = H g) : zei H' R' cs cells :=
  ⟨h.1, fun k c hc => let ⟨a, b, x, h1, h2⟩ := h.2 k c hc; ⟨a, b, x, h1, h2.more hR⟩⟩
theorem zei.snoc {H : Heap} {R : Nat → Prop} {cs : List Cod} {cells : List AV} {c : Cod} {a : AV} (h : zei H R cs cells) (ha : zch H R 3 (c.ins.map Ins.avs) a) : zei H R (cs ++ [c]) (cells ++ [.int .i64 c.params, .int .i64 c.vars, a]) := by
  refine ⟨by simp [h.1]; omega, fun k c' hc => ?_⟩
  by_cases hk : k < cs.length
  · rw [List.getElem?_append_left hk] at hc
    obtain ⟨q1, q2, x, q3, q4⟩ := h.2 k c' hc
    have hl := h.1
    refine ⟨by rw [List.getElem?_append_left (by omega)]; exact q1, by rw [List.getElem?_append_left (by omega)]; exact q2, x, by rw [List.getElem?_append_left (by omega)]; exact q3, q4⟩
  · have hk' : k = cs.length := by have := (List.getElem?_eq_some_iff.1 hc).1; simp at this; omega
    subst hk'
    rw [List.getElem?_append_right (Nat.le_refl _)] at hc
    simp at hc
    subst hc
    have hl := h.1
    refine ⟨?_, ?_, a, ?_, ha⟩
    · rw [List.getElem?_append_right (by omega), hl]; simp
    · rw [List.getElem?_append_right (by omega), hl, show cs.length * 3 + 1 - cs.length * 3 = 1 by omega]; rfl
    · rw [List.getElem?_append_right (by omega), hl, show cs.length * 3 + 2 - cs.length * 3 = 2 by omega]; rfl
theorem zei.frz {H : Heap} {R : Nat → Prop} {cs : List Cod} {cells : List AV} {a : AV} {G : Nat → Prop} (h : zei H R cs cells) (hG : ∀ g, R g → G g) (ha : Slot H 3 cs.length cells a) (hA : ∀ g ∈ own a, G g) : FrzP H G a (.ro (cs.map Cod.avs)) := by
  rcases ha with ⟨h0, rfl | rfl⟩ | ⟨g, cs', rfl, h1, h2, h3⟩
  · rw [List.eq_nil_of_length_eq_zero h0]; exact .nils
  · rw [List.eq_nil_of_length_eq_zero h0]; exact .zs
  · refine FrzP.row (hA g (by simp [own])) h1 (by simp) (fun x hx => ?_) (fun i x j v hx hv => ?_) h3
    · obtain ⟨c, _, rfl⟩ := List.mem_map.1 hx; rfl
    · rw [List.getElem?_map] at hx
      obtain ⟨c, hc, rfl⟩ := Option.map_eq_some_iff.1 hx
      obtain ⟨q1, q2, y, q3, q4⟩ := h.2 i c hc
      have hi := (List.getElem?_eq_some_iff.1 hc).1
      have up : ∀ (j : Nat) (u : AV), j < 3 → cells[i * 3 + j]? = some u → cs'[i * 3 + j]? = some u := fun j u hj hu => by
        rw [← h2, List.getElem?_take, if_pos (by omega)] at hu; exact hu
      match j, hv with
      | 0, hv => cases hv; exact ⟨_, up 0 _ (by omega) q1, .same _⟩
      | 1, hv => cases hv; exact ⟨_, up 1 _ (by omega) q2, .same _⟩
      | 2, hv => cases hv; exact ⟨y, up 2 _ (by omega) q3, q4.frz hG (zxa _)⟩
      | j + 3, hv => simp [Cod.avs] at hv
theorem FrzP.keep {H H' : Heap} {G : Nat → Prop} {v u : AV} (h : FrzP H G v u) (hk : ∀ g, G g → H' g = H g) : FrzP H' G v u := by
  induction h with
  | same v => exact .same v
  | nils => exact .nils
  | zs => exact .zs
  | slc g off len sz cells xs hg hH hle hl hsz U hU _ ih => exact .slc g off len sz cells xs hg (by rw [hk g hg]; exact hH) hle hl hsz U hU ih
  | agg xs ys hl _ ih => exact .agg xs ys hl ih
theorem FrzP.wide {H : Heap} {G G' : Nat → Prop} {v u : AV} (h : FrzP H G v u) (hG : ∀ g, G g → G' g) : FrzP H G' v u := by
  induction h with
  | same v => exact .same v
  | nils => exact .nils
  | zs => exact .zs
  | slc g off len sz cells xs hg hH hle hl hsz U hU _ ih => exact .slc g off len sz cells xs (hG g hg) hH hle hl hsz U hU ih
  | agg xs ys hl _ ih => exact .agg xs ys hl ih
theorem za.nil_zs {P : Program} {f : FuncId} {args : List AV} {H : Heap} {nx : Nat} {Q : Heap → Nat → Prop} (h : za P f args H nx fun v H' nx' => (v = .nils ∨ v = .zs) ∧ Q H' nx') : za P f args H nx fun v H' nx' => v = .zs ∧ Q H' nx' := by
  intro ρ w cargs s ha
  refine zj (h ρ w cargs s ha) fun cv w' ⟨v, H', nx', ρ', ⟨hv, hq⟩, q2, q3, q4⟩ => ⟨.zs, H', nx', ρ', ⟨rfl, hq⟩, q2, ?_, q4⟩
  rcases hv with rfl | rfl
  · cases q3; exact .zs _
  · exact q3
theorem zapw {esz bytes nx : Nat} {x : AV} {H : Heap} {kk : AV → Heap → Nat → Prop} : APP esz bytes .zs x H nx kk = OPTK (ze esz H x) fun p => p.2.1.all AV.one = true ∧
    (p.1 = 0 → kk .zs H nx) ∧ (p.1 ≠ 0 → p.1 * bytes ≤ 140737488355328 ∧ kk (.slc nx 0 p.1) (H.put nx (some (.row esz p.2.1))) (nx + 1)) := by
  simp only [APP, zx, OPTK]
  cases hs : ze esz H x with
  | none => simp
  | some p => obtain ⟨m, news, rd⟩ := p; simp [Heap.apply]
theorem zt.cloneV {l : List Val} (hl : l.length * 32 ≤ 140737488355328) {H : Heap} {nx : Nat} {k : Kt}
    (h0 : l = [] → k .zs [] [] []) (h1 : l ≠ [] → k (.slc nx 0 l.length) [] [nx] [(nx, some (.row 3 (rowV l)))]) : zt Tryz.prog (.clo 81 []) [.ro (l.map Val.avs)] H nx k := by
  by_cases he : l = []
  · subst he
    refine ⟨_, [], [], [], .inl rfl, LC.of_qcr (r := .zs) (by simp) (fun H' n _ => ?_) .zs, h0 rfl⟩
    refine za.tidy fun hlive => ?_
    have h0 : za Tryz.prog 81 [.ro []] H' n fun v H'' nx' => (v = .nils ∨ v = .zs) ∧ Keep n H'' H' := by
      refine zls _ H' n _ ?_
      simp [zgv, zapw]
    refine (za.gc (R := fun v H'' => v = AV.zs ∧ H'' = H') h0.nil_zs fun v H'' nx' ⟨hv, hk⟩ => ⟨.zs, H', ⟨rfl, rfl⟩, by rw [hv]; exact .same _ .zs, fun g o ho => ⟨hlive g o ho, by rw [hk g (hlive g o ho)]; exact ho, .inl ho⟩⟩).mono fun v H'' nx' ⟨⟨a, b⟩, c⟩ => ⟨a, b, c⟩
  · refine ⟨_, [], [nx], _, .inr (.inl rfl), LC.of_callsN (by simp) (by simp) (fun A hA hB H' n' hag => ?_), h1 he⟩
    refine (zzm l hl .ro).mono fun v H'' n'' ⟨q1, q2, q3⟩ => ?_
    rcases q3 with ⟨h, _⟩ | ⟨g, g1, g2, rfl, g3⟩
    · exact absurd h he
    · refine ⟨g, g1, g2, .slc _ _, fun x hx _ => q2 x hx, fun x o hx hxn => ?_, ⟨.row 3 (rowV l), _, by simp only [zan, zbc]; rw [Heap.put_at], g3, rfl, rfl, fun j v u hv hu => ?_⟩⟩
      · exact absurd (by simpa using hx) hxn
      · rw [hv] at hu; cases hu; exact .same _ (zcw (zof l _ (List.mem_of_getElem? hv)))
end Go.Proofs.YtpbnaaoilgohkaaGreatDoor
set_option maxRecDepth 8000
namespace Go.Proofs.YtpbnaaoilgohkaaGreatDoor
open Go Go.RowKit
structure WrM (p : Nat) (l : AV) (bs : Str) (H : Heap) (n : Nat) : Prop where
  row : H p = some (.row 1 [l])
  slot : Slot H 1 bs.length (bsV bs) l
  ow : ∀ y ∈ own l, p < y ∧ y < n
  lt : p < n
structure WExt (p : Nat) (l : AV) (H : Heap) (n : Nat) (l' : AV) (bs : Str) (H' : Heap) (n' : Nat) : Prop where
  le : n ≤ n'
  wr : WrM p l' bs H' n'
  new : ∀ y ∈ own l', y ∈ own l ∨ n ≤ y
  keep : ∀ y, y < n → y ≠ p → y ∉ own l → H' y = H y
theorem WrM.ext {p n : Nat} {l : AV} {bs : Str} {H : Heap} (h : WrM p l bs H n) : WExt p l H n l bs H n := ⟨Nat.le_refl _, h, fun _ hy => .inl hy, fun _ _ _ _ => rfl⟩
theorem WExt.trans {p n n' n2 : Nat} {l l' l2 : AV} {bs bs2 : Str} {H H' H2 : Heap} (h : WExt p l H n l' bs H' n') (k : WExt p l' H' n' l2 bs2 H2 n2) : WExt p l H n l2 bs2 H2 n2 :=
  ⟨Nat.le_trans h.le k.le, k.wr, fun y hy => by
    rcases k.new y hy with h1 | h1
    · exact h.new y h1
    · exact .inr (by have := h.le; omega), fun y hy h1 h2 => by
    rw [k.keep y (by have := h.le; omega) h1 fun h3 => ?_, h.keep y hy h1 h2]
    rcases h.new y h3 with h4 | h4
    · exact h2 h4
    · omega⟩
theorem WExt.put {p n n' : Nat} {l l' : AV} {bs : Str} {H H' : Heap} (h : WExt p l H n l' bs H' n') (o : AObj) : WExt p l H n l' bs (H'.put n' (some o)) (n' + 1) := by
  have w := h.wr
  refine ⟨by have := h.le; omega, ⟨by rw [Heap.put_ne _ _ (by have := w.lt; omega)]; exact w.row, w.slot.keep fun g hg => Heap.put_ne _ _ (by have := w.ow g hg; omega), fun y hy => by have := w.ow y hy; omega, by have := w.lt; omega⟩, h.new, fun y hy h1 h2 => ?_⟩
  rw [Heap.put_ne _ _ (by have := h.le; omega)]; exact h.keep y hy h1 h2
theorem WExt.row {p n n' n2 g : Nat} {l l' : AV} {bs bs2 : Str} {H H' H2 : Heap} (h : WExt p l H n l' bs H' n') (b : BNew H' n' l' H2 n2 g bs2) : WExt p l H n (.slc g 0 bs2.length) bs2 (H2.put p (some (.row 1 [.slc g 0 bs2.length]))) n2 := by
  have w := h.wr
  have h1 := b.lo
  have h2 := b.hi
  have h3 := h.le
  have h4 := w.lt
  refine ⟨by omega, ⟨Heap.put_at _ _ _, ?_, fun y hy => ?_, by omega⟩, fun y hy => ?_, fun y hy e1 e2 => ?_⟩
  · exact Slot.full (by rw [Heap.put_ne _ _ (by omega)]; exact b.row) (by rw [zfq]; omega)
  · have e : y = g := by simpa [own] using hy
    omega
  · have e : y = g := by simpa [own] using hy
    exact .inr (by omega)
  · rw [Heap.put_ne _ _ e1, b.keep y (by omega) fun h5 => ?_, h.keep y hy e1 e2]
    rcases h.new y h5 with h6 | h6
    · exact e2 h6
    · omega
theorem WrM.keep {p n n' : Nat} {l : AV} {bs : Str} {H H' : Heap} (w : WrM p l bs H n) (hn : n ≤ n') (hk : ∀ y, (y = p ∨ y ∈ own l) → H' y = H y) : WrM p l bs H' n' :=
  ⟨by rw [hk p (.inl rfl)]; exact w.row, w.slot.keep fun g hg => hk g (.inr hg), fun y hy => by have := w.ow y hy; omega, by have := w.lt; omega⟩
theorem WrM.one {p n : Nat} {l : AV} {bs : Str} {H : Heap} (w : WrM p l bs H n) : l.cells = [l] ∧ l.one = true ∧ l.sure = true := w.slot.one
def zy (ns : List Int) : Str := ns.flatMap WM.num
theorem zcs (ns : List Int) : (zy ns).length ≤ 10 * ns.length := by
  induction ns with
  | nil => simp [zy]
  | cons n r ih => have := zad n; simp [zy] at ih ⊢; omega
theorem zagg {ns : List Int} {i : Nat} {n : Int} (h : ns[i]? = some n) : zy (ns.take (i + 1)) = zy (ns.take i) ++ WM.num n := by
  unfold zy; rw [List.take_add_one, h]; simp
set_option maxRecDepth 20000 in
set_option maxHeartbeats 1000000 in
theorem zaeh {p g n : Nat} {l : AV} {bs : Str} {ns : List Int} {H : Heap} {Q : AV → Heap → Nat → Prop} (w : WrM p l bs H n) (hg : H g = some (.row 1 (ns.map (AV.int .i64)))) (hgp : g ≠ p) (hgl : g ∉ own l) (hgn : g < n) (hb : bs.length + 10 * ns.length ≤ 100000000000000) (hi : ∀ m ∈ ns, -9223372036854775808 ≤ m ∧ m ≤ 9223372036854775807)
    (hq : ∀ H' n' l', WExt p l H n l' (bs ++ zy ns) H' n' → Q (.tup []) H' n') : za Tryz.prog 28 [.ptr p 0, .slc g 0 ns.length] H n Q := by
  refine znf _ _ H n _ ?_
  simp [zja]
  refine LP.mk (fun k xs H' n' => ∃ (i : Nat) (l' : AV), k = ns.length - i ∧ i ≤ ns.length ∧ xs = [.ptr p 0, .slc g 0 ns.length, .int .i64 ns.length, .int .i64 i] ∧ WExt p l H n l' (bs ++ zy (ns.take i)) H' n') ns.length ⟨0, l, rfl, by omega, rfl, by simpa [zy] using w.ext⟩ ?_
  rintro k xs H' n' ⟨i, l', rfl, hil, rfl, ext⟩
  have e1 : H' g = some (.row 1 (ns.map (AV.int .i64))) := (ext.keep g hgn hgp hgl).trans hg
  have e2 := ext.wr.row
  have o1 := ext.wr.one
  by_cases hlt : i < ns.length
  · have hadd : IntKind.i64.wrap ((i : Int) + 1) = ((i + 1 : Nat) : Int) := by rw [i64w (by omega)]; rfl
    have hm : ns[i]? = some ns[i] := List.getElem?_eq_getElem hlt
    have hmi := hi _ (List.getElem_mem hlt)
    generalize hmm : ns[i] = m at hm hmi
    have hsn := zagg hm
    simp [zdx, hlt, e1, e2, hmm]
    have hl := zcs (ns.take i)
    rw [List.length_take, Nat.min_eq_left hil] at hl
    refine zaed ext.wr.slot (by rw [List.length_append]; omega) hmi (fun y hy => (ext.wr.ow y hy).2) fun H2 n2 g2 b2 => ?_
    have er := ext.row b2
    rw [List.append_assoc, ← hsn] at er
    rw [List.append_assoc, ← hsn]
    have hp : H2 p = some (.row 1 [l']) := by rw [b2.keep p ext.wr.lt fun h => by have := ext.wr.ow p h; omega]; exact e2
    simp [zjb, hp, hadd]
    simp only [List.length_append] at er
    exact ⟨ns.length - (i + 1), by omega, i + 1, rfl, by omega, rfl, _, er⟩
  · obtain rfl : i = ns.length := by omega
    rw [List.take_length] at ext
    simp [zdx]
    exact hq _ _ _ ext
theorem WExt.nums {p n n' : Nat} {l l' : AV} {bs : Str} {H H' : Heap} {Q : AV → Heap → Nat → Prop} (e : WExt p l H n l' bs H' n') (ns : List Int) (hb : bs.length + 10 * ns.length ≤ 100000000000000) (hi : ∀ m ∈ ns, -9223372036854775808 ≤ m ∧ m ≤ 9223372036854775807)
    (hq : ∀ H2 n2 l2, WExt p l H n l2 (bs ++ zy ns) H2 n2 → (∀ y, y < n' → y ≠ p → y ∉ own l' → H2 y = H' y) → Q (.tup []) H2 n2) : za Tryz.prog 28 [.ptr p 0, .slc n' 0 ns.length] (H'.put n' (some (.row 1 (ns.map (AV.int .i64))))) (n' + 1) Q := by
  have w := e.wr
  have e1 := e.put (.row 1 (ns.map (AV.int .i64)))
  refine zaeh e1.wr (Heap.put_at _ _ _) (by have := w.lt; omega) (fun h => by have := w.ow _ h; omega) (by omega) hb hi fun H2 n2 l2 e2 => hq _ _ _ (e1.trans e2) fun y h1 h2 h3 => ?_
  rw [e2.keep y (by omega) h2 h3, Heap.put_ne _ _ (by omega)]
theorem zt.wtext {l : AV} {bs s : Str} {H : Heap} {m : Nat} {kt : Kt} (hs : Slot H 1 bs.length (bsV bs) l) (hb : bs.length + s.length ≤ 100000000000000) (hl : ∀ y ∈ own l, y < m)
    (hq : ∀ rd D, (∀ y, y < m → y ∉ own l → (H.apply D) y = H y) → (H.apply D) m = some (.row 1 (bsV (bs ++ VM.textB s))) → (∀ y ∈ domD D, y ∈ own l ∨ y = m) → kt (.slc m 0 (bs ++ VM.textB s).length) rd [m] D) :
    zt Tryz.prog (.clo 56 []) [l, .str s] H m kt := by
  let D : zg := ((own l).map fun g => (g, none)) ++ [(m, some (.row 1 (bsV (bs ++ VM.textB s))))]
  have app : ∀ Hx : Heap, (Hx.apply D) m = some (.row 1 (bsV (bs ++ VM.textB s))) ∧ (∀ y, y ≠ m → y ∉ own l → (Hx.apply D) y = Hx y) ∧ (∀ y ∈ own l, (Hx.apply D) y = none) := fun Hx => by
    cases l <;> simp [D, own, Heap.apply] at hl ⊢
    case slc g off len => exact ⟨fun y h1 h2 => by rw [if_neg h1, if_neg h2], by omega⟩
    all_goals exact fun y h1 h2 => absurd h2 h1
  have dD : ∀ x, x ∈ domD D ↔ x ∈ own l ∨ x = m := fun x => by simp [D, domD]
  obtain ⟨a1, a2, _⟩ := app H
  refine ⟨_, own l, [m], D, .inr (.inl rfl), LC.of_callsN (fun x hx => ?_) (fun x hx => (dD x).1 hx) (fun A _ _ H' n' hag => ?_), hq _ D (fun y h1 h2 => a2 y (by omega) h2) a1 fun y hy => (dD y).1 hy⟩
  · rcases hs with ⟨_, rfl | rfl⟩ | ⟨g, cs, rfl, h1, _⟩
    · simp [own] at hx
    · simp [own] at hx
    · simp [own] at hx; subst hx; rw [h1]; rfl
  · have hs' : Slot H' 1 bs.length (bsV bs) l := hs.keep fun g hg => (hag g hg).1
    refine zaaw hs' hb (fun y hy => (hag y hy).2) fun H2 n2 g b => ?_
    obtain ⟨c1, c2, c3⟩ := app H'
    refine ⟨g, b.lo, b.hi, .slc _ _, fun y hy hd => ?_, fun x o hx hxm ho => ?_, ⟨_, _, c1, b.row, rfl, rfl, fun j v u hv hu => ?_⟩⟩
    · have := (not_congr (dD y)).1 hd
      simp only [not_or] at this
      exact b.keep y hy this.1
    · rcases (dD x).1 hx with h | h
      · rw [c3 x h] at ho; cases ho
      · exact absurd h hxm
    · rw [hv] at hu; cases hu
      refine .same _ ?_
      unfold bsV at hv
      rw [List.getElem?_map] at hv
      obtain ⟨c, _, rfl⟩ := Option.map_eq_some_iff.1 hv
      exact .int _ _
theorem zjl (v : Val) : (VM.valB v).length ≤ 20 + v.text.length := by
  unfold VM.valB
  have h1 := zad v.kind
  have h2 := zad v.n
  have h3 := zod v.text
  rw [List.length_append]
  split <;> omega
def I64v (v : Val) : Prop := (-9223372036854775808 ≤ v.kind ∧ v.kind ≤ 9223372036854775807) ∧ (-9223372036854775808 ≤ v.n ∧ v.n ≤ 9223372036854775807)
set_option maxRecDepth 20000 in
set_option maxHeartbeats 1000000 in
theorem zvt {p n : Nat} {l : AV} {bs : Str} {v : Val} {H : Heap} {Q : AV → Heap → Nat → Prop} (w : WrM p l bs H n) (hv : I64v v) (hb : bs.length + 20 + v.text.length ≤ 100000000000000)
    (hq : ∀ H' n' l', WExt p l H n l' (bs ++ VM.valB v) H' n' → Q (.tup []) H' n') : za Tryz.prog 31 [.ptr p 0, .agg v.avs] H n Q := by
  refine zms _ _ H n _ ?_
  have e1 := w.ext.put (.row 3 v.avs)
  have lt := w.lt
  have ne_0 : n ≠ n + 1 ∧ n + 1 ≠ n ∧ n ≠ p ∧ p ≠ n := ⟨by omega, by omega, by omega, by omega⟩
  simp [zhw, Val.avs]
  refine e1.nums [v.kind] (by simp; omega) (by simpa using hv.1) fun H2 n2 l2 e2 k2 => ?_
  have hn : H2 n = some (.row 3 v.avs) := by rw [k2 n (by omega) (by omega) fun h => (by have := w.ow _ h; omega), Heap.put_at]
  have hp := e2.wr.row
  have o2 := e2.wr.one
  have en : zy [v.kind] = WM.num v.kind := by simp [zy]
  rw [en] at e2
  have nl := zad v.kind
  by_cases h1 : v.kind = 1
  · have eb : bs ++ VM.valB v = bs ++ WM.num v.kind ++ VM.textB v.text := by unfold VM.valB; rw [if_pos h1, List.append_assoc]
    simp [zdq, hn, Val.avs, h1, hp]
    refine zt.wtext e2.wr.slot (by rw [List.length_append]; omega) (fun y hy => (e2.wr.ow y hy).2) fun rd D d1 d2 d3 => ?_
    have hp2 : (H2.apply D) p = some (.row 1 [l2]) := by rw [d1 p e2.wr.lt fun h => (by have := e2.wr.ow _ h; omega)]; exact hp
    rw [← eb] at d2 ⊢
    simp [zhy, hp2]
    have er := e2.row (bs2 := bs ++ VM.valB v) ⟨Nat.le_refl n2, Nat.lt_succ_self n2, d2, d1⟩
    rw [List.length_append] at er
    exact zdn (fun g _ => by simp) (hq _ _ _ er)
  · have eb : bs ++ VM.valB v = bs ++ WM.num v.kind ++ zy [v.n] := by unfold VM.valB zy; rw [if_neg h1, List.append_assoc]; simp
    simp [zdq, hn, Val.avs, h1]
    refine e2.nums [v.n] (by rw [List.length_append]; simp; omega) (by simpa using hv.2) fun H3 n3 l3 e3 _ => ?_
    rw [← eb] at e3
    simp [zhx]
    exact hq _ _ _ e3
def I64l (l : List Val) : Prop := ∀ v ∈ l, I64v v ∧ v.text.length ≤ 4096
theorem zct {α : Type} {f : α → Str} {k : Nat} {l : List α} (h : ∀ x ∈ l, (f x).length ≤ k) : (l.flatMap f).length ≤ k * l.length := by
  induction l with
  | nil => simp
  | cons x r ih =>
    have h1 := h x (by simp)
    have h2 := ih fun y hy => h y (by simp [hy])
    simp only [List.flatMap_cons, List.length_append, List.length_cons, Nat.mul_add]
    omega
theorem zfs {α : Type} {f : α → Str} {l : List α} {i : Nat} {x : α} (h : l[i]? = some x) : (l.take (i + 1)).flatMap f = (l.take i).flatMap f ++ f x := by
  rw [List.take_add_one, h]; simp
theorem zfr {α : Type} {f : α → Str} {k i : Nat} {l : List α} (h : ∀ x ∈ l, (f x).length ≤ k) (hi : i ≤ l.length) : ((l.take i).flatMap f).length ≤ k * i := by
  have := zct (l := l.take i) (k := k) (f := f) fun x hx => h x (List.mem_of_mem_take hx)
  rw [List.length_take, Nat.min_eq_left hi] at this
  exact this
set_option maxRecDepth 20000 in
set_option maxHeartbeats 1000000 in
theorem zyp {p n : Nat} {l : AV} {bs : Str} {vs : List Val} {H : Heap} {Q : AV → Heap → Nat → Prop} (w : WrM p l bs H n) (hv : I64l vs) (hl : vs.length ≤ 1000000) (hb : bs.length ≤ 50000000000000)
    (hq : ∀ H' n' l', WExt p l H n l' (bs ++ VM.valsB vs) H' n' → Q (.tup []) H' n') : za Tryz.prog 30 [.ptr p 0, .ro (vs.map Val.avs)] H n Q := by
  refine zlv _ _ H n _ ?_
  simp [zgz]
  refine w.ext.nums [(vs.length : Int)] (by simp; omega) (by simp; omega) fun H2 n2 l2 e2 _ => ?_
  have en : zy [(vs.length : Int)] = WM.num vs.length := by simp [zy]
  rw [en] at e2
  have nl := zad vs.length
  have hk : ∀ v ∈ vs, (VM.valB v).length ≤ 4116 := fun v h => by have := zjl v; have := (hv v h).2; omega
  simp [zha]
  refine LP.mk (fun k xs H' n' => ∃ (i : Nat) (l' : AV), k = vs.length - i ∧ i ≤ vs.length ∧ xs = [.ptr p 0, .ro (vs.map Val.avs), .int .i64 vs.length, .int .i64 i] ∧ WExt p l H n l' (bs ++ WM.num vs.length ++ (vs.take i).flatMap VM.valB) H' n') vs.length ⟨0, l2, rfl, by omega, rfl, by simpa using e2⟩ ?_
  rintro k xs H' n' ⟨i, l', rfl, hil, rfl, ext⟩
  by_cases hlt : i < vs.length
  · have hadd : IntKind.i64.wrap ((i : Int) + 1) = ((i + 1 : Nat) : Int) := by rw [i64w (by omega)]; rfl
    have hm : vs[i]? = some vs[i] := List.getElem?_eq_getElem hlt
    have hmi := hv _ (List.getElem_mem hlt)
    have hft := zfr hk hil
    generalize hmm : vs[i] = m at hm hmi
    have hsn := zfs (f := VM.valB) hm
    simp [zdk, hlt, hmm, Val.avs]
    refine zvt (ext.put (.row 3 m.avs)).wr hmi.1 (by rw [List.length_append, List.length_append]; omega) fun H3 n3 l3 e3 => ?_
    have er := (ext.put (.row 3 m.avs)).trans e3
    rw [List.append_assoc _ _ (VM.valB m), ← hsn] at er
    simp [zhb, hadd]
    exact ⟨vs.length - (i + 1), by omega, i + 1, rfl, by omega, rfl, _, by simpa using er⟩
  · obtain rfl : i = vs.length := by omega
    rw [List.take_length, List.append_assoc] at ext
    simp [zdk]
    exact hq _ _ _ ext
end Go.Proofs.YtpbnaaoilgohkaaGreatDoor
set_option maxRecDepth 8000
namespace Go.Proofs.YtpbnaaoilgohkaaGreatDoor
open Go Go.RowKit
structure zaal (H : Heap) (lo n : Nat) (fs : List Frm) (ss : List (AV × AV)) (fa : AV) (h : List Cl) (ha : AV) : Prop where
  frs : zaa H fs ss
  row : Slot H 4 fs.length (frow fs ss) fa
  hp : Slot H 6 h.length (rowC h) ha
  nd : (own fa ++ (own ha ++ owns ss)).Nodup
  bd : ∀ g ∈ own fa ++ (own ha ++ owns ss), lo ≤ g ∧ g < n
structure znc (H : Heap) (lo n : Nat) (fs : List Frm) (ss : List (AV × AV)) (fa : AV) : Prop where
  frs : zaa H fs ss
  row : Slot H 4 fs.length (frow fs ss) fa
  nd : (own fa ++ owns ss).Nodup
  bd : ∀ g ∈ own fa ++ owns ss, lo ≤ g ∧ g < n
theorem znc.snoc {H X : Heap} {lo n N m : Nat} {fs : List Frm} {ss : List (AV × AV)} {fa : AV} {f : Frm} {va sa : AV} (h : znc H lo n fs ss fa) (hn : n ≤ N) (hN : N ≤ m) (hlo : lo ≤ N) (hlen : (fs.length + 1) * 64 ≤ 140737488355328)
    (old : ∀ g, g < n → X g = H g) (hv : Slot X 3 f.vars.length (rowV f.vars) va) (hs : Slot X 3 f.stack.length (rowV f.stack) sa) (nd : (own va ++ own sa).Nodup) (bd : ∀ g ∈ own va ++ own sa, N ≤ g ∧ g < m)
    {t : Nat} (ht : X t = some (.row 4 [.int .i64 f.fn, .int .i64 f.at_, va, sa])) {kk : AV → Heap → Nat → Prop}
    (hk : ∀ H' a', (∀ g, g < lo → H' g = X g) → znc H' lo (m + 1) (fs ++ [f]) (ss ++ [(va, sa)]) a' → kk a' H' (m + 1)) : APP 4 64 fa (.slc t 0 1) X m kk := by
  have hbf : ∀ g ∈ own fa, lo ≤ g ∧ g < n := fun g hg => h.bd g (List.mem_append_left _ hg)
  have hbs : ∀ g ∈ owns ss, lo ≤ g ∧ g < n := fun g hg => h.bd g (List.mem_append_right _ hg)
  obtain ⟨nd1, nd2, nd3⟩ := List.nodup_append.1 h.nd
  have hx := (h.row.keep (H' := X) fun g hg => old g (hbf g hg).2)
  refine Slot.app (bytes := 64) (nx := m) (new := [.int .i64 f.fn, .int .i64 f.at_, va, sa]) hx (zmx h.frs.1) ht rfl (by simp [hv.one, hs.one]) hlen fun H' h1 h2 => ?_
  have keep : ∀ g, g ∈ owns ss → H' g = H g := fun g hg => by
    have := hbs g hg
    rw [h2 g (fun hx => nd3 g hx g hg rfl) (by omega)]; exact old g this.2
  have keep2 : ∀ g, g ∈ own va ++ own sa → H' g = X g := fun g hg => by
    have := bd g hg
    exact h2 g (fun hx => by have := hbf g hx; omega) (by omega)
  refine hk H' _ (fun g hg => h2 g (fun hx => by have := hbf g hx; omega) (by omega)) ⟨(h.frs.keep keep).snoc (hv.keep fun g hg => keep2 g (List.mem_append_left _ hg)) (hs.keep fun g hg => keep2 g (List.mem_append_right _ hg)), ?_, ?_, ?_⟩
  · refine .inr ⟨m, _, by simp, h1, ?_, ?_⟩
    · rw [zzc h.frs.1]; exact List.take_of_length_le (by simp [zmx h.frs.1]; omega)
    · simp [zmx h.frs.1]; omega
  · rw [zyx]
    have e0 : own (AV.slc m 0 (fs.length + 1)) = [m] := rfl
    simp only [List.length_append, List.length_singleton, e0]
    refine List.nodup_append.2 ⟨by simp, List.nodup_append.2 ⟨nd2, nd, fun a ha b hb e => ?_⟩, fun a ha b hb e => ?_⟩
    · have := hbs a ha; have := bd b hb; omega
    · simp at ha; subst ha; subst e
      rcases List.mem_append.1 hb with hb | hb
      · have := hbs _ hb; omega
      · have := bd _ hb; omega
  · intro g hg
    rw [zyx] at hg
    have e0 : own (AV.slc m 0 (fs.length + 1)) = [m] := rfl
    rcases List.mem_append.1 hg with hg | hg
    · simp [own] at hg; omega
    · rcases List.mem_append.1 hg with hg | hg
      · have := hbs g hg; omega
      · have := bd g hg; omega
set_option maxHeartbeats 2000000 in
theorem zagf {fs : List Frm} {csv wv : AV} {id trip fuel room hops : Int} {h : List Cl} {H1 : Heap} {p mid : Nat} {Q : AV → Heap → Nat → Prop} (hl : fs.length * 64 ≤ 140737488355328) (hh : h.length * 64 ≤ 140737488355328) (hfl : ∀ f ∈ fs, f.vars.length * 32 ≤ 140737488355328 ∧ f.stack.length * 32 ≤ 140737488355328) (hp : p + 2 ≤ mid)
    (r1 : H1 p = some (.row 9 [.int .i64 id, .int .i64 trip, csv, wv, .ro (fs.map Frm.avs), .ro (h.map Cl.avs), .int .i64 fuel, .int .i64 room, .int .i64 hops])) (r2 : ∃ z, H1 (p + 1) = some (.row 9 z) ∧ z.length = 9)
    (c1 : csv.cells = [csv] ∧ csv.one = true ∧ csv.sure = true) (w1 : wv.cells = [wv] ∧ wv.one = true ∧ wv.sure = true)
    (hq : ∀ H' n' ss fa ha, mid ≤ n' → (∀ g, g < mid → g ≠ p → g ≠ p + 1 → H' g = H1 g) → zaal H' mid n' fs ss fa h ha → Q (.agg [.int .i64 id, .int .i64 trip, csv, wv, fa, ha, .int .i64 fuel, .int .i64 room, .int .i64 hops]) H' n') :
    LP (znu Q) [.ptr p 0, .ptr (p + 1) 0, .nils, .ro (fs.map Frm.avs), .int .i64 fs.length, .int .i64 0] H1 mid := by
  refine LP.mk (fun k xs H' n' => ∃ (i : Nat) (ss : List (AV × AV)) (fa : AV), k = fs.length - i ∧ i ≤ fs.length ∧ mid ≤ n' ∧ xs = [.ptr p 0, .ptr (p + 1) 0, fa, .ro (fs.map Frm.avs), .int .i64 fs.length, .int .i64 i] ∧ (∀ g, g < mid → H' g = H1 g) ∧
    znc H' mid n' (fs.take i) ss fa) fs.length ⟨0, [], .nils, rfl, by omega, Nat.le_refl _, rfl, fun _ _ => rfl, ⟨⟨rfl, fun k f s hf => by simp at hf⟩, .inl ⟨by simp, .inl rfl⟩, by simp [own, owns], by simp [own, owns]⟩⟩ ?_
  rintro k xs H' n' ⟨i, ss, fa, rfl, hi, hn', rfl, hkeep, st⟩
  have p0 : p ≠ n' := by omega
  have p1 : p + 1 ≠ n' := by omega
  by_cases hil : i < fs.length
  · have hmem : fs[i] ∈ fs := List.getElem_mem hil
    obtain ⟨hv, hs⟩ := hfl _ hmem
    have htk : fs.take (i + 1) = fs.take i ++ [fs[i]] := (List.take_append_getElem hil).symm
    have tl : (fs.take i).length = i := by simp; omega
    have lv : (Frm.avs fs[i]).length = 4 := rfl
    have fin : ∀ {X : Heap} {N : Nat} {va sa : AV} {kk : AV → Heap → Nat → Prop}, n' + 1 ≤ N → (∀ g, g < n' → X g = H' g) → Slot X 3 fs[i].vars.length (rowV fs[i].vars) va → Slot X 3 fs[i].stack.length (rowV fs[i].stack) sa → (own va ++ own sa).Nodup → (∀ g ∈ own va ++ own sa, n' + 1 ≤ g ∧ g < N) →
        (∀ a' H3 m', mid ≤ m' → (∀ g, g < mid → H3 g = H1 g) → znc H3 mid m' (fs.take (i + 1)) (ss ++ [(va, sa)]) a' → kk a' H3 m') →
        APP 4 64 fa (.slc N 0 1) (X.put N (some (.row 4 [.int .i64 fs[i].fn, .int .i64 fs[i].at_, va, sa]))) (N + 1) kk := by
      intro X N va sa kk hN hold h1 h2 h3 h4 hkk
      refine st.snoc (f := fs[i]) (va := va) (sa := sa) (N := n' + 1) (by omega) (by omega) (by omega) (by rw [tl]; omega) (fun g hg => ?_) (h1.keep fun g hg => ?_) (h2.keep fun g hg => ?_) h3 (fun g hg => by have := h4 g hg; omega) (Heap.put_at _ _ _) fun H3 a' q1 q2 => ?_
      · rw [Heap.put_ne _ _ (by omega)]; exact hold g hg
      · exact Heap.put_ne _ _ (by have := h4 g (List.mem_append_left _ hg); omega)
      · exact Heap.put_ne _ _ (by have := h4 g (List.mem_append_right _ hg); omega)
      · exact hkk _ _ _ (by omega) (fun g hg => by rw [q1 g hg, Heap.put_ne _ _ (by omega), hold g (by omega)]; exact hkeep g hg) (by rw [htk]; exact q2)
    have nn : n' ≠ n' + 1 + 1 := by omega
    have fin2 : ∀ {v64 : AV} {H65 : Heap} {nx66 : Nat} {ss' : List (AV × AV)}, mid ≤ nx66 → (∀ g, g < mid → H65 g = H1 g) → znc H65 mid nx66 (fs.take (i + 1)) ss' v64 →
        ∃ m, m < fs.length - i ∧ ∃ i_1, m = fs.length - i_1 ∧ i_1 ≤ fs.length ∧ mid ≤ nx66 ∧ ∃ x x_1, (v64 = x_1 ∧ IntKind.i64.wrap ((i : Int) + 1) = (i_1 : Int)) ∧ (∀ (g : Nat), g < mid → H65 g = H1 g) ∧ znc H65 mid nx66 (List.take i_1 fs) x x_1 :=
      fun h1 h2 h3 => ⟨fs.length - (i + 1), by omega, i + 1, rfl, by omega, h1, _, _, ⟨rfl, i64w (by omega)⟩, h2, h3⟩
    have nil : ∀ {l : List Val} {X : Heap}, l = [] → Slot X 3 l.length (rowV l) .zs := fun h => .inl ⟨by simp [h], .inr rfl⟩
    have row : ∀ {l : List Val} {X : Heap} {g : Nat}, X g = some (.row 3 (rowV l)) → Slot X 3 l.length (rowV l) (.slc g 0 l.length) := fun h => .inr ⟨_, _, rfl, h, List.take_of_length_le (by simp), by simp⟩
    simp [znu, hil, Frm.avs]
    refine zt.cloneV hv (fun ve => ?_) (fun vne => ?_)
    · simp [ztc]
      refine zt.cloneV hs (fun se => ?_) (fun sne => ?_)
      · simp [zkf]
        exact fin (by omega) (fun g hg => Heap.put_ne _ _ (by omega)) (nil ve) (nil se) (by simp [own]) (by simp [own]) fun a' H3 m' h1 h2 h3 => fin2 h1 h2 h3
      · simp [zkf]
        exact fin (by omega) (fun g hg => by rw [Heap.put_ne _ _ (by omega), Heap.put_ne _ _ (by omega), Heap.put_ne _ _ (by omega)]) (nil ve) (row (by rw [Heap.put_ne _ _ (by omega), Heap.put_at])) (by simp [own]) (by simp [own]) fun a' H3 m' h1 h2 h3 => fin2 h1 h2 h3
    · simp [ztc]
      refine zt.cloneV hs (fun se => ?_) (fun sne => ?_)
      · simp [zkf]
        exact fin (by omega) (fun g hg => by rw [Heap.put_ne _ _ (by omega), Heap.put_ne _ _ (by omega), Heap.put_ne _ _ (by omega)]) (row (by rw [Heap.put_ne _ _ (by omega), Heap.put_at])) (nil se) (by simp [own]) (by simp [own]) fun a' H3 m' h1 h2 h3 => fin2 h1 h2 h3
      · simp [zkf, nn]
        exact fin (by omega) (fun g hg => by rw [Heap.put_ne _ _ (by omega), Heap.put_ne _ _ (by omega), Heap.put_ne _ _ (by omega), Heap.put_ne _ _ (by omega)]) (row (by rw [Heap.put_ne _ _ (by omega), Heap.put_ne _ _ (by omega), Heap.put_at])) (row (by rw [Heap.put_ne _ _ (by omega), Heap.put_at])) (by simp [own]) (by simp [own]) fun a' H3 m' h1 h2 h3 => fin2 h1 h2 h3
  · obtain rfl : i = fs.length := by omega
    obtain ⟨z, r2, z9⟩ := r2
    rw [← hkeep p (by omega)] at r1
    rw [← hkeep (p + 1) (by omega)] at r2
    simp [znu, r1]
    refine (zajl hh .ro).mono fun hv H5 n5 ⟨hn5, k5, hc⟩ => ?_
    have e1 : H5 p = _ := (k5 p (by omega)).trans r1
    have e2 : H5 (p + 1) = _ := (k5 (p + 1) (by omega)).trans r2
    obtain ⟨s1, s2⟩ := hc.slot (zhs h)
    simp [zyn, e1, e2, z9, st.row.one.1, st.row.one.2, hc.one.1, hc.one.2, c1.1, c1.2, w1.1, w1.2]
    rw [List.take_length] at st
    obtain ⟨f1, f2, f3, f4⟩ := st
    have same : ∀ {X : Heap}, (∀ g, g ≠ p → g ≠ p + 1 → X g = H5 g) → ∀ g, mid ≤ g → g < n' → X g = H' g := fun hX g h1 h2 => by rw [hX g (by omega) (by omega)]; exact k5 g h2
    have s1' : Slot H5 6 h.length (rowC h) hv := by simpa [rowC] using s1
    refine hq _ _ ss fa hv (by omega) (fun g h1 h2 h3 => ?_) ⟨f1.keep fun g hg => ?_, f2.keep fun g hg => ?_, s1'.keep fun g hg => ?_, ?_, fun g hg => ?_⟩
    · rw [Heap.put_ne _ _ h3, Heap.put_ne _ _ h2, k5 g (by omega)]; exact hkeep g h1
    · have := f4 g (List.mem_append_right _ hg)
      exact same (fun g h1 h2 => by rw [Heap.put_ne _ _ h2, Heap.put_ne _ _ h1]) g this.1 this.2
    · have := f4 g (List.mem_append_left _ hg)
      exact same (fun g h1 h2 => by rw [Heap.put_ne _ _ h2, Heap.put_ne _ _ h1]) g this.1 this.2
    · have := s2 g hg
      rw [Heap.put_ne _ _ (by omega), Heap.put_ne _ _ (by omega)]
    · obtain ⟨d1, d2, d3⟩ := List.nodup_append.1 f3
      refine List.nodup_append.2 ⟨d1, List.nodup_append.2 ⟨zaih _, d2, fun a ha b hb e => ?_⟩, fun a ha b hb e => ?_⟩
      · have := s2 a ha; have := f4 b (List.mem_append_right _ hb); omega
      · rcases List.mem_append.1 hb with hb | hb
        · have := s2 b hb; have := f4 a (List.mem_append_left _ ha); omega
        · exact d3 a ha b hb e
    · rcases List.mem_append.1 hg with hg | hg
      · have := f4 g (List.mem_append_left _ hg); omega
      · rcases List.mem_append.1 hg with hg | hg
        · have := s2 g hg; omega
        · have := f4 g (List.mem_append_right _ hg); omega
end Go.Proofs.YtpbnaaoilgohkaaGreatDoor
set_option maxRecDepth 8000
namespace Go.Proofs.YtpbnaaoilgohkaaGreatDoor
open Go Go.RowKit
set_option maxHeartbeats 2000000 in
theorem zaii {a : Agt} {H1 : Heap} {p : Nat} {Q : AV → Heap → Nat → Prop} (b1 : a.prog.codes.length * 40 ≤ 140737488355328) (b2 : ∀ c ∈ a.prog.codes, c.ins.length * 24 ≤ 140737488355328) (b3 : a.prog.words.length * 16 ≤ 140737488355328)
    (b4 : a.frames.length * 64 ≤ 140737488355328) (b5 : a.heap.length * 64 ≤ 140737488355328) (b6 : ∀ f ∈ a.frames, f.vars.length * 32 ≤ 140737488355328 ∧ f.stack.length * 32 ≤ 140737488355328)
    (r1 : H1 p = some (.row 9 a.avs)) (r2 : ∃ z, H1 (p + 1) = some (.row 9 z) ∧ z.length = 9)
    (hq : ∀ H' n' mid ss fa ha cv wv, p + 2 ≤ mid → mid ≤ n' → (∀ g, g < p → H' g = H1 g) → FrzP H' (fun g => p + 2 ≤ g ∧ g < mid) cv (.ro (a.prog.codes.map Cod.avs)) → FrzP H' (fun g => p + 2 ≤ g ∧ g < mid) wv (.ro (a.prog.words.map fun w => [.str w])) →
      zaal H' mid n' a.frames ss fa a.heap ha → Q (.agg [.int .i64 a.id, .int .i64 a.trip, cv, wv, fa, ha, .int .i64 a.permit.fuel, .int .i64 a.permit.room, .int .i64 a.permit.hops]) H' n') :
    LP (znt Q) [.ptr p 0, .ptr (p + 1) 0, .nils, .ro (a.prog.codes.map Cod.avs), .int .i64 a.prog.codes.length, .int .i64 0] H1 (p + 2) := by
  refine LP.mk (fun k xs H' n' => ∃ (i : Nat) (cv : AV) (cells : List AV), k = a.prog.codes.length - i ∧ i ≤ a.prog.codes.length ∧ p + 2 ≤ n' ∧ xs = [.ptr p 0, .ptr (p + 1) 0, cv, .ro (a.prog.codes.map Cod.avs), .int .i64 a.prog.codes.length, .int .i64 i] ∧ (∀ g, g < p + 2 → H' g = H1 g) ∧
    zei H' (fun g => p + 2 ≤ g ∧ g < n' ∧ g ∉ own cv) (a.prog.codes.take i) cells ∧ Slot H' 3 i cells cv ∧ ∀ g ∈ own cv, p + 2 ≤ g ∧ g < n') a.prog.codes.length ⟨0, .nils, [], rfl, by omega, Nat.le_refl _, rfl, fun _ _ => rfl, ⟨rfl, fun k c hc => by simp at hc⟩, .inl ⟨rfl, .inl rfl⟩, by simp [own]⟩ ?_
  rintro k xs H' n' ⟨i, cv, cells, rfl, hi, hn', rfl, hkeep, hc, hs, ho⟩
  have p0 : p ≠ n' := by omega
  have p1 : p + 1 ≠ n' := by omega
  by_cases hil : i < a.prog.codes.length
  · have hmem : a.prog.codes[i] ∈ a.prog.codes := List.getElem_mem hil
    have hb := b2 _ hmem
    have htk : a.prog.codes.take (i + 1) = a.prog.codes.take i ++ [a.prog.codes[i]] := (List.take_append_getElem hil).symm
    have tl : (a.prog.codes.take i).length = i := by simp; omega
    simp [znt, hil, Cod.avs]
    refine (zajk hb .ro).mono fun v H5 n5 ⟨hn5, k5, hv⟩ => ?_
    have e1 : H5 n' = _ := (k5 n' (by omega)).trans (Heap.put_at _ _ _)
    have nn : n' ≠ n5 := by omega
    simp [zyo, e1, hv.one.1, hv.one.2]
    refine Slot.app (bytes := 40) (nx := n5 + 1) (new := [.int .i64 a.prog.codes[i].params, .int .i64 a.prog.codes[i].vars, v]) (hs.keep fun g hg => ?_) (by rw [hc.1, tl]) (Heap.put_at _ _ _) rfl (by simp [hv.one.2]) (by omega) fun H3 q1 q2 => ?_
    · have := ho g hg
      rw [Heap.put_ne _ _ (by omega), Heap.put_ne _ _ (by omega), k5 g (by omega), Heap.put_ne _ _ (by omega)]
    · have old : ∀ g, g < n' → g ∉ own cv → H3 g = H' g := fun g h1 h2 => by
        rw [q2 g h2 (by omega), Heap.put_ne _ _ (by omega), Heap.put_ne _ _ (by omega), k5 g (by omega), Heap.put_ne _ _ (by omega)]
      rw [i64w (by omega)]
      refine ⟨a.prog.codes.length - (i + 1), by omega, i + 1, rfl, by omega, by omega, _, ⟨rfl, by simp⟩, fun g hg => ?_, cells ++ [.int .i64 a.prog.codes[i].params, .int .i64 a.prog.codes[i].vars, v], ?_, ?_, ?_⟩
      · rw [old g (by omega) (fun h => by have := ho g h; omega)]; exact hkeep g hg
      · rw [htk]
        refine zei.snoc (hc.more fun g ⟨h1, h2, h3⟩ => ⟨⟨h1, by omega, by simp [own]; omega⟩, old g h2 h3⟩) (hv.more fun g ⟨h1, h2⟩ => ⟨⟨by omega, by omega, by simp [own]; omega⟩, ?_⟩)
        rw [q2 g (fun h => by have := ho g h; omega) (by omega), Heap.put_ne _ _ (by omega), Heap.put_ne _ _ (by omega)]
      · refine .inr ⟨n5 + 1, _, rfl, q1, List.take_of_length_le ?_, ?_⟩
        · simp [hc.1, tl]; omega
        · simp [hc.1, tl]; omega
      · intro g hg
        simp [own] at hg; omega
  · obtain rfl : i = a.prog.codes.length := by omega
    rw [List.take_length] at hc
    obtain ⟨z, r2, z9⟩ := r2
    rw [← hkeep p (by omega)] at r1
    rw [← hkeep (p + 1) (by omega)] at r2
    simp [znt, r1, Agt.avs]
    refine (zajj b3 .ro).mono fun wv H5 n5 ⟨hn5, k5, hw⟩ => ?_
    have e1 : H5 p = _ := (k5 p (by omega)).trans r1
    have e2 : H5 (p + 1) = _ := (k5 (p + 1) (by omega)).trans r2
    simp [zym, e1, Agt.avs, hs.one.1, hs.one.2, hw.one.1, hw.one.2]
    have pp : p + 1 ≠ p := by omega
    have fz1 : FrzP H5 (fun g => p + 2 ≤ g ∧ g < n5) cv (.ro (a.prog.codes.map Cod.avs)) := by
      refine (hc.frz (G := fun g => p + 2 ≤ g ∧ g < n') (fun g ⟨h1, h2, _⟩ => ⟨h1, h2⟩) hs ho).keep (fun g ⟨h1, h2⟩ => k5 g h2) |>.wide fun g ⟨h1, h2⟩ => ⟨h1, by omega⟩
    have fz2 : FrzP H5 (fun g => p + 2 ≤ g ∧ g < n5) wv (.ro (a.prog.words.map fun w => [.str w])) := hw.frz (fun g ⟨h1, h2⟩ => ⟨by omega, h2⟩) (zwq _)
    refine zagf b4 b5 b6 (by omega) (Heap.put_at _ _ _) ⟨z, by rw [Heap.put_ne _ _ pp]; exact e2, z9⟩ hs.one hw.one fun H6 n6 ss fa ha hn6 k6 ow => ?_
    have same : ∀ g, p + 2 ≤ g → g < n5 → H6 g = H5 g := fun g h1 h2 => by rw [k6 g h2 (by omega) (by omega), Heap.put_ne _ _ (by omega)]
    refine hq H6 n6 n5 ss fa ha cv wv (by omega) hn6 (fun g hg => ?_) (fz1.keep fun g ⟨h1, h2⟩ => same g h1 h2) (fz2.keep fun g ⟨h1, h2⟩ => same g h1 h2) ow
    rw [k6 g (by omega) (by omega) (by omega), Heap.put_ne _ _ (by omega), k5 g (by omega), hkeep g (by omega)]
structure zaaj (a : Agt) : Prop where
  b1 : a.prog.codes.length * 40 ≤ 140737488355328
  b2 : ∀ c ∈ a.prog.codes, c.ins.length * 24 ≤ 140737488355328
  b3 : a.prog.words.length * 16 ≤ 140737488355328
  b4 : a.frames.length * 64 ≤ 140737488355328
  b5 : a.heap.length * 64 ≤ 140737488355328
  b6 : ∀ f ∈ a.frames, f.vars.length * 32 ≤ 140737488355328 ∧ f.stack.length * 32 ≤ 140737488355328
def zap (id trip : Int) (p : Prg) (fa ha : AV) (m : Pmt) : List AV := [.int .i64 id, .int .i64 trip, .ro (p.codes.map Cod.avs), .ro (p.words.map fun w => [.str w]), fa, ha, .int .i64 m.fuel, .int .i64 m.room, .int .i64 m.hops]
theorem zapc {a : Agt} (sz : zaaj a) {H : Heap} {n : Nat} {Q : AV → Heap → Nat → Prop}
    (hq : ∀ H' n' ss fa ha, n ≤ n' → Keep n H' H → zaal H' n n' a.frames ss fa a.heap ha → Q (.agg (zap a.id a.trip a.prog fa ha a.permit)) H' n') : za Tryz.prog 53 [.agg a.avs] H n Q := by
  have raw : za Tryz.prog 53 [.agg a.avs] H n fun v H' n' => ∃ mid ss fa ha cv wv, v = .agg [.int .i64 a.id, .int .i64 a.trip, cv, wv, fa, ha, .int .i64 a.permit.fuel, .int .i64 a.permit.room, .int .i64 a.permit.hops] ∧ n + 2 ≤ mid ∧ mid ≤ n' ∧ Keep n H' H ∧
      FrzP H' (fun g => n + 2 ≤ g ∧ g < mid) cv (.ro (a.prog.codes.map Cod.avs)) ∧ FrzP H' (fun g => n + 2 ≤ g ∧ g < mid) wv (.ro (a.prog.words.map fun w => [.str w])) ∧ zaal H' mid n' a.frames ss fa a.heap ha := by
    refine zaay _ H n _ ?_
    have av : (AV.agg a.avs).cells = a.avs := by simp
    have al : a.avs.length = 9 := rfl
    have nn : n ≠ n + 1 := by omega
    have h2 : a.avs[2]? = some (.ro (a.prog.codes.map Cod.avs)) := rfl
    have hsu : (AV.agg a.avs).sure = true := by simp [Agt.avs]
    unfold zyl
    rw [av, al]
    refine ⟨hsu, ?_⟩
    simp [nn, h2]
    refine zaii sz.b1 sz.b2 sz.b3 sz.b4 sz.b5 sz.b6 (by rw [Heap.put_ne _ _ nn, Heap.put_at]) ⟨_, Heap.put_at _ _ _, rfl⟩ fun H' n' mid ss fa ha cv wv q1 q2 q3 q4 q5 q6 => ?_
    exact ⟨mid, ss, fa, ha, cv, wv, rfl, q1, q2, fun g hg => by rw [q3 g hg, Heap.put_ne _ _ (by omega), Heap.put_ne _ _ (by omega)], q4, q5, q6⟩
  refine za.tidy fun hlive => raw.freeze fun v H' n' ⟨mid, ss, fa, ha, cv, wv, hv, q1, q2, q3, q4, q5, q6⟩ => ?_
  subst hv
  let H2 : Heap := fun g => if n ≤ g ∧ g < mid then none else H' g
  have h2 : ∀ g, ¬ (n ≤ g ∧ g < mid) → H2 g = H' g := fun g hg => if_neg hg
  refine ⟨_, H2, fun g => n ≤ g ∧ g < mid, hq H2 n' ss fa ha (by omega) (fun g hg => by rw [h2 g (by omega)]; exact q3 g hg) ⟨q6.frs.keep fun g hg => h2 g ?_, q6.row.keep fun g hg => h2 g ?_, q6.hp.keep fun g hg => h2 g ?_, q6.nd, fun g hg => ?_⟩, ?_, fun g o hg => ?_⟩
  · have := q6.bd g (by simp [hg]); omega
  · have := q6.bd g (by simp [hg]); omega
  · have := q6.bd g (by simp [hg]); omega
  · have := q6.bd g hg; omega
  · refine .agg _ _ rfl fun j v u hv hu => ?_
    match j with
    | 0 => cases hv; cases hu; exact .same _
    | 1 => cases hv; cases hu; exact .same _
    | 2 => cases hv; cases hu; exact q4.wide fun g ⟨h1, h2⟩ => ⟨by omega, h2⟩
    | 3 => cases hv; cases hu; exact q5.wide fun g ⟨h1, h2⟩ => ⟨by omega, h2⟩
    | 4 => cases hv; cases hu; exact .same _
    | 5 => cases hv; cases hu; exact .same _
    | 6 => cases hv; cases hu; exact .same _
    | 7 => cases hv; cases hu; exact .same _
    | 8 => cases hv; cases hu; exact .same _
    | j + 9 => simp at hv
  · by_cases h : n ≤ g ∧ g < mid
    · simp only [H2, if_pos h] at hg; cases hg
    · exact ⟨h, by rw [h2 g h] at hg; exact hg⟩
end Go.Proofs.YtpbnaaoilgohkaaGreatDoor
set_option maxRecDepth 8000
namespace Go.Proofs.YtpbnaaoilgohkaaGreatDoor
open Go Go.RowKit
theorem Slot.frzN {H : Heap} {nx sz : Nat} {xs : List (List AV)} {a : AV} (hs : Slot H sz xs.length xs.flatten a) (ho : ∀ g ∈ own a, nx ≤ g) (hsz : ∀ x ∈ xs, x.length = sz) (hb : ∀ x ∈ xs, ∀ c ∈ x, scal c = true) : Frz H nx a (.ro xs) := by
  rcases hs with ⟨h0, rfl | rfl⟩ | ⟨g, cs, rfl, h1, h2, h3⟩
  · rw [List.eq_nil_of_length_eq_zero h0]; exact .nils
  · rw [List.eq_nil_of_length_eq_zero h0]; exact .zs
  · have e : ∀ (i : Nat) (x : List AV) (j : Nat) (v : AV), xs[i]? = some x → x[j]? = some v → cs[0 + i * sz + j]? = some v := fun i x j v hx hv => by
      have hxl : x.length = sz := hsz x (List.mem_of_getElem? hx)
      have hj : j < sz := by have := (List.getElem?_eq_some_iff.1 hv).1; omega
      have hi := (List.getElem?_eq_some_iff.1 hx).1
      have e1 := zjx hsz hx
      have e2 := congrArg (·[j]?) e1
      simp only [List.getElem?_take, List.getElem?_drop, hj, if_true] at e2
      rw [← h2, List.getElem?_take, hv] at e2
      have : i * sz + sz ≤ xs.length * sz := by rw [← Nat.succ_mul]; exact Nat.mul_le_mul_right _ hi
      rw [if_pos (by omega)] at e2
      rw [Nat.zero_add]; exact e2
    refine .slc g 0 _ sz cs xs (ho g (by simp [own])) h1 (by omega) rfl hsz (fun i j => (cs[0 + i * sz + j]?).getD .junk) (fun i x j v hx hv => ?_) (fun i x j v hx hv => ?_)
    · rw [e i x j v hx hv]; rfl
    · rw [e i x j v hx hv]; exact .same _ (zcw (hb x (List.mem_of_getElem? hx) v (List.mem_of_getElem? hv)))
theorem Slot.frzV {H : Heap} {nx : Nat} {l : List Val} {a : AV} (hs : Slot H 3 l.length (rowV l) a) (ho : ∀ g ∈ own a, nx ≤ g) : Frz H nx a (.ro (l.map Val.avs)) :=
  Slot.frzN (sz := 3) (by simpa [rowV] using hs) ho (zhr l) (zhu l)
theorem zael : ∀ {fs : List Frm} {ss : List (AV × AV)} {i : Nat} {f : Frm} {s : AV × AV}, fs[i]? = some f → ss[i]? = some s → (frow fs ss)[i * 4]? = some (.int .i64 f.fn) ∧ (frow fs ss)[i * 4 + 1]? = some (.int .i64 f.at_) ∧ (frow fs ss)[i * 4 + 2]? = some s.1 ∧ (frow fs ss)[i * 4 + 3]? = some s.2
  | [], _, i, f, s, h, _ => by simp at h
  | _ :: _, [], i, f, s, _, h => by simp at h
  | g :: fs, t :: ss, 0, f, s, h1, h2 => by simp at h1 h2; subst h1; subst h2; exact ⟨rfl, rfl, rfl, rfl⟩
  | g :: fs, t :: ss, i + 1, f, s, h1, h2 => by
    have := zael (fs := fs) (ss := ss) (i := i) (f := f) (s := s) (by simpa using h1) (by simpa using h2)
    have e : ∀ k, (frow (g :: fs) (t :: ss))[(i + 1) * 4 + k]? = (frow fs ss)[i * 4 + k]? := fun k => by
      rw [show (i + 1) * 4 + k = i * 4 + k + 1 + 1 + 1 + 1 by omega]
      simp [frow]
    exact ⟨(e 0).trans this.1, (e 1).trans this.2.1, (e 2).trans this.2.2.1, (e 3).trans this.2.2.2⟩
theorem zaa.frz {H : Heap} {nx : Nat} {fs : List Frm} {ss : List (AV × AV)} {g k : Nat} {cs : List AV} (h : zaa H fs ss) (h1 : H g = some (.row 4 cs)) (h2 : cs.take (fs.length * 4) = frow fs ss) (h3 : fs.length * 4 ≤ cs.length) (hg : nx ≤ g) (ho : ∀ x ∈ owns ss, nx ≤ x) (hk : k = fs.length) : Frz H nx (.slc g 0 k) (.ro (fs.map Frm.avs)) := by
  subst hk
  have key : ∀ (i : Nat) (x : List AV) (j : Nat) (v : AV), (fs.map Frm.avs)[i]? = some x → x[j]? = some v → ∃ u, cs[0 + i * 4 + j]? = some u ∧ Frz H nx u v := fun i x j v hx hv => by
    rw [List.getElem?_map] at hx
    obtain ⟨f, hf, rfl⟩ := Option.map_eq_some_iff.1 hx
    have hi := (List.getElem?_eq_some_iff.1 hf).1
    have hs : ss[i]? = some (ss[i]'(by rw [h.1]; exact hi)) := List.getElem?_eq_getElem _
    obtain ⟨a, b⟩ := h.2 i f _ hf hs
    obtain ⟨q0, q1, q2, q3⟩ := zael hf hs
    have hm := List.mem_of_getElem? hs
    have up : ∀ (j : Nat) (u : AV), j < 4 → (frow fs ss)[i * 4 + j]? = some u → cs[0 + i * 4 + j]? = some u := fun j u hj hu => by
      rw [← h2, List.getElem?_take, if_pos (by omega)] at hu; rw [Nat.zero_add]; exact hu
    match j, hv with
    | 0, hv => cases hv; exact ⟨_, up 0 _ (by omega) q0, .same _ (.int _ _)⟩
    | 1, hv => cases hv; exact ⟨_, up 1 _ (by omega) q1, .same _ (.int _ _)⟩
    | 2, hv => cases hv; exact ⟨_, up 2 _ (by omega) q2, a.frzV fun x hx => ho x (List.mem_flatMap.2 ⟨_, hm, List.mem_append_left _ hx⟩)⟩
    | 3, hv => cases hv; exact ⟨_, up 3 _ (by omega) q3, b.frzV fun x hx => ho x (List.mem_flatMap.2 ⟨_, hm, List.mem_append_right _ hx⟩)⟩
    | j + 4, hv => simp [Frm.avs] at hv
  refine .slc g 0 _ 4 cs _ hg h1 (by omega) (by simp) (fun x hx => ?_) (fun i j => (cs[0 + i * 4 + j]?).getD .junk) (fun i x j v hx hv => ?_) (fun i x j v hx hv => ?_)
  · obtain ⟨f, _, rfl⟩ := List.mem_map.1 hx; rfl
  · obtain ⟨u, q1, q2⟩ := key i x j v hx hv; rw [q1]; rfl
  · obtain ⟨u, q1, q2⟩ := key i x j v hx hv; rw [q1]; exact q2
theorem zzs (l : List Cod) {A : Nat → Prop} : Bel A (.ro (l.map Cod.avs)) := .ro _ fun i x j v hx hv => by
  rw [List.getElem?_map] at hx
  obtain ⟨c, _, rfl⟩ := Option.map_eq_some_iff.1 hx
  match j, hv with
  | 0, hv => cases hv; exact .int _ _
  | 1, hv => cases hv; exact .int _ _
  | 2, hv => cases hv; exact zna (zys _)
  | j + 3, hv => simp [Cod.avs] at hv
theorem zzr (l : List Str) {A : Nat → Prop} : Bel A (.ro (l.map fun w => [.str w])) := zna (ztl l)
theorem zaio {H : Heap} {nx : Nat} {id trip : Int} {p : Prg} {fs : List Frm} {h : List Cl} {m : Pmt} {fa ha : AV} (h1 : Frz H nx fa (.ro (fs.map Frm.avs))) (h2 : Frz H nx ha (.ro (h.map Cl.avs))) : Frz H nx (.agg (zap id trip p fa ha m)) (.agg (Agt.avs ⟨id, trip, p, fs, h, m⟩)) := by
  refine .agg _ _ rfl fun j v u hv hu => ?_
  match j with
  | 0 => cases hv; cases hu; exact .same _ (.int _ _)
  | 1 => cases hv; cases hu; exact .same _ (.int _ _)
  | 2 => cases hv; cases hu; exact .same _ (zzs _)
  | 3 => cases hv; cases hu; exact .same _ (zzr _)
  | 4 => cases hv; cases hu; exact h1
  | 5 => cases hv; cases hu; exact h2
  | 6 => cases hv; cases hu; exact .same _ (.int _ _)
  | 7 => cases hv; cases hu; exact .same _ (.int _ _)
  | 8 => cases hv; cases hu; exact .same _ (.int _ _)
  | j + 9 => simp [zap] at hv
theorem Live.codes {a : Agt} {fs : List Frm} {f : Frm} (l : VM.Live a fs f) : a.prog.codes.length ≤ 5 ∧ a.prog.words.length ≤ 16 ∧ ∀ c ∈ a.prog.codes, c.ins.length ≤ 200 ∧ 0 ≤ c.vars ∧ c.vars ≤ 8 ∧ (∀ x ∈ (VM.heights c.ins).1, -1 ≤ x ∧ x ≤ 16) := by
  obtain ⟨h1, h2, h3⟩ := zbv l.prog
  refine ⟨h2, h3, fun c hc => ?_⟩
  obtain ⟨q1, q2, q3⟩ := h1 c hc
  unfold VM.codeRange at q1
  rw [decide_eq_false_iff_not] at q1
  exact ⟨by omega, by omega, by omega, (zeh q2 q3).2⟩
theorem zaiq {xs : List (List AV)} {sz : Nat} (hsz : ∀ x ∈ xs, x.length = sz) {i j : Nat} {x : List AV} {v : AV} (hx : xs[i]? = some x) (hv : x[j]? = some v) : xs.flatten[i * sz + j]? = some v := by
  have hxl : x.length = sz := hsz x (List.mem_of_getElem? hx)
  have hj : j < sz := by have := (List.getElem?_eq_some_iff.1 hv).1; omega
  have e2 := congrArg (·[j]?) (zjx hsz hx)
  simp only [List.getElem?_take, List.getElem?_drop, hj, if_true] at e2
  rw [e2, hv]
end Go.Proofs.YtpbnaaoilgohkaaGreatDoor
set_option maxRecDepth 8000
namespace Go.Proofs.YtpbnaaoilgohkaaGreatDoor
open Go Go.RowKit
def bsR (b : Str) : List (List AV) := b.map fun c => [.int .u8 (c.toNat : Int)]
theorem zbb (b : Str) : (bsR b).length = b.length := by simp [bsR]
theorem zrw (b : Str) : (bsR b).flatten = bsV b := by
  induction b with
  | nil => rfl
  | cons c r ih => simp [bsR, bsV] at ih ⊢; exact ih
theorem zack (b : Str) : ∀ x ∈ bsR b, ∀ c ∈ x, scal c = true := by
  intro x hx c hc
  obtain ⟨u, _, rfl⟩ := List.mem_map.1 hx
  simp at hc; subst hc; rfl
theorem zjz (b : Str) : ∀ x ∈ bsR b, x.length = 1 := by
  intro x hx
  obtain ⟨u, _, rfl⟩ := List.mem_map.1 hx
  rfl
theorem Slot.frzB {H : Heap} {nx : Nat} {b : Str} {a : AV} (hs : Slot H 1 b.length (bsV b) a) (ho : ∀ g ∈ own a, nx ≤ g) : Frz H nx a (.ro (bsR b)) :=
  Slot.frzN (sz := 1) (xs := bsR b) (by rw [zbb, zrw]; exact hs) ho (zjz b) (zack b)
theorem zapa (x : Nat) (hx : x < 4294967296) : QC Tryz.prog 57 [.int .u32 x, .int .i64 5] (.int .u32 (WM.rot5 x : Nat)) := by
  refine QC.of' fun H nx => ?_
  refine zjp _ _ H nx _ ?_
  have h5 : bits .and .u64 5 31 = 5 := by decide
  have hor : bits BinOp.or IntKind.u32 ((x : Int) * 32 % 4294967296) ((x : Int) / 134217728) = ((WM.rot5 x : Nat) : Int) := by
    have := u32_or_nat (x * 32 % 4294967296) (x / 134217728) (by omega) (by omega)
    rw [show ((x : Int) * 32 % 4294967296) = ((x * 32 % 4294967296 : Nat) : Int) by omega, show ((x : Int) / 134217728) = ((x / 134217728 : Nat) : Int) by omega, this]
    rfl
  have w5 : IntKind.u64.wrap 5 = 5 := by decide
  have w27 : IntKind.u64.wrap 27 = 27 := by decide
  have p5 : (2 : Int) ^ min (5 : Nat) IntKind.u32.bits = 32 := rfl
  have p27 : (2 : Int) ^ min (27 : Nat) IntKind.u32.bits = 134217728 := rfl
  have fd : (x : Int).fdiv 134217728 = (x : Int) / 134217728 := Int.fdiv_eq_ediv_of_nonneg _ (by omega)
  simp [zeo, w5, h5, w27, p5, p27, fd, IntKind.wrap_u32, hor]
theorem zyq (b : WM.Bytes) (s : Nat) (hs : s < 4294967296) : b.foldl WM.sumStep s < 4294967296 := by
  induction b generalizing s with
  | nil => exact hs
  | cons c r ih => exact ih _ (by unfold WM.sumStep; omega)
set_option maxRecDepth 20000 in
set_option maxHeartbeats 1000000 in
theorem zany (b : Str) (hb : b.length ≤ 4611686018427387904) : QC Tryz.prog 32 [.ro (bsR b)] (.int .i64 (WM.sum b : Nat)) := by
  refine QC.of' fun H nx => ?_
  refine zxw _ H nx _ ?_
  simp [zvb, zbb]
  refine LP.mk (fun k xs H' n' => ∃ (i q : Nat), k = b.length - i ∧ i ≤ b.length ∧ xs = [.int .u32 q, .ro (bsR b), .int .i64 b.length, .int .i64 i] ∧ q < 4294967296 ∧ (b.drop i).foldl WM.sumStep q = WM.sum b ∧ Keep nx H' H) b.length ⟨0, 2166136261, rfl, by omega, rfl, by omega, rfl, fun _ _ => rfl⟩ ?_
  rintro k xs H' n' ⟨i, q, rfl, hil, rfl, hq, hf, hk⟩
  by_cases hlt : i < b.length
  · have hadd : IntKind.i64.wrap ((i : Int) + 1) = ((i + 1 : Nat) : Int) := by rw [i64w (by omega)]; rfl
    have hcd : b.drop i = b[i] :: b.drop (i + 1) := List.drop_eq_getElem_cons hlt
    rw [hcd] at hf
    have hcell : (bsR b)[i]? = some [.int .u8 (b[i].toNat : Int)] := by simp [bsR, hlt]
    generalize b[i] = c at *
    have hc := c.toNat_lt
    have hx := u32_xor_nat q c.toNat hq (by omega)
    have hlx : q ^^^ c.toNat < 4294967296 := Nat.xor_lt_two_pow (n := 32) hq (by omega)
    simp only [List.foldl_cons, WM.sumStep] at hf
    have hw : IntKind.u32.wrap (c.toNat : Int) = (c.toNat : Int) := by rw [IntKind.wrap_u32]; omega
    simp [zoz, hlt, hcell, hw, hx]
    refine ⟨by rw [zbb]; exact hlt, QC.call (zapa _ hlx) ?_⟩
    have hm : IntKind.u32.wrap ((WM.rot5 (q ^^^ c.toNat) : Int) * 16777619) = ((WM.rot5 (q ^^^ c.toNat) * 16777619 % 4294967296 : Nat) : Int) := by rw [IntKind.wrap_u32]; omega
    simp [zvc, hm, hadd]
    exact ⟨b.length - (i + 1), by omega, i + 1, rfl, by omega, _, ⟨by omega, rfl⟩, by omega, hf, hk⟩
  · obtain rfl : i = b.length := by omega
    rw [List.drop_length] at hf
    have h2 := zyq b 2166136261 (by omega)
    have hw : IntKind.i64.wrap ((q : Nat) : Int) = (q : Int) := i64w (by omega)
    simp [zoz, hw]
    exact ⟨by rw [← hf]; rfl, hk⟩
end Go.Proofs.YtpbnaaoilgohkaaGreatDoor
