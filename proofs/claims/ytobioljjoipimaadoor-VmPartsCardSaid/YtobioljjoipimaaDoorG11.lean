/- The machine's step: one instruction. A copy of an agent: the program's part. A copy of an agent: the frames' part. A copy of an agent. The machine goes on: Run. The machine goes on: Run. A program, and an agent, are the same as themselves. The machine: Answer. What a call is handed is read by value from then on, in part. -/
import Derived.Test.YtobioljjoipimaaDoorG10
import Derived.Test.YtobioljjoipimaaDoorG6
import Derived.Test.YtobioljjoipimaaDoorG9
set_option linter.unusedSimpArgs false
set_option linter.unusedVariables false
namespace Go.Proofs.YtobioljjoipimaaDoor
open Go Go.RowKit
def zzu (H0 H : Heap) (lo n gr gs : Nat) (s : Spt) (r : Agt × Evt) : Prop := (r.2 = VM.ev0 ∧ ∃ gf fs ss f va sa ha, r.1.frames = fs ++ [f] ∧ RL H0 H lo n gr gs gf r.1.id r.1.trip r.1.prog s fs ss f va sa r.1.heap ha r.1.permit VM.ev0) ∨
  (r.2.kind ≠ 0 ∧ Fin H0 H lo gr r.1.id r.1.trip r.1.prog r.1.frames r.1.heap r.1.permit r.2)
theorem zel {st : List Val} (h : 1 ≤ st.length) : st = VM.low 1 st ++ [VM.top1 st] := by
  unfold VM.low VM.top1
  have : st[st.length - 1]? = some st[st.length - 1] := List.getElem?_eq_getElem (by omega)
  rw [List.getD_eq_getElem?_getD, this]
  have e := zva this
  rw [show st.length - 1 + 1 = st.length by omega, List.take_length] at e
  exact e
theorem zst {st : List Val} (h : 2 ≤ st.length) : st = VM.low 2 st ++ [VM.top2 st, VM.top1 st] := by
  have h1 := zel (st := st) (by omega)
  have : st[st.length - 2]? = some st[st.length - 2] := List.getElem?_eq_getElem (by omega)
  have e := zva this
  rw [show st.length - 2 + 1 = st.length - 1 by omega] at e
  have e2 : VM.low 1 st = VM.low 2 st ++ [VM.top2 st] := by
    unfold VM.low VM.top2
    rw [List.getD_eq_getElem?_getD, this]; exact e
  rw [e2] at h1
  simpa using h1
theorem zaeb {p : Prg} {fs : List Frm} {fn : Int} (h : VM.WChain p fs fn) : ∀ g ∈ fs, ∃ k, VM.Waits p g k := by
  induction h with
  | nil => intro g hg; simp at hg
  | snoc gs g0 fn _ w ih =>
    intro g hg
    rcases List.mem_append.1 hg with h | h
    · exact ih g h
    · simp at h; subst h; exact ⟨_, w⟩
theorem zup {a : Agt} {fs : List Frm} {f : Frm} (l : VM.Live a fs f) : ∀ g ∈ fs, g.stack.length ≤ 15 := by
  intro g hg
  obtain ⟨k, w⟩ := zaeb l.chain g hg
  have ok := l.ok g (by simp [hg])
  have pr := (zu l.prog).1 _ (VM.code_mem ok.code)
  have hm := (zcc pr.2.1 pr.2.2).2 _ (List.mem_of_getElem? w.hei)
  omega
theorem zvy {p : Prg} (h : VM.program p = 0) : ∀ w ∈ p.words, w.length ≤ 12 := by
  unfold VM.program at h
  split at h
  · omega
  split at h
  · omega
  split at h
  · omega
  rename_i hw
  have hw' : p.words.all VM.word = true := by simpa using hw
  intro w hm
  have := List.all_eq_true.1 hw' w hm
  unfold VM.word at this
  simp at this
  exact this.1
theorem zais {cs : List AV} {vs : List Val} {i : Nat} {v : Val} (h1 : cs.take (vs.length * 3) = rowV vs) (h2 : vs.length * 3 ≤ cs.length) (hi : i < vs.length) :
    (cs.take (i * 3) ++ (v.avs ++ cs.drop (i * 3 + 3))).take ((vs.set i v).length * 3) = rowV (vs.set i v) ∧ (vs.set i v).length * 3 ≤ (cs.take (i * 3) ++ (v.avs ++ cs.drop (i * 3 + 3))).length := by
  have e1 : vs.set i v = vs.take i ++ ([v] ++ vs.drop (i + 1)) := by rw [List.set_eq_take_append_cons_drop, if_pos hi]; rfl
  have ecs : cs = rowV vs ++ cs.drop (vs.length * 3) := by rw [← h1, List.take_append_drop]
  have one : rowV [v] = v.avs := by simp [rowV]
  have lv : v.avs.length = 3 := rfl
  generalize cs.drop (vs.length * 3) = T at ecs
  have t1 : cs.take (i * 3) = rowV (vs.take i) := by rw [ecs, List.take_append_of_le_length (by simp; omega), zvg]
  have t2 : cs.drop (i * 3 + 3) = rowV (vs.drop (i + 1)) ++ T := by
    rw [ecs, List.drop_append_of_le_length (by simp; omega), show i * 3 + 3 = (i + 1) * 3 by omega, zpg]
  rw [t1, t2, List.length_set, e1, zsc, zsc, one]
  have hl : (rowV (vs.take i) ++ (v.avs ++ rowV (vs.drop (i + 1)))).length = vs.length * 3 := by simp [lv]; omega
  have e : rowV (vs.take i) ++ (v.avs ++ (rowV (vs.drop (i + 1)) ++ T)) = (rowV (vs.take i) ++ (v.avs ++ rowV (vs.drop (i + 1)))) ++ T := by simp
  rw [e]
  exact ⟨by rw [← hl, List.take_left], by rw [List.length_append, hl]; omega⟩
section
variable {H0 H : Heap} {lo n gr gs gf : Nat} {id trip : Int} {p : Prg} {s : Spt} {fs : List Frm} {ss : List (AV × AV)} {f : Frm} {va sa : AV} {h : List Cl} {ha : AV} {m : Pmt} {e : Evt}
theorem RL.setva (st : RL H0 H lo n gr gs gf id trip p s fs ss f va sa h ha m e) {vs : List Val} {g : Nat} {c : Option AObj} (hg : own va = [g]) (hs : Slot (H.put g c) 3 vs.length (rowV vs) va) : RL H0 (H.put g c) lo n gr gs gf id trip p s fs ss { f with vars := vs } va sa h ha m e := by
  have ap := st.apart
  obtain ⟨a1, a2, a3, a4, a5, a6, a7⟩ := ap.v g (by simp [hg])
  obtain ⟨cs, c1, c2⟩ := st.fr
  have hk : ∀ x, x ≠ g → (H.put g c) x = H x := fun x hx => Heap.put_ne _ _ hx
  exact st.upd (Nat.le_refl _) (by rw [hk _ (Ne.symm a2)]; exact st.run) ⟨cs, by rw [hk _ (Ne.symm a4)]; exact c1, c2⟩ hs (st.st.keep fun x hx => hk x fun e => a7 (e ▸ hx)) (st.hp.keep fun x hx => hk x fun e => a5 (e ▸ hx)) (fun x _ _ _ _ hx _ => hk x fun e => hx (by rw [hg, e]; simp)) (fun g hg => .inl hg) (fun g hg => .inl hg) (fun g hg => .inl hg) st.nd3
theorem RL.setat (st : RL H0 H lo n gr gs gf id trip p s fs ss f va sa h ha m e) {cs : List AV} (k : Int) (c1 : H gf = some (.row 4 cs)) (c2 : cs.take ((fs.length + 1) * 4) = frow fs ss ++ [.int .i64 f.fn, .int .i64 f.at_, va, sa]) (c3 : (fs.length + 1) * 4 ≤ cs.length) :
    RL H0 (H.put gf (some (.row 4 (cs.take (fs.length * 4 + 1) ++ AV.int .i64 k :: cs.drop (fs.length * 4 + 1 + 1))))) lo n gr gs gf id trip p s fs ss { f with at_ := k } va sa h ha m e := by
  obtain ⟨d1, d2⟩ := zke (u := AV.int .i64 k) c2 (zap st.frs.1) c3 (j := 1) (by omega)
  exact st.setfr (f' := { f with at_ := k }) ⟨_, rfl, by simpa using d1, d2⟩ st.sv st.st rfl rfl
end
section
variable {H0 H : Heap} {lo n gr gs gf : Nat} {a : Agt} {s : Spt} {fs : List Frm} {ss : List (AV × AV)} {f : Frm} {va sa : AV} {ha : AV}
set_option maxHeartbeats 16000000 in
set_option maxRecDepth 20000 in
theorem zahw (l : VM.Live a fs f) (hfu : a.permit.fuel ≠ 0) (st : RL H0 H lo n gr gs gf a.id a.trip a.prog s fs ss f va sa a.heap ha a.permit VM.ev0) (hname : s.name.length ≤ maxLen) (hfacts : s.facts.length ≤ 4611686018427387903) {Q : AV → Heap → Nat → Prop}
    (hq : ∀ H' n', n ≤ n' → zzu H0 H' lo n' gr gs s (VM.opDo { a with permit := { a.permit with fuel := a.permit.fuel - 1 } } s fs { f with at_ := f.at_ + 1 } (VM.insAt a.prog f)) → Q (.tup []) H' n') :
    za Tryd.prog 58 [.ptr gr 0] H n Q := by
  refine zmx _ H n _ ?_
  unfold zie
  have flen := l.flen
  refine zwx st (by omega) ?_
  have ok := l.ok f (by simp)
  have nw := l.now
  generalize VM.insAt a.prog f = i at *
  obtain ⟨iop, ia, ib⟩ := i
  have hins := nw.at_
  obtain ⟨o1, o2, o3, o4⟩ := VM.numbers_ok nw.num
  have pops := nw.pops
  have most := nw.most
  obtain ⟨cs, c1, c2, c3, c4, c5, c6, c7⟩ := st.last
  have ap := st.apart
  have hr := st.run
  have hcode := zug ok.code
  have fn0 : gf ≠ n := by have := ap.f; omega
  have rn0 : gr ≠ n := by have := ap.r; omega
  have rf := ap.rf
  have hca : (VM.codeAt a.prog f.fn).avs = [.int .i64 (VM.codeAt a.prog f.fn).params, .int .i64 (VM.codeAt a.prog f.fn).vars, .ro ((VM.codeAt a.prog f.fn).ins.map Ins.avs)] := rfl
  have hfn1 : f.fn < (a.prog.codes.length : Int) := by have := ok.code; have := ok.fn0; omega
  have hat1 : f.at_ < ((VM.codeAt a.prog f.fn).ins.length : Int) := by have := ok.ins; have := ok.at0; omega
  obtain ⟨crange, _, _⟩ := (zu l.prog).1 _ (VM.code_mem ok.code)
  unfold VM.codeRange at crange
  rw [decide_eq_false_iff_not] at crange
  have hb := l.fuel
  have hat0 := ok.at0
  have hfn0 := ok.fn0
  have hw1 : IntKind.i64.wrap (f.at_ + 1) = f.at_ + 1 := i64w (by omega)
  have hw2 : IntKind.i64.wrap (a.permit.fuel - 1) = a.permit.fuel - 1 := i64w (by omega)
  have b2 := l.room
  have b3 := l.hops
  have b4 := l.hlen
  have oc : zmj a.heap := l.cells
  have slen : f.stack.length ≤ 17 := by
    have e := most
    unfold VM.after at e
    have e2 := zhf ⟨iop, ia, ib⟩ (fun h17 => by
      have := (zu l.prog).1 _ (VM.code_mem ok.code)
      exact this.2.1 _ (List.mem_of_getElem? hins) h17)
    have := nw.next
    have hst := l.still
    unfold VM.Still VM.hts at hst
    have hm := (zcc ((zu l.prog).1 _ (VM.code_mem ok.code)).2.1 ((zu l.prog).1 _ (VM.code_mem ok.code)).2.2).2 _ (List.mem_of_getElem? hst)
    omega
  have m1 : 1 ≤ f.stack.length → VM.WrongOk (VM.top1 f.stack) a.heap.length := fun h => ok.sv _ (VM.top1_mem h)
  have m2 : 2 ≤ f.stack.length → VM.WrongOk (VM.top2 f.stack) a.heap.length := fun h => ok.sv _ (VM.top2_mem h)
  have ll : ∀ k, (VM.low k f.stack).length = f.stack.length - k := fun k => VM.low_len k f.stack
  simp only at o1 o2 o3 o4 pops
  have st0 := ((st.temp (some (.row 3 [AV.int .i64 iop, .int .i64 ia, .int .i64 ib]))).setat (f.at_ + 1) (by rw [Heap.put_ne _ _ fn0]; exact c1) c2 c3).setrun { a.permit with fuel := a.permit.fuel - 1 } VM.ev0
  simp only [zc] at st0
  have hop : iop = 1 ∨ iop = 2 ∨ iop = 3 ∨ iop = 4 ∨ iop = 5 ∨ iop = 6 ∨ iop = 7 ∨ iop = 8 ∨ iop = 9 ∨ iop = 10 ∨ iop = 11 ∨ iop = 12 ∨ iop = 13 ∨ iop = 14 ∨ iop = 15 ∨ iop = 16 ∨ iop = 17 ∨ iop = 18 ∨ iop = 19 := by omega
  have go : ∀ {H' : Heap} {n' : Nat} {r : Agt × Evt}, r = VM.opDo { a with permit := { a.permit with fuel := a.permit.fuel - 1 } } s fs { f with at_ := f.at_ + 1 } ⟨iop, ia, ib⟩ → n ≤ n' → zzu H0 H' lo n' gr gs s r → Q (.tup []) H' n' := fun e hn h => hq _ _ hn (e ▸ h)
  clear hq
  rcases hop with rfl | rfl | rfl | rfl | rfl | rfl | rfl | rfl | rfl | rfl | rfl | rfl | rfl | rfl | rfl | rfl | rfl | rfl | rfl
  · -- 1
    simp [zh, hr, zc, c1, c4, c5, hcode, hca, hins, Ins.avs, fn0, rn0, rf, fn0.symm, rn0.symm, rf.symm, hw1, hw2]
    refine ⟨hfn0, hfn1, hat0, hat1, by omega, ?_⟩
    generalize hX : Heap.put (Heap.put (Heap.put H n _) gf _) gr _ = X at *
    have xn : X n = some (.row 3 [AV.int .i64 1, .int .i64 ia, .int .i64 ib]) := by rw [← hX, Heap.put_ne _ _ rn0.symm, Heap.put_ne _ _ fn0.symm, Heap.put_at]
    exact zcw ⟨0, ia, []⟩ st0 (by omega) (by simp only; omega) fun H' n' sa' hn st5 => go rfl (by omega) (.inl ⟨rfl, gf, fs, ss, _, va, sa', ha, rfl, st5⟩)
  · -- 2
    simp [zh, hr, zc, c1, c4, c5, hcode, hca, hins, Ins.avs, fn0, rn0, rf, fn0.symm, rn0.symm, rf.symm, hw1, hw2]
    refine ⟨hfn0, hfn1, hat0, hat1, by omega, ?_⟩
    generalize hX : Heap.put (Heap.put (Heap.put H n _) gf _) gr _ = X at *
    have xn : X n = some (.row 3 [AV.int .i64 2, .int .i64 ia, .int .i64 ib]) := by rw [← hX, Heap.put_ne _ _ rn0.symm, Heap.put_ne _ _ fn0.symm, Heap.put_at]
    have hn : 0 ≤ ia ∧ ia < a.prog.words.length := by unfold VM.numOk VM.isIn at o3; simpa using o3
    have hlt : ia.toNat < a.prog.words.length := by omega
    have hget : a.prog.words[ia.toNat]? = some (a.prog.words.getD ia.toNat []) := by rw [List.getD_eq_getElem?_getD, List.getElem?_eq_getElem hlt]; rfl
    have hwl := zvy l.prog _ (List.mem_of_getElem? hget)
    rw [hget]
    refine ⟨hn.1, hn.2, ?_⟩
    simp
    refine zt.of_qc (zua (a.prog.words.getD ia.toNat []) (by simp only [maxLen]; omega)) (zle _) ?_
    simp [zih]
    refine st0.pushD _ (by omega) (by simp only; omega) fun H' sa' rd D hD st5 => ?_
    simp [zii, ← hD]
    exact go rfl (by omega) (.inl ⟨rfl, gf, fs, ss, _, va, sa', ha, rfl, st5⟩)
  · -- 3
    simp [zh, hr, zc, c1, c4, c5, hcode, hca, hins, Ins.avs, fn0, rn0, rf, fn0.symm, rn0.symm, rf.symm, hw1, hw2]
    refine ⟨hfn0, hfn1, hat0, hat1, by omega, ?_⟩
    generalize hX : Heap.put (Heap.put (Heap.put H n _) gf _) gr _ = X at *
    have xn : X n = some (.row 3 [AV.int .i64 3, .int .i64 ia, .int .i64 ib]) := by rw [← hX, Heap.put_ne _ _ rn0.symm, Heap.put_ne _ _ fn0.symm, Heap.put_at]
    have hn : 0 ≤ ia ∧ ia < (VM.codeAt a.prog f.fn).vars := by unfold VM.numOk VM.isIn at o3; simpa using o3
    have okv := ok.vars
    have hlt : ia.toNat < f.vars.length := by omega
    have hget : f.vars[ia.toNat]? = some (f.vars.getD ia.toNat VM.vzero) := by rw [List.getD_eq_getElem?_getD, List.getElem?_eq_getElem hlt]; rfl
    obtain ⟨cs1, x1, _, _, _, _, x6, _⟩ := st0.last
    have xgf : X gf = some (.row 4 (cs.take (fs.length * 4 + 1) ++ AV.int .i64 (f.at_ + 1) :: cs.drop (fs.length * 4 + 1 + 1))) := by rw [← hX, Heap.put_ne _ _ rf.symm, Heap.put_at]
    rw [xgf] at x1
    cases x1
    rw [x6]
    simp
    rcases st0.sv with ⟨h0, _⟩ | ⟨g, gcs, rfl, g1, g2, g3⟩
    · simp only at h0; omega
    · have hv := zzc hget
      rw [← g2, List.drop_take, List.take_take, Nat.min_eq_left (by simp only; omega)] at hv
      simp [g1, hv]
      simp only at g3
      refine ⟨hn.1, by omega, by omega, ?_⟩
      refine st0.pushD _ (by omega) (by simp only; omega) fun H' sa' rd D hD st5 => ?_
      simp [zig, ← hD]
      exact go rfl (by omega) (.inl ⟨rfl, gf, fs, ss, _, _, sa', ha, rfl, st5⟩)
  · -- 4
    simp [zh, hr, zc, c1, c4, c5, hcode, hca, hins, Ins.avs, fn0, rn0, rf, fn0.symm, rn0.symm, rf.symm, hw1, hw2]
    refine ⟨hfn0, hfn1, hat0, hat1, by omega, ?_⟩
    generalize hX : Heap.put (Heap.put (Heap.put H n _) gf _) gr _ = X at *
    have xn : X n = some (.row 3 [AV.int .i64 4, .int .i64 ia, .int .i64 ib]) := by rw [← hX, Heap.put_ne _ _ rn0.symm, Heap.put_ne _ _ fn0.symm, Heap.put_at]
    have hp : 1 ≤ f.stack.length := by simp [VM.effect] at pops; omega
    have e1 := zel hp
    have hn : 0 ≤ ia ∧ ia < (VM.codeAt a.prog f.fn).vars := by unfold VM.numOk VM.isIn at o3; simpa using o3
    have okv := ok.vars
    have hlt : ia.toNat < f.vars.length := by omega
    obtain ⟨cs0, x1, _, _, _, _, x6, _⟩ := st0.last
    have xgf : X gf = some (.row 4 (cs.take (fs.length * 4 + 1) ++ AV.int .i64 (f.at_ + 1) :: cs.drop (fs.length * 4 + 1 + 1))) := by rw [← hX, Heap.put_ne _ _ rf.symm, Heap.put_at]
    rw [xgf] at x1
    cases x1
    rw [x6]
    simp
    obtain ⟨g, cs1, gcs, hsa, hpop, hg, hr5⟩ := st0.popAt (st' := VM.low 1 f.stack) (v := VM.top1 f.stack) (by omega) e1 (by rw [ll]; omega)
    have c1x := hpop.fr
    rw [xgf] at c1x
    cases c1x
    refine zt.pop hpop ?_
    have st5 := hr5 (X.put gf (some (AObj.row 4 (zfs (cs.take (fs.length * 4 + 1) ++ AV.int .i64 (f.at_ + 1) :: cs.drop (fs.length * 4 + 1 + 1)) fs.length g (VM.low 1 f.stack).length)))) (n + 1) (Nat.le_refl _) (Heap.put_at _ _ _) (fun x _ hx => Heap.put_ne _ _ hx)
    obtain ⟨cs5, y1, _, _, _, _, y6, _⟩ := st5.last
    rw [Heap.put_at] at y1
    cases y1
    rcases st5.sv with ⟨h0, _⟩ | ⟨gv, vcs, rfl, g1, g2, g3⟩
    · simp only at h0; omega
    · simp only at g2 g3
      have vf : gv ≠ gf := fun e => (st5.apart.v gv (by simp [own])).2.2.2.1 e
      rw [Heap.put_ne _ _ vf] at g1
      obtain ⟨d1, d2⟩ := zais (v := VM.top1 f.stack) g2 g3 hlt
      simp [zif, g1, vf, fn0, y6]
      refine ⟨hn.1, by omega, by omega, zaa _, ?_⟩
      have st6 := st5.setva (vs := f.vars.set ia.toNat (VM.top1 f.stack)) (g := gv) (c := some (.row 3 (vcs.take (ia.toNat * 3) ++ ((VM.top1 f.stack).avs ++ vcs.drop (ia.toNat * 3 + 3))))) (by simp [own]) (.inr ⟨gv, _, by simp, Heap.put_at _ _ _, d1, d2⟩)
      exact go (by rw [VM.opDo_4]) (by omega) (.inl ⟨rfl, gf, fs, ss, _, _, _, ha, rfl, st6⟩)
  · -- 5
    simp [zh, hr, zc, c1, c4, c5, hcode, hca, hins, Ins.avs, fn0, rn0, rf, fn0.symm, rn0.symm, rf.symm, hw1, hw2]
    refine ⟨hfn0, hfn1, hat0, hat1, by omega, ?_⟩
    generalize hX : Heap.put (Heap.put (Heap.put H n _) gf _) gr _ = X at *
    have xn : X n = some (.row 3 [AV.int .i64 5, .int .i64 ia, .int .i64 ib]) := by rw [← hX, Heap.put_ne _ _ rn0.symm, Heap.put_ne _ _ fn0.symm, Heap.put_at]
    have hp : 2 ≤ f.stack.length := by simp [VM.effect] at pops; omega
    have e2 := zst hp
    refine zaiu ia st0 (by omega) e2 (by rw [ll]; omega) (m1 (by omega)) (m2 hp) (fun hne H' n' sa' hn st5 => ?_) (fun he H' n' sa' hn st5 => ?_)
    · refine go (by rw [VM.opDo_5, if_neg hne]) (by omega) (.inr ⟨by simp [VM.dead], ?_⟩)
      exact st5.fin
    · exact go (by rw [VM.opDo_5, if_pos he]) (by omega) (.inl ⟨rfl, gf, fs, ss, _, va, sa', ha, rfl, st5⟩)
  · -- 6
    simp [zh, hr, zc, c1, c4, c5, hcode, hca, hins, Ins.avs, fn0, rn0, rf, fn0.symm, rn0.symm, rf.symm, hw1, hw2]
    refine ⟨hfn0, hfn1, hat0, hat1, by omega, ?_⟩
    generalize hX : Heap.put (Heap.put (Heap.put H n _) gf _) gr _ = X at *
    have xn : X n = some (.row 3 [AV.int .i64 6, .int .i64 ia, .int .i64 ib]) := by rw [← hX, Heap.put_ne _ _ rn0.symm, Heap.put_ne _ _ fn0.symm, Heap.put_at]
    have hp : 2 ≤ f.stack.length := by simp [VM.effect] at pops; omega
    have e2 := zst hp
    refine zaif st0 (by omega) e2 (by rw [ll]; omega) (by simp only; omega) (by omega) (fun hz H' n' sa' hn st5 => ?_) (fun hz H' n' sa' ha' hn st5 => ?_)
    · refine go (by rw [VM.opDo_6, if_pos (show a.permit.room = 0 from hz)]) (by omega) (.inr ⟨by simp [VM.dead], ?_⟩)
      exact st5.fin
    · exact go (by rw [VM.opDo_6, if_neg (show ¬ a.permit.room = 0 from hz)]) (by omega) (.inl ⟨rfl, gf, fs, ss, _, va, sa', ha', rfl, st5⟩)
  · -- 7
    simp [zh, hr, zc, c1, c4, c5, hcode, hca, hins, Ins.avs, fn0, rn0, rf, fn0.symm, rn0.symm, rf.symm, hw1, hw2]
    refine ⟨hfn0, hfn1, hat0, hat1, by omega, ?_⟩
    generalize hX : Heap.put (Heap.put (Heap.put H n _) gf _) gr _ = X at *
    have xn : X n = some (.row 3 [AV.int .i64 7, .int .i64 ia, .int .i64 ib]) := by rw [← hX, Heap.put_ne _ _ rn0.symm, Heap.put_ne _ _ fn0.symm, Heap.put_at]
    have hp : 1 ≤ f.stack.length := by simp [VM.effect] at pops; omega
    have e1 := zel hp
    refine zuh st0 (by omega) e1 (by rw [ll]; omega) (m1 hp) (fun hk H' n' sa' hn st5 => ?_) (fun hk H' n' sa' g cs' hn _ st5 hha g1 g2 g3 => ?_)
    · simp [zed]
      refine go (by rw [VM.opDo_7, if_pos hk]) (by omega) (.inr ⟨by simp [VM.dead], ?_⟩)
      exact st5.fin
    · obtain ⟨w1, w2⟩ := (m1 hp).cell hk
      have hlt : (VM.top1 f.stack).n.toNat < a.heap.length := by omega
      have hcl := zzd (List.getElem?_eq_getElem hlt)
      rw [← g2, List.drop_take, List.take_take, Nat.min_eq_left (by omega)] at hcl
      have tl : ∀ c : Cl, c.avs.take 3 = c.left.avs := fun _ => rfl
      have tr : ∀ c : Cl, (c.avs.drop 3).take 3 = c.right.avs := fun _ => rfl
      have hcell : (cs'.drop ((VM.top1 f.stack).n.toNat * 6)).take 3 = (a.heap.getD (VM.top1 f.stack).n.toNat VM.cl0).left.avs := by
        rw [List.getD_eq_getElem?_getD, List.getElem?_eq_getElem hlt]
        have := congrArg (fun l => (l.drop 0).take 3) hcl
        simp only [List.drop_take, List.drop_drop, List.take_take] at this
        simpa [tl, tr] using this
      simp [zed, g1, hcell]
      refine ⟨by omega, ?_⟩
      exact zcw _ st5 (by omega) (by simp only; rw [ll]; omega) fun H'' n'' sa'' hn' st6 => go (by rw [VM.opDo_7, if_neg (by simpa using hk)]) (by omega) (.inl ⟨rfl, gf, fs, ss, _, va, sa'', ha, rfl, st6⟩)
  · -- 8
    simp [zh, hr, zc, c1, c4, c5, hcode, hca, hins, Ins.avs, fn0, rn0, rf, fn0.symm, rn0.symm, rf.symm, hw1, hw2]
    refine ⟨hfn0, hfn1, hat0, hat1, by omega, ?_⟩
    generalize hX : Heap.put (Heap.put (Heap.put H n _) gf _) gr _ = X at *
    have xn : X n = some (.row 3 [AV.int .i64 8, .int .i64 ia, .int .i64 ib]) := by rw [← hX, Heap.put_ne _ _ rn0.symm, Heap.put_ne _ _ fn0.symm, Heap.put_at]
    have hp : 1 ≤ f.stack.length := by simp [VM.effect] at pops; omega
    have e1 := zel hp
    refine zuh st0 (by omega) e1 (by rw [ll]; omega) (m1 hp) (fun hk H' n' sa' hn st5 => ?_) (fun hk H' n' sa' g cs' hn _ st5 hha g1 g2 g3 => ?_)
    · simp [zdg]
      refine go (by rw [VM.opDo_8, if_pos hk]) (by omega) (.inr ⟨by simp [VM.dead], ?_⟩)
      exact st5.fin
    · obtain ⟨w1, w2⟩ := (m1 hp).cell hk
      have hlt : (VM.top1 f.stack).n.toNat < a.heap.length := by omega
      have hcl := zzd (List.getElem?_eq_getElem hlt)
      rw [← g2, List.drop_take, List.take_take, Nat.min_eq_left (by omega)] at hcl
      have tl : ∀ c : Cl, c.avs.take 3 = c.left.avs := fun _ => rfl
      have tr : ∀ c : Cl, (c.avs.drop 3).take 3 = c.right.avs := fun _ => rfl
      have hcell : (cs'.drop ((VM.top1 f.stack).n.toNat * 6 + 3)).take 3 = (a.heap.getD (VM.top1 f.stack).n.toNat VM.cl0).right.avs := by
        rw [List.getD_eq_getElem?_getD, List.getElem?_eq_getElem hlt]
        have := congrArg (fun l => (l.drop 3).take 3) hcl
        simp only [List.drop_take, List.drop_drop, List.take_take] at this
        simpa [tl, tr] using this
      simp [zdg, g1, hcell]
      refine ⟨by omega, ?_⟩
      exact zcw _ st5 (by omega) (by simp only; rw [ll]; omega) fun H'' n'' sa'' hn' st6 => go (by rw [VM.opDo_8, if_neg (by simpa using hk)]) (by omega) (.inl ⟨rfl, gf, fs, ss, _, va, sa'', ha, rfl, st6⟩)
  · -- 9
    simp [zh, hr, zc, c1, c4, c5, hcode, hca, hins, Ins.avs, fn0, rn0, rf, fn0.symm, rn0.symm, rf.symm, hw1, hw2]
    refine ⟨hfn0, hfn1, hat0, hat1, by omega, ?_⟩
    generalize hX : Heap.put (Heap.put (Heap.put H n _) gf _) gr _ = X at *
    have xn : X n = some (.row 3 [AV.int .i64 9, .int .i64 ia, .int .i64 ib]) := by rw [← hX, Heap.put_ne _ _ rn0.symm, Heap.put_ne _ _ fn0.symm, Heap.put_at]
    have hp : 2 ≤ f.stack.length := by simp [VM.effect] at pops; omega
    have e2 := zst hp
    refine zacw st0 (by omega) e2 (by rw [ll]; omega) (m2 hp) true (fun hk H' n' sa' hn st5 => ?_) (fun hk H' n' sa' hn st5 => ?_)
    · refine go (by rw [VM.opDo_9, if_pos hk]) (by omega) (.inr ⟨by simp [VM.dead], ?_⟩)
      exact st5.fin
    · exact go (by rw [VM.opDo_9, if_neg (by simpa using hk)]) (by omega) (.inl ⟨rfl, gf, fs, ss, _, va, sa', ha, rfl, st5⟩)
  · -- 10
    simp [zh, hr, zc, c1, c4, c5, hcode, hca, hins, Ins.avs, fn0, rn0, rf, fn0.symm, rn0.symm, rf.symm, hw1, hw2]
    refine ⟨hfn0, hfn1, hat0, hat1, by omega, ?_⟩
    generalize hX : Heap.put (Heap.put (Heap.put H n _) gf _) gr _ = X at *
    have xn : X n = some (.row 3 [AV.int .i64 10, .int .i64 ia, .int .i64 ib]) := by rw [← hX, Heap.put_ne _ _ rn0.symm, Heap.put_ne _ _ fn0.symm, Heap.put_at]
    have hp : 2 ≤ f.stack.length := by simp [VM.effect] at pops; omega
    have e2 := zst hp
    refine zacw st0 (by omega) e2 (by rw [ll]; omega) (m2 hp) false (fun hk H' n' sa' hn st5 => ?_) (fun hk H' n' sa' hn st5 => ?_)
    · refine go (by rw [VM.opDo_10, if_pos hk]) (by omega) (.inr ⟨by simp [VM.dead], ?_⟩)
      exact st5.fin
    · exact go (by rw [VM.opDo_10, if_neg (by simpa using hk)]) (by omega) (.inl ⟨rfl, gf, fs, ss, _, va, sa', ha, rfl, st5⟩)
  · -- 11
    simp [zh, hr, zc, c1, c4, c5, hcode, hca, hins, Ins.avs, fn0, rn0, rf, fn0.symm, rn0.symm, rf.symm, hw1, hw2]
    refine ⟨hfn0, hfn1, hat0, hat1, by omega, ?_⟩
    generalize hX : Heap.put (Heap.put (Heap.put H n _) gf _) gr _ = X at *
    have xn : X n = some (.row 3 [AV.int .i64 11, .int .i64 ia, .int .i64 ib]) := by rw [← hX, Heap.put_ne _ _ rn0.symm, Heap.put_ne _ _ fn0.symm, Heap.put_at]
    have hp : 1 ≤ f.stack.length := by simp [VM.effect] at pops; omega
    have e1 := zel hp
    refine zajm st0 (by omega) e1 (by rw [ll]; omega) hfacts (fun hk H' n' sa' hn st5 => ?_) (fun hk H' n' sa' hn st5 => ?_)
    · refine go (by rw [VM.opDo_11, if_pos hk]) (by omega) (.inr ⟨by simp [VM.dead], ?_⟩)
      exact st5.fin
    · exact go (by rw [VM.opDo_11, if_neg (by simpa using hk)]) (by omega) (.inl ⟨rfl, gf, fs, ss, _, va, sa', ha, rfl, st5⟩)
  · -- 12
    simp [zh, hr, zc, c1, c4, c5, hcode, hca, hins, Ins.avs, fn0, rn0, rf, fn0.symm, rn0.symm, rf.symm, hw1, hw2]
    refine ⟨hfn0, hfn1, hat0, hat1, by omega, ?_⟩
    generalize hX : Heap.put (Heap.put (Heap.put H n _) gf _) gr _ = X at *
    have xn : X n = some (.row 3 [AV.int .i64 12, .int .i64 ia, .int .i64 ib]) := by rw [← hX, Heap.put_ne _ _ rn0.symm, Heap.put_ne _ _ fn0.symm, Heap.put_at]
    have sn0 : gs ≠ n := by have := ap.s; omega
    have hsp := st.spot
    rw [if_neg ap.rs.symm, if_neg ap.sf, if_neg sn0, hsp]
    simp [Spt.avs]
    refine QC.call (zua s.name hname) ?_
    simp [zgx]
    exact zcw _ st0 (by omega) (by simp only; omega) fun H' n' sa' hn st5 => go rfl (by omega) (.inl ⟨rfl, gf, fs, ss, _, va, sa', ha, rfl, st5⟩)
  · -- 13
    simp [zh, hr, zc, c1, c4, c5, hcode, hca, hins, Ins.avs, fn0, rn0, rf, fn0.symm, rn0.symm, rf.symm, hw1, hw2]
    refine ⟨hfn0, hfn1, hat0, hat1, by omega, ?_⟩
    generalize hX : Heap.put (Heap.put (Heap.put H n _) gf _) gr _ = X at *
    have xn : X n = some (.row 3 [AV.int .i64 13, .int .i64 ia, .int .i64 ib]) := by rw [← hX, Heap.put_ne _ _ rn0.symm, Heap.put_ne _ _ fn0.symm, Heap.put_at]
    have hp : 1 ≤ f.stack.length := by simp [VM.effect] at pops; omega
    have e1 := zel hp
    refine zaig st0 (by omega) e1 (by rw [ll]; omega) b3 (fun hk H' n' sa' hn st5 => ?_) (fun hk hh H' n' sa' hn st5 => ?_) (fun hk hh H' n' sa' hn st5 => ?_)
    · refine go (by rw [VM.opDo_13, if_pos hk]) (by omega) (.inr ⟨by simp [VM.dead], ?_⟩)
      exact st5.fin
    · exact go (by rw [VM.opDo_13, if_neg (by simpa using hk), if_pos (show a.permit.hops = 0 from hh)]) (by omega) (.inl ⟨rfl, gf, fs, ss, _, va, sa', ha, rfl, st5⟩)
    · refine go (by rw [VM.opDo_13, if_neg (by simpa using hk), if_neg (show ¬ a.permit.hops = 0 from hh)]) (by omega) (.inr ⟨by simp, ?_⟩)
      exact st5.fin
  · -- 14
    simp [zh, hr, zc, c1, c4, c5, hcode, hca, hins, Ins.avs, fn0, rn0, rf, fn0.symm, rn0.symm, rf.symm, hw1, hw2]
    refine ⟨hfn0, hfn1, hat0, hat1, by omega, ?_⟩
    generalize hX : Heap.put (Heap.put (Heap.put H n _) gf _) gr _ = X at *
    have xn : X n = some (.row 3 [AV.int .i64 14, .int .i64 ia, .int .i64 ib]) := by rw [← hX, Heap.put_ne _ _ rn0.symm, Heap.put_ne _ _ fn0.symm, Heap.put_at]
    have hp : 1 ≤ f.stack.length := by simp [VM.effect] at pops; omega
    have e1 := zel hp
    obtain ⟨g, cs1, gcs, hsa, hpop, hg, hr5⟩ := st0.popAt (st' := VM.low 1 f.stack) (v := VM.top1 f.stack) (by omega) e1 (by rw [ll]; omega)
    refine zt.pop hpop ?_
    have st5 := hr5 (X.put gf (some (AObj.row 4 (zfs cs1 fs.length g (VM.low 1 f.stack).length)))) (n + 1) (Nat.le_refl _) (Heap.put_at _ _ _) (fun x _ hx => Heap.put_ne _ _ hx)
    have xgr : X gr = some (.row 13 (zc a.id a.trip a.prog (.slc gf 0 (fs.length + 1)) ha { a.permit with fuel := a.permit.fuel - 1 } gs VM.ev0)) := st0.run
    simp [zgv]
    refine zt.show st5.hp oc (m1 hp) ?_
    have ap0 := st0.apart
    simp [zgw, rf, rf.symm, xgr, zc]
    refine go (by rw [VM.opDo_14]) (by omega) (.inr ⟨by simp, ?_⟩)
    exact (st5.setrun { a.permit with fuel := a.permit.fuel - 1 } ⟨2, VM.vshow a.heap 4 (VM.top1 f.stack), 0⟩).fin
  · -- 15
    simp [zh, hr, zc, c1, c4, c5, hcode, hca, hins, Ins.avs, fn0, rn0, rf, fn0.symm, rn0.symm, rf.symm, hw1, hw2]
    refine ⟨hfn0, hfn1, hat0, hat1, by omega, ?_⟩
    generalize hX : Heap.put (Heap.put (Heap.put H n _) gf _) gr _ = X at *
    have xn : X n = some (.row 3 [AV.int .i64 15, .int .i64 ia, .int .i64 ib]) := by rw [← hX, Heap.put_ne _ _ rn0.symm, Heap.put_ne _ _ fn0.symm, Heap.put_at]
    obtain ⟨cs1, x1, x2, x3, _⟩ := st0.last
    have xgf : X gf = some (.row 4 (cs.take (fs.length * 4 + 1) ++ AV.int .i64 (f.at_ + 1) :: cs.drop (fs.length * 4 + 1 + 1))) := by rw [← hX, Heap.put_ne _ _ rf.symm, Heap.put_at]
    rw [xgf] at x1
    cases x1
    have st5 := st0.setat ia xgf x2 x3
    refine ⟨by omega, ?_⟩
    exact go rfl (by omega) (.inl ⟨rfl, gf, fs, ss, _, va, sa, ha, rfl, st5⟩)
  · -- 16
    simp [zh, hr, zc, c1, c4, c5, hcode, hca, hins, Ins.avs, fn0, rn0, rf, fn0.symm, rn0.symm, rf.symm, hw1, hw2]
    refine ⟨hfn0, hfn1, hat0, hat1, by omega, ?_⟩
    generalize hX : Heap.put (Heap.put (Heap.put H n _) gf _) gr _ = X at *
    have xn : X n = some (.row 3 [AV.int .i64 16, .int .i64 ia, .int .i64 ib]) := by rw [← hX, Heap.put_ne _ _ rn0.symm, Heap.put_ne _ _ fn0.symm, Heap.put_at]
    have hp : 1 ≤ f.stack.length := by simp [VM.effect] at pops; omega
    have e1 := zel hp
    obtain ⟨g, cs1, gcs, hsa, hpop, hg, hr5⟩ := st0.popAt (st' := VM.low 1 f.stack) (v := VM.top1 f.stack) (by omega) e1 (by rw [ll]; omega)
    have ap0 := st0.apart
    refine zha hpop ap0.r ap0.f hg fun H1 n1 hn1 q1 q2 => ?_
    have st5 := hr5 H1 n1 hn1 q1 q2
    have st6 := st5.temp (some (.row 3 (VM.top1 f.stack).avs))
    have h1n : H1 n = some (.row 3 [AV.int .i64 16, .int .i64 ia, .int .i64 ib]) := by rw [q2 n (by omega) fn0.symm]; exact xn
    have nn1 : n ≠ n1 := by omega
    by_cases hz : (VM.top1 f.stack).kind = 0
    · by_cases hz2 : (VM.top1 f.stack).n = 0
      · obtain ⟨cs2, x1, x2, x3, _⟩ := st6.last
        have fnn : gf ≠ n1 := by have := st5.apart.f; omega
        have st7 := st6.setat ia x1 x2 x3
        rw [Heap.put_ne _ _ fnn] at x1
        simp [zbt, hz, hz2, h1n, nn1, x1, fnn]
        refine ⟨zaa _, by omega, ?_⟩
        have e16 : VM.opDo { a with permit := { a.permit with fuel := a.permit.fuel - 1 } } s fs { f with at_ := f.at_ + 1 } ⟨16, ia, ib⟩ = (VM.toF { a with permit := { a.permit with fuel := a.permit.fuel - 1 } } fs { f with at_ := ia, stack := VM.low 1 f.stack }, VM.ev0) := by
          rw [VM.opDo_16]; simp only; rw [if_pos ⟨hz, hz2⟩]
        exact go e16.symm (by omega) (.inl ⟨rfl, gf, fs, ss, _, va, _, ha, rfl, st7⟩)
      · simp [zbt, hz, hz2]
        refine ⟨zaa _, ?_⟩
        have e16 : VM.opDo { a with permit := { a.permit with fuel := a.permit.fuel - 1 } } s fs { f with at_ := f.at_ + 1 } ⟨16, ia, ib⟩ = (VM.toF { a with permit := { a.permit with fuel := a.permit.fuel - 1 } } fs { f with at_ := f.at_ + 1, stack := VM.low 1 f.stack }, VM.ev0) := by
          rw [VM.opDo_16]; simp only; rw [if_neg (fun hx => hz2 hx.2)]
        exact go e16.symm (by omega) (.inl ⟨rfl, gf, fs, ss, _, va, _, ha, rfl, st6⟩)
    · simp [zbt, hz]
      refine ⟨zaa _, ?_⟩
      have e16 : VM.opDo { a with permit := { a.permit with fuel := a.permit.fuel - 1 } } s fs { f with at_ := f.at_ + 1 } ⟨16, ia, ib⟩ = (VM.toF { a with permit := { a.permit with fuel := a.permit.fuel - 1 } } fs { f with at_ := f.at_ + 1, stack := VM.low 1 f.stack }, VM.ev0) := by
        rw [VM.opDo_16]; simp only; rw [if_neg (fun hx => hz hx.1)]
      exact go e16.symm (by omega) (.inl ⟨rfl, gf, fs, ss, _, va, _, ha, rfl, st6⟩)
  · -- 17
    simp [zh, hr, zc, c1, c4, c5, hcode, hca, hins, Ins.avs, fn0, rn0, rf, fn0.symm, rn0.symm, rf.symm, hw1, hw2]
    refine ⟨hfn0, hfn1, hat0, hat1, by omega, ?_⟩
    generalize hX : Heap.put (Heap.put (Heap.put H n _) gf _) gr _ = X at *
    have xn : X n = some (.row 3 [AV.int .i64 17, .int .i64 ia, .int .i64 ib]) := by rw [← hX, Heap.put_ne _ _ rn0.symm, Heap.put_ne _ _ fn0.symm, Heap.put_at]
    have hn : (0 ≤ ia ∧ ia < a.prog.codes.length) ∧ some ib = (a.prog.codes[ia.toNat]?).map (·.params) := by unfold VM.numOk VM.isIn at o3; simpa using o3
    obtain ⟨⟨n0, n1⟩, n2⟩ := hn
    have hlt : ia.toNat < a.prog.codes.length := by omega
    rw [zug hlt] at n2
    simp at n2
    obtain ⟨cr, _, _⟩ := (zu l.prog).1 _ (VM.code_mem hlt)
    unfold VM.codeRange at cr
    rw [decide_eq_false_iff_not, ← n2] at cr
    simp [VM.effect] at pops
    refine zain ⟨17, ia, ib⟩ st0 (by omega) ⟨by simp only; omega, pops⟩ (by simp only; omega) ⟨n0, hlt⟩ ⟨by simp only; omega, by simp only; omega⟩ (fun h12 H' n' hn st5 => ?_) (fun h12 H' n' gf' sa2 va' sa' hn st5 => ?_)
    · refine go (by rw [VM.opDo_17, if_pos h12]) (by omega) (.inr ⟨by simp [VM.dead], ?_⟩)
      exact st5.fin
    · exact go (by rw [VM.opDo_17, if_neg h12]) (by omega) (.inl ⟨rfl, gf', _, _, _, va', sa', ha, rfl, st5⟩)
  · -- 18
    simp [zh, hr, zc, c1, c4, c5, hcode, hca, hins, Ins.avs, fn0, rn0, rf, fn0.symm, rn0.symm, rf.symm, hw1, hw2]
    refine ⟨hfn0, hfn1, hat0, hat1, by omega, ?_⟩
    generalize hX : Heap.put (Heap.put (Heap.put H n _) gf _) gr _ = X at *
    have xn : X n = some (.row 3 [AV.int .i64 18, .int .i64 ia, .int .i64 ib]) := by rw [← hX, Heap.put_ne _ _ rn0.symm, Heap.put_ne _ _ fn0.symm, Heap.put_at]
    have hp : 1 ≤ f.stack.length := by simp [VM.effect] at pops; omega
    have e1 := zel hp
    refine zaio st0 (by omega) e1 (by rw [ll]; omega) oc (m1 hp) (fun g hg => ?_) (fun hz H' n' hn hfin => ?_) (fun gs' g' hfs H' n' ts va' sa' hn st5 => ?_)
    · exact Nat.le_trans (zup l g hg) (by omega)
    · subst hz
      exact go (by rw [VM.opDo_18]) (by omega) (.inr ⟨by simp, hfin⟩)
    · subst hfs
      exact go (by rw [VM.opDo_18, List.getLast?_concat]) (by omega) (.inl ⟨rfl, gf, gs', ts, { g' with stack := g'.stack ++ [VM.top1 f.stack] }, va', sa', ha, by simp [VM.push, VM.toF], st5⟩)
  · -- 19
    simp [zh, hr, zc, c1, c4, c5, hcode, hca, hins, Ins.avs, fn0, rn0, rf, fn0.symm, rn0.symm, rf.symm, hw1, hw2]
    refine ⟨hfn0, hfn1, hat0, hat1, by omega, ?_⟩
    generalize hX : Heap.put (Heap.put (Heap.put H n _) gf _) gr _ = X at *
    have xn : X n = some (.row 3 [AV.int .i64 19, .int .i64 ia, .int .i64 ib]) := by rw [← hX, Heap.put_ne _ _ rn0.symm, Heap.put_ne _ _ fn0.symm, Heap.put_at]
    have hp : 1 ≤ f.stack.length := by simp [VM.effect] at pops; omega
    have e1 := zel hp
    exact zkb st0 (by omega) e1 (by rw [ll]; omega) fun H' n' sa' hn st5 => go rfl (by omega) (.inl ⟨rfl, gf, fs, ss, _, va, sa', ha, rfl, st5⟩)
end
end Go.Proofs.YtobioljjoipimaaDoor
set_option maxRecDepth 8000
namespace Go.Proofs.YtobioljjoipimaaDoor
open Go Go.RowKit
theorem zta (l : List Ins) : ∀ x ∈ l.map Ins.avs, x.length = 3 := by intro x hx; obtain ⟨v, _, rfl⟩ := List.mem_map.1 hx; rfl
theorem zsr (l : List Str) : ∀ x ∈ l.map (fun w => [AV.str w]), x.length = 1 := by intro x hx; obtain ⟨v, _, rfl⟩ := List.mem_map.1 hx; rfl
theorem zvc (l : List Ins) : ∀ x ∈ l.map Ins.avs, ∀ c ∈ x, scal c = true := by
  intro x hx c hc
  obtain ⟨v, _, rfl⟩ := List.mem_map.1 hx
  simp [Ins.avs] at hc
  rcases hc with rfl | rfl | rfl <;> rfl
theorem zvb (l : List Str) : ∀ x ∈ l.map (fun w => [AV.str w]), ∀ c ∈ x, scal c = true := by
  intro x hx c hc
  obtain ⟨v, _, rfl⟩ := List.mem_map.1 hx
  simp at hc
  subst hc; rfl
theorem zxf {xs : List (List AV)} (h : ∀ x ∈ xs, ∀ c ∈ x, scal c = true) : xs.flatten.all AV.one = true := List.all_eq_true.2 fun c hc => by
  obtain ⟨x, hx, hcx⟩ := List.mem_flatten.1 hc
  exact zfc (h x hx c hcx)
def zbe (H : Heap) (R : Nat → Prop) (sz : Nat) (xs : List (List AV)) (a : AV) : Prop := (xs = [] ∧ a = .nils) ∨ ∃ g, R g ∧ a = .slc g 0 xs.length ∧ H g = some (.row sz xs.flatten)
theorem zbe.more {H H' : Heap} {R R' : Nat → Prop} {sz : Nat} {xs : List (List AV)} {a : AV} (h : zbe H R sz xs a) (hR : ∀ g, R g → R' g ∧ H' g = H g) : zbe H' R' sz xs a := by
  rcases h with h | ⟨g, h1, h3, h4⟩
  · exact .inl h
  · exact .inr ⟨g, (hR g h1).1, h3, by rw [(hR g h1).2]; exact h4⟩
theorem zbe.one {H : Heap} {R : Nat → Prop} {sz : Nat} {xs : List (List AV)} {a : AV} (h : zbe H R sz xs a) : a.cells = [a] ∧ a.one = true ∧ a.sure = true := by
  rcases h with ⟨_, rfl⟩ | ⟨g, _, rfl, _⟩ <;> exact ⟨rfl, rfl, rfl⟩
theorem Slot.one {H : Heap} {sz k : Nat} {cells : List AV} {a : AV} (h : Slot H sz k cells a) : a.cells = [a] ∧ a.one = true ∧ a.sure = true := by
  rcases h with ⟨_, rfl | rfl⟩ | ⟨g, cs, rfl, _⟩ <;> exact ⟨rfl, rfl, rfl⟩
theorem zbe.frz {H : Heap} {R : Nat → Prop} {sz : Nat} {xs : List (List AV)} {a : AV} {G : Nat → Prop} (h : zbe H R sz xs a) (hG : ∀ g, R g → G g) (hs : ∀ x ∈ xs, x.length = sz) : FrzP H G a (.ro xs) := by
  rcases h with ⟨rfl, rfl⟩ | ⟨g, h1, rfl, h4⟩
  · exact .nils
  · refine FrzP.row (hG g h1) h4 rfl hs (fun i x j v hx hv => ?_) (by rw [zdm hs]; exact Nat.le_refl _)
    have hj : j < sz := by
      have := (List.getElem?_eq_some_iff.1 hv).1
      rw [hs x (List.mem_of_getElem? hx)] at this; exact this
    have e1 := zgk hs hx
    have := congrArg (·[j]?) e1
    simp only [List.getElem?_take, List.getElem?_drop, hj, if_true] at this
    exact ⟨v, by rw [this]; exact hv, .same v⟩
theorem zbe.slot {H : Heap} {R : Nat → Prop} {sz : Nat} {xs : List (List AV)} {a : AV} (h : zbe H R sz xs a) (hs : ∀ x ∈ xs, x.length = sz) : Slot H sz xs.length xs.flatten a ∧ ∀ g ∈ own a, R g := by
  rcases h with ⟨rfl, rfl⟩ | ⟨g, h1, rfl, h4⟩
  · exact ⟨.inl ⟨rfl, .inl rfl⟩, fun g hg => by simp [own] at hg⟩
  · exact ⟨.inr ⟨g, _, rfl, h4, List.take_of_length_le (by rw [zdm hs]; exact Nat.le_refl _), by rw [zdm hs]; exact Nat.le_refl _⟩, fun x hx => by simp [own] at hx; subst hx; exact h1⟩
theorem zadz {l : List Ins} (hl : l.length * 24 ≤ 140737488355328) {a : AV} {H : Heap} {nx : Nat} (ha : zah H nx 3 (l.map Ins.avs) a) : za Tryd.prog 78 [a] H nx fun v H' nx' => nx ≤ nx' ∧ Keep nx H' H ∧ zbe H' (fun g => nx ≤ g ∧ g < nx') 3 (l.map Ins.avs) v := by
  refine zjy _ H nx _ ?_
  unfold zfe
  refine ziz (Q := fun v H' nx' => nx ≤ nx' ∧ Keep nx H' H ∧ zbe H' (fun g => nx ≤ g ∧ g < nx') 3 (l.map Ins.avs) v) ha (zta l) (zxf (zvc l)) (by simpa using hl) (fun h => ⟨Nat.le_refl _, by simp, .inl ⟨h, rfl⟩⟩) fun H' h1 h2 => ⟨by omega, h2, .inr ⟨nx + 1, ⟨by omega, by omega⟩, rfl, h1⟩⟩
theorem zady {l : List Str} (hl : l.length * 16 ≤ 140737488355328) {a : AV} {H : Heap} {nx : Nat} (ha : zah H nx 1 (l.map fun w => [AV.str w]) a) : za Tryd.prog 79 [a] H nx fun v H' nx' => nx ≤ nx' ∧ Keep nx H' H ∧ zbe H' (fun g => nx ≤ g ∧ g < nx') 1 (l.map fun w => [AV.str w]) v := by
  refine zfi _ H nx _ ?_
  unfold zch
  refine ziz (Q := fun v H' nx' => nx ≤ nx' ∧ Keep nx H' H ∧ zbe H' (fun g => nx ≤ g ∧ g < nx') 1 (l.map fun w => [AV.str w]) v) ha (zsr l) (zxf (zvb l)) (by simpa using hl) (fun h => ⟨Nat.le_refl _, by simp, .inl ⟨h, rfl⟩⟩) fun H' h1 h2 => ⟨by omega, h2, .inr ⟨nx + 1, ⟨by omega, by omega⟩, rfl, h1⟩⟩
theorem zaea {l : List Cl} (hl : l.length * 64 ≤ 140737488355328) {a : AV} {H : Heap} {nx : Nat} (ha : zah H nx 6 (l.map Cl.avs) a) : za Tryd.prog 81 [a] H nx fun v H' nx' => nx ≤ nx' ∧ Keep nx H' H ∧ zbe H' (fun g => nx ≤ g ∧ g < nx') 6 (l.map Cl.avs) v := by
  refine zkn _ H nx _ ?_
  unfold zfq
  refine ziz (Q := fun v H' nx' => nx ≤ nx' ∧ Keep nx H' H ∧ zbe H' (fun g => nx ≤ g ∧ g < nx') 6 (l.map Cl.avs) v) ha (zct l) (zafq l) (by simpa using hl) (fun h => ⟨Nat.le_refl _, by simp, .inl ⟨h, rfl⟩⟩) fun H' h1 h2 => ⟨by omega, h2, .inr ⟨nx + 1, ⟨by omega, by omega⟩, rfl, h1⟩⟩
def zcy (H : Heap) (R : Nat → Prop) (cs : List Cod) (cells : List AV) : Prop := cells.length = cs.length * 3 ∧ ∀ (k : Nat) (c : Cod), cs[k]? = some c → cells[k * 3]? = some (.int .i64 c.params) ∧ cells[k * 3 + 1]? = some (.int .i64 c.vars) ∧ ∃ a, cells[k * 3 + 2]? = some a ∧ zbe H R 3 (c.ins.map Ins.avs) a
theorem zcy.more {H H' : Heap} {R R' : Nat → Prop} {cs : List Cod} {cells : List AV} (h : zcy H R cs cells) (hR : ∀ g, R g → R' g ∧ H' g = H g) : zcy H' R' cs cells :=
  ⟨h.1, fun k c hc => let ⟨a, b, x, h1, h2⟩ := h.2 k c hc; ⟨a, b, x, h1, h2.more hR⟩⟩
theorem zcy.snoc {H : Heap} {R : Nat → Prop} {cs : List Cod} {cells : List AV} {c : Cod} {a : AV} (h : zcy H R cs cells) (ha : zbe H R 3 (c.ins.map Ins.avs) a) : zcy H R (cs ++ [c]) (cells ++ [.int .i64 c.params, .int .i64 c.vars, a]) := by
  refine ⟨by simp [h.1]; omega, fun k c' hc => ?_⟩
  by_cases hk : k < cs.length
  · rw [List.getElem?_append_left hk] at hc
    obtain ⟨q1, q2, x, q3, q4⟩ := h.2 k c' hc
    have hl := h.1
    refine ⟨by rw [List.getElem?_append_left (by omega)]; exact q1, by rw [List.getElem?_append_left (by omega)]; exact q2, x, by rw [List.getElem?_append_left (by omega)]; exact q3, q4⟩
  · have hk' : k = cs.length := by have := (List.getElem?_eq_some_iff.1 hc).1; simp at this; omega
    subst hk'
    rw [List.getElem?_append_right (Nat.le_refl _)] at hc
    simp at hc
    subst hc
    have hl := h.1
    refine ⟨?_, ?_, a, ?_, ha⟩
    · rw [List.getElem?_append_right (by omega), hl]; simp
    · rw [List.getElem?_append_right (by omega), hl, show cs.length * 3 + 1 - cs.length * 3 = 1 by omega]; rfl
    · rw [List.getElem?_append_right (by omega), hl, show cs.length * 3 + 2 - cs.length * 3 = 2 by omega]; rfl
theorem zcy.frz {H : Heap} {R : Nat → Prop} {cs : List Cod} {cells : List AV} {a : AV} {G : Nat → Prop} (h : zcy H R cs cells) (hG : ∀ g, R g → G g) (ha : Slot H 3 cs.length cells a) (hA : ∀ g ∈ own a, G g) : FrzP H G a (.ro (cs.map Cod.avs)) := by
  rcases ha with ⟨h0, rfl | rfl⟩ | ⟨g, cs', rfl, h1, h2, h3⟩
  · rw [List.eq_nil_of_length_eq_zero h0]; exact .nils
  · rw [List.eq_nil_of_length_eq_zero h0]; exact .zs
  · refine FrzP.row (hA g (by simp [own])) h1 (by simp) (fun x hx => ?_) (fun i x j v hx hv => ?_) h3
    · obtain ⟨c, _, rfl⟩ := List.mem_map.1 hx; rfl
    · rw [List.getElem?_map] at hx
      obtain ⟨c, hc, rfl⟩ := Option.map_eq_some_iff.1 hx
      obtain ⟨q1, q2, y, q3, q4⟩ := h.2 i c hc
      have hi := (List.getElem?_eq_some_iff.1 hc).1
      have up : ∀ (j : Nat) (u : AV), j < 3 → cells[i * 3 + j]? = some u → cs'[i * 3 + j]? = some u := fun j u hj hu => by
        rw [← h2, List.getElem?_take, if_pos (by omega)] at hu; exact hu
      match j, hv with
      | 0, hv => cases hv; exact ⟨_, up 0 _ (by omega) q1, .same _⟩
      | 1, hv => cases hv; exact ⟨_, up 1 _ (by omega) q2, .same _⟩
      | 2, hv => cases hv; exact ⟨y, up 2 _ (by omega) q3, q4.frz hG (zta _)⟩
      | j + 3, hv => simp [Cod.avs] at hv
theorem FrzP.keep {H H' : Heap} {G : Nat → Prop} {v u : AV} (h : FrzP H G v u) (hk : ∀ g, G g → H' g = H g) : FrzP H' G v u := by
  induction h with
  | same v => exact .same v
  | nils => exact .nils
  | zs => exact .zs
  | slc g off len sz cells xs hg hH hle hl hsz U hU _ ih => exact .slc g off len sz cells xs hg (by rw [hk g hg]; exact hH) hle hl hsz U hU ih
  | agg xs ys hl _ ih => exact .agg xs ys hl ih
theorem FrzP.wide {H : Heap} {G G' : Nat → Prop} {v u : AV} (h : FrzP H G v u) (hG : ∀ g, G g → G' g) : FrzP H G' v u := by
  induction h with
  | same v => exact .same v
  | nils => exact .nils
  | zs => exact .zs
  | slc g off len sz cells xs hg hH hle hl hsz U hU _ ih => exact .slc g off len sz cells xs (hG g hg) hH hle hl hsz U hU ih
  | agg xs ys hl _ ih => exact .agg xs ys hl ih
theorem za.nil_zs {P : Program} {f : FuncId} {args : List AV} {H : Heap} {nx : Nat} {Q : Heap → Nat → Prop} (h : za P f args H nx fun v H' nx' => (v = .nils ∨ v = .zs) ∧ Q H' nx') : za P f args H nx fun v H' nx' => v = .zs ∧ Q H' nx' := by
  intro ρ w cargs s ha
  refine zm (h ρ w cargs s ha) fun cv w' ⟨v, H', nx', ρ', ⟨hv, hq⟩, q2, q3, q4⟩ => ⟨.zs, H', nx', ρ', ⟨rfl, hq⟩, q2, ?_, q4⟩
  rcases hv with rfl | rfl
  · cases q3; exact .zs _
  · exact q3
theorem zajn {esz bytes nx : Nat} {x : AV} {H : Heap} {kk : AV → Heap → Nat → Prop} : APP esz bytes .zs x H nx kk = OPTK (zf esz H x) fun p => p.2.1.all AV.one = true ∧
    (p.1 = 0 → kk .zs H nx) ∧ (p.1 ≠ 0 → p.1 * bytes ≤ 140737488355328 ∧ kk (.slc nx 0 p.1) (H.put nx (some (.row esz p.2.1))) (nx + 1)) := by
  simp only [APP, zac, OPTK]
  cases hs : zf esz H x with
  | none => simp
  | some p => obtain ⟨m, news, rd⟩ := p; simp [Heap.apply]
theorem zt.cloneV {l : List Val} (hl : l.length * 32 ≤ 140737488355328) {H : Heap} {nx : Nat} {k : Kt}
    (h0 : l = [] → k .zs [] [] []) (h1 : l ≠ [] → k (.slc nx 0 l.length) [] [nx] [(nx, some (.row 3 (rowV l)))]) : zt Tryd.prog (.clo 80 []) [.ro (l.map Val.avs)] H nx k := by
  by_cases he : l = []
  · subst he
    refine ⟨_, [], [], [], .inl rfl, LC.of_qcr (r := .zs) (by simp) (fun H' n _ => ?_) .zs, h0 rfl⟩
    refine za.tidy fun hlive => ?_
    have h0 : za Tryd.prog 80 [.ro []] H' n fun v H'' nx' => (v = .nils ∨ v = .zs) ∧ Keep n H'' H' := by
      refine ziu _ H' n _ ?_
      simp [zem, zajn]
    refine (za.gc (R := fun v H'' => v = AV.zs ∧ H'' = H') h0.nil_zs fun v H'' nx' ⟨hv, hk⟩ => ⟨.zs, H', ⟨rfl, rfl⟩, by rw [hv]; exact .same _ .zs, fun g o ho => ⟨hlive g o ho, by rw [hk g (hlive g o ho)]; exact ho, .inl ho⟩⟩).mono fun v H'' nx' ⟨⟨a, b⟩, c⟩ => ⟨a, b, c⟩
  · refine ⟨_, [], [nx], _, .inr (.inl rfl), LC.of_callsN (by simp) (by simp) (fun A hA hB H' n' hag => ?_), h1 he⟩
    refine (zadx l hl .ro).mono fun v H'' n'' ⟨q1, q2, q3⟩ => ?_
    rcases q3 with ⟨h, _⟩ | ⟨g, g1, g2, rfl, g3⟩
    · exact absurd h he
    · refine ⟨g, g1, g2, .slc _ _, fun x hx _ => q2 x hx, fun x o hx hxn => ?_, ⟨.row 3 (rowV l), _, by simp only [zbj, zbs]; rw [Heap.put_at], g3, rfl, rfl, fun j v u hv hu => ?_⟩⟩
      · exact absurd (by simpa using hx) hxn
      · rw [hv] at hu; cases hu; exact .same _ (zdi (zpc l _ (List.mem_of_getElem? hv)))
end Go.Proofs.YtobioljjoipimaaDoor
set_option maxRecDepth 8000
namespace Go.Proofs.YtobioljjoipimaaDoor
open Go Go.RowKit
structure zjc (H : Heap) (lo n : Nat) (fs : List Frm) (ss : List (AV × AV)) (fa : AV) (h : List Cl) (ha : AV) : Prop where
  frs : zai H fs ss
  row : Slot H 4 fs.length (frow fs ss) fa
  hp : Slot H 6 h.length (rowC h) ha
  nd : (own fa ++ (own ha ++ owns ss)).Nodup
  bd : ∀ g ∈ own fa ++ (own ha ++ owns ss), lo ≤ g ∧ g < n
structure zkj (H : Heap) (lo n : Nat) (fs : List Frm) (ss : List (AV × AV)) (fa : AV) : Prop where
  frs : zai H fs ss
  row : Slot H 4 fs.length (frow fs ss) fa
  nd : (own fa ++ owns ss).Nodup
  bd : ∀ g ∈ own fa ++ owns ss, lo ≤ g ∧ g < n
theorem zkj.snoc {H X : Heap} {lo n N m : Nat} {fs : List Frm} {ss : List (AV × AV)} {fa : AV} {f : Frm} {va sa : AV} (h : zkj H lo n fs ss fa) (hn : n ≤ N) (hN : N ≤ m) (hlo : lo ≤ N) (hlen : (fs.length + 1) * 64 ≤ 140737488355328)
    (old : ∀ g, g < n → X g = H g) (hv : Slot X 3 f.vars.length (rowV f.vars) va) (hs : Slot X 3 f.stack.length (rowV f.stack) sa) (nd : (own va ++ own sa).Nodup) (bd : ∀ g ∈ own va ++ own sa, N ≤ g ∧ g < m)
    {t : Nat} (ht : X t = some (.row 4 [.int .i64 f.fn, .int .i64 f.at_, va, sa])) {kk : AV → Heap → Nat → Prop}
    (hk : ∀ H' a', (∀ g, g < lo → H' g = X g) → zkj H' lo (m + 1) (fs ++ [f]) (ss ++ [(va, sa)]) a' → kk a' H' (m + 1)) : APP 4 64 fa (.slc t 0 1) X m kk := by
  have hbf : ∀ g ∈ own fa, lo ≤ g ∧ g < n := fun g hg => h.bd g (List.mem_append_left _ hg)
  have hbs : ∀ g ∈ owns ss, lo ≤ g ∧ g < n := fun g hg => h.bd g (List.mem_append_right _ hg)
  obtain ⟨nd1, nd2, nd3⟩ := List.nodup_append.1 h.nd
  have hx := (h.row.keep (H' := X) fun g hg => old g (hbf g hg).2)
  refine Slot.app (bytes := 64) (nx := m) (new := [.int .i64 f.fn, .int .i64 f.at_, va, sa]) hx (zap h.frs.1) ht rfl (by simp [hv.one, hs.one]) hlen fun H' h1 h2 => ?_
  have keep : ∀ g, g ∈ owns ss → H' g = H g := fun g hg => by
    have := hbs g hg
    rw [h2 g (fun hx => nd3 g hx g hg rfl) (by omega)]; exact old g this.2
  have keep2 : ∀ g, g ∈ own va ++ own sa → H' g = X g := fun g hg => by
    have := bd g hg
    exact h2 g (fun hx => by have := hbf g hx; omega) (by omega)
  refine hk H' _ (fun g hg => h2 g (fun hx => by have := hbf g hx; omega) (by omega)) ⟨(h.frs.keep keep).snoc (hv.keep fun g hg => keep2 g (List.mem_append_left _ hg)) (hs.keep fun g hg => keep2 g (List.mem_append_right _ hg)), ?_, ?_, ?_⟩
  · refine .inr ⟨m, _, by simp, h1, ?_, ?_⟩
    · rw [zby h.frs.1]; exact List.take_of_length_le (by simp [zap h.frs.1]; omega)
    · simp [zap h.frs.1]; omega
  · rw [zbv]
    have e0 : own (AV.slc m 0 (fs.length + 1)) = [m] := rfl
    simp only [List.length_append, List.length_singleton, e0]
    refine List.nodup_append.2 ⟨by simp, List.nodup_append.2 ⟨nd2, nd, fun a ha b hb e => ?_⟩, fun a ha b hb e => ?_⟩
    · have := hbs a ha; have := bd b hb; omega
    · simp at ha; subst ha; subst e
      rcases List.mem_append.1 hb with hb | hb
      · have := hbs _ hb; omega
      · have := bd _ hb; omega
  · intro g hg
    rw [zbv] at hg
    have e0 : own (AV.slc m 0 (fs.length + 1)) = [m] := rfl
    rcases List.mem_append.1 hg with hg | hg
    · simp [own] at hg; omega
    · rcases List.mem_append.1 hg with hg | hg
      · have := hbs g hg; omega
      · have := bd g hg; omega
set_option maxHeartbeats 2000000 in
theorem zabc {fs : List Frm} {csv wv : AV} {id trip fuel room hops : Int} {h : List Cl} {H1 : Heap} {p mid : Nat} {Q : AV → Heap → Nat → Prop} (hl : fs.length * 64 ≤ 140737488355328) (hh : h.length * 64 ≤ 140737488355328) (hfl : ∀ f ∈ fs, f.vars.length * 32 ≤ 140737488355328 ∧ f.stack.length * 32 ≤ 140737488355328) (hp : p + 2 ≤ mid)
    (r1 : H1 p = some (.row 9 [.int .i64 id, .int .i64 trip, csv, wv, .ro (fs.map Frm.avs), .ro (h.map Cl.avs), .int .i64 fuel, .int .i64 room, .int .i64 hops])) (r2 : ∃ z, H1 (p + 1) = some (.row 9 z) ∧ z.length = 9)
    (c1 : csv.cells = [csv] ∧ csv.one = true ∧ csv.sure = true) (w1 : wv.cells = [wv] ∧ wv.one = true ∧ wv.sure = true)
    (hq : ∀ H' n' ss fa ha, mid ≤ n' → (∀ g, g < mid → g ≠ p → g ≠ p + 1 → H' g = H1 g) → zjc H' mid n' fs ss fa h ha → Q (.agg [.int .i64 id, .int .i64 trip, csv, wv, fa, ha, .int .i64 fuel, .int .i64 room, .int .i64 hops]) H' n') :
    LP (zlc Q) [.ptr p 0, .ptr (p + 1) 0, .nils, .ro (fs.map Frm.avs), .int .i64 fs.length, .int .i64 0] H1 mid := by
  refine LP.mk (fun k xs H' n' => ∃ (i : Nat) (ss : List (AV × AV)) (fa : AV), k = fs.length - i ∧ i ≤ fs.length ∧ mid ≤ n' ∧ xs = [.ptr p 0, .ptr (p + 1) 0, fa, .ro (fs.map Frm.avs), .int .i64 fs.length, .int .i64 i] ∧ (∀ g, g < mid → H' g = H1 g) ∧
    zkj H' mid n' (fs.take i) ss fa) fs.length ⟨0, [], .nils, rfl, by omega, Nat.le_refl _, rfl, fun _ _ => rfl, ⟨⟨rfl, fun k f s hf => by simp at hf⟩, .inl ⟨by simp, .inl rfl⟩, by simp [own, owns], by simp [own, owns]⟩⟩ ?_
  rintro k xs H' n' ⟨i, ss, fa, rfl, hi, hn', rfl, hkeep, st⟩
  have p0 : p ≠ n' := by omega
  have p1 : p + 1 ≠ n' := by omega
  by_cases hil : i < fs.length
  · have hmem : fs[i] ∈ fs := List.getElem_mem hil
    obtain ⟨hv, hs⟩ := hfl _ hmem
    have htk : fs.take (i + 1) = fs.take i ++ [fs[i]] := (List.take_append_getElem hil).symm
    have tl : (fs.take i).length = i := by simp; omega
    have lv : (Frm.avs fs[i]).length = 4 := rfl
    have fin : ∀ {X : Heap} {N : Nat} {va sa : AV} {kk : AV → Heap → Nat → Prop}, n' + 1 ≤ N → (∀ g, g < n' → X g = H' g) → Slot X 3 fs[i].vars.length (rowV fs[i].vars) va → Slot X 3 fs[i].stack.length (rowV fs[i].stack) sa → (own va ++ own sa).Nodup → (∀ g ∈ own va ++ own sa, n' + 1 ≤ g ∧ g < N) →
        (∀ a' H3 m', mid ≤ m' → (∀ g, g < mid → H3 g = H1 g) → zkj H3 mid m' (fs.take (i + 1)) (ss ++ [(va, sa)]) a' → kk a' H3 m') →
        APP 4 64 fa (.slc N 0 1) (X.put N (some (.row 4 [.int .i64 fs[i].fn, .int .i64 fs[i].at_, va, sa]))) (N + 1) kk := by
      intro X N va sa kk hN hold h1 h2 h3 h4 hkk
      refine st.snoc (f := fs[i]) (va := va) (sa := sa) (N := n' + 1) (by omega) (by omega) (by omega) (by rw [tl]; omega) (fun g hg => ?_) (h1.keep fun g hg => ?_) (h2.keep fun g hg => ?_) h3 (fun g hg => by have := h4 g hg; omega) (Heap.put_at _ _ _) fun H3 a' q1 q2 => ?_
      · rw [Heap.put_ne _ _ (by omega)]; exact hold g hg
      · exact Heap.put_ne _ _ (by have := h4 g (List.mem_append_left _ hg); omega)
      · exact Heap.put_ne _ _ (by have := h4 g (List.mem_append_right _ hg); omega)
      · exact hkk _ _ _ (by omega) (fun g hg => by rw [q1 g hg, Heap.put_ne _ _ (by omega), hold g (by omega)]; exact hkeep g hg) (by rw [htk]; exact q2)
    have nn : n' ≠ n' + 1 + 1 := by omega
    have fin2 : ∀ {v64 : AV} {H65 : Heap} {nx66 : Nat} {ss' : List (AV × AV)}, mid ≤ nx66 → (∀ g, g < mid → H65 g = H1 g) → zkj H65 mid nx66 (fs.take (i + 1)) ss' v64 →
        ∃ m, m < fs.length - i ∧ ∃ i_1, m = fs.length - i_1 ∧ i_1 ≤ fs.length ∧ mid ≤ nx66 ∧ ∃ x x_1, (v64 = x_1 ∧ IntKind.i64.wrap ((i : Int) + 1) = (i_1 : Int)) ∧ (∀ (g : Nat), g < mid → H65 g = H1 g) ∧ zkj H65 mid nx66 (List.take i_1 fs) x x_1 :=
      fun h1 h2 h3 => ⟨fs.length - (i + 1), by omega, i + 1, rfl, by omega, h1, _, _, ⟨rfl, i64w (by omega)⟩, h2, h3⟩
    have nil : ∀ {l : List Val} {X : Heap}, l = [] → Slot X 3 l.length (rowV l) .zs := fun h => .inl ⟨by simp [h], .inr rfl⟩
    have row : ∀ {l : List Val} {X : Heap} {g : Nat}, X g = some (.row 3 (rowV l)) → Slot X 3 l.length (rowV l) (.slc g 0 l.length) := fun h => .inr ⟨_, _, rfl, h, List.take_of_length_le (by simp), by simp⟩
    simp [zlc, hil, Frm.avs]
    refine zt.cloneV hv (fun ve => ?_) (fun vne => ?_)
    · simp [zoy]
      refine zt.cloneV hs (fun se => ?_) (fun sne => ?_)
      · simp [zgy]
        exact fin (by omega) (fun g hg => Heap.put_ne _ _ (by omega)) (nil ve) (nil se) (by simp [own]) (by simp [own]) fun a' H3 m' h1 h2 h3 => fin2 h1 h2 h3
      · simp [zgy]
        exact fin (by omega) (fun g hg => by rw [Heap.put_ne _ _ (by omega), Heap.put_ne _ _ (by omega), Heap.put_ne _ _ (by omega)]) (nil ve) (row (by rw [Heap.put_ne _ _ (by omega), Heap.put_at])) (by simp [own]) (by simp [own]) fun a' H3 m' h1 h2 h3 => fin2 h1 h2 h3
    · simp [zoy]
      refine zt.cloneV hs (fun se => ?_) (fun sne => ?_)
      · simp [zgy]
        exact fin (by omega) (fun g hg => by rw [Heap.put_ne _ _ (by omega), Heap.put_ne _ _ (by omega), Heap.put_ne _ _ (by omega)]) (row (by rw [Heap.put_ne _ _ (by omega), Heap.put_at])) (nil se) (by simp [own]) (by simp [own]) fun a' H3 m' h1 h2 h3 => fin2 h1 h2 h3
      · simp [zgy, nn]
        exact fin (by omega) (fun g hg => by rw [Heap.put_ne _ _ (by omega), Heap.put_ne _ _ (by omega), Heap.put_ne _ _ (by omega), Heap.put_ne _ _ (by omega)]) (row (by rw [Heap.put_ne _ _ (by omega), Heap.put_ne _ _ (by omega), Heap.put_at])) (row (by rw [Heap.put_ne _ _ (by omega), Heap.put_at])) (by simp [own]) (by simp [own]) fun a' H3 m' h1 h2 h3 => fin2 h1 h2 h3
  · obtain rfl : i = fs.length := by omega
    obtain ⟨z, r2, z9⟩ := r2
    rw [← hkeep p (by omega)] at r1
    rw [← hkeep (p + 1) (by omega)] at r2
    simp [zlc, r1]
    refine (zaea hh .ro).mono fun hv H5 n5 ⟨hn5, k5, hc⟩ => ?_
    have e1 : H5 p = _ := (k5 p (by omega)).trans r1
    have e2 : H5 (p + 1) = _ := (k5 (p + 1) (by omega)).trans r2
    obtain ⟨s1, s2⟩ := hc.slot (zct h)
    simp [zux, e1, e2, z9, st.row.one.1, st.row.one.2, hc.one.1, hc.one.2, c1.1, c1.2, w1.1, w1.2]
    rw [List.take_length] at st
    obtain ⟨f1, f2, f3, f4⟩ := st
    have same : ∀ {X : Heap}, (∀ g, g ≠ p → g ≠ p + 1 → X g = H5 g) → ∀ g, mid ≤ g → g < n' → X g = H' g := fun hX g h1 h2 => by rw [hX g (by omega) (by omega)]; exact k5 g h2
    have s1' : Slot H5 6 h.length (rowC h) hv := by simpa [rowC] using s1
    refine hq _ _ ss fa hv (by omega) (fun g h1 h2 h3 => ?_) ⟨f1.keep fun g hg => ?_, f2.keep fun g hg => ?_, s1'.keep fun g hg => ?_, ?_, fun g hg => ?_⟩
    · rw [Heap.put_ne _ _ h3, Heap.put_ne _ _ h2, k5 g (by omega)]; exact hkeep g h1
    · have := f4 g (List.mem_append_right _ hg)
      exact same (fun g h1 h2 => by rw [Heap.put_ne _ _ h2, Heap.put_ne _ _ h1]) g this.1 this.2
    · have := f4 g (List.mem_append_left _ hg)
      exact same (fun g h1 h2 => by rw [Heap.put_ne _ _ h2, Heap.put_ne _ _ h1]) g this.1 this.2
    · have := s2 g hg
      rw [Heap.put_ne _ _ (by omega), Heap.put_ne _ _ (by omega)]
    · obtain ⟨d1, d2, d3⟩ := List.nodup_append.1 f3
      refine List.nodup_append.2 ⟨d1, List.nodup_append.2 ⟨zlf _, d2, fun a ha b hb e => ?_⟩, fun a ha b hb e => ?_⟩
      · have := s2 a ha; have := f4 b (List.mem_append_right _ hb); omega
      · rcases List.mem_append.1 hb with hb | hb
        · have := s2 b hb; have := f4 a (List.mem_append_left _ ha); omega
        · exact d3 a ha b hb e
    · rcases List.mem_append.1 hg with hg | hg
      · have := f4 g (List.mem_append_left _ hg); omega
      · rcases List.mem_append.1 hg with hg | hg
        · have := s2 g hg; omega
        · have := f4 g (List.mem_append_right _ hg); omega
end Go.Proofs.YtobioljjoipimaaDoor
set_option maxRecDepth 8000
namespace Go.Proofs.YtobioljjoipimaaDoor
open Go Go.RowKit
set_option maxHeartbeats 2000000 in
theorem zacx {a : Agt} {H1 : Heap} {p : Nat} {Q : AV → Heap → Nat → Prop} (b1 : a.prog.codes.length * 40 ≤ 140737488355328) (b2 : ∀ c ∈ a.prog.codes, c.ins.length * 24 ≤ 140737488355328) (b3 : a.prog.words.length * 16 ≤ 140737488355328)
    (b4 : a.frames.length * 64 ≤ 140737488355328) (b5 : a.heap.length * 64 ≤ 140737488355328) (b6 : ∀ f ∈ a.frames, f.vars.length * 32 ≤ 140737488355328 ∧ f.stack.length * 32 ≤ 140737488355328)
    (r1 : H1 p = some (.row 9 a.avs)) (r2 : ∃ z, H1 (p + 1) = some (.row 9 z) ∧ z.length = 9)
    (hq : ∀ H' n' mid ss fa ha cv wv, p + 2 ≤ mid → mid ≤ n' → (∀ g, g < p → H' g = H1 g) → FrzP H' (fun g => p + 2 ≤ g ∧ g < mid) cv (.ro (a.prog.codes.map Cod.avs)) → FrzP H' (fun g => p + 2 ≤ g ∧ g < mid) wv (.ro (a.prog.words.map fun w => [.str w])) →
      zjc H' mid n' a.frames ss fa a.heap ha → Q (.agg [.int .i64 a.id, .int .i64 a.trip, cv, wv, fa, ha, .int .i64 a.permit.fuel, .int .i64 a.permit.room, .int .i64 a.permit.hops]) H' n') :
    LP (zlb Q) [.ptr p 0, .ptr (p + 1) 0, .nils, .ro (a.prog.codes.map Cod.avs), .int .i64 a.prog.codes.length, .int .i64 0] H1 (p + 2) := by
  refine LP.mk (fun k xs H' n' => ∃ (i : Nat) (cv : AV) (cells : List AV), k = a.prog.codes.length - i ∧ i ≤ a.prog.codes.length ∧ p + 2 ≤ n' ∧ xs = [.ptr p 0, .ptr (p + 1) 0, cv, .ro (a.prog.codes.map Cod.avs), .int .i64 a.prog.codes.length, .int .i64 i] ∧ (∀ g, g < p + 2 → H' g = H1 g) ∧
    zcy H' (fun g => p + 2 ≤ g ∧ g < n' ∧ g ∉ own cv) (a.prog.codes.take i) cells ∧ Slot H' 3 i cells cv ∧ ∀ g ∈ own cv, p + 2 ≤ g ∧ g < n') a.prog.codes.length ⟨0, .nils, [], rfl, by omega, Nat.le_refl _, rfl, fun _ _ => rfl, ⟨rfl, fun k c hc => by simp at hc⟩, .inl ⟨rfl, .inl rfl⟩, by simp [own]⟩ ?_
  rintro k xs H' n' ⟨i, cv, cells, rfl, hi, hn', rfl, hkeep, hc, hs, ho⟩
  have p0 : p ≠ n' := by omega
  have p1 : p + 1 ≠ n' := by omega
  by_cases hil : i < a.prog.codes.length
  · have hmem : a.prog.codes[i] ∈ a.prog.codes := List.getElem_mem hil
    have hb := b2 _ hmem
    have htk : a.prog.codes.take (i + 1) = a.prog.codes.take i ++ [a.prog.codes[i]] := (List.take_append_getElem hil).symm
    have tl : (a.prog.codes.take i).length = i := by simp; omega
    simp [zlb, hil, Cod.avs]
    refine (zadz hb .ro).mono fun v H5 n5 ⟨hn5, k5, hv⟩ => ?_
    have e1 : H5 n' = _ := (k5 n' (by omega)).trans (Heap.put_at _ _ _)
    have nn : n' ≠ n5 := by omega
    simp [zuy, e1, hv.one.1, hv.one.2]
    refine Slot.app (bytes := 40) (nx := n5 + 1) (new := [.int .i64 a.prog.codes[i].params, .int .i64 a.prog.codes[i].vars, v]) (hs.keep fun g hg => ?_) (by rw [hc.1, tl]) (Heap.put_at _ _ _) rfl (by simp [hv.one.2]) (by omega) fun H3 q1 q2 => ?_
    · have := ho g hg
      rw [Heap.put_ne _ _ (by omega), Heap.put_ne _ _ (by omega), k5 g (by omega), Heap.put_ne _ _ (by omega)]
    · have old : ∀ g, g < n' → g ∉ own cv → H3 g = H' g := fun g h1 h2 => by
        rw [q2 g h2 (by omega), Heap.put_ne _ _ (by omega), Heap.put_ne _ _ (by omega), k5 g (by omega), Heap.put_ne _ _ (by omega)]
      rw [i64w (by omega)]
      refine ⟨a.prog.codes.length - (i + 1), by omega, i + 1, rfl, by omega, by omega, _, ⟨rfl, by simp⟩, fun g hg => ?_, cells ++ [.int .i64 a.prog.codes[i].params, .int .i64 a.prog.codes[i].vars, v], ?_, ?_, ?_⟩
      · rw [old g (by omega) (fun h => by have := ho g h; omega)]; exact hkeep g hg
      · rw [htk]
        refine zcy.snoc (hc.more fun g ⟨h1, h2, h3⟩ => ⟨⟨h1, by omega, by simp [own]; omega⟩, old g h2 h3⟩) (hv.more fun g ⟨h1, h2⟩ => ⟨⟨by omega, by omega, by simp [own]; omega⟩, ?_⟩)
        rw [q2 g (fun h => by have := ho g h; omega) (by omega), Heap.put_ne _ _ (by omega), Heap.put_ne _ _ (by omega)]
      · refine .inr ⟨n5 + 1, _, rfl, q1, List.take_of_length_le ?_, ?_⟩
        · simp [hc.1, tl]; omega
        · simp [hc.1, tl]; omega
      · intro g hg
        simp [own] at hg; omega
  · obtain rfl : i = a.prog.codes.length := by omega
    rw [List.take_length] at hc
    obtain ⟨z, r2, z9⟩ := r2
    rw [← hkeep p (by omega)] at r1
    rw [← hkeep (p + 1) (by omega)] at r2
    simp [zlb, r1, Agt.avs]
    refine (zady b3 .ro).mono fun wv H5 n5 ⟨hn5, k5, hw⟩ => ?_
    have e1 : H5 p = _ := (k5 p (by omega)).trans r1
    have e2 : H5 (p + 1) = _ := (k5 (p + 1) (by omega)).trans r2
    simp [zuw, e1, Agt.avs, hs.one.1, hs.one.2, hw.one.1, hw.one.2]
    have pp : p + 1 ≠ p := by omega
    have fz1 : FrzP H5 (fun g => p + 2 ≤ g ∧ g < n5) cv (.ro (a.prog.codes.map Cod.avs)) := by
      refine (hc.frz (G := fun g => p + 2 ≤ g ∧ g < n') (fun g ⟨h1, h2, _⟩ => ⟨h1, h2⟩) hs ho).keep (fun g ⟨h1, h2⟩ => k5 g h2) |>.wide fun g ⟨h1, h2⟩ => ⟨h1, by omega⟩
    have fz2 : FrzP H5 (fun g => p + 2 ≤ g ∧ g < n5) wv (.ro (a.prog.words.map fun w => [.str w])) := hw.frz (fun g ⟨h1, h2⟩ => ⟨by omega, h2⟩) (zsr _)
    refine zabc b4 b5 b6 (by omega) (Heap.put_at _ _ _) ⟨z, by rw [Heap.put_ne _ _ pp]; exact e2, z9⟩ hs.one hw.one fun H6 n6 ss fa ha hn6 k6 ow => ?_
    have same : ∀ g, p + 2 ≤ g → g < n5 → H6 g = H5 g := fun g h1 h2 => by rw [k6 g h2 (by omega) (by omega), Heap.put_ne _ _ (by omega)]
    refine hq H6 n6 n5 ss fa ha cv wv (by omega) hn6 (fun g hg => ?_) (fz1.keep fun g ⟨h1, h2⟩ => same g h1 h2) (fz2.keep fun g ⟨h1, h2⟩ => same g h1 h2) ow
    rw [k6 g (by omega) (by omega) (by omega), Heap.put_ne _ _ (by omega), k5 g (by omega), hkeep g (by omega)]
structure zaho (a : Agt) : Prop where
  b1 : a.prog.codes.length * 40 ≤ 140737488355328
  b2 : ∀ c ∈ a.prog.codes, c.ins.length * 24 ≤ 140737488355328
  b3 : a.prog.words.length * 16 ≤ 140737488355328
  b4 : a.frames.length * 64 ≤ 140737488355328
  b5 : a.heap.length * 64 ≤ 140737488355328
  b6 : ∀ f ∈ a.frames, f.vars.length * 32 ≤ 140737488355328 ∧ f.stack.length * 32 ≤ 140737488355328
def zhc (id trip : Int) (p : Prg) (fa ha : AV) (m : Pmt) : List AV := [.int .i64 id, .int .i64 trip, .ro (p.codes.map Cod.avs), .ro (p.words.map fun w => [.str w]), fa, ha, .int .i64 m.fuel, .int .i64 m.room, .int .i64 m.hops]
theorem zaiv {a : Agt} (sz : zaho a) {H : Heap} {n : Nat} {Q : AV → Heap → Nat → Prop}
    (hq : ∀ H' n' ss fa ha, n ≤ n' → Keep n H' H → zjc H' n n' a.frames ss fa a.heap ha → Q (.agg (zhc a.id a.trip a.prog fa ha a.permit)) H' n') : za Tryd.prog 55 [.agg a.avs] H n Q := by
  have raw : za Tryd.prog 55 [.agg a.avs] H n fun v H' n' => ∃ mid ss fa ha cv wv, v = .agg [.int .i64 a.id, .int .i64 a.trip, cv, wv, fa, ha, .int .i64 a.permit.fuel, .int .i64 a.permit.room, .int .i64 a.permit.hops] ∧ n + 2 ≤ mid ∧ mid ≤ n' ∧ Keep n H' H ∧
      FrzP H' (fun g => n + 2 ≤ g ∧ g < mid) cv (.ro (a.prog.codes.map Cod.avs)) ∧ FrzP H' (fun g => n + 2 ≤ g ∧ g < mid) wv (.ro (a.prog.words.map fun w => [.str w])) ∧ zjc H' mid n' a.frames ss fa a.heap ha := by
    refine zww _ H n _ ?_
    have av : (AV.agg a.avs).cells = a.avs := by simp
    have al : a.avs.length = 9 := rfl
    have nn : n ≠ n + 1 := by omega
    have h2 : a.avs[2]? = some (.ro (a.prog.codes.map Cod.avs)) := rfl
    have hsu : (AV.agg a.avs).sure = true := by simp [Agt.avs]
    unfold zuv
    rw [av, al]
    refine ⟨hsu, ?_⟩
    simp [nn, h2]
    refine zacx sz.b1 sz.b2 sz.b3 sz.b4 sz.b5 sz.b6 (by rw [Heap.put_ne _ _ nn, Heap.put_at]) ⟨_, Heap.put_at _ _ _, rfl⟩ fun H' n' mid ss fa ha cv wv q1 q2 q3 q4 q5 q6 => ?_
    exact ⟨mid, ss, fa, ha, cv, wv, rfl, q1, q2, fun g hg => by rw [q3 g hg, Heap.put_ne _ _ (by omega), Heap.put_ne _ _ (by omega)], q4, q5, q6⟩
  refine za.tidy fun hlive => raw.freeze fun v H' n' ⟨mid, ss, fa, ha, cv, wv, hv, q1, q2, q3, q4, q5, q6⟩ => ?_
  subst hv
  let H2 : Heap := fun g => if n ≤ g ∧ g < mid then none else H' g
  have h2 : ∀ g, ¬ (n ≤ g ∧ g < mid) → H2 g = H' g := fun g hg => if_neg hg
  refine ⟨_, H2, fun g => n ≤ g ∧ g < mid, hq H2 n' ss fa ha (by omega) (fun g hg => by rw [h2 g (by omega)]; exact q3 g hg) ⟨q6.frs.keep fun g hg => h2 g ?_, q6.row.keep fun g hg => h2 g ?_, q6.hp.keep fun g hg => h2 g ?_, q6.nd, fun g hg => ?_⟩, ?_, fun g o hg => ?_⟩
  · have := q6.bd g (by simp [hg]); omega
  · have := q6.bd g (by simp [hg]); omega
  · have := q6.bd g (by simp [hg]); omega
  · have := q6.bd g hg; omega
  · refine .agg _ _ rfl fun j v u hv hu => ?_
    match j with
    | 0 => cases hv; cases hu; exact .same _
    | 1 => cases hv; cases hu; exact .same _
    | 2 => cases hv; cases hu; exact q4.wide fun g ⟨h1, h2⟩ => ⟨by omega, h2⟩
    | 3 => cases hv; cases hu; exact q5.wide fun g ⟨h1, h2⟩ => ⟨by omega, h2⟩
    | 4 => cases hv; cases hu; exact .same _
    | 5 => cases hv; cases hu; exact .same _
    | 6 => cases hv; cases hu; exact .same _
    | 7 => cases hv; cases hu; exact .same _
    | 8 => cases hv; cases hu; exact .same _
    | j + 9 => simp at hv
  · by_cases h : n ≤ g ∧ g < mid
    · simp only [H2, if_pos h] at hg; cases hg
    · exact ⟨h, by rw [h2 g h] at hg; exact hg⟩
end Go.Proofs.YtobioljjoipimaaDoor
set_option maxRecDepth 8000
namespace Go.Proofs.YtobioljjoipimaaDoor
open Go Go.RowKit
theorem Slot.frzN {H : Heap} {nx sz : Nat} {xs : List (List AV)} {a : AV} (hs : Slot H sz xs.length xs.flatten a) (ho : ∀ g ∈ own a, nx ≤ g) (hsz : ∀ x ∈ xs, x.length = sz) (hb : ∀ x ∈ xs, ∀ c ∈ x, scal c = true) : Frz H nx a (.ro xs) := by
  rcases hs with ⟨h0, rfl | rfl⟩ | ⟨g, cs, rfl, h1, h2, h3⟩
  · rw [List.eq_nil_of_length_eq_zero h0]; exact .nils
  · rw [List.eq_nil_of_length_eq_zero h0]; exact .zs
  · have e : ∀ (i : Nat) (x : List AV) (j : Nat) (v : AV), xs[i]? = some x → x[j]? = some v → cs[0 + i * sz + j]? = some v := fun i x j v hx hv => by
      have hxl : x.length = sz := hsz x (List.mem_of_getElem? hx)
      have hj : j < sz := by have := (List.getElem?_eq_some_iff.1 hv).1; omega
      have hi := (List.getElem?_eq_some_iff.1 hx).1
      have e1 := zgk hsz hx
      have e2 := congrArg (·[j]?) e1
      simp only [List.getElem?_take, List.getElem?_drop, hj, if_true] at e2
      rw [← h2, List.getElem?_take, hv] at e2
      have : i * sz + sz ≤ xs.length * sz := by rw [← Nat.succ_mul]; exact Nat.mul_le_mul_right _ hi
      rw [if_pos (by omega)] at e2
      rw [Nat.zero_add]; exact e2
    refine .slc g 0 _ sz cs xs (ho g (by simp [own])) h1 (by omega) rfl hsz (fun i j => (cs[0 + i * sz + j]?).getD .junk) (fun i x j v hx hv => ?_) (fun i x j v hx hv => ?_)
    · rw [e i x j v hx hv]; rfl
    · rw [e i x j v hx hv]; exact .same _ (zdi (hb x (List.mem_of_getElem? hx) v (List.mem_of_getElem? hv)))
theorem Slot.frzV {H : Heap} {nx : Nat} {l : List Val} {a : AV} (hs : Slot H 3 l.length (rowV l) a) (ho : ∀ g ∈ own a, nx ≤ g) : Frz H nx a (.ro (l.map Val.avs)) :=
  Slot.frzN (sz := 3) (by simpa [rowV] using hs) ho (zkh l) (zld l)
theorem Slot.frzH {H : Heap} {nx : Nat} {l : List Cl} {a : AV} (hs : Slot H 6 l.length (rowC l) a) (ho : ∀ g ∈ own a, nx ≤ g) : Frz H nx a (.ro (l.map Cl.avs)) :=
  Slot.frzN (sz := 6) (by simpa [rowC] using hs) ho (zct l) (zgz l)
theorem zzj : ∀ {fs : List Frm} {ss : List (AV × AV)} {i : Nat} {f : Frm} {s : AV × AV}, fs[i]? = some f → ss[i]? = some s → (frow fs ss)[i * 4]? = some (.int .i64 f.fn) ∧ (frow fs ss)[i * 4 + 1]? = some (.int .i64 f.at_) ∧ (frow fs ss)[i * 4 + 2]? = some s.1 ∧ (frow fs ss)[i * 4 + 3]? = some s.2
  | [], _, i, f, s, h, _ => by simp at h
  | _ :: _, [], i, f, s, _, h => by simp at h
  | g :: fs, t :: ss, 0, f, s, h1, h2 => by simp at h1 h2; subst h1; subst h2; exact ⟨rfl, rfl, rfl, rfl⟩
  | g :: fs, t :: ss, i + 1, f, s, h1, h2 => by
    have := zzj (fs := fs) (ss := ss) (i := i) (f := f) (s := s) (by simpa using h1) (by simpa using h2)
    have e : ∀ k, (frow (g :: fs) (t :: ss))[(i + 1) * 4 + k]? = (frow fs ss)[i * 4 + k]? := fun k => by
      rw [show (i + 1) * 4 + k = i * 4 + k + 1 + 1 + 1 + 1 by omega]
      simp [frow]
    exact ⟨(e 0).trans this.1, (e 1).trans this.2.1, (e 2).trans this.2.2.1, (e 3).trans this.2.2.2⟩
theorem zai.frz {H : Heap} {nx : Nat} {fs : List Frm} {ss : List (AV × AV)} {g k : Nat} {cs : List AV} (h : zai H fs ss) (h1 : H g = some (.row 4 cs)) (h2 : cs.take (fs.length * 4) = frow fs ss) (h3 : fs.length * 4 ≤ cs.length) (hg : nx ≤ g) (ho : ∀ x ∈ owns ss, nx ≤ x) (hk : k = fs.length) : Frz H nx (.slc g 0 k) (.ro (fs.map Frm.avs)) := by
  subst hk
  have key : ∀ (i : Nat) (x : List AV) (j : Nat) (v : AV), (fs.map Frm.avs)[i]? = some x → x[j]? = some v → ∃ u, cs[0 + i * 4 + j]? = some u ∧ Frz H nx u v := fun i x j v hx hv => by
    rw [List.getElem?_map] at hx
    obtain ⟨f, hf, rfl⟩ := Option.map_eq_some_iff.1 hx
    have hi := (List.getElem?_eq_some_iff.1 hf).1
    have hs : ss[i]? = some (ss[i]'(by rw [h.1]; exact hi)) := List.getElem?_eq_getElem _
    obtain ⟨a, b⟩ := h.2 i f _ hf hs
    obtain ⟨q0, q1, q2, q3⟩ := zzj hf hs
    have hm := List.mem_of_getElem? hs
    have up : ∀ (j : Nat) (u : AV), j < 4 → (frow fs ss)[i * 4 + j]? = some u → cs[0 + i * 4 + j]? = some u := fun j u hj hu => by
      rw [← h2, List.getElem?_take, if_pos (by omega)] at hu; rw [Nat.zero_add]; exact hu
    match j, hv with
    | 0, hv => cases hv; exact ⟨_, up 0 _ (by omega) q0, .same _ (.int _ _)⟩
    | 1, hv => cases hv; exact ⟨_, up 1 _ (by omega) q1, .same _ (.int _ _)⟩
    | 2, hv => cases hv; exact ⟨_, up 2 _ (by omega) q2, a.frzV fun x hx => ho x (List.mem_flatMap.2 ⟨_, hm, List.mem_append_left _ hx⟩)⟩
    | 3, hv => cases hv; exact ⟨_, up 3 _ (by omega) q3, b.frzV fun x hx => ho x (List.mem_flatMap.2 ⟨_, hm, List.mem_append_right _ hx⟩)⟩
    | j + 4, hv => simp [Frm.avs] at hv
  refine .slc g 0 _ 4 cs _ hg h1 (by omega) (by simp) (fun x hx => ?_) (fun i j => (cs[0 + i * 4 + j]?).getD .junk) (fun i x j v hx hv => ?_) (fun i x j v hx hv => ?_)
  · obtain ⟨f, _, rfl⟩ := List.mem_map.1 hx; rfl
  · obtain ⟨u, q1, q2⟩ := key i x j v hx hv; rw [q1]; rfl
  · obtain ⟨u, q1, q2⟩ := key i x j v hx hv; rw [q1]; exact q2
theorem zaeg (l : List Cod) {A : Nat → Prop} : Bel A (.ro (l.map Cod.avs)) := .ro _ fun i x j v hx hv => by
  rw [List.getElem?_map] at hx
  obtain ⟨c, _, rfl⟩ := Option.map_eq_some_iff.1 hx
  match j, hv with
  | 0, hv => cases hv; exact .int _ _
  | 1, hv => cases hv; exact .int _ _
  | 2, hv => cases hv; exact ztk (zvc _)
  | j + 3, hv => simp [Cod.avs] at hv
theorem zaef (l : List Str) {A : Nat → Prop} : Bel A (.ro (l.map fun w => [.str w])) := ztk (zvb l)
theorem zvj {H : Heap} {nx : Nat} {id trip : Int} {p : Prg} {fs : List Frm} {h : List Cl} {m : Pmt} {fa ha : AV} (h1 : Frz H nx fa (.ro (fs.map Frm.avs))) (h2 : Frz H nx ha (.ro (h.map Cl.avs))) : Frz H nx (.agg (zhc id trip p fa ha m)) (.agg (Agt.avs ⟨id, trip, p, fs, h, m⟩)) := by
  refine .agg _ _ rfl fun j v u hv hu => ?_
  match j with
  | 0 => cases hv; cases hu; exact .same _ (.int _ _)
  | 1 => cases hv; cases hu; exact .same _ (.int _ _)
  | 2 => cases hv; cases hu; exact .same _ (zaeg _)
  | 3 => cases hv; cases hu; exact .same _ (zaef _)
  | 4 => cases hv; cases hu; exact h1
  | 5 => cases hv; cases hu; exact h2
  | 6 => cases hv; cases hu; exact .same _ (.int _ _)
  | 7 => cases hv; cases hu; exact .same _ (.int _ _)
  | 8 => cases hv; cases hu; exact .same _ (.int _ _)
  | j + 9 => simp [zhc] at hv
theorem Live.codes {a : Agt} {fs : List Frm} {f : Frm} (l : VM.Live a fs f) : a.prog.codes.length ≤ 5 ∧ a.prog.words.length ≤ 16 ∧ ∀ c ∈ a.prog.codes, c.ins.length ≤ 200 ∧ 0 ≤ c.vars ∧ c.vars ≤ 8 ∧ (∀ x ∈ (VM.heights c.ins).1, -1 ≤ x ∧ x ≤ 16) := by
  obtain ⟨h1, h2, h3⟩ := zu l.prog
  refine ⟨h2, h3, fun c hc => ?_⟩
  obtain ⟨q1, q2, q3⟩ := h1 c hc
  unfold VM.codeRange at q1
  rw [decide_eq_false_iff_not] at q1
  exact ⟨by omega, by omega, by omega, (zcc q2 q3).2⟩
theorem Live.stk {a : Agt} {fs : List Frm} {f : Frm} (l : VM.Live a fs f) : ∀ g ∈ a.frames, g.vars.length ≤ 8 ∧ g.stack.length ≤ 16 := by
  obtain ⟨_, _, h3⟩ := Live.codes l
  intro g hg
  rw [l.fr] at hg
  have ok := l.ok g hg
  obtain ⟨q1, q2, q3, q4⟩ := h3 _ (VM.code_mem ok.code)
  have hv := ok.vars
  refine ⟨by omega, ?_⟩
  rcases List.mem_append.1 hg with hg | hg
  · have := zup l g hg; omega
  · simp at hg; subst hg
    have hst := l.still
    unfold VM.Still VM.hts at hst
    have := q4 _ (List.mem_of_getElem? hst)
    omega
theorem Live.sized {a : Agt} {fs : List Frm} {f : Frm} (l : VM.Live a fs f) : zaho a := by
  obtain ⟨h1, h2, h3⟩ := Live.codes l
  have hf : a.frames.length ≤ 12 := by rw [l.fr]; simp; have := l.flen; omega
  have hh : a.heap.length ≤ 60 := by have := l.hlen; have := l.room; omega
  exact ⟨by omega, fun c hc => by have := (h3 c hc).1; omega, by omega, by omega, by omega, fun g hg => by have := Live.stk l g hg; omega⟩
theorem RL.of_owned {H0 H : Heap} {lo n gs : Nat} {id trip : Int} {p : Prg} {s : Spt} {fs : List Frm} {f : Frm} {ss : List (AV × AV)} {fa : AV} {h : List Cl} {ha : AV} {m : Pmt} {e : Evt} (ow : zjc H lo n (fs ++ [f]) ss fa h ha) (hn : lo ≤ n) (h2 : gs < lo) (hs : H gs = some (.row 4 s.avs)) (hk : Keep lo H H0) :
    ∃ gf ss' va sa, fa = .slc gf 0 (fs.length + 1) ∧ RL H0 (H.put n (some (.row 13 (zc id trip p (.slc gf 0 (fs.length + 1)) ha m gs e)))) lo (n + 1) n gs gf id trip p s fs ss' f va sa h ha m e := by
  obtain ⟨f1, f2, f3, f4, f5⟩ := ow
  have hl : ss.length = fs.length + 1 := by rw [f1.1]; simp
  obtain ⟨ss', t, rfl⟩ : ∃ ss' t, ss = ss' ++ [t] := by
    rcases List.eq_nil_or_concat ss with rfl | ⟨ss', t, h⟩
    · simp at hl
    · exact ⟨ss', t, by simpa using h⟩
  rcases f2 with ⟨h0, _⟩ | ⟨gf, cs, rfl, c1, c2, c3⟩
  · simp at h0
  have nb : ∀ g ∈ own (AV.slc gf 0 (fs ++ [f]).length) ++ (own ha ++ owns (ss' ++ [t])), g ≠ n ∧ lo ≤ g ∧ g < n := fun g hg => by have := f5 g hg; omega
  have put : ∀ g, g < n → (H.put n (some (.row 13 (zc id trip p (.slc gf 0 (fs.length + 1)) ha m gs e)))) g = H g := fun g hg => Heap.put_ne _ _ (by omega)
  obtain ⟨l1, l2, l3⟩ := f1.last
  have ef : (fs ++ [f]).length = fs.length + 1 := by simp
  rw [ef] at c2 c3 nb f4 f5
  rw [zby l1.1] at c2
  have bh : ∀ g ∈ own ha, lo ≤ g ∧ g < n := fun g hg => f5 g (by simp [hg])
  have bs : ∀ g ∈ owns (ss' ++ [t]), lo ≤ g ∧ g < n := fun g hg => f5 g (by rw [List.mem_append, List.mem_append]; exact .inr (.inr hg))
  have bf : lo ≤ gf ∧ gf < n := f5 gf (by simp [own])
  have es := zbv ss' t
  refine ⟨gf, ss', t.1, t.2, by rw [ef], Heap.put_at _ _ _, ⟨cs, by rw [put gf bf.2]; exact c1, c2, c3⟩, l1.keep fun g hg => put g (bs g (by rw [es]; simp [hg])).2, l2.keep fun g hg => put g (bs g (by rw [es]; simp [hg])).2, l3.keep fun g hg => put g (bs g (by rw [es]; simp [hg])).2, f3.keep fun g hg => put g (bh g hg).2, by rw [put gs (by omega)]; exact hs, ?_, by omega, ?_, ?_, by omega⟩
  · rw [es] at f4
    have e0 : own (AV.slc gf 0 (fs.length + 1)) = [gf] := rfl
    rw [e0, List.singleton_append] at f4
    refine List.nodup_cons.2 ⟨?_, List.nodup_cons.2 ⟨?_, f4⟩⟩
    · intro hm
      rcases List.mem_cons.1 hm with h | h
      · omega
      · have := f5 n (by rw [es, e0]; exact h); omega
    · intro hm
      have := f5 gs (by rw [es, e0]; exact hm); omega
  · intro g hg
    rcases List.mem_cons.1 hg with h | hg
    · omega
    have := f5 g (by rw [es]; exact hg)
    omega
  · intro g hg
    rw [put g (by omega)]; exact hk g hg
def zahr (H0 H : Heap) (lo n gr : Nat) (r : Agt × Evt) : Prop := r.2.kind ≠ 0 ∧ gr < n ∧ Fin H0 H lo gr r.1.id r.1.trip r.1.prog r.1.frames r.1.heap r.1.permit r.2
end Go.Proofs.YtobioljjoipimaaDoor
namespace Go.Proofs.YtobioljjoipimaaDoor
open Go Go.RowKit
theorem Fin.frz {H0 H : Heap} {lo nx gr : Nat} {id trip : Int} {p : Prg} {frames : List Frm} {h : List Cl} {m : Pmt} {e : Evt} (fi : Fin H0 H lo gr id trip p frames h m e) (hnx : nx ≤ lo) :
    ∃ gs fa ha, H gr = some (.row 13 (zc id trip p fa ha m gs e)) ∧ Keep lo H H0 ∧ fa.one = true ∧ fa.sure = true ∧ ha.one = true ∧ ha.sure = true ∧ fa.cells = [fa] ∧ ha.cells = [ha] ∧ ∀ H2 : Heap, (∀ g, lo ≤ g → H2 g = H g) → Frz H2 nx (.agg (zhc id trip p fa ha m)) (.agg (Agt.avs ⟨id, trip, p, frames, h, m⟩)) := by
  obtain ⟨gs, gf, ss, ha, cs, h1, h2, h3, h4, h5, h6, h7, h8, h9, h10⟩ := fi
  refine ⟨gs, _, ha, h1, h10, rfl, rfl, h6.one.2.1, h6.one.2.2, rfl, h6.one.1, fun H2 hk => ?_⟩
  refine zvj (zai.frz (h5.keep fun g hg => hk g (h9 g hg)) (by rw [hk gf h7]; exact h2) h3 h4 (by omega) (fun x hx => by have := h9 x hx; omega) rfl) ((h6.keep fun g hg => hk g (h8 g hg)).frzH fun x hx => by have := h8 x hx; omega)
theorem zafm (s : Spt) (a : Agt) : VM.run s 0 a = (a, ⟨1, [], 0⟩) := rfl
theorem zxb (s : Spt) (n : Nat) (a : Agt) : VM.run s (n + 1) a = if (VM.step a s).2.kind ≠ 0 then VM.step a s else VM.run s n (VM.step a s).1 := rfl
structure zjk (H0 H : Heap) (lo nx n : Nat) (gr gs : Nat) (most x : Int) (s : Spt) (r : Agt × Evt) (k : Nat) : Prop where
  r1 : ∃ z, H (nx + 2) = some (.row 9 z) ∧ z.length = 9
  r2 : ∃ z, H (nx + 3) = some (.row 3 z) ∧ z.length = 3
  grn : lo ≤ gr ∧ gr < n
  keep : Keep lo H H0
  st : (∃ i : Nat, x = i ∧ i ≤ most.toNat ∧ k = most.toNat - i + 1 ∧ ∃ b fs f gf ss va sa ha, VM.Live b fs f ∧ RL H0 H lo n gr gs gf b.id b.trip b.prog s fs ss f va sa b.heap ha b.permit VM.ev0 ∧ VM.run s (most.toNat - i) b = r) ∨ (k = 0 ∧ zahr H0 H lo n gr r)
theorem zza {c : Agt} {fs : List Frm} {f : Frm} (l : VM.Live c fs f) (hf : c.permit.fuel ≠ 0) (s : Spt) : VM.step c s = VM.opDo { c with permit := { c.permit with fuel := c.permit.fuel - 1 } } s fs { f with at_ := f.at_ + 1 } (VM.insAt c.prog f) := by
  have e1 : c.frames.getLast? = some f := by rw [l.fr]; simp
  have e2 : c.frames.dropLast = fs := by rw [l.fr]; simp
  unfold VM.step
  rw [if_neg hf, e1, e2]
set_option maxRecDepth 20000 in
set_option maxHeartbeats 1000000 in
theorem zafo {s : Spt} {most : Int} {r : Agt × Evt} {nx gr : Nat} {H0 H : Heap} {n : Nat} {Q : AV → Heap → Nat → Prop} (hname : s.name.length ≤ maxLen) (hfacts : s.facts.length ≤ 4611686018427387903) (hw : ∀ x ∈ s.facts, VM.WrongOk x.val (0 : Int)) (hm : most ≤ 9223372036854775807)
    (h0 : ∃ k, zjk H0 H (nx + 4) nx n gr (nx + 1) most 0 s r k)
    (hq : ∀ H' n' fa ha, r.2.kind ≠ 0 → Keep nx H' H0 → Frz H' nx (.agg (zhc r.1.id r.1.trip r.1.prog fa ha r.1.permit)) (.agg r.1.avs) → Q (.tup [.agg (zhc r.1.id r.1.trip r.1.prog fa ha r.1.permit), .agg r.2.avs]) H' n') :
    LP (zdh Q) [.int .i64 most, .ptr (nx + 2) 0, .ptr (nx + 3) 0, .ptr gr 0, .int .i64 0] H n := by
  obtain ⟨k0, h0⟩ := h0
  refine LP.mk (fun k xs H' n' => ∃ x : Int, xs = [.int .i64 most, .ptr (nx + 2) 0, .ptr (nx + 3) 0, .ptr gr 0, .int .i64 x] ∧ zjk H0 H' (nx + 4) nx n' gr (nx + 1) most x s r k) k0 ⟨0, rfl, h0⟩ ?_
  rintro k xs H' n' ⟨x, rfl, b⟩
  suffices key : ∀ K : J3, (∀ (x : Int) H' n' k', k' < k → zjk H0 H' (nx + 4) nx n' gr (nx + 1) most x s r k' → K [.int .i64 most, .ptr (nx + 2) 0, .ptr (nx + 3) 0, .ptr gr 0, .int .i64 x] H' n') → zdh Q K [.int .i64 most, .ptr (nx + 2) 0, .ptr (nx + 3) 0, .ptr gr 0, .int .i64 x] H' n' from
    key _ fun x H' n' k' hk hb => ⟨k', hk, x, rfl, hb⟩
  intro K hK
  obtain ⟨⟨z1, z2, z3⟩, ⟨y1, y2, y3⟩, ⟨g1, g2⟩, hkeep, st⟩ := b
  rcases st with ⟨i, rfl, hi, rfl, c, fs, f, gf, ss, va, sa, ha, l, st, hr⟩ | ⟨rfl, hk0, g3, fi⟩
  · have hrun := st.run
    have e0 : VM.ev0.kind = 0 := rfl
    have go : ∀ H1 n1 x k', n' ≤ n1 → Keep (nx + 4) H1 H0 → ((∃ i : Nat, x = (i : Int) ∧ i ≤ most.toNat ∧ k' = most.toNat - i + 1 ∧ ∃ b fs f gf ss va sa ha, VM.Live b fs f ∧ RL H0 H1 (nx + 4) n1 gr (nx + 1) gf b.id b.trip b.prog s fs ss f va sa b.heap ha b.permit VM.ev0 ∧ VM.run s (most.toNat - i) b = r) ∨ (k' = 0 ∧ zahr H0 H1 (nx + 4) n1 gr r)) → zjk H0 H1 (nx + 4) nx n1 gr (nx + 1) most x s r k' := fun H1 n1 x k' hn hk hs =>
      ⟨⟨z1, by rw [hk _ (by omega), ← hkeep _ (by omega)]; exact z2, z3⟩, ⟨y1, by rw [hk _ (by omega), ← hkeep _ (by omega)]; exact y2, y3⟩, ⟨g1, by omega⟩, hk, hs⟩
    by_cases hge : most ≤ i
    · have : most.toNat - i = 0 := by omega
      rw [this, zafm] at hr
      simp [zdh, hrun, zc, e0, hge]
      have st1 := st.setrun c.permit ⟨1, [], 0⟩
      refine hK _ _ _ 0 (by omega) (go _ _ _ _ (Nat.le_refl _) st1.keep (.inr ⟨rfl, ?_⟩))
      rw [← hr]
      refine ⟨by simp, g2, ?_⟩
      have := st1.fin
      rw [← l.fr] at this
      exact this
    · obtain ⟨j, hj⟩ : ∃ j, most.toNat - i = j + 1 := ⟨most.toNat - i - 1, by omega⟩
      have hadd : IntKind.i64.wrap ((i : Int) + 1) = ((i + 1 : Nat) : Int) := by rw [i64w (by omega)]; rfl
      rw [hj, zxb] at hr
      by_cases hfu : c.permit.fuel = 0
      · simp [zdh, hrun, zc, e0, hge, hfu]
        refine zgm st 12 fun H1 st1 => ?_
        have hs : VM.step c s = (c, VM.dead 12) := by unfold VM.step; rw [if_pos hfu]
        rw [hs, if_pos (by simp [VM.dead])] at hr
        simp [zuu, hadd]
        refine hK _ _ _ 0 (by omega) (go _ _ _ _ (Nat.le_refl _) st1.keep (.inr ⟨rfl, ?_⟩))
        rw [← hr]
        refine ⟨by simp [VM.dead], g2, ?_⟩
        have := st1.fin
        rw [← l.fr] at this
        exact this
      · simp [zdh, hrun, zc, e0, hge, hfu]
        refine zahw l hfu st hname hfacts fun H1 n1 hn1 sp => ?_
        rw [← zza l hfu s] at sp
        simp [zut]
        rw [hadd]
        rcases sp with ⟨hev, gf', fs', ss', f', va', sa', ha', hfr, st1⟩ | ⟨hev, fi⟩
        · have hk : (VM.step c s).2.kind = 0 := by rw [hev]; rfl
          rw [if_neg (by rw [hk]; simp)] at hr
          obtain ⟨gs, g, l'⟩ := VM.step_live l hw hk
          have := l'.fr
          rw [hfr] at this
          obtain ⟨rfl, e⟩ := List.append_inj' this rfl
          simp at e
          subst e
          refine hK _ _ _ (most.toNat - (i + 1) + 1) (by omega) (go _ _ _ _ hn1 st1.keep (.inl ⟨i + 1, rfl, by omega, rfl, _, _, _, _, _, _, _, _, l', st1, ?_⟩))
          rw [show most.toNat - (i + 1) = j by omega]
          exact hr
        · rw [if_pos hev] at hr
          obtain ⟨_, _, _, _, _, _, _, _, _, _, _, _, _, _, kp⟩ := id fi
          refine hK _ _ _ 0 (by omega) (go _ _ _ _ hn1 kp (.inr ⟨rfl, ?_⟩))
          rw [← hr]
          exact ⟨hev, by omega, fi⟩
  · obtain ⟨gs, fa, ha, hrun, _, o1, o2, o3, o4, o5, o6, hz⟩ := fi.frz (nx := nx) (by omega)
    simp [zdh, hrun, zc, hk0, z2, y2, z3, y3, o1, o2, o3, o4, o5, o6]
    refine ⟨by omega, hq _ _ fa ha hk0 (fun g hg => ?_) (hz _ fun g hg => ?_)⟩
    · rw [Heap.put_ne _ _ (by omega), Heap.put_ne _ _ (by omega)]; exact hkeep g (by omega)
    · rw [Heap.put_ne _ _ (by omega), Heap.put_ne _ _ (by omega)]
theorem zaha (e : Evt) {A : Nat → Prop} : Bel A (.agg e.avs) := by
  refine .agg _ fun i x hv => ?_
  match i with
  | 0 => cases hv; exact .int _ _
  | 1 => cases hv; exact .str _
  | 2 => cases hv; exact .int _ _
  | i + 3 => simp [Evt.avs] at hv
set_option maxRecDepth 20000 in
theorem zsv {a : Agt} {fs : List Frm} {f : Frm} {s : Spt} {most : Int} (l : VM.Live a fs f) (hname : s.name.length ≤ maxLen) (hfacts : s.facts.length ≤ 4611686018427387903) (hw : ∀ x ∈ s.facts, VM.WrongOk x.val (0 : Int)) (hm : most ≤ 9223372036854775807) :
    QC Tryd.prog 23 [.agg a.avs, .agg s.avs, .int .i64 most] (.tup [.agg (VM.run s most.toNat a).1.avs, .agg (VM.run s most.toNat a).2.avs]) := by
  refine QC.of' fun H nx => ?_
  refine zwv _ _ _ H nx _ ?_
  have av : (AV.agg a.avs).cells = a.avs := by simp
  have al : a.avs.length = 9 := rfl
  have sv : (AV.agg s.avs).cells = s.avs := by simp
  have sl : s.avs.length = 4 := rfl
  have hsu : (AV.agg a.avs).sure = true := by simp [Agt.avs]
  have hss : (AV.agg s.avs).sure = true := by simp [Spt.avs]
  unfold zur
  rw [av, al, sv, sl]
  refine ⟨hsu, hss, ?_⟩
  have at9 : a.avs.take 9 = a.avs := by rw [← al, List.take_length]
  simp [al, at9]
  refine zaiv (Live.sized l) fun H1 n1 ss fa ha hn1 k1 ow => ?_
  generalize hHH : Heap.put _ (nx + 3) _ = HH at *
  have q1 : HH (nx + 1) = some (.row 4 s.avs) := by rw [← hHH, Heap.put_ne _ _ (by omega), Heap.put_ne _ _ (by omega), Heap.put_at]
  have q2 : ∃ z, HH (nx + 2) = some (.row 9 z) ∧ z.length = 9 := ⟨_, by rw [← hHH, Heap.put_ne _ _ (by omega), Heap.put_at], rfl⟩
  have q3 : ∃ z, HH (nx + 3) = some (.row 3 z) ∧ z.length = 3 := ⟨_, by rw [← hHH, Heap.put_at], rfl⟩
  have q4 : Keep nx HH H := fun g hg => by rw [← hHH, Heap.put_ne _ _ (by omega), Heap.put_ne _ _ (by omega), Heap.put_ne _ _ (by omega), Heap.put_ne _ _ (by omega)]
  rw [l.fr] at ow
  have hs1 : H1 (nx + 1) = some (.row 4 s.avs) := (k1 _ (by omega)).trans q1
  obtain ⟨gf, ss', va, sa, rfl, st⟩ := RL.of_owned (e := VM.ev0) (id := a.id) (trip := a.trip) (p := a.prog) (m := a.permit) ow hn1 (by omega) hs1 k1
  have h1 := ow.hp.one
  simp [zus, zhc, h1.1, h1.2.1, h1.2.2]
  refine zafo (r := VM.run s most.toNat a) (H0 := HH) hname hfacts hw hm ⟨most.toNat - 0 + 1, ?_⟩ fun H' n' fa' ha' hk0 kp fz => ⟨Frz.tup2 fz (.same _ (zaha _)), fun g hg => (kp g hg).trans (q4 g hg)⟩
  have up : ∀ g, g < nx + 4 → ∀ o, (H1.put n1 o) g = HH g := fun g hg o => by rw [Heap.put_ne _ _ (by omega)]; exact k1 g hg
  refine ⟨?_, ?_, ⟨hn1, by omega⟩, st.keep, .inl ⟨0, rfl, by omega, rfl, a, fs, f, gf, ss', va, sa, ha, l, st, rfl⟩⟩
  · obtain ⟨z, z1, z2⟩ := q2
    exact ⟨z, by rw [up _ (by omega)]; exact z1, z2⟩
  · obtain ⟨z, z1, z2⟩ := q3
    exact ⟨z, by rw [up _ (by omega)]; exact z1, z2⟩
end Go.Proofs.YtobioljjoipimaaDoor
namespace Go.Proofs.YtobioljjoipimaaDoor
open Go Go.RowKit
theorem zaik : eqsT 96 = true := by kernel_rfl
theorem zaij : eqsT 38 = true := by kernel_rfl
set_option maxRecDepth 20000 in
set_option maxHeartbeats 1000000 in
theorem zafj (p : Prg) (h1 : p.codes.length ≤ 4611686018427387904) (h2 : p.words.length ≤ 4611686018427387904) (h3 : ∀ c ∈ p.codes, c.ins.length ≤ 4611686018427387904) : QC Tryd.prog 13 [.agg p.avs, .agg p.avs] (.bool true) := by
  refine QC.of' fun H nx => ?_
  suffices main : ∀ Q : AV → Heap → Nat → Prop, (∀ H' n', Keep nx H' H → Q (.bool true) H' n') → za Tryd.prog 13 [.agg p.avs, .agg p.avs] H nx Q from main _ fun H' n' h => ⟨znl, h⟩
  intro Q hQ
  refine zjl _ _ H nx _ ?_
  have m : nx ≠ nx + 1 := by omega
  simp [zfd, Prg.avs, m]
  generalize hX : Heap.put _ (nx + 1) _ = X
  have x0 : X nx = some (.row 2 [.ro (p.codes.map Cod.avs), .ro (p.words.map fun w => [.str w])]) := by rw [← hX, Heap.put_ne _ _ m, Heap.put_at]
  have x1 : X (nx + 1) = some (.row 2 [.ro (p.codes.map Cod.avs), .ro (p.words.map fun w => [.str w])]) := by rw [← hX, Heap.put_at]
  have xk : Keep nx X H := fun g hg => by rw [← hX, Heap.put_ne _ _ (by omega), Heap.put_ne _ _ (by omega)]
  refine LP.mk (fun k xs H' n' => ∃ i : Nat, xs = [.ptr nx 0, .ptr (nx + 1) 0, .int .i64 p.words.length, .int .i64 i] ∧ i ≤ p.words.length ∧ k = p.words.length - i ∧ X = H' ∧ nx + 2 ≤ n') p.words.length ⟨0, rfl, by omega, by omega, rfl, by omega⟩ ?_
  rintro k xs H' n' ⟨i, rfl, hi, rfl, rfl, hn⟩
  by_cases hlt : i < p.words.length
  · have hadd : IntKind.i64.wrap ((i : Int) + 1) = ((i + 1 : Nat) : Int) := by rw [i64w (by omega)]; rfl
    simp [zcf, hlt, x0, x1, hadd]
    exact ⟨p.words.length - (i + 1), by omega, i + 1, rfl, by omega, rfl, hn⟩
  have hge : ¬ (i : Int) < p.words.length := by omega
  simp [zcf, hge, x0]
  clear hlt hge hi i
  refine LP.mk (fun k xs H' n' => ∃ i : Nat, xs = [.ptr (nx + 1) 0, .ro (p.codes.map Cod.avs), .int .i64 p.codes.length, .int .i64 i] ∧ i ≤ p.codes.length ∧ k = p.codes.length - i ∧ (∀ g, g < nx + 2 → H' g = X g) ∧ nx + 2 ≤ n') p.codes.length ⟨0, rfl, by omega, by omega, fun _ _ => rfl, hn⟩ ?_
  rintro k xs H' n' ⟨i, rfl, hi, rfl, hk, hn⟩
  by_cases hlt : i < p.codes.length
  · have hadd : IntKind.i64.wrap ((i : Int) + 1) = ((i + 1 : Nat) : Int) := by rw [i64w (by omega)]; rfl
    have y1 : H' (nx + 1) = some (.row 2 [.ro (p.codes.map Cod.avs), .ro (p.words.map fun w => [.str w])]) := by rw [hk _ (by omega)]; exact x1
    have ha : p.codes[i]? = some p.codes[i] := List.getElem?_eq_getElem hlt
    have hci := h3 p.codes[i] (List.getElem_mem hlt)
    obtain ⟨_, ha'⟩ := List.getElem?_eq_some_iff.1 ha
    generalize hcc : p.codes[i] = c at *
    clear ha
    have ne_0 : nx ≠ nx + 1 ∧ nx + 1 ≠ nx ∧ nx ≠ n' ∧ n' ≠ nx ∧ nx ≠ n' + 1 ∧ n' + 1 ≠ nx ∧ nx + 1 ≠ n' ∧ n' ≠ nx + 1 ∧ nx + 1 ≠ n' + 1 ∧ n' + 1 ≠ nx + 1 := ⟨by omega, by omega, by omega, by omega, by omega, by omega, by omega, by omega, by omega, by omega⟩
    simp [zcg, hlt, y1, hcc, Cod.avs, ne_0]
    generalize hY : Heap.put _ (n' + 1) _ = Y
    have z0 : Y n' = some (.row 3 [.int .i64 c.params, .int .i64 c.vars, .ro (c.ins.map Ins.avs)]) := by rw [← hY, Heap.put_ne _ _ (by omega), Heap.put_at]
    have z1 : Y (n' + 1) = some (.row 3 [.int .i64 c.params, .int .i64 c.vars, .ro (c.ins.map Ins.avs)]) := by rw [← hY, Heap.put_at]
    have zk : ∀ g, g < nx + 2 → Y g = X g := fun g hg => by rw [← hY, Heap.put_ne _ _ (by omega), Heap.put_ne _ _ (by omega)]; exact hk g hg
    suffices key : ∀ K : J3, (∀ H2 n2, (∀ g, g < nx + 2 → H2 g = X g) → nx + 2 ≤ n2 → K [.ptr (nx + 1) 0, .ro (p.codes.map Cod.avs), .int .i64 p.codes.length, .int .i64 ((i + 1 : Nat) : Int)] H2 n2) →
        LP (zbg Q K) [.ptr (nx + 1) 0, .ptr n' 0, .ptr (n' + 1) 0, .ro (p.codes.map Cod.avs), .int .i64 p.codes.length, .int .i64 i, .int .i64 c.ins.length, .int .i64 0] Y (n' + 2) by
      refine key _ fun H2 n2 h h' => ⟨p.codes.length - (i + 1), by omega, i + 1, rfl, by omega, rfl, h, h'⟩
    intro K hK
    refine LP.mk (fun k xs H' n2 => ∃ j : Nat, xs = [.ptr (nx + 1) 0, .ptr n' 0, .ptr (n' + 1) 0, .ro (p.codes.map Cod.avs), .int .i64 p.codes.length, .int .i64 i, .int .i64 c.ins.length, .int .i64 j] ∧ j ≤ c.ins.length ∧ k = c.ins.length - j ∧ Y = H' ∧ n' + 2 ≤ n2) c.ins.length ⟨0, rfl, by omega, by omega, rfl, by omega⟩ ?_
    rintro k xs H2 n2 ⟨j, rfl, hj, rfl, rfl, hn2⟩
    by_cases hjl : j < c.ins.length
    · have hadj : IntKind.i64.wrap ((j : Int) + 1) = ((j + 1 : Nat) : Int) := by rw [i64w (by omega)]; rfl
      generalize hii : c.ins[j] = ii
      simp [zbg, hjl, z0, z1, hii, Ins.avs, hadj, zaik]
      exact ⟨c.ins.length - (j + 1), by omega, j + 1, rfl, by omega, rfl, hn2⟩
    · have hjg : ¬ (j : Int) < c.ins.length := by omega
      simp [zbg, hjg, hadd]
      exact hK _ _ zk (by omega)
  · have hge : ¬ (i : Int) < p.codes.length := by omega
    simp [zcg, hge]
    exact hQ _ _ fun g hg => (hk g (by omega)).trans (xk g hg)
set_option maxRecDepth 20000 in
set_option maxHeartbeats 1000000 in
theorem zafl (a : Agt) (h1 : a.prog.codes.length ≤ 4611686018427387904) (h2 : a.prog.words.length ≤ 4611686018427387904) (h3 : ∀ c ∈ a.prog.codes, c.ins.length ≤ 4611686018427387904) (h4 : a.frames.length ≤ 4611686018427387904) (h5 : a.heap.length ≤ 4611686018427387904)
    (h6 : ∀ f ∈ a.frames, f.vars.length ≤ 4611686018427387904 ∧ f.stack.length ≤ 4611686018427387904) : QC Tryd.prog 24 [.agg a.avs, .agg a.avs] (.bool true) := by
  refine QC.of' fun H nx => ?_
  suffices main : ∀ Q : AV → Heap → Nat → Prop, (∀ H' n', Keep nx H' H → Q (.bool true) H' n') → za Tryd.prog 24 [.agg a.avs, .agg a.avs] H nx Q from main _ fun H' n' h => ⟨znl, h⟩
  intro Q hQ
  refine zlr _ _ H nx _ ?_
  have m : nx ≠ nx + 1 := by omega
  simp [zga, Agt.avs, m, zaij]
  generalize hX : Heap.put _ (nx + 1) _ = X
  have x0 : X nx = some (.row 9 a.avs) := by rw [← hX, Heap.put_ne _ _ m, Heap.put_at]; rfl
  have x1 : X (nx + 1) = some (.row 9 a.avs) := by rw [← hX, Heap.put_at]; rfl
  have xk : Keep nx X H := fun g hg => by rw [← hX, Heap.put_ne _ _ (by omega), Heap.put_ne _ _ (by omega)]
  clear hX
  refine QC.call (zafj a.prog h1 h2 h3) ?_
  have e4 : a.avs[4]'(by simp [Agt.avs]) = .ro (a.frames.map Frm.avs) := rfl
  have e5 : a.avs[5]'(by simp [Agt.avs]) = .ro (a.heap.map Cl.avs) := rfl
  have al : a.avs.length = 9 := rfl
  have sc := zafk a.heap a.heap h5
  rw [decide_eq_true rfl] at sc
  simp [zgb, x0, x1, e4, e5, al]
  refine QC.call sc ?_
  simp [zgc, x0, x1, e4, al]
  refine LP.mk (fun k xs H' n' => ∃ i : Nat, xs = [.ptr (nx + 1) 0, .ro (a.frames.map Frm.avs), .int .i64 a.frames.length, .int .i64 i] ∧ i ≤ a.frames.length ∧ k = a.frames.length - i ∧ (∀ g, g < nx + 2 → H' g = X g) ∧ nx + 2 ≤ n') a.frames.length ⟨0, rfl, by omega, by omega, fun _ _ => rfl, by omega⟩ ?_
  rintro k xs H' n' ⟨i, rfl, hi, rfl, hk, hn⟩
  by_cases hlt : i < a.frames.length
  · have hadd : IntKind.i64.wrap ((i : Int) + 1) = ((i + 1 : Nat) : Int) := by rw [i64w (by omega)]; rfl
    have y1 : H' (nx + 1) = some (.row 9 a.avs) := by rw [hk _ (by omega)]; exact x1
    have hci := h6 a.frames[i] (List.getElem_mem hlt)
    generalize hcc : a.frames[i] = c at *
    have sv := zwy c.vars c.vars hci.1
    have ss := zwy c.stack c.stack hci.2
    rw [decide_eq_true rfl] at sv ss
    have ne_1 : nx ≠ nx + 1 ∧ nx + 1 ≠ nx ∧ nx ≠ n' ∧ n' ≠ nx ∧ nx ≠ n' + 1 ∧ n' + 1 ≠ nx ∧ nx + 1 ≠ n' ∧ n' ≠ nx + 1 ∧ nx + 1 ≠ n' + 1 ∧ n' + 1 ≠ nx + 1 := ⟨by omega, by omega, by omega, by omega, by omega, by omega, by omega, by omega, by omega, by omega⟩
    simp [zcz, hlt, y1, e4, al, hcc, Frm.avs, ne_1]
    generalize hY : Heap.put _ (n' + 1) _ = Y
    have z0 : Y n' = some (.row 4 [.int .i64 c.fn, .int .i64 c.at_, .ro (c.vars.map Val.avs), .ro (c.stack.map Val.avs)]) := by rw [← hY, Heap.put_ne _ _ (by omega), Heap.put_at]
    have z1 : Y (n' + 1) = some (.row 4 [.int .i64 c.fn, .int .i64 c.at_, .ro (c.vars.map Val.avs), .ro (c.stack.map Val.avs)]) := by rw [← hY, Heap.put_at]
    refine QC.call sv ?_
    simp [zgd, z0, z1]
    refine QC.call ss ?_
    simp [zge, hadd]
    refine ⟨a.frames.length - (i + 1), by omega, i + 1, rfl, by omega, rfl, fun g hg => ?_, by omega⟩
    rw [← hY, Heap.put_ne _ _ (by omega), Heap.put_ne _ _ (by omega)]; exact hk g hg
  · have hge : ¬ (i : Int) < a.frames.length := by omega
    simp [zcz, hge]
    exact hQ _ _ fun g hg => (hk g (by omega)).trans (xk g hg)
end Go.Proofs.YtobioljjoipimaaDoor
namespace Go.Proofs.YtobioljjoipimaaDoor
open Go Go.RowKit
structure zajo (H : Heap) (lo n gf : Nat) (cs : List AV) (fs : List Frm) (ss : List (AV × AV)) (f : Frm) (va sa : AV) : Prop where
  row : H gf = some (.row 4 cs)
  cs' : cs.take ((fs.length + 1) * 4) = frow fs ss ++ [.int .i64 f.fn, .int .i64 f.at_, va, sa]
  len : (fs.length + 1) * 4 ≤ cs.length
  frs : zai H fs ss
  sv : Slot H 3 f.vars.length (rowV f.vars) va
  st : Slot H 3 f.stack.length (rowV f.stack) sa
  bd : ∀ g, (g = gf ∨ g ∈ owns ss ∨ g ∈ own va ∨ g ∈ own sa) → lo ≤ g ∧ g < n
  ns : gf ∉ own sa ∧ gf ∉ own va ∧ gf ∉ owns ss ∧ (∀ g ∈ own sa, g ∉ own va ∧ g ∉ owns ss) ∧ ∀ g ∈ own va, g ∉ owns ss
theorem zjc.last {H : Heap} {lo n : Nat} {fs : List Frm} {f : Frm} {ss : List (AV × AV)} {fa ha : AV} {h : List Cl} (ow : zjc H lo n (fs ++ [f]) ss fa h ha) :
    ∃ gf cs ss' va sa, fa = .slc gf 0 (fs.length + 1) ∧ ss = ss' ++ [(va, sa)] ∧ zajo H lo n gf cs fs ss' f va sa ∧ ∀ g ∈ own ha, g ≠ gf ∧ g ∉ own va ∧ g ∉ own sa ∧ g ∉ owns ss' := by
  obtain ⟨f1, f2, f3, f4, f5⟩ := ow
  have hl : ss.length = fs.length + 1 := by rw [f1.1]; simp
  obtain ⟨ss', t, rfl⟩ : ∃ ss' t, ss = ss' ++ [t] := by
    rcases List.eq_nil_or_concat ss with rfl | ⟨ss', t, h⟩
    · simp at hl
    · exact ⟨ss', t, by simpa using h⟩
  rcases f2 with ⟨h0, _⟩ | ⟨gf, cs, rfl, c1, c2, c3⟩
  · simp at h0
  obtain ⟨l1, l2, l3⟩ := f1.last
  have ef : (fs ++ [f]).length = fs.length + 1 := by simp
  rw [ef] at c2 c3 f4 f5
  rw [zby l1.1] at c2
  have es := zbv ss' t
  have e0 : own (AV.slc gf 0 (fs.length + 1)) = [gf] := rfl
  rw [es, e0, List.singleton_append, List.nodup_cons] at f4
  simp only [List.mem_append, not_or, List.nodup_append] at f4
  obtain ⟨⟨a1, a2, a3, a4⟩, n1, ⟨n2, ⟨n3, n4, n5⟩, n6⟩, n7⟩ := f4
  rw [es, e0] at f5
  refine ⟨gf, cs, ss', t.1, t.2, by rw [ef], rfl, ⟨c1, c2, c3, l1, l2, l3, fun g hg => f5 g ?_, ⟨a4, a3, a2, fun g hg => ⟨fun h => n5 g h g hg rfl, fun h => n6 g h g (.inr hg) rfl⟩, fun g hg h => n6 g h g (.inl hg) rfl⟩⟩, fun g hg => ⟨fun e => a1 (e ▸ hg), fun h => n7 g hg g (.inr (.inl h)) rfl, fun h => n7 g hg g (.inr (.inr h)) rfl, fun h => n7 g hg g (.inl h) rfl⟩⟩
  simp only [List.mem_append, List.mem_singleton]
  rcases hg with h | h | h | h
  · exact .inl h
  · exact .inr (.inr (.inl h))
  · exact .inr (.inr (.inr (.inl h)))
  · exact .inr (.inr (.inr (.inr h)))
end Go.Proofs.YtobioljjoipimaaDoor
set_option maxRecDepth 8000
namespace Go.Proofs.YtobioljjoipimaaDoor
open Go Go.RowKit
def zto (H : Heap) (G : Nat → Prop) (xs ys : List AV) : Prop := ys.length = xs.length ∧ ∀ (j : Nat) (v u : AV), xs[j]? = some v → ys[j]? = some u → FrzP H G v u
theorem zto.nil {H : Heap} {G : Nat → Prop} : zto H G [] [] := ⟨rfl, fun j v u h => by simp at h⟩
theorem zto.cons {H : Heap} {G : Nat → Prop} {v u : AV} {xs ys : List AV} (h : FrzP H G v u) (k : zto H G xs ys) : zto H G (v :: xs) (u :: ys) := by
  refine ⟨by simp [k.1], fun j a b ha hb => ?_⟩
  cases j with
  | zero => simp at ha hb; subst ha; subst hb; exact h
  | succ j => exact k.2 j a b (by simpa using ha) (by simpa using hb)
end Go.Proofs.YtobioljjoipimaaDoor
