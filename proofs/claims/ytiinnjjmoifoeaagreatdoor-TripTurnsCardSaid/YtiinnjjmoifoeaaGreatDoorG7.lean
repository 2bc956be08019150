/- What is right never gets stuck: the agent behind a step is right. Right agents, that go on or are away: what is asked of them, and how they pass into one another. Cells numbered as they are come to: plain laws. Cells numbered anew: what stays. Agents as bytes, and back: what was written comes back; no part of it does. Packets: the plain functions, and that what is packed comes back. Packets that laws are handed, read as data. What is to be shown of each function, written out. What is to be shown of each function, written out. What is to be shown of each function, written out. What is to be shown of each function, written out. Bits of bytes and of 64 bits, as sums. Programs, and agents, as they lie in memory. Which kinds of things are compared whole. A call that changes what it is handed by address, where the order is drawn. Cells numbered as they are come to: the program's closure. Rows that are read: by value, or owned. Rows copied. Cells numbered as they are come to: the closure, where the order is drawn. Cells numbered as they are come to: the program's function. Cells numbered as they are come to: what holds between the closure's calls. Cells numbered as they are come to: the program's function. Cells numbered as they are come to: the program's function, all of it. Values that name no memory; cells that may be. Rows that are built by appending. What a call has made is read by value from now on, in part. The machine in memory: who owns what. The machine in memory: what changes, and what stays. A call that changes what it is handed by address, where the order is drawn: what it leaves names no more than what was there named. Cutting and copying rows. -/
import Derived.Test.YtiinnjjmoifoeaaGreatDoorG6
import Derived.Test.YtiinnjjmoifoeaaGreatDoorG5
import Derived.WalkKit
import Derived.WalkSmall
set_option linter.unusedSimpArgs false
set_option linter.unusedVariables false
set_option maxRecDepth 8000
namespace Go.Proofs.YtiinnjjmoifoeaaGreatDoor
namespace VM
theorem hts_len {p : Prg} {f : Frm} (hp : program p = 0) (hc : f.fn.toNat < p.codes.length) : (hts p f).length = (codeAt p f.fn).ins.length := by
  obtain ⟨pr, _⟩ := zet hp
  obtain ⟨_, calm, hz⟩ := pr _ (code_mem hc)
  exact (zko calm hz).1
theorem FrOk.mono {p : Prg} {N M : Nat} {f : Frm} (h : FrOk p N f) (hn : N ≤ M) : FrOk p M f :=
  ⟨h.fn0, h.at0, h.code, h.ins, h.vars, fun v hv => (h.vv v hv).mono (by omega), fun v hv => (h.sv v hv).mono (by omega)⟩
theorem Live.on {a : Agt} {fs : List Frm} {f : Frm} (l : Live a fs f) {k : Int} {vs st : List Val} {h : List Cl} {m : Pmt} (hk : there (hts a.prog f) (k, st.length)) (hvl : vs.length = f.vars.length) (hv : ∀ v ∈ vs, WrongOk v h.length) (hs : ∀ v ∈ st, WrongOk v h.length)
    (hh : a.heap.length ≤ h.length) (hc : ∀ c ∈ h, WrongOk c.left h.length ∧ WrongOk c.right h.length) (m1 : 0 ≤ m.fuel ∧ m.fuel ≤ 2000) (m2 : 0 ≤ m.room) (m3 : 0 ≤ m.hops ∧ m.hops ≤ 12) (hl : (h.length : Int) + m.room ≤ 60) :
    Live { a with frames := fs ++ [⟨f.fn, k, vs, st⟩], heap := h, permit := m } fs ⟨f.fn, k, vs, st⟩ := by
  have ok := l.ok f (by simp)
  obtain ⟨k0, k1⟩ := hk
  have klt := (List.getElem?_eq_some_iff.1 k1).1
  rw [hts_len l.prog ok.code] at klt
  refine ⟨rfl, l.prog, l.id, l.trip, m1, m2, m3, l.flen, hl, fun g hg => ?_, l.chain, k1, hc⟩
  rcases List.mem_append.1 hg with hg | hg
  · exact (l.ok g (by simp [hg])).mono hh
  · simp only [List.mem_singleton] at hg
    subst hg
    exact ⟨ok.fn0, k0, ok.code, klt, by have := ok.vars; simp only; omega, hv, hs⟩
theorem WChain.last {p : Prg} {gs : List Frm} {g : Frm} {fn : Int} (h : WChain p (gs ++ [g]) fn) : WChain p gs g.fn ∧ Waits p g fn := by
  generalize hl : gs ++ [g] = l at h
  cases h with
  | nil => simp at hl
  | snoc gs' g' _ h1 h2 =>
    obtain ⟨rfl, h⟩ := List.append_inj' hl rfl
    cases h
    exact ⟨h1, h2⟩
theorem Now.go {p : Prg} {f : Frm} {i : Ins} (n : Now p f i) (h1 : i.op ≠ 15) (h2 : i.op ≠ 18) : there (hts p f) (f.at_ + 1, after i f.stack.length) :=
  n.next _ (by unfold succs; simp [h1, h2])
end VM
end Go.Proofs.YtiinnjjmoifoeaaGreatDoor
set_option maxRecDepth 8000
namespace Go.Proofs.YtiinnjjmoifoeaaGreatDoor
namespace VM
section
variable {a : Agt} {k : Nat} {f : Frm}
end
end VM
end Go.Proofs.YtiinnjjmoifoeaaGreatDoor
set_option maxRecDepth 8000
namespace Go.Proofs.YtiinnjjmoifoeaaGreatDoor
namespace VM
def OkV (N : Nat) (v : Val) : Prop := v.kind = 2 → 0 ≤ v.n ∧ v.n.toNat < N
structure Good (N : Nat) (o : List Nat) : Prop where
  nd : o.Nodup
  lt : ∀ n ∈ o, n < N
theorem Good.len {N : Nat} {o : List Nat} (h : Good N o) : o.length ≤ N := by
  have := h.nd.length_le_of_subset (l₂ := List.range N) (fun n hn => List.mem_range.2 (h.lt n hn))
  simpa using this
theorem Good.nil {N : Nat} : Good N [] := ⟨List.nodup_nil, fun n h => by simp at h⟩
theorem Good.meet {N : Nat} {o : List Nat} {v : Val} (h : Good N o) (hv : OkV N v) : Good N (meet o v) := by
  unfold VM.meet
  split
  · rename_i hc
    refine ⟨?_, fun n hn => ?_⟩
    · rw [List.nodup_append]
      exact ⟨h.nd, by simp, fun a ha b hb e => hc.2 (by simp at hb; rw [← hb, ← e]; exact ha)⟩
    · rcases List.mem_append.1 hn with h' | h'
      · exact h.lt n h'
      · simp at h'; rw [h']; exact (hv hc.1).2
  · exact h
theorem meet_pre (o : List Nat) (v : Val) : o <+: meet o v := by
  unfold meet; split
  · exact List.prefix_append _ _
  · exact List.prefix_refl _
def In (o : List Nat) (v : Val) : Prop := v.kind = 2 → v.n.toNat ∈ o
theorem In.pre {o F : List Nat} {v : Val} (h : In o v) (p : o <+: F) : In F v := fun hk => p.subset (h hk)
end VM
end Go.Proofs.YtiinnjjmoifoeaaGreatDoor
set_option maxRecDepth 8000
namespace Go.Proofs.YtiinnjjmoifoeaaGreatDoor
namespace VM
end VM
end Go.Proofs.YtiinnjjmoifoeaaGreatDoor
set_option maxRecDepth 8000
namespace Go.Proofs.YtiinnjjmoifoeaaGreatDoor
namespace VM
def Reads {α : Type} (m : Rd α) (B : Str) (a : α) : Prop := ∀ r, m (B ++ r) = .ok a r
theorem Reads.pure {α : Type} (a : α) : Reads (Rd.pure a) [] a := fun _ => rfl
theorem Reads.bind {α β : Type} {m : Rd α} {k : α → Rd β} {B C : Str} {a : α} {b : β} (h : Reads m B a) (h2 : Reads (k a) C b) : Reads (m.bind k) (B ++ C) b := fun r => by
  unfold Rd.bind
  rw [List.append_assoc, h (C ++ r)]
  exact h2 r
theorem Reads.bind0 {α β : Type} {m : Rd α} {k : α → Rd β} {B : Str} {a : α} {b : β} (h : Reads m B a) (h2 : Reads (k a) [] b) : Reads (m.bind k) B b := by
  have := h.bind h2
  rwa [List.append_nil] at this
theorem reads_num {n : Int} (h : -9223372036854775808 ≤ n ∧ n ≤ 9223372036854775807) : Reads rNum (WM.num n) n := fun r => by
  unfold rNum
  rw [WM.getNum_num n h.1 h.2 r]
  simp
theorem reads_text {s : Str} {most : Int} (h : (s.length : Int) ≤ most) (hm : most ≤ 9223372036854775807) : Reads (rText most) (textB s) s := fun r => by
  have hg : WM.getNum (textB s ++ r) = ((s.length : Int), ((WM.num s.length).length : Int), 0) := by
    unfold textB
    rw [List.append_assoc]
    exact WM.getNum_num (s.length : Int) (by omega) (by omega) (s ++ r)
  have ht : WM.getText (textB s ++ r) most = (s, ((WM.num s.length).length : Int) + s.length, 0) := by
    unfold WM.getText
    rw [hg]
    simp only
    rw [if_neg (by simp), if_neg (by omega), if_neg (by simp [textB]; omega)]
    simp [textB]
  unfold rText
  rw [ht]
  simp only [ne_eq, not_true_eq_false, if_false]
  congr 1
  have : ((((WM.num s.length).length : Int) + s.length).toNat) = (textB s).length := by simp [textB]; omega
  rw [this, List.drop_left]
theorem reads_many {α : Type} {m : Rd α} {enc : α → Str} : ∀ {l : List α}, (∀ x ∈ l, Reads m (enc x) x) → Reads (rMany m l.length) (l.flatMap enc) l
  | [], _ => Reads.pure []
  | x :: r, h => by
    have h1 := h x (by simp)
    have h2 := reads_many (l := r) fun y hy => h y (by simp [hy])
    rw [List.flatMap_cons]
    exact h1.bind (h2.bind0 (Reads.pure _))
end VM
end Go.Proofs.YtiinnjjmoifoeaaGreatDoor
set_option maxRecDepth 8000
namespace Go.Proofs.YtiinnjjmoifoeaaGreatDoor
open Go Go.RowKit
structure Pkt where
  kind : Int
  frm : Int
  to : Int
  id : Int
  trip : Int
  data : Str
def Pkt.avs (x : Pkt) : List AV := [.int .i64 x.kind, .int .i64 x.frm, .int .i64 x.to, .int .i64 x.id, .int .i64 x.trip, .ro (x.data.map fun c => [.int .u8 (c.toNat : Int)])]
structure Pkt.ok (x : Pkt) : Prop where
  kind : 1 ≤ x.kind ∧ x.kind ≤ 3
  frm : 0 ≤ x.frm ∧ x.frm < 4
  to : 0 ≤ x.to ∧ x.to < 4
  id : 0 ≤ x.id
  trip : 0 ≤ x.trip
instance (x : Pkt) : Decidable x.ok := decidable_of_iff ((1 ≤ x.kind ∧ x.kind ≤ 3) ∧ (0 ≤ x.frm ∧ x.frm < 4) ∧ (0 ≤ x.to ∧ x.to < 4) ∧ 0 ≤ x.id ∧ 0 ≤ x.trip) ⟨fun ⟨a, b, c, d, e⟩ => ⟨a, b, c, d, e⟩, fun ⟨a, b, c, d, e⟩ => ⟨a, b, c, d, e⟩⟩
namespace VM
def pk0 : Pkt := ⟨0, 0, 0, 0, 0, []⟩
def nums (l : List Int) : Str := l.flatMap WM.num
def pkB (x : Pkt) : Str := nums [x.kind, x.frm, x.to, x.id, x.trip] ++ textB x.data
def packet (x : Pkt) : Str := withSum (pkB x)
def parseP2 (b : Str) (l : List Int) (r : Str) : Pkt × Int :=
  let t := WM.getText r r.length
  if t.2.2 ≠ 0 then (pk0, t.2.2)
  else
    let g := WM.getNum (r.drop t.2.1.toNat)
    if g.2.2 ≠ 0 then (pk0, g.2.2)
    else if g.2.1 ≠ (r.length : Int) - t.2.1 ∨ g.1 ≠ ((WM.sum (b.take (b.length - g.2.1.toNat)) : Nat) : Int) then (pk0, 2)
    else
      let x : Pkt := ⟨l.getD 0 0, l.getD 1 0, l.getD 2 0, l.getD 3 0, l.getD 4 0, t.1⟩
      if x.ok then (x, 0) else (pk0, 3)
def parseP (b : Str) : Pkt × Int := match rMany rNum 5 b with
  | .no e => (pk0, e)
  | .ok l r => parseP2 b l r
theorem sum_lt (b : Str) : WM.sum b < 4294967296 := by
  have : ∀ (l : Str) (s : Nat), s < 4294967296 → l.foldl WM.sumStep s < 4294967296 := by
    intro l
    induction l with
    | nil => intro s h; exact h
    | cons c l ih => intro s _; exact ih _ (by unfold WM.sumStep; omega)
  exact this b _ (by omega)
theorem parse_packet {x : Pkt} (h : x.ok) (h1 : x.id ≤ 9223372036854775807) (h2 : x.trip ≤ 9223372036854775807) (hd : x.data.length ≤ 4611686018427387904) : parseP (packet x) = (x, 0) := by
  obtain ⟨a1, a2, a3, a4, a5⟩ := h
  have r5 : Reads (rMany rNum 5) (nums [x.kind, x.frm, x.to, x.id, x.trip]) [x.kind, x.frm, x.to, x.id, x.trip] := by
    refine reads_many (l := [x.kind, x.frm, x.to, x.id, x.trip]) fun n hn => reads_num ?_
    simp only [List.mem_cons, List.not_mem_nil, or_false] at hn
    rcases hn with rfl | rfl | rfl | rfl | rfl <;> omega
  have sl := sum_lt (pkB x)
  generalize hS : (WM.sum (pkB x) : Int) = S at *
  have s0 : 0 ≤ S ∧ S < 4294967296 := by omega
  have e : packet x = nums [x.kind, x.frm, x.to, x.id, x.trip] ++ (textB x.data ++ WM.num S) := by
    unfold packet withSum; rw [hS]; unfold pkB; simp
  unfold parseP
  rw [e, r5]
  simp only [parseP2]
  have rt := reads_text (s := x.data) (most := ((textB x.data ++ WM.num S).length : Int)) (by unfold textB; simp only [List.length_append]; omega) (by
    have : (WM.num (x.data.length : Int)).length ≤ 10 := WM.enc_length 9 _
    have : (WM.num S).length ≤ 10 := WM.enc_length 9 _
    unfold textB; simp only [List.length_append]; omega) (WM.num S)
  unfold rText at rt
  split at rt
  · cases rt
  rename_i ht
  simp only [R.ok.injEq] at rt
  obtain ⟨t1, t2⟩ := rt
  have g := WM.getNum_num S (by omega) (by omega) []
  rw [List.append_nil] at g
  have tb := WM.getNum_bounds (textB x.data ++ WM.num S)
  have n0 : 0 ≤ (WM.getText (textB x.data ++ WM.num S) ((textB x.data ++ WM.num S).length : Int)).2.1 := by
    unfold WM.getText
    split
    · simp
    split
    · simp
    split
    · simp
    · simp only; omega
  generalize WM.getText (textB x.data ++ WM.num S) ((textB x.data ++ WM.num S).length : Int) = T at *
  have tl : T.2.1 = ((textB x.data).length : Int) := by
    have t3 := congrArg List.length t2
    rw [List.length_drop, List.length_append] at t3
    have n1 : 1 ≤ (WM.num S).length := by
      have := WM.enc_ne 9 (WM.zig S)
      unfold WM.num
      cases hh : WM.enc 9 (WM.zig S) with
      | nil => exact absurd hh this
      | cons _ _ => simp
    omega
  have ht' : T.2.2 = 0 := by omega
  simp only [t1, t2, ht', g]
  rw [tl]
  have hb : (nums [x.kind, x.frm, x.to, x.id, x.trip] ++ (textB x.data ++ WM.num S)).take ((nums [x.kind, x.frm, x.to, x.id, x.trip] ++ (textB x.data ++ WM.num S)).length - (WM.num S).length) = pkB x := by
    rw [← List.append_assoc]
    have : (nums [x.kind, x.frm, x.to, x.id, x.trip] ++ textB x.data ++ WM.num S).length - (WM.num S).length = (nums [x.kind, x.frm, x.to, x.id, x.trip] ++ textB x.data).length := by rw [List.length_append]; omega
    rw [this, List.take_left']
    · rfl
    · rfl
  have hok : Pkt.ok ⟨x.kind, x.frm, x.to, x.id, x.trip, x.data⟩ := ⟨a1, a2, a3, a4, a5⟩
  rw [if_neg (by simp), if_neg (by simp), if_neg (by
    rw [show ((WM.num S).length : Int).toNat = (WM.num S).length from rfl, hb, hS]
    simp only [List.length_append]
    simp; omega)]
  simp only [List.getD_cons_zero, List.getD_cons_succ]
  rw [if_pos hok]
theorem parseP_err {b : Str} (h : (parseP b).2 ≠ 0) : (parseP b).1 = pk0 := by
  unfold parseP at h ⊢
  split
  · rfl
  · rename_i l r hr
    rw [hr] at h
    simp only [parseP2] at h ⊢
    split
    · rfl
    split
    · rfl
    split
    · rfl
    split
    · rename_i h1 h2 h3 h4
      rw [if_neg h1, if_neg h2, if_neg h3, if_pos h4] at h
      simp at h
    · rfl
theorem rNum_ok {b r : Str} {n : Int} (h : rNum b = .ok n r) : WM.num n ++ r = b ∧ (-9223372036854775808 ≤ n ∧ n ≤ 9223372036854775807) := by
  unfold rNum at h
  split at h
  · cases h
  rename_i he
  have he : (WM.getNum b).2.2 = 0 := by omega
  obtain ⟨k, hk, hk1, hn, e⟩ := WM.getNum_ok b he
  have i64 := WM.getNum_i64 b he
  cases h
  rw [e, hn]
  exact ⟨List.take_append_drop _ _, i64⟩
theorem rNums_ok : ∀ (k : Nat) {b r : Str} {l : List Int}, rMany rNum k b = .ok l r → nums l ++ r = b ∧ l.length = k ∧ ∀ n ∈ l, -9223372036854775808 ≤ n ∧ n ≤ 9223372036854775807 := by
  intro k
  induction k with
  | zero => intro b r l h; simp only [rMany, Rd.pure, R.ok.injEq] at h; obtain ⟨rfl, rfl⟩ := h; simp [nums]
  | succ k ih =>
    intro b r l h
    simp only [rMany, Rd.bind] at h
    split at h
    · rename_i n r1 h1
      split at h
      · rename_i l2 r2 h2
        simp only [Rd.pure, R.ok.injEq] at h
        obtain ⟨rfl, rfl⟩ := h
        obtain ⟨e1, i1⟩ := rNum_ok h1
        obtain ⟨e2, l2, i2⟩ := ih h2
        refine ⟨?_, by simp [l2], fun m hm => ?_⟩
        · rw [← e1, ← e2]; simp [nums]
        · rcases List.mem_cons.mp hm with rfl | hm
          · exact i1
          · exact i2 m hm
      · cases h
    · cases h
theorem parseP_ok {b : Str} {x : Pkt} (h : parseP b = (x, 0)) : packet x = b ∧ x.ok := by
  unfold parseP at h
  split at h
  · rename_i e he
    exfalso
    have : ∀ (k : Nat) (b : Str) (e : Int), rMany rNum k b = .no e → e ≠ 0 := by
      intro k
      induction k with
      | zero => intro b e h; cases h
      | succ k ih =>
        intro b e h
        simp only [rMany, Rd.bind] at h
        split at h
        · split at h
          · cases h
          · rename_i e' h2; cases h; exact ih _ _ h2
        · rename_i e' h1
          cases h
          unfold rNum at h1
          split at h1
          · rename_i h0; cases h1; exact h0
          · cases h1
    have h0 := this 5 b e he
    exact h0 (congrArg Prod.snd h)
  rename_i l r hr
  obtain ⟨e1, l5, _⟩ := rNums_ok 5 hr
  simp only [parseP2] at h
  split at h
  · rename_i h1; exact absurd (congrArg Prod.snd h) h1
  split at h
  · rename_i h1; exact absurd (congrArg Prod.snd h) h1
  split at h
  · exact absurd (congrArg Prod.snd h) (by simp)
  split at h
  · rename_i h1 h2 h3 h4
    have hx := (congrArg Prod.fst h)
    simp only at hx
    subst hx
    refine ⟨?_, h4⟩
    have h1 : (WM.getText r r.length).2.2 = 0 := by omega
    have h2 : (WM.getNum (r.drop (WM.getText r r.length).2.1.toNat)).2.2 = 0 := by omega
    have hg := WM.getNum_bounds r
    -- the text
    have ht : textB (WM.getText r r.length).1 ++ r.drop (WM.getText r r.length).2.1.toNat = r ∧ (WM.getText r r.length).2.1.toNat ≤ r.length ∧ 0 ≤ (WM.getText r r.length).2.1 := by
      have h1' := h1
      unfold WM.getText at h1' ⊢
      split at h1'
      · rename_i q; exact absurd h1' q
      rename_i q0
      rw [if_neg q0]
      split at h1'
      · simp at h1'
      rename_i q1
      rw [if_neg q1]
      split at h1'
      · simp at h1'
      rename_i q2
      rw [if_neg q2]
      have q0 : (WM.getNum r).2.2 = 0 := by omega
      obtain ⟨k, hk, hk1, hn, e⟩ := WM.getNum_ok r q0
      simp only [hn] at *
      have q3 : ((k : Int) + (WM.getNum r).1).toNat = k + (WM.getNum r).1.toNat := by omega
      rw [q3, show (k : Int).toNat = k from rfl]
      refine ⟨?_, by omega, by omega⟩
      unfold textB
      have ql : ((r.drop k).take (WM.getNum r).1.toNat).length = (WM.getNum r).1.toNat := by rw [List.length_take, List.length_drop]; omega
      rw [ql, show (((WM.getNum r).1.toNat : Nat) : Int) = (WM.getNum r).1 by omega, e, ← List.drop_drop, List.append_assoc, List.take_append_drop, List.take_append_drop]
    obtain ⟨t1, t2, t3⟩ := ht
    obtain ⟨k, hk, hk1, hn, e⟩ := WM.getNum_ok _ h2
    rw [List.length_drop] at hk
    have h3 : ¬ ((WM.getNum (r.drop (WM.getText r r.length).2.1.toNat)).2.1 ≠ (r.length : Int) - (WM.getText r r.length).2.1) ∧ ¬ ((WM.getNum (r.drop (WM.getText r r.length).2.1.toNat)).1 ≠ ((WM.sum (b.take (b.length - (WM.getNum (r.drop (WM.getText r r.length).2.1.toNat)).2.1.toNat)) : Nat) : Int)) := not_or.mp h3
    obtain ⟨g1, g2⟩ := h3
    have g1 := Decidable.not_not.mp g1
    have g2 := Decidable.not_not.mp g2
    generalize hT : WM.getText r r.length = T at *
    generalize hG : WM.getNum (r.drop T.2.1.toNat) = G at *
    rw [hn] at g1 g2
    rw [g2, List.take_of_length_le (l := r.drop T.2.1.toNat) (by rw [List.length_drop]; omega)] at e
    have lb : b.length = (nums l).length + r.length := by rw [← e1, List.length_append]
    match l, l5 with
    | [a1, a2, a3, a4, a5], _ =>
      have hp : pkB ⟨a1, a2, a3, a4, a5, T.1⟩ = b.take (b.length - k) := by
        have e4 : nums [a1, a2, a3, a4, a5] ++ textB T.1 ++ r.drop T.2.1.toNat = b := by rw [List.append_assoc, t1, e1]
        have e5 : b.length - k = (nums [a1, a2, a3, a4, a5] ++ textB T.1).length := by
          have := congrArg List.length e4
          rw [List.length_append, List.length_drop] at this
          omega
        rw [e5, ← e4, List.take_left' rfl]
        rfl
      show packet ⟨a1, a2, a3, a4, a5, T.1⟩ = b
      unfold packet withSum
      rw [show (k : Int).toNat = k from rfl, ← hp] at e
      rw [e]
      have e4 : pkB ⟨a1, a2, a3, a4, a5, T.1⟩ ++ r.drop T.2.1.toNat = b := by
        show nums [a1, a2, a3, a4, a5] ++ textB T.1 ++ r.drop T.2.1.toNat = b
        rw [List.append_assoc, t1, e1]
      exact e4
  · exact absurd (congrArg Prod.snd h) (by simp)
end VM
end Go.Proofs.YtiinnjjmoifoeaaGreatDoor
set_option maxRecDepth 8000
namespace Go.Proofs.YtiinnjjmoifoeaaGreatDoor
open Go Go.RowKit
theorem zpm : Tryz.prog.cellsOf 24 = 6 := by kernel_rfl
def Pkt.rd (x : Pkt) : Prop := zat x.kind ∧ zat x.frm ∧ zat x.to ∧ zat x.id ∧ zat x.trip ∧ rdL (fun _ => True) (Tryz.prog.bytesOf 5) x.data
theorem oPkt : OpA Tryz.prog 24 Pkt.avs Pkt.rd :=
  ⟨fun _ _ => zpm.symm, fun enc w base sp held fuel cs x h hw => by
    obtain ⟨hl, hf⟩ := zoq Tryz.underlying24 h hw
    rw [zpm] at hl
    obtain ⟨x0, h0, r0⟩ := hf 0 3 0 1 (by kernel_rfl) cInt oInt
    obtain ⟨x1, h1, r1⟩ := hf 1 3 1 1 (by kernel_rfl) cInt oInt
    obtain ⟨x2, h2, r2⟩ := hf 2 3 2 1 (by kernel_rfl) cInt oInt
    obtain ⟨x3, h3, r3⟩ := hf 3 3 3 1 (by kernel_rfl) cInt oInt
    obtain ⟨x4, h4, r4⟩ := hf 4 3 4 1 (by kernel_rfl) cInt oInt
    obtain ⟨x5, h5, r5⟩ := hf 5 22 5 1 (by kernel_rfl) zqx zxu
    match cs, hl with
    | [c0, c1, c2, c3, c4, c5], _ => exact ⟨⟨x0, x1, x2, x3, x4, x5⟩, ⟨h0, h1, h2, h3, h4, h5⟩, fun ρ A => ((r0 ρ A).append ((r1 ρ A).append ((r2 ρ A).append ((r3 ρ A).append ((r4 ρ A).append (r5 ρ A))))))⟩⟩
end Go.Proofs.YtiinnjjmoifoeaaGreatDoor
set_option maxRecDepth 8000
namespace Go.Proofs.YtiinnjjmoifoeaaGreatDoor
open Go Go.RowKit
end Go.Proofs.YtiinnjjmoifoeaaGreatDoor
set_option maxRecDepth 8000
namespace Go.Proofs.YtiinnjjmoifoeaaGreatDoor
open Go Go.RowKit
def zkl (xs3 : List AV) (K2 : J3) (v11 : AV) (H12 : Heap) (nx13 : Nat) : Prop :=
 BI .mul v11 (.int .u32 16777619) fun v14 =>
 BI .add (nth xs3 3) (.int .i64 1) fun v15 =>
 K2 [v14, nth xs3 1, nth xs3 2, v15] H12 nx13
def zgm (Q : QT) (K2 : J3) (xs3 : List AV) (H4 : Heap) (nx5 : Nat) : Prop :=
 BI .lss (nth xs3 3) (nth xs3 2) fun v6 =>
 CNDC v6
 (IA 1 (nth xs3 1) (nth xs3 3) fun v7 =>
 LD false 1 v7 H4 fun v8 =>
 CV .u32 v8 fun v9 =>
 BI .xor (nth xs3 0) v9 fun v10 =>
 zb Tryz.prog 44 [v10, .int .i64 5] H4 nx5 (zkl xs3 K2))
 (CV .i64 (nth xs3 0) fun v16 =>
 Q v16 H4 nx5)
def zkk (a0 : AV) (H : Heap) (nx : Nat) (Q : QT) : Prop :=
 LNL a0 fun v1 =>
 LP (zgm Q) [.int .u32 2166136261, a0, v1, .int .i64 0] H nx
theorem zmo (a0 : AV) (H : Heap) (nx : Nat) (Q : QT) : zkk a0 H nx Q → zb Tryz.prog 21 [a0] H nx Q :=
  zn (lv := lvOf [(2, 3, [3, 6, 7, 8])]) (c := zw Tryz.f21) zcg zcz mixed Tryz.func21 (by kernel_rfl) (by kernel_rfl) (by kernel_rfl) (by kernel_rfl) (by kernel_rfl)
def zcl (Q : QT) (K5 : J3) (xs6 : List AV) (H7 : Heap) (nx8 : Nat) : Prop :=
 BI .geq (nth xs6 1) (.int .u64 128) fun v9 =>
 CNDC v9
 (CV .u8 (nth xs6 1) fun v10 =>
 BI .or v10 (.int .u8 128) fun v11 =>
 BSL 1 1 [.int .u8 0] [(0, v11)] fun cells12 =>
 PUTH H7 nx8 (.row 1 cells12) fun H13 =>
 APP 1 1 (nth xs6 0) (.slc nx8 0 1) H13 (nx8 + 1) fun v14 H15 nx16 =>
 BI .shr (nth xs6 1) (.int .u64 7) fun v17 =>
 K5 [v14, v17] H15 nx16)
 (CV .u8 (nth xs6 1) fun v18 =>
 BSL 1 1 [.int .u8 0] [(0, v18)] fun cells19 =>
 PUTH H7 nx8 (.row 1 cells19) fun H20 =>
 APP 1 1 (nth xs6 0) (.slc nx8 0 1) H20 (nx8 + 1) fun v21 H22 nx23 =>
 Q v21 H22 nx23)
def zgn (a0 a1 : AV) (H : Heap) (nx : Nat) (Q : QT) : Prop :=
 CV .u64 a1 fun v1 =>
 BI .shl v1 (.int .u64 1) fun v2 =>
 BI .lss a1 (.int .i64 0) fun v3 =>
 CNDC v3
 (UO .xor v2 fun v4 =>
 LP (zcl Q) [a0, v4] H nx)
 (LP (zcl Q) [a0, v2] H nx)
theorem zmp (a0 a1 : AV) (H : Heap) (nx : Nat) (Q : QT) : zgn a0 a1 H nx Q → zb Tryz.prog 22 [a0, a1] H nx Q :=
  zn (lv := lvOf [(2, 4, [0, 5])]) (c := zw Tryz.f22) zcg zcz mixed Tryz.func22 (by kernel_rfl) (by kernel_rfl) (by kernel_rfl) (by kernel_rfl) (by kernel_rfl)
def zdo (xs3 : List AV) (K2 : J3) (v12 : AV) (H13 : Heap) (nx14 : Nat) : Prop :=
 NC (nth xs3 0) fun v15 =>
 FA 0 v15 fun v16 =>
 ST 1 v16 v12 H13 fun H17 =>
 BI .add (nth xs3 3) (.int .i64 1) fun v18 =>
 K2 [nth xs3 0, nth xs3 1, nth xs3 2, v18] H17 nx14
def zbp (Q : QT) (K2 : J3) (xs3 : List AV) (H4 : Heap) (nx5 : Nat) : Prop :=
 BI .lss (nth xs3 3) (nth xs3 2) fun v6 =>
 CNDC v6
 (IA 1 (nth xs3 1) (nth xs3 3) fun v7 =>
 LD false 1 v7 H4 fun v8 =>
 NC (nth xs3 0) fun v9 =>
 FA 0 v9 fun v10 =>
 LD false 1 v10 H4 fun v11 =>
 zb Tryz.prog 22 [v11, v8] H4 nx5 (zdo xs3 K2))
 (Q (.tup []) H4 nx5)
def zdn (a0 a1 : AV) (H : Heap) (nx : Nat) (Q : QT) : Prop :=
 LNL a1 fun v1 =>
 LP (zbp Q) [a0, a1, v1, .int .i64 0] H nx
theorem zfy (a0 a1 : AV) (H : Heap) (nx : Nat) (Q : QT) : zdn a0 a1 H nx Q → zb Tryz.prog 75 [a0, a1] H nx Q :=
  zn (lv := lvOf [(2, 1, [0, 6, 7, 8])]) (c := zw Tryz.f75) zcg zcz mixed Tryz.func75 (by kernel_rfl) (by kernel_rfl) (by kernel_rfl) (by kernel_rfl) (by kernel_rfl)
def zjd (a1 : AV) (Q : QT) (v2 : AV) (H3 : Heap) (nx4 : Nat) : Prop :=
 APP 1 1 v2 a1 H3 nx4 fun v5 H6 nx7 =>
 Q v5 H6 nx7
def zjc (a0 a1 : AV) (H : Heap) (nx : Nat) (Q : QT) : Prop :=
 LNS a1 fun v1 =>
 zb Tryz.prog 22 [a0, v1] H nx (zjd a1 Q)
theorem zlo (a0 a1 : AV) (H : Heap) (nx : Nat) (Q : QT) : zjc a0 a1 H nx Q → zb Tryz.prog 23 [a0, a1] H nx Q :=
  zn (lv := lvOf []) (c := zw Tryz.f23) zcg zcz mixed Tryz.func23 (by kernel_rfl) (by kernel_rfl) (by kernel_rfl) (by kernel_rfl) (by kernel_rfl)
def zab (Q : QT) (K2 : J3) (xs3 : List AV) (H4 : Heap) (nx5 : Nat) : Prop :=
 BI .lss (nth xs3 3) (nth xs3 2) fun v6 =>
 CNDC v6
 (IA 1 (nth xs3 1) (nth xs3 3) fun v7 =>
 LD false 1 v7 H4 fun v8 =>
 BI .gtr (nth xs3 3) (.int .i64 9) fun v9 =>
 CND v9
 (Q (.tup [.int .i64 0, .int .i64 0, .int .i64 3]) H4 nx5)
 (BI .eql (nth xs3 3) (.int .i64 9) fun v10 =>
 CND v10
 (BI .gtr v8 (.int .u8 1) fun v11 =>
 CNDC v11
 (Q (.tup [.int .i64 0, .int .i64 0, .int .i64 3]) H4 nx5)
 (BI .and v8 (.int .u8 127) fun v12 =>
 CV .u64 v12 fun v13 =>
 BI .mul (.int .i64 7) (nth xs3 3) fun v14 =>
 BI .shl v13 v14 fun v15 =>
 BI .or (nth xs3 0) v15 fun v16 =>
 BI .geq v8 (.int .u8 128) fun v17 =>
 CNDC v17
 (BI .add (nth xs3 3) (.int .i64 1) fun v18 =>
 K2 [v16, nth xs3 1, nth xs3 2, v18] H4 nx5)
 (BI .eql v8 (.int .u8 0) fun v19 =>
 CND v19
 (BI .gtr (nth xs3 3) (.int .i64 0) fun v20 =>
 CNDC v20
 (Q (.tup [.int .i64 0, .int .i64 0, .int .i64 2]) H4 nx5)
 (BI .shr v16 (.int .u64 1) fun v21 =>
 CV .i64 v21 fun v22 =>
 BI .and v16 (.int .u64 1) fun v23 =>
 BI .eql v23 (.int .u64 1) fun v24 =>
 CNDC v24
 (UO .xor v22 fun v25 =>
 BI .add (nth xs3 3) (.int .i64 1) fun v26 =>
 Q (.tup [v25, v26, .int .i64 0]) H4 nx5)
 (BI .add (nth xs3 3) (.int .i64 1) fun v27 =>
 Q (.tup [v22, v27, .int .i64 0]) H4 nx5)))
 (BI .shr v16 (.int .u64 1) fun v28 =>
 CV .i64 v28 fun v29 =>
 BI .and v16 (.int .u64 1) fun v30 =>
 BI .eql v30 (.int .u64 1) fun v31 =>
 CNDC v31
 (UO .xor v29 fun v32 =>
 BI .add (nth xs3 3) (.int .i64 1) fun v33 =>
 Q (.tup [v32, v33, .int .i64 0]) H4 nx5)
 (BI .add (nth xs3 3) (.int .i64 1) fun v34 =>
 Q (.tup [v29, v34, .int .i64 0]) H4 nx5)))))
 (BI .and v8 (.int .u8 127) fun v35 =>
 CV .u64 v35 fun v36 =>
 BI .mul (.int .i64 7) (nth xs3 3) fun v37 =>
 BI .shl v36 v37 fun v38 =>
 BI .or (nth xs3 0) v38 fun v39 =>
 BI .geq v8 (.int .u8 128) fun v40 =>
 CNDC v40
 (BI .add (nth xs3 3) (.int .i64 1) fun v41 =>
 K2 [v39, nth xs3 1, nth xs3 2, v41] H4 nx5)
 (BI .eql v8 (.int .u8 0) fun v42 =>
 CND v42
 (BI .gtr (nth xs3 3) (.int .i64 0) fun v43 =>
 CNDC v43
 (Q (.tup [.int .i64 0, .int .i64 0, .int .i64 2]) H4 nx5)
 (BI .shr v39 (.int .u64 1) fun v44 =>
 CV .i64 v44 fun v45 =>
 BI .and v39 (.int .u64 1) fun v46 =>
 BI .eql v46 (.int .u64 1) fun v47 =>
 CNDC v47
 (UO .xor v45 fun v48 =>
 BI .add (nth xs3 3) (.int .i64 1) fun v49 =>
 Q (.tup [v48, v49, .int .i64 0]) H4 nx5)
 (BI .add (nth xs3 3) (.int .i64 1) fun v50 =>
 Q (.tup [v45, v50, .int .i64 0]) H4 nx5)))
 (BI .shr v39 (.int .u64 1) fun v51 =>
 CV .i64 v51 fun v52 =>
 BI .and v39 (.int .u64 1) fun v53 =>
 BI .eql v53 (.int .u64 1) fun v54 =>
 CNDC v54
 (UO .xor v52 fun v55 =>
 BI .add (nth xs3 3) (.int .i64 1) fun v56 =>
 Q (.tup [v55, v56, .int .i64 0]) H4 nx5)
 (BI .add (nth xs3 3) (.int .i64 1) fun v57 =>
 Q (.tup [v52, v57, .int .i64 0]) H4 nx5))))))
 (Q (.tup [.int .i64 0, .int .i64 0, .int .i64 8]) H4 nx5)
def zgv (a0 : AV) (H : Heap) (nx : Nat) (Q : QT) : Prop :=
 LNL a0 fun v1 =>
 LP (zab Q) [.int .u64 0, a0, v1, .int .i64 0] H nx
theorem zkh (a0 : AV) (H : Heap) (nx : Nat) (Q : QT) : zgv a0 H nx Q → zb Tryz.prog 19 [a0] H nx Q :=
  zn (lv := lvOf [(2, 3, [5, 9, 10, 11])]) (c := zw Tryz.f19) zcg zcz mixed Tryz.func19 (by kernel_rfl) (by kernel_rfl) (by kernel_rfl) (by kernel_rfl) (by kernel_rfl)
def zar (Q : QT) (a1 : AV) (a0 : AV) (v1 : AV) (H2 : Heap) (nx3 : Nat) : Prop :=
 EX v1 0 fun v4 =>
 EX v1 1 fun v5 =>
 EX v1 2 fun v6 =>
 BI .neq v6 (.int .i64 0) fun v7 =>
 CNDC v7
 (Q (.tup [.str [], .int .i64 0, v6]) H2 nx3)
 (BI .lss v4 (.int .i64 0) fun v8 =>
 CND v8
 (Q (.tup [.str [], .int .i64 0, .int .i64 4]) H2 nx3)
 (BI .gtr v4 a1 fun v9 =>
 CNDC v9
 (Q (.tup [.str [], .int .i64 0, .int .i64 4]) H2 nx3)
 (LNL a0 fun v10 =>
 BI .sub v10 v5 fun v11 =>
 BI .gtr v4 v11 fun v12 =>
 CNDC v12
 (Q (.tup [.str [], .int .i64 0, .int .i64 8]) H2 nx3)
 (BI .add v5 v4 fun v13 =>
 SL 1 a0 (some v5) (some v13) H2 fun v14 =>
 CBS v14 H2 fun v15 =>
 BI .add v5 v4 fun v16 =>
 Q (.tup [v15, v16, .int .i64 0]) H2 nx3))))
def zfz (a0 a1 : AV) (H : Heap) (nx : Nat) (Q : QT) : Prop :=
 zb Tryz.prog 19 [a0] H nx (zar Q a1 a0)
theorem zje (a0 a1 : AV) (H : Heap) (nx : Nat) (Q : QT) : zfz a0 a1 H nx Q → zb Tryz.prog 20 [a0, a1] H nx Q :=
  zn (lv := lvOf []) (c := zw Tryz.f20) zcg zcz mixed Tryz.func20 (by kernel_rfl) (by kernel_rfl) (by kernel_rfl) (by kernel_rfl) (by kernel_rfl)
def zbw (a0 a1 : AV) (H : Heap) (nx : Nat) (Q : QT) : Prop :=
 CV .u64 a1 fun v1 =>
 BI .and v1 (.int .u64 31) fun v2 =>
 BI .shl a0 v2 fun v3 =>
 BI .sub (.int .u64 32) v2 fun v4 =>
 BI .shr a0 v4 fun v5 =>
 BI .or v3 v5 fun v6 =>
 Q v6 H nx
theorem zdw (a0 a1 : AV) (H : Heap) (nx : Nat) (Q : QT) : zbw a0 a1 H nx Q → zb Tryz.prog 44 [a0, a1] H nx Q :=
  zn (lv := lvOf []) (c := zw Tryz.f44) zcg zcz mixed Tryz.func44 (by kernel_rfl) (by kernel_rfl) (by kernel_rfl) (by kernel_rfl) (by kernel_rfl)
end Go.Proofs.YtiinnjjmoifoeaaGreatDoor
set_option maxRecDepth 8000
namespace Go.Proofs.YtiinnjjmoifoeaaGreatDoor
open Go Go.RowKit
end Go.Proofs.YtiinnjjmoifoeaaGreatDoor
set_option maxRecDepth 8000
namespace Go.Proofs.YtiinnjjmoifoeaaGreatDoor
open Go Go.RowKit
def ziu (xs11 : List AV) (K10 : J3) (v17 : AV) (H18 : Heap) (nx19 : Nat) : Prop :=
 BI .add (nth xs11 4) (.int .i64 1) fun v20 =>
 K10 [nth xs11 0, v17, nth xs11 2, nth xs11 3, v20] H18 nx19
def zit (Q : QT) (v30 : AV) (H31 : Heap) (nx32 : Nat) : Prop :=
 Q v30 H31 nx32
def zis (v24 : AV) (Q : QT) (v27 : AV) (H28 : Heap) (nx29 : Nat) : Prop :=
 zb Tryz.prog 22 [v24, v27] H28 nx29 (zit Q)
def zir (Q : QT) (v24 : AV) (H25 : Heap) (nx26 : Nat) : Prop :=
 zb Tryz.prog 21 [v24] H25 nx26 (zis v24 Q)
def zer (Q : QT) (K10 : J3) (xs11 : List AV) (H12 : Heap) (nx13 : Nat) : Prop :=
 BI .lss (nth xs11 4) (nth xs11 3) fun v14 =>
 CNDC v14
 (IA 1 (nth xs11 2) (nth xs11 4) fun v15 =>
 LD false 1 v15 H12 fun v16 =>
 zb Tryz.prog 22 [nth xs11 1, v16] H12 nx13 (ziu xs11 K10))
 (FA 5 (nth xs11 0) fun v21 =>
 LD false 1 v21 H12 fun v22 =>
 CBS v22 H12 fun v23 =>
 zb Tryz.prog 23 [nth xs11 1, v23] H12 nx13 (zir Q))
def ziq (a0 : AV) (H : Heap) (nx : Nat) (Q : QT) : Prop :=
 a0.sure = true ∧
 PUTH H nx (.row a0.cells.length a0.cells) fun H1 =>
 LD false 1 (.ptr nx 0) H1 fun v2 =>
 LD false 1 (.ptr nx 1) H1 fun v3 =>
 LD false 1 (.ptr nx 2) H1 fun v4 =>
 LD false 1 (.ptr nx 3) H1 fun v5 =>
 LD false 1 (.ptr nx 4) H1 fun v6 =>
 BSL 5 1 [.int .i64 0] [(0, v2), (1, v3), (2, v4), (3, v5), (4, v6)] fun cells7 =>
 PUTH H1 (nx + 1) (.row 1 cells7) fun H8 =>
 LNL (.slc (nx + 1) 0 5) fun v9 =>
 LP (zer Q) [.ptr nx 0, .nils, .slc (nx + 1) 0 5, v9, .int .i64 0] H8 (nx + 2)
theorem zkz (a0 : AV) (H : Heap) (nx : Nat) (Q : QT) : ziq a0 H nx Q → zb Tryz.prog 8 [a0] H nx Q :=
  zn (lv := lvOf [(2, 3, [1, 3, 16, 17, 18])]) (c := zw Tryz.f8) zcg zcz mixed Tryz.func8 (by kernel_rfl) (by kernel_rfl) (by kernel_rfl) (by kernel_rfl) (by kernel_rfl)
def zeq (xs6 : List AV) (Q : QT) (v11 : AV) (K5 : J3) (v12 : AV) (H13 : Heap) (nx14 : Nat) : Prop :=
 EX v12 0 fun v15 =>
 EX v12 1 fun v16 =>
 EX v12 2 fun v17 =>
 BI .neq v17 (.int .i64 0) fun v18 =>
 CNDC v18
 (ST 6 (nth xs6 1) (.agg [.int .i64 0, .int .i64 0, .int .i64 0, .int .i64 0, .int .i64 0, .nils]) H13 fun H19 =>
 LD true 6 (nth xs6 1) H19 fun v20 =>
 Q (.tup [v20, v17]) H19 nx14)
 (zai 1 (nth xs6 3) (some v16) none H13 fun v21 rd22 fr23 D24 =>
 NC v11 fun v25 =>
 zbq 1 v25 v15 (H13.apply D24) fun _ rd27 fr28 D29 =>
 zo (domD D29) [] (
 zo (domD D29) [] (
 zo (domD D24) rd27 (
 zo (domD D24) (domD D29) (
 zo (domD D29) rd22 (
 BI .add (nth xs6 6) (.int .i64 1) fun v30 =>
 K5 [nth xs6 0, nth xs6 1, nth xs6 2, v21, nth xs6 4, nth xs6 5, v30] ((H13.apply D24).apply D29) ((nx14 + fr23.length) + fr28.length)))))))
def zp (v49 : AV) (xs6 : List AV) (Q : QT) (v63 : AV) (H64 : Heap) (nx65 : Nat) : Prop :=
 BI .neq v49 v63 fun v66 =>
 CNDC v66
 (ST 6 (nth xs6 1) (.agg [.int .i64 0, .int .i64 0, .int .i64 0, .int .i64 0, .int .i64 0, .nils]) H64 fun H67 =>
 LD true 6 (nth xs6 1) H67 fun v68 =>
 Q (.tup [v68, .int .i64 2]) H67 nx65)
 (FA 0 (nth xs6 2) fun v69 =>
 LD false 1 v69 H64 fun v70 =>
 BI .lss v70 (.int .i64 1) fun v71 =>
 CND v71
 (ST 6 (nth xs6 1) (.agg [.int .i64 0, .int .i64 0, .int .i64 0, .int .i64 0, .int .i64 0, .nils]) H64 fun H72 =>
 LD true 6 (nth xs6 1) H72 fun v73 =>
 Q (.tup [v73, .int .i64 3]) H72 nx65)
 (FA 0 (nth xs6 2) fun v74 =>
 LD false 1 v74 H64 fun v75 =>
 BI .gtr v75 (.int .i64 3) fun v76 =>
 CND v76
 (ST 6 (nth xs6 1) (.agg [.int .i64 0, .int .i64 0, .int .i64 0, .int .i64 0, .int .i64 0, .nils]) H64 fun H77 =>
 LD true 6 (nth xs6 1) H77 fun v78 =>
 Q (.tup [v78, .int .i64 3]) H77 nx65)
 (FA 1 (nth xs6 2) fun v79 =>
 LD false 1 v79 H64 fun v80 =>
 BI .lss v80 (.int .i64 0) fun v81 =>
 CND v81
 (ST 6 (nth xs6 1) (.agg [.int .i64 0, .int .i64 0, .int .i64 0, .int .i64 0, .int .i64 0, .nils]) H64 fun H82 =>
 LD true 6 (nth xs6 1) H82 fun v83 =>
 Q (.tup [v83, .int .i64 3]) H82 nx65)
 (FA 1 (nth xs6 2) fun v84 =>
 LD false 1 v84 H64 fun v85 =>
 BI .geq v85 (.int .i64 4) fun v86 =>
 CND v86
 (ST 6 (nth xs6 1) (.agg [.int .i64 0, .int .i64 0, .int .i64 0, .int .i64 0, .int .i64 0, .nils]) H64 fun H87 =>
 LD true 6 (nth xs6 1) H87 fun v88 =>
 Q (.tup [v88, .int .i64 3]) H87 nx65)
 (FA 2 (nth xs6 2) fun v89 =>
 LD false 1 v89 H64 fun v90 =>
 BI .lss v90 (.int .i64 0) fun v91 =>
 CND v91
 (ST 6 (nth xs6 1) (.agg [.int .i64 0, .int .i64 0, .int .i64 0, .int .i64 0, .int .i64 0, .nils]) H64 fun H92 =>
 LD true 6 (nth xs6 1) H92 fun v93 =>
 Q (.tup [v93, .int .i64 3]) H92 nx65)
 (FA 2 (nth xs6 2) fun v94 =>
 LD false 1 v94 H64 fun v95 =>
 BI .geq v95 (.int .i64 4) fun v96 =>
 CND v96
 (ST 6 (nth xs6 1) (.agg [.int .i64 0, .int .i64 0, .int .i64 0, .int .i64 0, .int .i64 0, .nils]) H64 fun H97 =>
 LD true 6 (nth xs6 1) H97 fun v98 =>
 Q (.tup [v98, .int .i64 3]) H97 nx65)
 (FA 3 (nth xs6 2) fun v99 =>
 LD false 1 v99 H64 fun v100 =>
 BI .lss v100 (.int .i64 0) fun v101 =>
 CND v101
 (ST 6 (nth xs6 1) (.agg [.int .i64 0, .int .i64 0, .int .i64 0, .int .i64 0, .int .i64 0, .nils]) H64 fun H102 =>
 LD true 6 (nth xs6 1) H102 fun v103 =>
 Q (.tup [v103, .int .i64 3]) H102 nx65)
 (FA 4 (nth xs6 2) fun v104 =>
 LD false 1 v104 H64 fun v105 =>
 BI .lss v105 (.int .i64 0) fun v106 =>
 CNDC v106
 (ST 6 (nth xs6 1) (.agg [.int .i64 0, .int .i64 0, .int .i64 0, .int .i64 0, .int .i64 0, .nils]) H64 fun H107 =>
 LD true 6 (nth xs6 1) H107 fun v108 =>
 Q (.tup [v108, .int .i64 3]) H107 nx65)
 (LD true 6 (nth xs6 2) H64 fun v109 =>
 ST 6 (nth xs6 1) v109 H64 fun H110 =>
 LD true 6 (nth xs6 1) H110 fun v111 =>
 Q (.tup [v111, .int .i64 0]) H110 nx65)))))))))
def zcv (xs6 : List AV) (Q : QT) (v36 : AV) (v46 : AV) (H47 : Heap) (nx48 : Nat) : Prop :=
 EX v46 0 fun v49 =>
 EX v46 1 fun v50 =>
 EX v46 2 fun v51 =>
 BI .neq v51 (.int .i64 0) fun v52 =>
 CNDC v52
 (ST 6 (nth xs6 1) (.agg [.int .i64 0, .int .i64 0, .int .i64 0, .int .i64 0, .int .i64 0, .nils]) H47 fun H53 =>
 LD true 6 (nth xs6 1) H53 fun v54 =>
 Q (.tup [v54, v51]) H53 nx48)
 (LNL (nth xs6 3) fun v55 =>
 BI .sub v55 v36 fun v56 =>
 BI .neq v50 v56 fun v57 =>
 CND v57
 (ST 6 (nth xs6 1) (.agg [.int .i64 0, .int .i64 0, .int .i64 0, .int .i64 0, .int .i64 0, .nils]) H47 fun H58 =>
 LD true 6 (nth xs6 1) H58 fun v59 =>
 Q (.tup [v59, .int .i64 2]) H58 nx48)
 (LNL (nth xs6 0) fun v60 =>
 BI .sub v60 v50 fun v61 =>
 SL 1 (nth xs6 0) none (some v61) H47 fun v62 =>
 zb Tryz.prog 21 [v62] H47 nx48 (zp v49 xs6 Q)))
def zep (xs6 : List AV) (Q : QT) (v32 : AV) (H33 : Heap) (nx34 : Nat) : Prop :=
 EX v32 0 fun v35 =>
 EX v32 1 fun v36 =>
 EX v32 2 fun v37 =>
 BI .neq v37 (.int .i64 0) fun v38 =>
 CNDC v38
 (ST 6 (nth xs6 1) (.agg [.int .i64 0, .int .i64 0, .int .i64 0, .int .i64 0, .int .i64 0, .nils]) H33 fun H39 =>
 LD true 6 (nth xs6 1) H39 fun v40 =>
 Q (.tup [v40, v37]) H39 nx34)
 (CSB v35 fun s41 =>
 PUTH H33 nx34 (.row 1 (s41.map fun b => .int .u8 (b.toNat : Int))) fun H42 =>
 FA 5 (nth xs6 2) fun v43 =>
 ST 1 v43 (.slc nx34 0 s41.length) H42 fun H44 =>
 SL 1 (nth xs6 3) (some v36) none H44 fun v45 =>
 zb Tryz.prog 19 [v45] H44 (nx34 + 1) (zcv xs6 Q v36))
def zeo (Q : QT) (K5 : J3) (xs6 : List AV) (H7 : Heap) (nx8 : Nat) : Prop :=
 BI .lss (nth xs6 6) (nth xs6 5) fun v9 =>
 CNDC v9
 (IA 1 (nth xs6 4) (nth xs6 6) fun v10 =>
 LD false 1 v10 H7 fun v11 =>
 zb Tryz.prog 19 [nth xs6 3] H7 nx8 (zeq xs6 Q v11 K5))
 (LNL (nth xs6 3) fun v31 =>
 zb Tryz.prog 20 [nth xs6 3, v31] H7 nx8 (zep xs6 Q))
def zip (a0 : AV) (H : Heap) (nx : Nat) (Q : QT) : Prop :=
 PUTH H nx (.row 6 [.int .i64 0, .int .i64 0, .int .i64 0, .int .i64 0, .int .i64 0, .nils]) fun H1 =>
 PUTH H1 (nx + 1) (.row 6 [.int .i64 0, .int .i64 0, .int .i64 0, .int .i64 0, .int .i64 0, .nils]) fun H2 =>
 PUTH H2 (nx + 2) (.row 1 [.ptr (nx + 1) 0, .ptr (nx + 1) 1, .ptr (nx + 1) 2, .ptr (nx + 1) 3, .ptr (nx + 1) 4]) fun H3 =>
 LNL (.slc (nx + 2) 0 5) fun v4 =>
 LP (zeo Q) [a0, .ptr nx 0, .ptr (nx + 1) 0, a0, .slc (nx + 2) 0 5, v4, .int .i64 0] H3 (nx + 3)
theorem zky (a0 : AV) (H : Heap) (nx : Nat) (Q : QT) : zip a0 H nx Q → zb Tryz.prog 7 [a0] H nx Q :=
  zn (lv := lvOf [(2, 4, [0, 2, 4, 5, 22, 23, 24])]) (c := zw Tryz.f7) zcg zcz mixed Tryz.func7 (by kernel_rfl) (by kernel_rfl) (by kernel_rfl) (by kernel_rfl) (by kernel_rfl)
def zdg (a0 a1 : AV) (H : Heap) (nx : Nat) (Q : QT) : Prop :=
 a0.sure = true ∧
 PUTH H nx (.row a0.cells.length a0.cells) fun H1 =>
 a1.sure = true ∧
 PUTH H1 (nx + 1) (.row a1.cells.length a1.cells) fun H2 =>
 LD false 1 (.ptr nx 0) H2 fun v3 =>
 LD false 1 (.ptr (nx + 1) 0) H2 fun v4 =>
 BI .eql v3 v4 fun v5 =>
 CND v5
 (LD false 1 (.ptr nx 1) H2 fun v6 =>
 LD false 1 (.ptr (nx + 1) 1) H2 fun v7 =>
 BI .eql v6 v7 fun v8 =>
 CND v8
 (LD false 1 (.ptr nx 2) H2 fun v9 =>
 LD false 1 (.ptr (nx + 1) 2) H2 fun v10 =>
 BI .eql v9 v10 fun v11 =>
 CND v11
 (LD false 1 (.ptr nx 3) H2 fun v12 =>
 LD false 1 (.ptr (nx + 1) 3) H2 fun v13 =>
 BI .eql v12 v13 fun v14 =>
 CND v14
 (LD false 1 (.ptr nx 4) H2 fun v15 =>
 LD false 1 (.ptr (nx + 1) 4) H2 fun v16 =>
 BI .eql v15 v16 fun v17 =>
 CND v17
 (LD false 1 (.ptr nx 5) H2 fun v18 =>
 CBS v18 H2 fun v19 =>
 LD false 1 (.ptr (nx + 1) 5) H2 fun v20 =>
 CBS v20 H2 fun v21 =>
 BS .eql v19 v21 fun v22 =>
 Q v22 H2 (nx + 2))
 (Q (.bool false) H2 (nx + 2)))
 (Q (.bool false) H2 (nx + 2)))
 (Q (.bool false) H2 (nx + 2)))
 (Q (.bool false) H2 (nx + 2)))
 (Q (.bool false) H2 (nx + 2))
theorem zfw (a0 a1 : AV) (H : Heap) (nx : Nat) (Q : QT) : zdg a0 a1 H nx Q → zb Tryz.prog 9 [a0, a1] H nx Q :=
  zn (lv := lvOf []) (c := zw Tryz.f9) zcg zcz mixed Tryz.func9 (by kernel_rfl) (by kernel_rfl) (by kernel_rfl) (by kernel_rfl) (by kernel_rfl)
def zdm (H46 : Heap) (a1 : AV) (rd54 : List Nat) (Q : QT) (nx42 : Nat) (v55 : AV) (rd56 : List Nat) (fr57 : List Nat) (D58 : zi) : Prop :=
 zbt v55 (H46.apply D58) fun v59 rd60 fr61 D62 =>
 zbt a1 ((H46.apply D58).apply D62) fun v63 rd64 fr65 D66 =>
 BS .eql v59 v63 fun v67 =>
 zo (domD D58) [] (
 zo (domD D58) [] (
 zo (domD D62) [] (
 zo (domD D62) [] (
 zo (domD D66) rd54 (
 zo (domD D58) rd64 (
 zo (domD D58) (domD D66) (
 zo (domD D66) rd56 (
 zo (domD D62) rd64 (
 zo (domD D62) (domD D66) (
 zo (domD D66) rd60 (
 Q v67 (((H46.apply D58).apply D62).apply D66) ((((nx42 + 1) + fr57.length) + fr61.length) + fr65.length))))))))))))
def zg (Q : QT) (a1 : AV) (v40 : AV) (H41 : Heap) (nx42 : Nat) : Prop :=
 EX v40 0 fun v43 =>
 EX v40 1 fun v44 =>
 PUTH H41 nx42 (.row 6 [.int .i64 0, .int .i64 0, .int .i64 0, .int .i64 0, .int .i64 0, .nils]) fun H45 =>
 ST 6 (.ptr nx42 0) v43 H45 fun H46 =>
 BI .neq v44 (.int .i64 0) fun v47 =>
 CNDC v47
 (LD false 1 (.ptr nx42 0) H46 fun v48 =>
 BI .eql v48 (.int .i64 0) fun v49 =>
 CND v49
 (LD false 1 (.ptr nx42 5) H46 fun v50 =>
 LNL v50 fun v51 =>
 BI .eql v51 (.int .i64 0) fun v52 =>
 Q v52 H46 (nx42 + 1))
 (Q (.bool false) H46 (nx42 + 1)))
 (LDR true 6 (.ptr nx42 0) H46 fun v53 rd54 =>
 zgl Tryz.prog (.clo 8 []) [v53] H46 (nx42 + 1) (zdm H46 a1 rd54 Q nx42))
def zdl (Q : QT) (a1 : AV) (v36 : AV) (H37 : Heap) (nx38 : Nat) : Prop :=
 UO .not v36 fun v39 =>
 CNDC v39
 (Q (.bool false) H37 nx38)
 (zb Tryz.prog 7 [a1] H37 nx38 (zg Q a1))
def zdk (Q : QT) (nx : Nat) (a1 : AV) (v26 : AV) (H27 : Heap) (nx28 : Nat) : Prop :=
 EX v26 0 fun v29 =>
 EX v26 1 fun v30 =>
 PUTH H27 nx28 (.row 6 [.int .i64 0, .int .i64 0, .int .i64 0, .int .i64 0, .int .i64 0, .nils]) fun H31 =>
 ST 6 (.ptr nx28 0) v29 H31 fun H32 =>
 BI .neq v30 (.int .i64 0) fun v33 =>
 CND v33
 (Q (.bool false) H32 (nx28 + 1))
 (LD true 6 (.ptr nx 0) H32 fun v34 =>
 LD true 6 (.ptr nx28 0) H32 fun v35 =>
 zb Tryz.prog 9 [v34, v35] H32 (nx28 + 1) (zdl Q a1))
def zdj (Q : QT) (nx : Nat) (a1 : AV) (v23 : AV) (H24 : Heap) (nx25 : Nat) : Prop :=
 zb Tryz.prog 7 [v23] H24 nx25 (zdk Q nx a1)
def zdi (Q : QT) (nx : Nat) (a1 : AV) (v2 : AV) (H3 : Heap) (nx4 : Nat) : Prop :=
 UO .not v2 fun v5 =>
 CNDC v5
 (Q (.bool false) H3 nx4)
 (LD false 1 (.ptr nx 0) H3 fun v6 =>
 BI .geq v6 (.int .i64 1) fun v7 =>
 CND v7
 (LD false 1 (.ptr nx 0) H3 fun v8 =>
 BI .leq v8 (.int .i64 3) fun v9 =>
 CND v9
 (LD false 1 (.ptr nx 1) H3 fun v10 =>
 BI .geq v10 (.int .i64 0) fun v11 =>
 CND v11
 (LD false 1 (.ptr nx 1) H3 fun v12 =>
 BI .lss v12 (.int .i64 4) fun v13 =>
 CND v13
 (LD false 1 (.ptr nx 2) H3 fun v14 =>
 BI .geq v14 (.int .i64 0) fun v15 =>
 CND v15
 (LD false 1 (.ptr nx 2) H3 fun v16 =>
 BI .lss v16 (.int .i64 4) fun v17 =>
 CND v17
 (LD false 1 (.ptr nx 3) H3 fun v18 =>
 BI .geq v18 (.int .i64 0) fun v19 =>
 CND v19
 (LD false 1 (.ptr nx 4) H3 fun v20 =>
 BI .geq v20 (.int .i64 0) fun v21 =>
 CNDC v21
 (LD true 6 (.ptr nx 0) H3 fun v22 =>
 zb Tryz.prog 8 [v22] H3 nx4 (zdj Q nx a1))
 (zb Tryz.prog 7 [a1] H3 nx4 (zg Q a1)))
 (zb Tryz.prog 7 [a1] H3 nx4 (zg Q a1)))
 (zb Tryz.prog 7 [a1] H3 nx4 (zg Q a1)))
 (zb Tryz.prog 7 [a1] H3 nx4 (zg Q a1)))
 (zb Tryz.prog 7 [a1] H3 nx4 (zg Q a1)))
 (zb Tryz.prog 7 [a1] H3 nx4 (zg Q a1)))
 (zb Tryz.prog 7 [a1] H3 nx4 (zg Q a1)))
 (zb Tryz.prog 7 [a1] H3 nx4 (zg Q a1)))
def zdh (a0 a1 : AV) (H : Heap) (nx : Nat) (Q : QT) : Prop :=
 a0.sure = true ∧
 PUTH H nx (.row a0.cells.length a0.cells) fun H1 =>
 zb Tryz.prog 6 [] H1 (nx + 1) (zdi Q nx a1)
theorem zfx (a0 a1 : AV) (H : Heap) (nx : Nat) (Q : QT) : zdh a0 a1 H nx Q → zb Tryz.prog 3 [a0, a1] H nx Q :=
  zn (lv := lvOf []) (c := zw Tryz.f3) zcg zcz mixed Tryz.func3 (by kernel_rfl) (by kernel_rfl) (by kernel_rfl) (by kernel_rfl) (by kernel_rfl)
end Go.Proofs.YtiinnjjmoifoeaaGreatDoor
set_option maxRecDepth 8000
namespace Go.Proofs.YtiinnjjmoifoeaaGreatDoor
open Go Go.RowKit
theorem ztq (n : Int) (h₀ : 0 ≤ n) (h₁ : n < 2 ^ 64) : IntKind.u64.wrap n = n := by rw [IntKind.wrap_u64]; omega
theorem ztr (c : Nat) (h : c < 256) : bits .and .u8 (c : Int) 127 = ((c % 128 : Nat) : Int) := by
  have := bits_mask .u8 8 (by decide) wraps_u8 7 (by decide) (c : Int) (by omega) (by omega)
  simpa using this
theorem zvt (c : Nat) (h : c < 256) : bits .or .u8 (c : Int) 128 = ((c % 128 + 128 : Nat) : Int) := by
  have h1 := u8_or_nat c 128 h (by omega)
  rw [show ((128 : Nat) : Int) = 128 from rfl] at h1
  rw [h1]
  congr 1
  have hd : c = 128 * (c / 128) + c % 128 := by omega
  have hc2 : c / 128 = 0 ∨ c / 128 = 1 := by omega
  have e : (2 : Nat) ^ 7 = 128 := rfl
  have hlow : c % 128 ||| 128 = c % 128 + 128 := by
    have := Nat.two_pow_add_eq_or_of_lt (i := 7) (b := c % 128) (by omega) 1
    rw [Nat.or_comm]
    simp at this
    omega
  rcases hc2 with h0 | h0
  · have : c = c % 128 := by omega
    rw [← this] at hlow ⊢
    exact hlow
  · have h2 := Nat.two_pow_add_eq_or_of_lt (i := 7) (b := c % 128) (by omega) 1
    have h3 : c = 128 ||| c % 128 := by simp at h2; omega
    have h4 : c ||| 128 = c % 128 ||| 128 := by
      conv => lhs; rw [h3]
      rw [Nat.or_comm 128, Nat.or_assoc, Nat.or_self]
    rw [h4, hlow]
theorem zrw (q x k : Nat) (hq : q < 2 ^ k) (hx : q + x * 2 ^ k < 18446744073709551616) : bits .or .u64 (q : Int) ((x * 2 ^ k : Nat) : Int) = ((q + x * 2 ^ k : Nat) : Int) := by
  have h1 := bits_nat .u64 64 (by decide) ztq q (x * 2 ^ k) (by omega) (by omega)
  rw [h1.2]
  congr 1
  have := Nat.two_pow_add_eq_or_of_lt (i := k) (b := q) hq x
  rw [Nat.or_comm, Nat.mul_comm, ← this]
  omega
theorem zwb (k q c : Nat) (hk : k ≤ 9) (hq : q < 2 ^ (7 * k)) (hc : c < 256) (h9 : k = 9 → c ≤ 1) :
    bits .or .u64 (q : Int) (IntKind.u64.wrap (IntKind.u64.wrap (bits .and .u8 (c : Int) 127) * 2 ^ (7 * k))) = ((q + c % 128 * 2 ^ (7 * k) : Nat) : Int) := by
  rw [ztr c hc, IntKind.wrap_u64, IntKind.wrap_u64]
  have h1 : (((c % 128 : Nat) : Int) % 18446744073709551616) = ((c % 128 : Nat) : Int) := by omega
  rw [h1]
  have hb : q + c % 128 * 2 ^ (7 * k) < 18446744073709551616 := by
    by_cases h : k = 9
    · subst h
      have := h9 rfl
      have : c % 128 ≤ 1 := by omega
      simp at hq ⊢
      omega
    · have hp : (2 : Nat) ^ (7 * k) ≤ 2 ^ 56 := Nat.pow_le_pow_right (by omega) (by omega)
      have : c % 128 * 2 ^ (7 * k) ≤ 127 * 2 ^ 56 := Nat.mul_le_mul (by omega) hp
      omega
  have h2 : (((c % 128 : Nat) : Int) * 2 ^ (7 * k)) % 18446744073709551616 = ((c % 128 * 2 ^ (7 * k) : Nat) : Int) := by
    rw [show (((c % 128 : Nat) : Int) * 2 ^ (7 * k)) = ((c % 128 * 2 ^ (7 * k) : Nat) : Int) by push_cast; rfl]
    omega
  rw [h2]
  exact zrw q (c % 128) (7 * k) hq hb
theorem zxj (n : Int) (h0 : 0 ≤ n) (h1 : n ≤ 9223372036854775807) : bits .xor .i64 (-1) n = -n - 1 := by
  obtain ⟨a, rfl⟩ := Int.eq_ofNat_of_zero_le h0
  have e : bits .xor .i64 (-1) (a : Int) = IntKind.i64.wrap ((BitVec.ofInt 64 (-1) ^^^ BitVec.ofInt 64 (a : Int)).toNat : Int) := rfl
  have e1 : (BitVec.ofInt 64 (-1)) = BitVec.allOnes 64 := by decide
  rw [e, e1, BitVec.ofInt_natCast, BitVec.allOnes_xor, BitVec.toNat_not, BitVec.toNat_ofNat, IntKind.wrap_i64]
  omega
theorem zyh (u : Nat) (hu : u < 18446744073709551616) (h : u % 2 = 1) : bits .xor .i64 (-1) (wrap64 ((u : Int) / 2)) = WM.zag u := by
  have e : wrap64 ((u : Int) / 2) = ((u / 2 : Nat) : Int) := by unfold wrap64; omega
  rw [e, zxj _ (by omega) (by omega)]
  unfold WM.zag
  rw [if_pos h]
theorem zvb (u : Nat) (hu : u < 18446744073709551616) (h : u % 2 ≠ 1) : wrap64 ((u : Int) / 2) = WM.zag u := by
  unfold wrap64 WM.zag
  rw [if_neg h]
  omega
theorem zxq (u : Nat) (hu : u < 18446744073709551616) (h : u % 2 = 1) : (bits BinOp.and IntKind.u64 (u : Int) 1 == 1) = true := by
  rw [and_one_u64 _ (by omega) (by omega)]
  simp; omega
theorem zuz (u : Nat) (hu : u < 18446744073709551616) (h : u % 2 ≠ 1) : (bits BinOp.and IntKind.u64 (u : Int) 1 == 1) = false := by
  rw [and_one_u64 _ (by omega) (by omega)]
  simp; omega
theorem zqd (k q c : Nat) (hk : k ≤ 9) (hq : q < 2 ^ (7 * k)) (hc : c < 256) (h9 : k = 9 → c ≤ 1) : q + c % 128 * 2 ^ (7 * k) < 18446744073709551616 := by
  by_cases h : k = 9
  · subst h
    have := h9 rfl
    have : c % 128 ≤ 1 := by omega
    simp at hq ⊢
    omega
  · have hp : (2 : Nat) ^ (7 * k) ≤ 2 ^ 56 := Nat.pow_le_pow_right (by omega) (by omega)
    have : c % 128 * 2 ^ (7 * k) ≤ 127 * 2 ^ 56 := Nat.mul_le_mul (by omega) hp
    omega
theorem znw (k q c : Nat) (hq : q < 2 ^ (7 * k)) : q + c % 128 * 2 ^ (7 * k) < 2 ^ (7 * (k + 1)) := by
  have e7 : (2 : Nat) ^ (7 * (k + 1)) = 128 * 2 ^ (7 * k) := by rw [show 7 * (k + 1) = 7 + 7 * k by omega, Nat.pow_add]
  have : c % 128 * 2 ^ (7 * k) ≤ 127 * 2 ^ (7 * k) := Nat.mul_le_mul_right _ (by omega)
  omega
end Go.Proofs.YtiinnjjmoifoeaaGreatDoor
set_option maxRecDepth 8000
namespace Go.Proofs.YtiinnjjmoifoeaaGreatDoor
open Go Go.RowKit
end Go.Proofs.YtiinnjjmoifoeaaGreatDoor
set_option maxRecDepth 8000
namespace Go.Proofs.YtiinnjjmoifoeaaGreatDoor
open Go Go.RowKit
@[simp] theorem zaea : eqsT 170 = true := by kernel_rfl
@[simp] theorem zacc : eqsT 172 = true := by kernel_rfl
end Go.Proofs.YtiinnjjmoifoeaaGreatDoor
set_option maxRecDepth 8000
namespace Go.Proofs.YtiinnjjmoifoeaaGreatDoor
open Go Go.RowKit
inductive Rn (R : Nat → Prop) (gn g0 : Nat) : AV → AV → Prop
  | same (v : AV) : Bel R v → Rn R gn g0 v v
  | slc (off len : Nat) : Rn R gn g0 (.slc gn off len) (.slc g0 off len)
  | ptr (off : Nat) : Rn R gn g0 (.ptr gn off) (.ptr g0 off)
  | amap : Rn R gn g0 (.amap gn) (.amap g0)
  | agg (xs ys : List AV) : ys.length = xs.length → (∀ (j : Nat) (v u : AV), xs[j]? = some v → ys[j]? = some u → Rn R gn g0 v u) → Rn R gn g0 (.agg xs) (.agg ys)
theorem zju {D : zi} : ∀ {H : Heap} {g : Nat}, g ∉ domD D → (H.apply D) g = H g := by
  induction D with
  | nil => intros; rfl
  | cons d r ih =>
    obtain ⟨g', o⟩ := d
    intro H g hg
    simp only [domD, List.map_cons, List.mem_cons, not_or] at hg
    show ((H.put g' o).apply r) g = H g
    rw [ih (by simpa [domD] using hg.2), Heap.put_ne _ _ hg.1]
end Go.Proofs.YtiinnjjmoifoeaaGreatDoor
set_option maxRecDepth 8000
namespace Go.Proofs.YtiinnjjmoifoeaaGreatDoor
open Go Go.RowKit
def zls : Nat → List Nat → List (AV × AV)
  | _, [] => []
  | k, n :: r => (.int .i64 n, .int .i64 k) :: zls (k + 1) r
def zud (o : List Nat) : List (AV × AV) := zls 0 o
def zlr (o : List Nat) : List AV := o.map fun (n : Nat) => AV.int .i64 (n : Int)
@[simp] theorem zaah (o : List Nat) : (zlr o).length = o.length := by simp [zlr]
structure zgi (H : Heap) (g1 g2 gm gr : Nat) (o : List Nat) : Prop where
  m1 : H g1 = some (.row 1 [.amap gm])
  mm : H gm = some (.mp (zud o))
  m2 : H g2 = some (.row 1 [if o = [] then .nils else .slc gr 0 o.length])
  mr : o ≠ [] → H gr = some (.row 1 (zlr o))
  d12 : g1 ≠ g2
  d1m : g1 ≠ gm
  d2m : g2 ≠ gm
  dr : o ≠ [] → gr ≠ g1 ∧ gr ≠ g2 ∧ gr ≠ gm
end Go.Proofs.YtiinnjjmoifoeaaGreatDoor
set_option maxRecDepth 8000
namespace Go.Proofs.YtiinnjjmoifoeaaGreatDoor
open Go Go.RowKit
theorem zdz {sz : Nat} : ∀ {xs : List (List AV)}, (∀ x ∈ xs, x.length = sz) → xs.flatten.length = xs.length * sz
  | [], _ => by simp
  | y :: r, hs => by rw [List.flatten_cons, List.length_append, zdz fun z hz => hs z (by simp [hz]), hs y (by simp), List.length_cons, Nat.succ_mul, Nat.add_comm]
theorem zmt {sz : Nat} : ∀ {xs : List (List AV)}, (∀ x ∈ xs, x.length = sz) → ∀ {i : Nat} {x : List AV}, xs[i]? = some x → (xs.flatten.drop (i * sz)).take sz = x
  | [], _, i, x, hx => by simp at hx
  | y :: r, hs, 0, x, hx => by
    simp at hx; subst hx
    rw [Nat.zero_mul, List.drop_zero, List.flatten_cons, List.take_append_of_le_length (by rw [hs y (by simp)]; omega), List.take_of_length_le (by rw [hs y (by simp)]; omega)]
  | y :: r, hs, i + 1, x, hx => by
    have hy : y.length = sz := hs y (by simp)
    rw [List.flatten_cons, Nat.succ_mul, List.drop_append, List.drop_of_length_le (by omega), List.nil_append, show i * sz + sz - y.length = i * sz by omega]
    exact zmt (fun z hz => hs z (by simp [hz])) (by simpa using hx)
inductive zct (H : Heap) (nx sz : Nat) (xs : List (List AV)) : AV → Prop
  | ro : zct H nx sz xs (.ro xs)
  | slc (g : Nat) : g < nx → H g = some (.row sz xs.flatten) → zct H nx sz xs (.slc g 0 xs.length)
  | nils : xs = [] → zct H nx sz xs .nils
theorem zct.keep {H H' : Heap} {nx nx' sz : Nat} {xs : List (List AV)} {a : AV} (h : zct H nx sz xs a) (hk : ∀ g, g < nx → H' g = H g) (hn : nx ≤ nx') : zct H' nx' sz xs a := by
  cases h with
  | ro => exact .ro
  | slc g h1 h2 => exact .slc g (by omega) (by rw [hk g h1]; exact h2)
  | nils h => exact .nils h
theorem zct.len {H : Heap} {nx sz : Nat} {xs : List (List AV)} {a : AV} (h : zct H nx sz xs a) {k : AV → Prop} : LNL a k = k (.int .i64 xs.length) := by
  cases h with
  | ro => simp
  | slc g h1 h2 => simp
  | nils h => subst h; simp
theorem zct.ld {H : Heap} {nx sz : Nat} {xs : List (List AV)} {a : AV} (h : zct H nx sz xs a) (hs : ∀ x ∈ xs, x.length = sz) {ki : IntKind} {i : Nat} {x : List AV} (hx : xs[i]? = some x) {k : AV → Prop} (hk : k (.agg x)) : IA sz a (.int ki i) fun p => LD true sz p H k := by
  obtain ⟨hi, hx'⟩ := List.getElem?_eq_some_iff.1 hx
  have hxl : x.length = sz := hs x (List.mem_of_getElem? hx)
  cases h with
  | ro =>
    rw [zxw]
    have e : xs.getD i [] = x := by simp [List.getD_eq_getElem?_getD, hx]
    simp only [Int.toNat_natCast, e, zsl]
    refine ⟨by omega, by omega, hxl, by omega, ?_⟩
    rw [List.drop_zero, List.take_of_length_le (by omega)]
    exact hk
  | slc g h1 h2 =>
    rw [zzm]
    simp only [Int.toNat_natCast, zwf, h2, rowk]
    refine ⟨by omega, by omega, ?_, ?_⟩
    · rw [zdz hs]
      have : (i + 1) * sz ≤ xs.length * sz := Nat.mul_le_mul_right _ hi
      rw [Nat.succ_mul] at this; omega
    · rw [Nat.zero_add, zmt hs hx]; exact hk
  | nils h => subst h; simp at hx
end Go.Proofs.YtiinnjjmoifoeaaGreatDoor
set_option maxRecDepth 8000
namespace Go.Proofs.YtiinnjjmoifoeaaGreatDoor
open Go Go.RowKit
def rowV (l : List Val) : List AV := (l.map Val.avs).flatten
def rowC (h : List Cl) : List AV := (h.map Cl.avs).flatten
theorem zxm (l : List Val) : ∀ x ∈ l.map Val.avs, x.length = 3 := by intro x hx; obtain ⟨v, _, rfl⟩ := List.mem_map.1 hx; rfl
theorem zxn (l : List Cl) : ∀ x ∈ l.map Cl.avs, x.length = 6 := by intro x hx; obtain ⟨v, _, rfl⟩ := List.mem_map.1 hx; rfl
@[simp] theorem zado (l : List Val) : (rowV l).length = l.length * 3 := by rw [rowV, zdz (zxm l)]; simp
@[simp] theorem zadp (l : List Cl) : (rowC l).length = l.length * 6 := by rw [rowC, zdz (zxn l)]; simp
theorem zor {c : AV} {A : Nat → Prop} (h : scal c = true) : Bel A c := by cases c <;> first | (cases h; done) | exact .int _ _ | exact .str _ | exact .bool _
end Go.Proofs.YtiinnjjmoifoeaaGreatDoor
set_option maxRecDepth 8000
namespace Go.Proofs.YtiinnjjmoifoeaaGreatDoor
open Go Go.RowKit
end Go.Proofs.YtiinnjjmoifoeaaGreatDoor
set_option maxRecDepth 8000
namespace Go.Proofs.YtiinnjjmoifoeaaGreatDoor
open Go Go.RowKit
def zzv (F : List Nat) (h : List Cl) (n : Nat) : Cl := VM.putC F ((h[n]?).getD ⟨VM.vzero, VM.vzero⟩)
theorem zgi.keep {H H' : Heap} {g1 g2 gm gr nx : Nat} {o : List Nat} (h : zgi H g1 g2 gm gr o) (l1 : g1 < nx) (l2 : g2 < nx) (lm : gm < nx) (lr : o ≠ [] → gr < nx) (hk : ∀ g, g < nx → H' g = H g) : zgi H' g1 g2 gm gr o :=
  ⟨by rw [hk g1 l1]; exact h.m1, by rw [hk gm lm]; exact h.mm, by rw [hk g2 l2]; exact h.m2, fun ho => by rw [hk gr (lr ho)]; exact h.mr ho, h.d12, h.d1m, h.d2m, h.dr⟩
theorem zgi.next {H H' : Heap} {g1 g2 gm gr gn nx : Nat} {o : List Nat} {n : Nat} (h : zgi H g1 g2 gm gr o) (l1 : g1 < nx) (l2 : g2 < nx) (lm : gm < nx) (lr : o ≠ [] → gr < nx) (hgn : nx ≤ gn) (p3 : H' gm = some (.mp (zud (o ++ [n])))) (p4 : H' g2 = some (.row 1 [.slc gn 0 (o.length + 1)]))
    (p5 : H' gn = some (.row 1 (zlr (o ++ [n])))) (p7 : H' g1 = H g1) : zgi H' g1 g2 gm gn (o ++ [n]) :=
  ⟨by rw [p7]; exact h.m1, p3, by rw [p4]; simp, fun _ => p5, h.d12, h.d1m, h.d2m, fun _ => ⟨by omega, by omega, by omega⟩⟩
end Go.Proofs.YtiinnjjmoifoeaaGreatDoor
set_option maxRecDepth 8000
namespace Go.Proofs.YtiinnjjmoifoeaaGreatDoor
open Go Go.RowKit
structure zkg (h : List Cl) (l : List Val) (F : List Nat) (H0 : Heap) (nx i d : Nat) (o : List Nat) (a2 : AV) (H : Heap) (n gr go gv : Nat) : Prop where
  num : zgi H (nx + 1) (nx + 2) nx gr o
  lr : o ≠ [] → nx + 3 ≤ gr ∧ gr < n ∧ gv ≠ gr
  out : (d = 0 ∧ a2 = .nils) ∨ (0 < d ∧ a2 = .slc go 0 d ∧ H go = some (.row 6 (rowC ((o.take d).map (zzv F h)))) ∧ nx + 3 ≤ go ∧ go < n ∧ go ≠ gv ∧ go ≠ gr)
  vs : H gv = some (.row 3 (rowV ((l.take i).map (VM.put F) ++ l.drop i)))
  lv : nx + 3 ≤ gv ∧ gv < n
  keep : Keep nx H H0
  good : VM.Good h.length o
  dle : d ≤ o.length
theorem zkg.more {h : List Cl} {l : List Val} {F : List Nat} {H0 : Heap} {nx i d : Nat} {o : List Nat} {a2 : AV} {H : Heap} {n gr go gv : Nat} (st : zkg h l F H0 nx i d o a2 H n gr go gv) {H1 : Heap} {n1 : Nat} (hn : n ≤ n1) (hk : ∀ g, g < n → H1 g = H g) : zkg h l F H0 nx i d o a2 H1 n1 gr go gv := by
  have l1 := st.lv
  refine ⟨st.num.keep (nx := n) (by omega) (by omega) (by omega) (fun ho => (st.lr ho).2.1) hk, fun ho => ?_, ?_, by rw [hk gv l1.2]; exact st.vs, by omega, fun g hg => by rw [hk g (by omega)]; exact st.keep g hg, st.good, st.dle⟩
  · have := st.lr ho; omega
  · rcases st.out with h | ⟨p1, p2, p3, p4, p5, p6⟩
    · exact .inl h
    · exact .inr ⟨p1, p2, by rw [hk go p5]; exact p3, p4, by omega, p6⟩
theorem zvu {o o' : List Nat} (h : o <+: o') {d : Nat} (hd : d ≤ o.length) : o'.take d = o.take d := by
  obtain ⟨t, rfl⟩ := h
  rw [List.take_append_of_le_length hd]
theorem zkg.meet {h : List Cl} {l : List Val} {F : List Nat} {H0 : Heap} {nx i d : Nat} {o : List Nat} {a2 : AV} {H : Heap} {n gr go gv : Nat} (st : zkg h l F H0 nx i d o a2 H n gr go gv) {v : Val} (hv : VM.OkV h.length v) {H' : Heap} {n' gr' : Nat} (hn : n ≤ n')
    (q1 : zgi H' (nx + 1) (nx + 2) nx gr' (VM.meet o v)) (q2 : VM.meet o v ≠ [] → gr' < n' ∧ ((o ≠ [] ∧ gr' = gr) ∨ n ≤ gr')) (q3 : ∀ g, g < n → g ≠ nx → g ≠ nx + 2 → (o ≠ [] → g ≠ gr) → H' g = H g) : zkg h l F H0 nx i d (VM.meet o v) a2 H' n' gr' go gv := by
  have l1 := st.lv
  have p := VM.meet_pre o v
  have hgv : H' gv = H gv := q3 gv l1.2 (by omega) (by omega) fun ho => (st.lr ho).2.2
  refine ⟨q1, fun ho => ?_, ?_, by rw [hgv]; exact st.vs, by omega, fun g hg => ?_, st.good.meet hv, Nat.le_trans st.dle p.length_le⟩
  · obtain ⟨a, b⟩ := q2 ho
    rcases b with ⟨b1, rfl⟩ | b
    · have := st.lr b1; omega
    · omega
  · rcases st.out with h | ⟨p1, p2, p3, p4, p5, p6, p7⟩
    · exact .inl h
    · have ho : o ≠ [] := by intro e; subst e; have := st.dle; simp at this; omega
      refine .inr ⟨p1, p2, ?_, p4, by omega, p6, ?_⟩
      · rw [q3 go p5 (by omega) (by omega) fun _ => p7, zvu p st.dle]; exact p3
      · have hm : VM.meet o v ≠ [] := by
          intro e; rw [e] at p; exact ho (List.prefix_nil.1 p)
        rcases (q2 hm).2 with ⟨_, rfl⟩ | b
        · exact p7
        · omega
  · rw [q3 g (by omega) (by omega) (by omega) fun ho => by have := st.lr ho; omega]; exact st.keep g hg
end Go.Proofs.YtiinnjjmoifoeaaGreatDoor
set_option maxRecDepth 8000
namespace Go.Proofs.YtiinnjjmoifoeaaGreatDoor
open Go Go.RowKit
end Go.Proofs.YtiinnjjmoifoeaaGreatDoor
set_option maxRecDepth 8000
namespace Go.Proofs.YtiinnjjmoifoeaaGreatDoor
open Go Go.RowKit
end Go.Proofs.YtiinnjjmoifoeaaGreatDoor
set_option maxRecDepth 8000
namespace Go.Proofs.YtiinnjjmoifoeaaGreatDoor
open Go Go.RowKit
end Go.Proofs.YtiinnjjmoifoeaaGreatDoor
set_option maxRecDepth 8000
namespace Go.Proofs.YtiinnjjmoifoeaaGreatDoor
open Go Go.RowKit
def Grow (H : Heap) (lo n sz k : Nat) (cells : List AV) (a : AV) : Prop := (k = 0 ∧ a = .nils) ∨ (0 < k ∧ ∃ g, lo ≤ g ∧ g < n ∧ a = .slc g 0 k ∧ H g = some (.row sz cells))
theorem Grow.zero {H : Heap} {lo n sz : Nat} {cells : List AV} : Grow H lo n sz 0 cells .nils := .inl ⟨rfl, rfl⟩
theorem Grow.more {H H' : Heap} {lo n n' sz k : Nat} {cells : List AV} {a : AV} (h : Grow H lo n sz k cells a) (hn : n ≤ n') (hk : ∀ g, lo ≤ g → g < n → H' g = H g) : Grow H' lo n' sz k cells a := by
  rcases h with h | ⟨h0, g, h1, h2, h3, h4⟩
  · exact .inl h
  · exact .inr ⟨h0, g, h1, by omega, h3, by rw [hk g h1 h2]; exact h4⟩
theorem Grow.len {H : Heap} {lo n sz k : Nat} {cells : List AV} {a : AV} (h : Grow H lo n sz k cells a) {q : AV → Prop} : LNL a q = q (.int .i64 k) := by
  rcases h with ⟨rfl, rfl⟩ | ⟨h0, g, h1, h2, rfl, h4⟩ <;> simp
theorem Grow.app {H : Heap} {lo n sz k bytes t nx : Nat} {cells new : List AV} {a : AV} {kk : AV → Heap → Nat → Prop} (hg : Grow H lo n sz k cells a) (hlen : cells.length = k * sz) (ht : H t = some (.row sz new)) (hnl : new.length = sz) (hone : new.all AV.one = true)
    (hb : (k + 1) * bytes ≤ 140737488355328) (hn : n ≤ nx) (hlo : lo ≤ nx) (hk : ∀ H', Keep lo H' H → Grow H' lo (nx + 1) sz (k + 1) (cells ++ new) (.slc nx 0 (k + 1)) → kk (.slc nx 0 (k + 1)) H' (nx + 1)) : APP sz bytes a (.slc t 0 1) H nx kk := by
  have hs : ze sz H (.slc t 0 1) = some (1, new, [t]) := by
    simp only [ze, ht]
    rw [if_pos (by omega)]
    simp [← hnl]
  rcases hg with ⟨rfl, rfl⟩ | ⟨h0, g, h1, h2, rfl, h4⟩
  · rw [zxo, hs, optk]
    have hc : cells = [] := List.eq_nil_of_length_eq_zero (by omega)
    subst hc
    refine ⟨hone, fun h => absurd h Nat.one_ne_zero, fun _ => ?_⟩
    exact ⟨by simpa using hb, hk _ (fun x hx => Heap.put_ne _ _ (by omega)) (.inr ⟨by omega, nx, hlo, by omega, rfl, by rw [Heap.put_at]; rfl⟩)⟩
  · rw [zyz, hs, optk, h4, rowk]
    refine ⟨rfl, hone, by omega, Nat.le_add_right_of_le hb, hk _ (fun x hx => ?_) (.inr ⟨by omega, nx, hlo, by omega, rfl, ?_⟩)⟩
    · rw [Heap.put_ne _ _ (by omega), Heap.put_ne _ _ (by omega)]
    · rw [Heap.put_at, List.drop_zero, List.take_of_length_le (by omega)]
theorem Grow.append {H : Heap} {lo n sz k bytes t nx : Nat} {cells new : List AV} {a : AV} {kt : Kt} (hg : Grow H lo n sz k cells a) (hlen : cells.length = k * sz) (ht : H t = some (.row sz new)) (hnl : new.length = sz) (hone : new.all AV.one = true)
    (hb : (k + 1) * bytes ≤ 140737488355328) (hn : n ≤ nx) (hlo : lo ≤ nx) (hk : ∀ rd D, (∀ g ∈ domD D, lo ≤ g) → Keep lo (H.apply D) H → Grow (H.apply D) lo (nx + 1) sz (k + 1) (cells ++ new) (.slc nx 0 (k + 1)) → kt (.slc nx 0 (k + 1)) rd [nx] D) : zad sz bytes a (.slc t 0 1) H nx kt := by
  have hs : ze sz H (.slc t 0 1) = some (1, new, [t]) := by
    simp only [ze, ht]
    rw [if_pos (by omega)]
    simp [← hnl]
  rcases hg with ⟨rfl, rfl⟩ | ⟨h0, g, h1, h2, rfl, h4⟩
  · rw [zkr, hs, optk]
    have hc : cells = [] := List.eq_nil_of_length_eq_zero (by omega)
    subst hc
    refine ⟨hone, fun h => absurd h Nat.one_ne_zero, fun _ => ?_⟩
    exact ⟨by simpa using hb, hk _ _ (by simpa using hlo) (fun x hx => Heap.put_ne _ _ (by omega)) (.inr ⟨by omega, nx, hlo, by omega, rfl, by simp only [zbi, zbv, Heap.put_at]; rfl⟩)⟩
  · rw [zij, hs, optk, h4, rowk]
    refine ⟨rfl, hone, by omega, Nat.le_add_right_of_le hb, hk _ _ (by simp; omega) (fun x hx => ?_) (.inr ⟨by omega, nx, hlo, by omega, rfl, ?_⟩)⟩
    · simp only [zbi, zbv]; rw [Heap.put_ne _ _ (by omega), Heap.put_ne _ _ (by omega)]
    · simp only [zbi, zbv]; rw [Heap.put_at, List.drop_zero, List.take_of_length_le (by omega)]
end Go.Proofs.YtiinnjjmoifoeaaGreatDoor
set_option maxRecDepth 8000
namespace Go.Proofs.YtiinnjjmoifoeaaGreatDoor
open Go Go.RowKit
inductive FrzP (H : Heap) (G : Nat → Prop) : AV → AV → Prop
  | same (v : AV) : FrzP H G v v
  | nils : FrzP H G .nils (.ro [])
  | zs : FrzP H G .zs (.ro [])
  | slc (g off len sz : Nat) (cells : List AV) (xs : List (List AV)) : G g → H g = some (.row sz cells) → off + len * sz ≤ cells.length → xs.length = len → (∀ x ∈ xs, x.length = sz) →
      (U : Nat → Nat → AV) → (∀ (i : Nat) (x : List AV) (j : Nat) (v : AV), xs[i]? = some x → x[j]? = some v → cells[off + i * sz + j]? = some (U i j)) →
      (∀ (i : Nat) (x : List AV) (j : Nat) (v : AV), xs[i]? = some x → x[j]? = some v → FrzP H G (U i j) v) → FrzP H G (.slc g off len) (.ro xs)
  | agg (xs ys : List AV) : ys.length = xs.length → (∀ (j : Nat) (v u : AV), xs[j]? = some v → ys[j]? = some u → FrzP H G v u) → FrzP H G (.agg xs) (.agg ys)
theorem FrzP.rel {A : Nat → Prop} {ρ : Nat → Loc} {H H0 : Heap} {w : World} {G : Nat → Prop} (s : Sim A ρ H w) (h0 : ∀ g o, H0 g = some o → ¬ G g ∧ H g = some o) {v u : AV} (h : FrzP H G v u) :
    ∀ (c : Value), VRel (Kof ρ H w) ρ A v c → VRel (Kof ρ H0 w) ρ A u c := by
  have hK : ∀ b o, Kof ρ H w b = some o → Kof ρ H0 w b = some o := fun b o hb => by
    obtain ⟨h1, h2⟩ := zj.1 hb
    refine zj.2 ⟨fun g hg => ?_, h2⟩
    obtain ⟨o', ho'⟩ := Option.isSome_iff_exists.1 hg
    exact h1 g (by rw [(h0 g o' ho').2]; rfl)
  induction h with
  | same v => exact fun c hc => hc.mono hK (fun _ h => ⟨rfl, h⟩)
  | nils =>
    intro c hc
    cases hc
    exact .ro [] none 0 0 0 0 0 (fun _ _ => undef) rfl (Nat.le_refl _) (fun h => absurd rfl h) (fun x hx => by cases hx) (fun i x j v hx => by simp at hx) (fun i x j v hx => by simp at hx)
  | zs =>
    intro c hc
    cases hc with
    | zs a => exact .ro [] a 0 0 0 0 0 (fun _ _ => undef) rfl (Nat.le_refl _) (fun h => absurd rfl h) (fun x hx => by cases hx) (fun i x j v hx => by simp at hx) (fun i x j v hx => by simp at hx)
  | slc g off len sz cells xs hg hH hle hl hsz U hU _ ih =>
    intro c hc
    cases hc with
    | slc _ _ _ cap a hA hcl hcap =>
      obtain ⟨cc, el, lo, hi, q1, q2, q3, q4, q5, q6⟩ := s.obj g _ hH
      have hKb : Kof ρ H0 w (ρ g).block = some (.cells cc el (lo, hi)) := by
        refine zj.2 ⟨fun x hx e => ?_, q1⟩
        obtain ⟨o', ho'⟩ := Option.isSome_iff_exists.1 hx
        obtain ⟨h1, h2⟩ := h0 x o' ho'
        have := s.inj x g (by rw [h2]; rfl) (by rw [hH]; rfl) e
        subst this
        exact h1 hg
      have hex : ∀ (i : Nat) (x : List AV) (j : Nat) (v : AV), xs[i]? = some x → x[j]? = some v → ∃ cv, cc[(ρ g).base + (off + i * sz + j)]? = some cv ∧ VRel (Kof ρ H w) ρ A (U i j) cv := fun i x j v hx hv => q6 _ _ (hU i x j v hx hv)
      refine .ro xs a len cap sz (ρ g).block ((ρ g).base + off) (fun i j => (cc[(ρ g).base + (off + i * sz + j)]?).getD undef) hl.symm hcl (fun hne => ?_) hsz (fun i x j v hx hv => ?_) (fun i x j v hx hv => ?_)
      · have hpos : 0 < xs.length := List.length_pos_iff.2 hne
        exact (hcap (by omega)).2
      · obtain ⟨cv, h1, h2⟩ := hex i x j v hx hv
        unfold zcx
        rw [hKb]
        simp only [h1, Option.getD_some]
        rw [← h1]; congr 1; omega
      · obtain ⟨cv, h1, h2⟩ := hex i x j v hx hv
        rw [h1]
        exact ih i x j v hx hv cv h2
  | agg xs ys hl _ ih =>
    intro c hc
    cases hc with
    | agg _ cs h1 h2 =>
    exact .agg ys cs (by omega) fun j v c hv hc => by
        have hlt := (List.getElem?_eq_some_iff.1 hv).1
        have hx : xs[j]? = some (xs[j]'(by omega)) := List.getElem?_eq_getElem (by omega)
        exact ih j _ v hx hv c (h2 j _ c hx hc)
theorem FrzP.row {H : Heap} {G : Nat → Prop} {g sz len : Nat} {cells : List AV} {xs : List (List AV)} (hg : G g) (hH : H g = some (.row sz cells)) (hl : xs.length = len) (hs : ∀ x ∈ xs, x.length = sz) (hc : ∀ (i : Nat) (x : List AV) (j : Nat) (v : AV), xs[i]? = some x → x[j]? = some v → ∃ u, cells[i * sz + j]? = some u ∧ FrzP H G u v) (hle : len * sz ≤ cells.length) : FrzP H G (.slc g 0 len) (.ro xs) := by
  refine .slc g 0 len sz cells xs hg hH (by omega) hl hs (fun i j => (cells[i * sz + j]?).getD .junk) (fun i x j v hx hv => ?_) fun i x j v hx hv => ?_
  · obtain ⟨u, h1, h2⟩ := hc i x j v hx hv
    rw [Nat.zero_add, h1]; rfl
  · obtain ⟨u, h1, h2⟩ := hc i x j v hx hv
    rw [h1]; exact h2
end Go.Proofs.YtiinnjjmoifoeaaGreatDoor
set_option maxRecDepth 8000
namespace Go.Proofs.YtiinnjjmoifoeaaGreatDoor
open Go Go.RowKit
@[simp] theorem zaed : AV.zs.cells = [AV.zs] := rfl
@[simp] theorem zaeh : AV.zs.sure = true := rfl
@[simp] theorem zafy : AV.zs.one = true := rfl
@[simp ↓] theorem zux {esz bytes nx : Nat} {x : AV} {H : Heap} {kt : Kt} : zad esz bytes .zs x H nx kt = OPTK (ze esz H x) fun p => p.2.1.all AV.one = true ∧
    (p.1 = 0 → kt .zs p.2.2 [] []) ∧ (p.1 ≠ 0 → p.1 * bytes ≤ 140737488355328 ∧ kt (.slc nx 0 p.1) p.2.2 [nx] [(nx, some (.row esz p.2.1))]) := by
  simp only [zad, OPTK]
  cases hs : ze esz H x with
  | none => simp
  | some p => obtain ⟨m, news, rd⟩ := p; simp
def Slot (H : Heap) (sz k : Nat) (cells : List AV) (a : AV) : Prop := (k = 0 ∧ (a = .nils ∨ a = .zs)) ∨ ∃ g cs, a = .slc g 0 k ∧ H g = some (.row sz cs) ∧ cs.take (k * sz) = cells ∧ k * sz ≤ cs.length
def own : AV → List Nat
  | .slc g _ _ => [g]
  | _ => []
theorem Slot.keep {H H' : Heap} {sz k : Nat} {cells : List AV} {a : AV} (h : Slot H sz k cells a) (hk : ∀ g ∈ own a, H' g = H g) : Slot H' sz k cells a := by
  rcases h with h | ⟨g, cs, rfl, h1, h2, h3⟩
  · exact .inl h
  · exact .inr ⟨g, cs, rfl, by rw [hk g (by simp [own])]; exact h1, h2, h3⟩
theorem Slot.len {H : Heap} {sz k : Nat} {cells : List AV} {a : AV} (h : Slot H sz k cells a) {q : AV → Prop} : LNL a q = q (.int .i64 k) := by
  rcases h with ⟨rfl, rfl | rfl⟩ | ⟨g, cs, rfl, _⟩ <;> simp
theorem Slot.cut {H : Heap} {sz k j : Nat} {cells : List AV} {g off : Nat} (h : Slot H sz k cells (.slc g off k)) (hj : j ≤ k) : Slot H sz j (cells.take (j * sz)) (.slc g off j) := by
  rcases h with ⟨_, h | h⟩ | ⟨g', cs, h0, h1, h2, h3⟩
  · cases h
  · cases h
  · cases h0
    have : j * sz ≤ k * sz := Nat.mul_le_mul_right _ hj
    exact .inr ⟨g, cs, rfl, h1, by rw [← h2, List.take_take, Nat.min_eq_left this], by omega⟩
theorem Slot.append {H : Heap} {sz k bytes t nx : Nat} {cells new : List AV} {a : AV} {kt : Kt} (hg : Slot H sz k cells a) (hlen : cells.length = k * sz) (ht : H t = some (.row sz new)) (hnl : new.length = sz) (hone : new.all AV.one = true)
    (hb : (k + 1) * bytes ≤ 140737488355328) (hk : ∀ rd D, (∀ g ∈ domD D, g ∈ own a ∨ g = nx) → (H.apply D) nx = some (.row sz (cells ++ new)) → (∀ g, g ∉ own a → g ≠ nx → (H.apply D) g = H g) → kt (.slc nx 0 (k + 1)) rd [nx] D) : zad sz bytes a (.slc t 0 1) H nx kt := by
  have hs : ze sz H (.slc t 0 1) = some (1, new, [t]) := by
    simp only [ze, ht]
    rw [if_pos (by omega)]
    simp [← hnl]
  rcases hg with ⟨rfl, rfl | rfl⟩ | ⟨g, cs, rfl, h1, h2, h3⟩
  · rw [zkr, hs, optk]
    have hc : cells = [] := List.eq_nil_of_length_eq_zero (by omega)
    subst hc
    refine ⟨hone, fun h => absurd h Nat.one_ne_zero, fun _ => ?_⟩
    exact ⟨by simpa using hb, hk _ _ (by simp) (by simp only [zbi, zbv, Heap.put_at]; rfl) (fun x _ hx => by simp only [zbi, zbv]; exact Heap.put_ne _ _ hx)⟩
  · rw [zux, hs, optk]
    have hc : cells = [] := List.eq_nil_of_length_eq_zero (by omega)
    subst hc
    refine ⟨hone, fun h => absurd h Nat.one_ne_zero, fun _ => ?_⟩
    exact ⟨by simpa using hb, hk _ _ (by simp) (by simp only [zbi, zbv, Heap.put_at]; rfl) (fun x _ hx => by simp only [zbi, zbv]; exact Heap.put_ne _ _ hx)⟩
  · rw [zij, hs, optk, h1, rowk]
    refine ⟨rfl, hone, by omega, Nat.le_add_right_of_le hb, hk _ _ (by simp [own]) ?_ (fun x hx1 hx => ?_)⟩
    · simp only [zbi, zbv]; rw [Heap.put_at, List.drop_zero, h2]
    · simp only [zbi, zbv]; rw [Heap.put_ne _ _ hx, Heap.put_ne _ _ (by simpa [own] using hx1)]
theorem Slot.app {H : Heap} {sz k bytes t nx : Nat} {cells new : List AV} {a : AV} {kk : AV → Heap → Nat → Prop} (hg : Slot H sz k cells a) (hlen : cells.length = k * sz) (ht : H t = some (.row sz new)) (hnl : new.length = sz) (hone : new.all AV.one = true)
    (hb : (k + 1) * bytes ≤ 140737488355328) (hk : ∀ H', H' nx = some (.row sz (cells ++ new)) → (∀ g, g ∉ own a → g ≠ nx → H' g = H g) → kk (.slc nx 0 (k + 1)) H' (nx + 1)) : APP sz bytes a (.slc t 0 1) H nx kk := by
  have := hg.append (bytes := bytes) (t := t) (nx := nx) (new := new) (kt := fun v _ fr D => kk v (H.apply D) (nx + fr.length)) hlen ht hnl hone hb fun rd D _ h1 h2 => hk _ h1 h2
  exact this
def frow : List Frm → List (AV × AV) → List AV
  | f :: fs, s :: ss => .int .i64 f.fn :: .int .i64 f.at_ :: s.1 :: s.2 :: frow fs ss
  | _, _ => []
theorem zhz : ∀ {fs : List Frm} {ss : List (AV × AV)}, ss.length = fs.length → (frow fs ss).length = fs.length * 4
  | [], [], _ => rfl
  | f :: fs, s :: ss, h => by simp [frow, zhz (fs := fs) (ss := ss) (by simpa using h)]; omega
  | [], s :: ss, h => by simp at h
  | f :: fs, [], h => by simp at h
theorem znh : ∀ {fs : List Frm} {ss : List (AV × AV)} {f : Frm} {s : AV × AV}, ss.length = fs.length → frow (fs ++ [f]) (ss ++ [s]) = frow fs ss ++ [.int .i64 f.fn, .int .i64 f.at_, s.1, s.2]
  | [], [], f, s, _ => rfl
  | g :: fs, t :: ss, f, s, h => by simp [frow, znh (fs := fs) (ss := ss) (f := f) (s := s) (by simpa using h)]
  | [], s :: ss, _, _, h => by simp at h
  | f :: fs, [], _, _, h => by simp at h
def owns (ss : List (AV × AV)) : List Nat := ss.flatMap fun s => own s.1 ++ own s.2
def Spt.avs (s : Spt) : List AV := [.str s.name, .ro (s.facts.map fun x => .str x.key :: x.val.avs), .int .i64 s.fuel, .int .i64 s.cells]
def Evt.avs (e : Evt) : List AV := [.int .i64 e.kind, .str e.text, .int .i64 e.err]
def zov (id trip : Int) (p : Prg) (fa ha : AV) (m : Pmt) (gs : Nat) (e : Evt) : List AV :=
  [.int .i64 id, .int .i64 trip, .ro (p.codes.map Cod.avs), .ro (p.words.map fun w => [.str w]), fa, ha, .int .i64 m.fuel, .int .i64 m.room, .int .i64 m.hops, .ptr gs 0, .int .i64 e.kind, .str e.text, .int .i64 e.err]
def zbs (H : Heap) (fs : List Frm) (ss : List (AV × AV)) : Prop := ss.length = fs.length ∧ ∀ (k : Nat) (f : Frm) (s : AV × AV), fs[k]? = some f → ss[k]? = some s → Slot H 3 f.vars.length (rowV f.vars) s.1 ∧ Slot H 3 f.stack.length (rowV f.stack) s.2
theorem zbs.keep {H H' : Heap} {fs : List Frm} {ss : List (AV × AV)} (h : zbs H fs ss) (hk : ∀ g ∈ owns ss, H' g = H g) : zbs H' fs ss := by
  refine ⟨h.1, fun k f s hf hs => ?_⟩
  obtain ⟨a, b⟩ := h.2 k f s hf hs
  have hm := List.mem_of_getElem? hs
  exact ⟨a.keep fun g hg => hk g (List.mem_flatMap.2 ⟨s, hm, List.mem_append_left _ hg⟩), b.keep fun g hg => hk g (List.mem_flatMap.2 ⟨s, hm, List.mem_append_right _ hg⟩)⟩
theorem zbs.snoc {H : Heap} {fs : List Frm} {ss : List (AV × AV)} {f : Frm} {s : AV × AV} (h : zbs H fs ss) (h1 : Slot H 3 f.vars.length (rowV f.vars) s.1) (h2 : Slot H 3 f.stack.length (rowV f.stack) s.2) : zbs H (fs ++ [f]) (ss ++ [s]) := by
  refine ⟨by simp [h.1], fun k f' s' hf hs => ?_⟩
  by_cases hk : k < fs.length
  · rw [List.getElem?_append_left hk] at hf
    rw [List.getElem?_append_left (by rw [h.1]; exact hk)] at hs
    exact h.2 k f' s' hf hs
  · have hk' : k = fs.length := by have := (List.getElem?_eq_some_iff.1 hf).1; simp at this; omega
    subst hk'
    rw [List.getElem?_append_right (Nat.le_refl _)] at hf
    rw [List.getElem?_append_right (by rw [h.1]; exact Nat.le_refl _), h.1] at hs
    simp at hf hs
    subst hf; subst hs
    exact ⟨h1, h2⟩
theorem zbs.last {H : Heap} {fs : List Frm} {ss : List (AV × AV)} {f : Frm} {s : AV × AV} (h : zbs H (fs ++ [f]) (ss ++ [s])) : zbs H fs ss ∧ Slot H 3 f.vars.length (rowV f.vars) s.1 ∧ Slot H 3 f.stack.length (rowV f.stack) s.2 := by
  have hl : ss.length = fs.length := by simpa using h.1
  refine ⟨⟨hl, fun k f' s' hf hs => ?_⟩, h.2 fs.length f s (by simp) (by rw [← hl]; simp)⟩
  have h1 := (List.getElem?_eq_some_iff.1 hf).1
  exact h.2 k f' s' (by rw [List.getElem?_append_left h1]; exact hf) (by rw [List.getElem?_append_left (by omega)]; exact hs)
structure RL (H0 H : Heap) (lo n gr gs gf : Nat) (id trip : Int) (p : Prg) (s : Spt) (fs : List Frm) (ss : List (AV × AV)) (f : Frm) (va sa : AV) (h : List Cl) (ha : AV) (m : Pmt) (e : Evt) : Prop where
  run : H gr = some (.row 13 (zov id trip p (.slc gf 0 (fs.length + 1)) ha m gs e))
  fr : ∃ cs, H gf = some (.row 4 cs) ∧ cs.take ((fs.length + 1) * 4) = frow fs ss ++ [.int .i64 f.fn, .int .i64 f.at_, va, sa] ∧ (fs.length + 1) * 4 ≤ cs.length
  frs : zbs H fs ss
  sv : Slot H 3 f.vars.length (rowV f.vars) va
  st : Slot H 3 f.stack.length (rowV f.stack) sa
  hp : Slot H 6 h.length (rowC h) ha
  spot : H gs = some (.row 4 s.avs)
  nd : (gr :: gs :: gf :: (own ha ++ (owns ss ++ (own va ++ own sa)))).Nodup
  gsn : gs < n
  bd : ∀ g ∈ gr :: gf :: (own ha ++ (owns ss ++ (own va ++ own sa))), lo ≤ g ∧ g < n
  keep : Keep lo H H0
  le : lo ≤ n
end Go.Proofs.YtiinnjjmoifoeaaGreatDoor
set_option maxRecDepth 8000
namespace Go.Proofs.YtiinnjjmoifoeaaGreatDoor
open Go Go.RowKit
structure zye (n gr gs gf : Nat) (ha : AV) (ss : List (AV × AV)) (va sa : AV) : Prop where
  rs : gr ≠ gs
  rf : gr ≠ gf
  sf : gs ≠ gf
  r : gr < n
  s : gs < n
  f : gf < n
  h : ∀ g ∈ own ha, g < n ∧ g ≠ gr ∧ g ≠ gs ∧ g ≠ gf ∧ g ∉ owns ss ∧ g ∉ own va ∧ g ∉ own sa
  w : ∀ g ∈ owns ss, g < n ∧ g ≠ gr ∧ g ≠ gs ∧ g ≠ gf ∧ g ∉ own ha ∧ g ∉ own va ∧ g ∉ own sa
  v : ∀ g ∈ own va, g < n ∧ g ≠ gr ∧ g ≠ gs ∧ g ≠ gf ∧ g ∉ own ha ∧ g ∉ owns ss ∧ g ∉ own sa
  t : ∀ g ∈ own sa, g < n ∧ g ≠ gr ∧ g ≠ gs ∧ g ≠ gf ∧ g ∉ own ha ∧ g ∉ owns ss ∧ g ∉ own va
theorem zuy {lo n gr gs gf : Nat} {ha va sa : AV} {ss : List (AV × AV)} (nd : (gr :: gs :: gf :: (own ha ++ (owns ss ++ (own va ++ own sa)))).Nodup) (gsn : gs < n) (bd : ∀ g ∈ gr :: gf :: (own ha ++ (owns ss ++ (own va ++ own sa))), lo ≤ g ∧ g < n) : zye n gr gs gf ha ss va sa := by
  simp only [List.nodup_cons, List.nodup_append, List.mem_cons, List.mem_append, not_or] at nd
  simp only [List.mem_cons, List.mem_append] at bd
  obtain ⟨⟨a1, a2, a3, a4, a5, a6⟩, ⟨b1, b2, b3, b4, b5⟩, ⟨c1, c2, c3, c4⟩, n1, ⟨n2, ⟨n3, n4, n5⟩, n6⟩, n7⟩ := nd
  refine ⟨a1, a2, b1, (bd gr (by simp)).2, gsn, (bd gf (by simp)).2, fun g hg => ⟨(bd g (by simp [hg])).2, fun e => a3 (e ▸ hg), fun e => b2 (e ▸ hg), fun e => c1 (e ▸ hg), fun h => n7 g hg g (.inl h) rfl, fun h => n7 g hg g (.inr (.inl h)) rfl, fun h => n7 g hg g (.inr (.inr h)) rfl⟩,
    fun g hg => ⟨(bd g (by simp [hg])).2, fun e => a4 (e ▸ hg), fun e => b3 (e ▸ hg), fun e => c2 (e ▸ hg), fun h => n7 g h g (.inl hg) rfl, fun h => n6 g hg g (.inl h) rfl, fun h => n6 g hg g (.inr h) rfl⟩,
    fun g hg => ⟨(bd g (by simp [hg])).2, fun e => a5 (e ▸ hg), fun e => b4 (e ▸ hg), fun e => c3 (e ▸ hg), fun h => n7 g h g (.inr (.inl hg)) rfl, fun h => n6 g h g (.inl hg) rfl, fun h => n5 g hg g h rfl⟩,
    fun g hg => ⟨(bd g (by simp [hg])).2, fun e => a6 (e ▸ hg), fun e => b5 (e ▸ hg), fun e => c4 (e ▸ hg), fun h => n7 g h g (.inr (.inr hg)) rfl, fun h => n6 g h g (.inr hg) rfl, fun h => n5 g h g hg rfl⟩⟩
section
variable {H0 H : Heap} {lo n gr gs gf : Nat} {id trip : Int} {p : Prg} {s : Spt} {fs : List Frm} {ss : List (AV × AV)} {f : Frm} {va sa : AV} {h : List Cl} {ha : AV} {m : Pmt} {e : Evt}
theorem RL.apart (st : RL H0 H lo n gr gs gf id trip p s fs ss f va sa h ha m e) : zye n gr gs gf ha ss va sa := zuy st.nd st.gsn st.bd
theorem RL.upd (st : RL H0 H lo n gr gs gf id trip p s fs ss f va sa h ha m e) {H' : Heap} {n' : Nat} {f' : Frm} {va' sa' : AV} {h' : List Cl} {ha' : AV} {m' : Pmt} {e' : Evt} (hn : n ≤ n')
    (run' : H' gr = some (.row 13 (zov id trip p (.slc gf 0 (fs.length + 1)) ha' m' gs e'))) (fr' : ∃ cs, H' gf = some (.row 4 cs) ∧ cs.take ((fs.length + 1) * 4) = frow fs ss ++ [.int .i64 f'.fn, .int .i64 f'.at_, va', sa'] ∧ (fs.length + 1) * 4 ≤ cs.length)
    (sv' : Slot H' 3 f'.vars.length (rowV f'.vars) va') (st' : Slot H' 3 f'.stack.length (rowV f'.stack) sa') (hp' : Slot H' 6 h'.length (rowC h') ha')
    (hk : ∀ g, g < n → g ≠ gr → g ≠ gf → g ∉ own ha → g ∉ own va → g ∉ own sa → H' g = H g)
    (oh : ∀ g ∈ own ha', g ∈ own ha ∨ (n ≤ g ∧ g < n')) (ov : ∀ g ∈ own va', g ∈ own va ∨ (n ≤ g ∧ g < n')) (ot : ∀ g ∈ own sa', g ∈ own sa ∨ (n ≤ g ∧ g < n'))
    (nd3 : (own ha' ++ (own va' ++ own sa')).Nodup) : RL H0 H' lo n' gr gs gf id trip p s fs ss f' va' sa' h' ha' m' e' := by
  have ap := st.apart
  have b := st.bd
  simp only [List.mem_cons, List.mem_append] at b
  refine ⟨run', fr', st.frs.keep fun g hg => ?_, sv', st', hp', by rw [hk gs ap.s ap.rs.symm ap.sf (fun h => (ap.h _ h).2.2.1 rfl) (fun h => (ap.v _ h).2.2.1 rfl) (fun h => (ap.t _ h).2.2.1 rfl)]; exact st.spot, ?_, by have := st.gsn; omega, ?_, ?_, by have := st.le; omega⟩
  · obtain ⟨w1, w2, w3, w4, w5, w6, w7⟩ := ap.w g hg
    exact hk g w1 w2 w4 w5 w6 w7
  · have mh : ∀ g ∈ own ha', g ≠ gr ∧ g ≠ gs ∧ g ≠ gf ∧ g ∉ owns ss := fun g hg => by
      rcases oh g hg with h | h
      · obtain ⟨w1, w2, w3, w4, w5, w6, w7⟩ := ap.h g h; exact ⟨w2, w3, w4, w5⟩
      · have := ap.r; have := ap.s; have := ap.f
        exact ⟨by omega, by omega, by omega, fun hx => by have := (ap.w g hx).1; omega⟩
    have mv : ∀ g ∈ own va', g ≠ gr ∧ g ≠ gs ∧ g ≠ gf ∧ g ∉ owns ss := fun g hg => by
      rcases ov g hg with h | h
      · obtain ⟨w1, w2, w3, w4, w5, w6, w7⟩ := ap.v g h; exact ⟨w2, w3, w4, w6⟩
      · have := ap.r; have := ap.s; have := ap.f
        exact ⟨by omega, by omega, by omega, fun hx => by have := (ap.w g hx).1; omega⟩
    have mt : ∀ g ∈ own sa', g ≠ gr ∧ g ≠ gs ∧ g ≠ gf ∧ g ∉ owns ss := fun g hg => by
      rcases ot g hg with h | h
      · obtain ⟨w1, w2, w3, w4, w5, w6, w7⟩ := ap.t g h; exact ⟨w2, w3, w4, w6⟩
      · have := ap.r; have := ap.s; have := ap.f
        exact ⟨by omega, by omega, by omega, fun hx => by have := (ap.w g hx).1; omega⟩
    have ndw : (owns ss).Nodup := by
      have := st.nd
      simp only [List.nodup_cons, List.nodup_append] at this
      exact this.2.2.2.2.1.1
    simp only [List.nodup_append] at nd3
    obtain ⟨z1, ⟨z2, z3, z4⟩, z5⟩ := nd3
    simp only [List.nodup_cons, List.nodup_append, List.mem_cons, List.mem_append, not_or]
    refine ⟨⟨ap.rs, ap.rf, fun h => (mh _ h).1 rfl, fun h => (ap.w _ h).2.1 rfl, fun h => (mv _ h).1 rfl, fun h => (mt _ h).1 rfl⟩, ⟨ap.sf, fun h => (mh _ h).2.1 rfl, fun h => (ap.w _ h).2.2.1 rfl, fun h => (mv _ h).2.1 rfl, fun h => (mt _ h).2.1 rfl⟩, ⟨fun h => (mh _ h).2.2.1 rfl, fun h => (ap.w _ h).2.2.2.1 rfl, fun h => (mv _ h).2.2.1 rfl, fun h => (mt _ h).2.2.1 rfl⟩, z1, ⟨ndw, ⟨z2, z3, z4⟩, ?_⟩, ?_⟩
    · rintro x hx y (hy | hy) rfl
      · exact (mv _ hy).2.2.2 hx
      · exact (mt _ hy).2.2.2 hx
    · rintro x hx y (hy | hy | hy) rfl
      · exact (mh _ hx).2.2.2 hy
      · exact z5 _ hx _ (List.mem_append_left _ hy) rfl
      · exact z5 _ hx _ (List.mem_append_right _ hy) rfl
  · intro g hg
    have hl := st.le
    simp only [List.mem_cons, List.mem_append] at hg
    have old : (lo ≤ g ∧ g < n) → lo ≤ g ∧ g < n' := fun h => by omega
    have new : (n ≤ g ∧ g < n') → lo ≤ g ∧ g < n' := fun h => by omega
    rcases hg with hg | hg | hg | hg | hg | hg
    · exact old (b g (.inl hg))
    · exact old (b g (.inr (.inl hg)))
    · rcases oh g hg with h | h
      · exact old (b g (.inr (.inr (.inl h))))
      · exact new h
    · exact old (b g (.inr (.inr (.inr (.inl hg)))))
    · rcases ov g hg with h | h
      · exact old (b g (.inr (.inr (.inr (.inr (.inl h))))))
      · exact new h
    · rcases ot g hg with h | h
      · exact old (b g (.inr (.inr (.inr (.inr (.inr h))))))
      · exact new h
  · intro g hg
    have lb : ∀ x, (x = gr ∨ x = gf ∨ x ∈ own ha ∨ x ∈ owns ss ∨ x ∈ own va ∨ x ∈ own sa) → lo ≤ x := fun x hx => (b x hx).1
    have hl := st.le
    rw [hk g (by omega) (fun e => by have := lb gr (.inl rfl); omega) (fun e => by have := lb gf (.inr (.inl rfl)); omega) (fun h => by have := lb g (.inr (.inr (.inl h))); omega) (fun h => by have := lb g (.inr (.inr (.inr (.inr (.inl h))))); omega) (fun h => by have := lb g (.inr (.inr (.inr (.inr (.inr h))))); omega)]
    exact st.keep g hg
theorem RL.nd3 (st : RL H0 H lo n gr gs gf id trip p s fs ss f va sa h ha m e) : (own ha ++ (own va ++ own sa)).Nodup := by
  have := st.nd
  simp only [List.nodup_cons, List.nodup_append, List.mem_append] at this
  obtain ⟨_, _, _, n1, ⟨n2, ⟨n3, n4, n5⟩, n6⟩, n7⟩ := this
  simp only [List.nodup_append, List.mem_append]
  exact ⟨n1, ⟨n3, n4, n5⟩, fun a ha b hb => n7 a ha b (.inr hb)⟩
theorem RL.more (st : RL H0 H lo n gr gs gf id trip p s fs ss f va sa h ha m e) {H' : Heap} {n' : Nat} (hn : n ≤ n') (hk : ∀ g, g < n → H' g = H g) : RL H0 H' lo n' gr gs gf id trip p s fs ss f va sa h ha m e := by
  have ap := st.apart
  obtain ⟨cs, c1, c2⟩ := st.fr
  exact st.upd hn (by rw [hk _ ap.r]; exact st.run) ⟨cs, by rw [hk _ ap.f]; exact c1, c2⟩ (st.sv.keep fun g hg => hk g (ap.v g hg).1) (st.st.keep fun g hg => hk g (ap.t g hg).1) (st.hp.keep fun g hg => hk g (ap.h g hg).1) (fun g hg _ _ _ _ _ => hk g hg) (fun g hg => .inl hg) (fun g hg => .inl hg) (fun g hg => .inl hg) st.nd3
end
end Go.Proofs.YtiinnjjmoifoeaaGreatDoor
set_option maxRecDepth 8000
namespace Go.Proofs.YtiinnjjmoifoeaaGreatDoor
open Go Go.RowKit
theorem zuw {D : zi} : ∀ {H H' : Heap} {g : Nat}, g ∈ domD D → (H.apply D) g = (H'.apply D) g := by
  induction D with
  | nil => intro H H' g hg; simp at hg
  | cons d r ih =>
    obtain ⟨g', o⟩ := d
    intro H H' g hg
    show ((H.put g' o).apply r) g = ((H'.put g' o).apply r) g
    by_cases hr : g ∈ domD r
    · exact ih hr
    · rw [zju hr, zju hr]
      have : g = g' := by simpa [hr] using hg
      subst this
      rw [Heap.put_at, Heap.put_at]
theorem LC.of_calls {P : Program} {f : FuncId} {args : List AV} {r : AV} {H0 : Heap} {rd : List Nat} {D : zi} (hrd : ∀ g ∈ rd, (H0 g).isSome = true) (hdom : ∀ g ∈ domD D, g ∈ rd) (hr : ∀ A : Nat → Prop, (∀ g ∈ rd, A g) → (∀ g ∈ rd, ∀ o, H0 g = some o → BelO A o) → Bel A r)
    (hb : ∀ A : Nat → Prop, (∀ g ∈ rd, A g) → (∀ g ∈ rd, ∀ o, H0 g = some o → BelO A o) → ∀ g o, g ∈ domD D → (H0.apply D) g = some o → BelO A o)
    (h : ∀ H nx, (∀ g ∈ rd, H g = H0 g ∧ g < nx) → zb P f args H nx fun v H' nx' => v = r ∧ nx ≤ nx' ∧ (∀ g, g < nx → g ∉ domD D → H' g = H g) ∧ (∀ g o, g ∈ domD D → (H0.apply D) g = some o → H' g = some o)) : LC P f args H0 rd [] D r := by
  intro A ρ H w cargs ⟨N, hN⟩ s ha hag _
  have sN : Sim (· < N) ρ H w := ⟨fun g o ho => hN g (s.live g o ho), fun g o ho => (s.obj g o ho).mono rfl (fun _ _ h => h) (fun g hg => ⟨rfl, hN g hg⟩), s.inj, s.lay⟩
  have aN : LRel (Kof ρ H w) ρ (· < N) args cargs.toList := ⟨ha.1, fun j v c hv hc => (ha.2 j v c hv hc).mono (fun _ _ h => h) (fun g hg => ⟨rfl, hN g hg⟩)⟩
  have hrdA : ∀ g ∈ rd, A g := fun g hg => by
    obtain ⟨o, ho⟩ := Option.isSome_iff_exists.1 (hrd g hg)
    exact s.live g o ((hag g hg).trans ho)
  have hrdB : ∀ g ∈ rd, ∀ o, H0 g = some o → BelO A o := fun g hg o ho => (s.obj g o ((hag g hg).trans ho)).bel
  refine zm (h H N (fun g hg => ⟨hag g hg, hN g (hrdA g hg)⟩) ρ w cargs sN aN) fun cv w' ⟨v, H', nx', ρ', ⟨hv, hnx, hsame, hchg⟩, q3, q4, q5⟩ => ?_
  subst hv
  have hρ : ∀ g, g < N → ρ' g = ρ g := fun g hg => (q5.agree g hg).1
  have hAe : (fun x => A x ∨ x ∈ ([] : List Nat)) = A := by funext x; simp
  have lv : ∀ g o, (H.apply D) g = some o → A g ∧ H' g = some o ∧ BelO A o := fun g o ho => by
    by_cases hg : g ∈ domD D
    · rw [zuw (H' := H0) hg] at ho
      exact ⟨hrdA g (hdom g hg), hchg g o hg ho, hb A hrdA hrdB g o hg ho⟩
    · rw [zju hg] at ho
      have hA := s.live g o ho
      exact ⟨hA, by rw [hsame g (hN g hA) hg]; exact ho, (s.obj g o ho).bel⟩
  have hK : ∀ b o, Kof ρ' H' w' b = some o → Kof ρ' (H.apply D) w' b = some o := fun b o hb => by
    obtain ⟨h1, h2⟩ := zj.1 hb
    refine zj.2 ⟨fun g hg => ?_, h2⟩
    obtain ⟨o1, ho1⟩ := Option.isSome_iff_exists.1 hg
    exact h1 g (by rw [(lv g o1 ho1).2.1]; rfl)
  refine ⟨ρ', ?_, ?_, ?_⟩
  · rw [hAe]
    refine ⟨fun g o ho => (lv g o ho).1, fun g o ho => ?_, fun x y hx hy hxy => ?_, q3.lay.mono hK⟩
    · obtain ⟨_, h1, h2⟩ := lv g o ho
      exact ((q3.obj g o h1).restrict h2).mono rfl hK (fun _ h => ⟨rfl, h⟩)
    · obtain ⟨o1, ho1⟩ := Option.isSome_iff_exists.1 hx
      obtain ⟨o2, ho2⟩ := Option.isSome_iff_exists.1 hy
      exact q3.inj x y (by rw [(lv x o1 ho1).2.1]; rfl) (by rw [(lv y o2 ho2).2.1]; rfl) hxy
  · rw [hAe]
    exact (q4.restrict (hr A hrdA hrdB)).mono hK (fun g hg => ⟨rfl, hg⟩)
  · rw [hAe]
    exact ⟨fun g hg => ⟨hρ g (hN g hg), hg⟩, fun b o hb => hK b o (q5.k b o hb), q5.os, q5.tape, q5.output, q5.size⟩
end Go.Proofs.YtiinnjjmoifoeaaGreatDoor
set_option maxRecDepth 8000
namespace Go.Proofs.YtiinnjjmoifoeaaGreatDoor
open Go Go.RowKit
section
variable {ki : IntKind}
@[simp ↓] theorem zvw {s g off len : Nat} {a : Int} {H : Heap} {kt : Kt} : zai s (.slc g off len) none (some (.int ki a)) H kt = ROWK (H g) fun sz _ => sz = s ∧ 0 ≤ a ∧ a ≤ len ∧ kt (.slc g off a.toNat) [g] [] [] := by
  simp only [zai, lohi]
  refine zdc (fun sz cs h => ?_) fun h => ?_
  · simp [h]
  · intro ha
    split at ha
    · rename_i sz cs he; exact h _ _ he
    · exact ha
@[simp ↓] theorem zry {s g off len : Nat} {a : Int} {H : Heap} {kt : Kt} : zai s (.slc g off len) (some (.int ki a)) none H kt = ROWK (H g) fun sz _ => sz = s ∧ 0 ≤ a ∧ a ≤ len ∧ kt (.slc g (off + a.toNat * s) ((len : Int) - a).toNat) [g] [] [] := by
  simp only [zai, lohi]
  refine zdc (fun sz cs h => ?_) fun h => ?_
  · simp [h]
  · intro ha
    split at ha
    · rename_i sz cs he; exact h _ _ he
    · exact ha
end
section
variable {ki : IntKind}
@[simp ↓] theorem zaiu {s g off len : Nat} {a : Int} {H : Heap} {k : AV → Prop} : SL s (.slc g off len) (some (.int ki a)) none H k = ROWK (H g) fun sz _ => sz = s ∧ 0 ≤ a ∧ a ≤ len ∧ k (.slc g (off + a.toNat * s) ((len : Int) - a).toNat) := by
  unfold SL
  rw [zry]; rfl
@[simp ↓] theorem zaiv {s g off len : Nat} {a : Int} {H : Heap} {k : AV → Prop} : SL s (.slc g off len) none (some (.int ki a)) H k = ROWK (H g) fun sz _ => sz = s ∧ 0 ≤ a ∧ a ≤ len ∧ k (.slc g off a.toNat) := by
  unfold SL
  rw [zvw]; rfl
@[simp ↓] theorem zafu {s : Nat} {a : Int} {H : Heap} {k : AV → Prop} : SL s .nils (some (.int ki a)) none H k = (a = 0 ∧ k .nils) := by
  simp [SL, zai, lohi, PURE, qk]
@[simp ↓] theorem zafs {s : Nat} {a : Int} {H : Heap} {k : AV → Prop} : SL s .zs (some (.int ki a)) none H k = (a = 0 ∧ k .zs) := by
  simp [SL, zai, lohi, PURE, qk]
@[simp ↓] theorem zaft {s : Nat} {a : Int} {H : Heap} {k : AV → Prop} : SL s .zs none (some (.int ki a)) H k = (a = 0 ∧ k .zs) := by
  simp [SL, zai, lohi, PURE, qk]
@[simp ↓] theorem zafv {s : Nat} {a : Int} {H : Heap} {k : AV → Prop} : SL s .nils none (some (.int ki a)) H k = (a = 0 ∧ k .nils) := by
  simp [SL, zai, lohi, PURE, qk]
end
theorem znf (ss : List (AV × AV)) (t : AV × AV) : owns (ss ++ [t]) = owns ss ++ (own t.1 ++ own t.2) := by simp [owns]
end Go.Proofs.YtiinnjjmoifoeaaGreatDoor
