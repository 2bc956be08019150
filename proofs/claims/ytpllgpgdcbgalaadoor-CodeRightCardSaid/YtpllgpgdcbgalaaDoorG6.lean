/- Structures that are compared by their cells. The program's types, as its own table has them. What is to be shown of each function, written out. -/
import Derived.Test.YtpllgpgdcbgalaaDoorG3
import Derived.Laws.StructEq
import Derived.Test.YtpllgpgdcbgalaaDoorChecked
import Derived.Test.YtpllgpgdcbgalaaDoorG4
import Derived.KernelRfl
import Derived.Test.YtpllgpgdcbgalaaDoorG5
set_option linter.unusedSimpArgs false
set_option linter.unusedVariables false
namespace Go.Proofs.YtpllgpgdcbgalaaDoor
open Go Go.RowKit
section
variable (P : Program)
def szAt (t : TypeId) : Nat := match atOf P t with | some a => a.size | none => 0
def zjd (t : TypeId) : Bool := match atOf P t with | some a => !a.kind.isAgg && Nat.beq a.size 1 | none => false
def zfn (ok : TypeId → Option (List AV)) : List Field → Nat → Option (List AV)
  | [], _ => some []
  | f :: r, off => if f.name ≠ "_" ∧ f.offset = off then match ok f.type with
      | some z => match zfn ok r (off + z.length) with
        | some zr => some (z ++ zr)
        | none => none
      | none => none
    else none
def zgi : Nat → TypeId → Option (List AV)
  | 0, _ => none
  | d + 1, t => match P.underlying t with
    | some (.int k) => if zjd P t = true then some [.int k 0] else none
    | some .string => if zjd P t = true then some [.str []] else none
    | some .bool => if zjd P t = true then some [.bool false] else none
    | some (.struct fs) => if P.stoodInHeld t = false ∧ (match atOf P t with | some a => a.kind.isAgg | none => false) = true then match zfn (zgi d) fs.toList 0 with
        | some zs => if zs.length = szAt P t then some zs else none
        | none => none
      else none
    | _ => none
def zuj (t : TypeId) : Bool := match atOf P t with
  | some a => a.kind.isAgg && (match zgi P 4 t with | some zs => (zc zs a.zero).isSome | none => false) && !(P.eqGuardType P.depth t)
  | none => false
end
theorem zki : ∀ {xs ys : List AV} {r : Bool}, zc xs ys = some r → xs.length = ys.length
  | [], [], _, _ => rfl
  | [], _ :: _, _, h => by simp [zc] at h
  | x :: xs, [], _, h => by cases x <;> simp [zc] at h
  | x :: xs, y :: ys, r, h => by
    have : ∃ r', zc xs ys = some r' := by
      cases x <;> cases y <;> simp only [zc] at h <;> first
        | (cases h; done)
        | (split at h
           · obtain ⟨r', h', _⟩ := Option.map_eq_some_iff.1 h; exact ⟨r', h'⟩
           · cases h)
        | (obtain ⟨r', h', _⟩ := Option.map_eq_some_iff.1 h; exact ⟨r', h'⟩)
    obtain ⟨r', h'⟩ := this
    simp [zki h']
theorem zru {x y : AV} {xs ys : List AV} {r : Bool} (h : zc (x :: xs) (y :: ys) = some r) : ∃ r1 r2, zc [x] [y] = some r1 ∧ zc xs ys = some r2 ∧ r = (r1 && r2) := by
  cases x <;> cases y <;> simp only [zc] at h ⊢ <;> first
    | (cases h; done)
    | (split at h
       · rename_i hk
         obtain ⟨r', h', rfl⟩ := Option.map_eq_some_iff.1 h
         exact ⟨_, r', by rw [if_pos hk]; rfl, h', by simp⟩
       · cases h)
    | (obtain ⟨r', h', rfl⟩ := Option.map_eq_some_iff.1 h
       exact ⟨_, r', rfl, h', by simp⟩)
theorem zgj : ∀ {xs ys : List AV} {r1 r2 : Bool} {us vs : List AV}, zc xs ys = some r1 → zc us vs = some r2 → zc (xs ++ us) (ys ++ vs) = some (r1 && r2)
  | [], [], r1, r2, us, vs, h, k => by simp [zc] at h; subst h; simpa using k
  | [], _ :: _, _, _, _, _, h, _ => by simp [zc] at h
  | x :: xs, [], _, _, _, _, h, _ => by cases x <;> simp [zc] at h
  | x :: xs, y :: ys, r1, r2, us, vs, h, k => by
    cases x <;> cases y <;> simp only [zc, List.cons_append] at h ⊢ <;> first
      | (cases h; done)
      | (split at h
         · rename_i hk
           obtain ⟨r', h', rfl⟩ := Option.map_eq_some_iff.1 h
           rw [if_pos hk, zgj h' k]; simp [Bool.and_assoc]
         · cases h)
      | (obtain ⟨r', h', rfl⟩ := Option.map_eq_some_iff.1 h
         rw [zgj h' k]; simp [Bool.and_assoc])
theorem zhp : ∀ (n : Nat) {xs ys : List AV} {r : Bool}, zc xs ys = some r → ∃ r1 r2, zc (xs.take n) (ys.take n) = some r1 ∧ zc (xs.drop n) (ys.drop n) = some r2 ∧ r = (r1 && r2)
  | 0, xs, ys, r, h => ⟨true, r, by simp [zc], by simpa using h, by simp⟩
  | n + 1, [], [], r, h => ⟨true, r, by simp [zc], by simpa using h, by simp⟩
  | n + 1, [], _ :: _, r, h => by simp [zc] at h
  | n + 1, x :: xs, [], r, h => by cases x <;> simp [zc] at h
  | n + 1, x :: xs, y :: ys, r, h => by
    obtain ⟨r1, r2, h1, h2, rfl⟩ := zru h
    obtain ⟨q1, q2, g1, g2, rfl⟩ := zhp n h2
    refine ⟨r1 && q1, q2, ?_, by simpa using g2, by simp [Bool.and_assoc]⟩
    simpa using zgj h1 g1
theorem zev : ∀ {a b c : List AV}, (zc a b).isSome = true → (zc b c).isSome = true → (zc a c).isSome = true
  | [], [], c, _, h => h
  | [], _ :: _, _, h, _ => by simp [zc] at h
  | x :: a, [], _, h, _ => by cases x <;> simp [zc] at h
  | x :: a, y :: b, [], _, h => by cases y <;> simp [zc] at h
  | x :: a, y :: b, z :: c, h, k => by
    cases x <;> cases y <;> simp only [zc] at h <;> try (cases h; done)
    all_goals
      cases z <;> simp only [zc] at k <;> try (cases k; done)
    · split at h
      · rename_i h1
        split at k
        · rename_i h2
          simp only [zc]
          rw [if_pos (h1.trans h2)]
          have := zev (a := a) (b := b) (c := c) (by simpa using h) (by simpa using k)
          simpa using this
        · cases k
      · cases h
    · have := zev (a := a) (b := b) (c := c) (by simpa using h) (by simpa using k)
      simpa [zc] using this
    · have := zev (a := a) (b := b) (c := c) (by simpa using h) (by simpa using k)
      simpa [zc] using this
theorem zpw (n : Nat) {xs ys : List AV} (h : (zc xs ys).isSome = true) : (zc (xs.take n) (ys.take n)).isSome = true ∧ (zc (xs.drop n) (ys.drop n)).isSome = true := by
  obtain ⟨r, hr⟩ := Option.isSome_iff_exists.1 h
  obtain ⟨r1, r2, h1, h2, _⟩ := zhp n hr
  exact ⟨by rw [h1]; rfl, by rw [h2]; rfl⟩
section
variable {P : Program}
def zsf (P : Program) (t : TypeId) (z : AV) : Prop := match z with
  | .int k _ => P.underlying t = some (.int k)
  | .str _ => P.underlying t = some .string
  | .bool _ => P.underlying t = some .bool
  | _ => False
theorem zqv {t : TypeId} {k : Nat} {w : World} {K : zg} {ρ : Nat → Loc} {A : Nat → Prop} {z v u : AV} {a b : Value} {r : Bool} (hu : zsf P t z) (hz : (zc [z] [v]).isSome = true)
    (hv : VRel K ρ A v a) (hw : VRel K ρ A u b) (he : zc [v] [u] = some r) : (Op.equalIn (k + 1) t a b).run P w = .ok r w := by
  cases z <;> simp only [zsf] at hu <;> cases v <;> simp only [zc] at hz <;> (try (cases hz; done)) <;> cases u <;> simp only [zc] at he <;> (try (cases he; done)) <;> cases hv <;> cases hw
  · split at he
    · rename_i hk
      subst hk
      rw [run_equalIn_int w k t _ _ _ _ hu]
      simpa using he
    · cases he
  · rw [run_equalIn_bool' w k t _ _ hu]; simpa using he
  · rw [run_equalIn_string w k t _ _ hu]; simpa [ByteArray.toList_eq] using he
def zzb (P : Program) (d : Nat) (t : TypeId) (zs : List AV) : Prop := ∃ a, atOf P t = some a ∧ zs.length = a.size ∧ (a.kind.isAgg = false → a.size = 1) ∧ ∀ (k : Nat), d ≤ k → ∀ (w : World) (K : zg) (ρ : Nat → Loc) (A : Nat → Prop) (cells cells' : List AV) (off : Nat) (v u : AV) (r : Bool) (x y : Value),
    ldv a.kind.isAgg a.size cells off = some v → ldv a.kind.isAgg a.size cells' off = some u → (zc zs ((cells.drop off).take a.size)).isSome = true → zc ((cells.drop off).take a.size) ((cells'.drop off).take a.size) = some r → VRel K ρ A v x → VRel K ρ A u y →
    (Op.equalIn k t x y).run P w = .ok r w
theorem zjj {d : Nat} {t : TypeId} {z : AV} (hu : zsf P t z) (hs : zjd P t = true) : zzb P (d + 1) t [z] := by
  unfold zjd at hs
  cases ha : atOf P t with
  | none => rw [ha] at hs; cases hs
  | some a =>
    rw [ha] at hs
    simp only [Bool.and_eq_true] at hs
    have hag : a.kind.isAgg = false := by simpa using hs.1
    have hsz : a.size = 1 := Nat.eq_of_beq_eq_true hs.2
    refine ⟨a, ha, by rw [hsz]; rfl, fun _ => hsz, fun k hk w K ρ A cells cells' off v u r x y e1 e2 e0 e3 r1 r2 => ?_⟩
    simp only [ldv, hag, cond_false] at e1 e2
    have t1 : ∀ {l : List AV} {q : AV}, l[off]? = some q → (l.drop off).take 1 = [q] := by
      intro l q hl
      obtain ⟨hlt, rfl⟩ := List.getElem?_eq_some_iff.1 hl
      rw [List.drop_eq_getElem_cons hlt]; rfl
    rw [hsz, t1 e1] at e0
    rw [hsz, t1 e1, t1 e2] at e3
    obtain ⟨k', rfl⟩ : ∃ k', k = k' + 1 := ⟨k - 1, by omega⟩
    exact zqv hu e0 r1 r2 e3
theorem zrt : ∀ (d : Nat) (t : TypeId) (zs : List AV), zgi P d t = some zs → zzb P d t zs
  | 0, t, zs, h => by cases h
  | d + 1, t, zs, h => by
    unfold zgi at h
    split at h
    · rename_i ki hu
      split at h
      · rename_i hs; cases h; exact zjj hu hs
      · cases h
    · rename_i hu
      split at h
      · rename_i hs; cases h; exact zjj hu hs
      · cases h
    · rename_i hu
      split at h
      · rename_i hs; cases h; exact zjj hu hs
      · cases h
    · rename_i fs hu
      by_cases hc : P.stoodInHeld t = false ∧ (match atOf P t with | some a => a.kind.isAgg | none => false) = true
      case neg => rw [if_neg hc] at h; cases h
      rw [if_pos hc] at h
      obtain ⟨hst, h3⟩ := hc
      split at h
      case h_2 => cases h
      rename_i zs' hf
      split at h
      case isFalse => cases h
      rename_i hlen
      obtain rfl := Option.some.inj h
      cases ha : atOf P t with
      | none => rw [ha] at h3; cases h3
      | some a =>
        rw [ha] at h3
        simp only at h3
        have hl : zs'.length = a.size := by rw [hlen]; unfold szAt; rw [ha]
        refine ⟨a, ha, hl, fun e => (by rw [h3] at e; cases e), fun k hk w K ρ A cells cells' off v u r x y e1 e2 e0 e3 r1 r2 => ?_⟩
        simp only [ldv, h3, cond_true] at e1 e2
        split at e1
        case isFalse => cases e1
        rename_i l1
        split at e2
        case isFalse => cases e2
        rename_i l2
        cases e1
        cases e2
        cases r1 with
        | agg _ cs g1 g2 =>
        cases r2 with
        | agg _ ds g3 g4 =>
        obtain ⟨k', rfl⟩ : ∃ k', k = k' + 1 := ⟨k - 1, by omega⟩
        have hfo : P.fieldsOf t = fs := by simp [Program.fieldsOf, hu]
        rw [run_equalIn_struct w k' t cs ds (by rw [hfo]; exact hu) hst, hfo]
        have loop : ∀ (fl : List Field) (o : Nat) (zs xs ys : List AV) (r : Bool), zfn (zgi P d) fl o = some zs → LRel K ρ A xs cs.toList → LRel K ρ A ys ds.toList → xs.length = o + zs.length → ys.length = o + zs.length →
            (zc zs (xs.drop o)).isSome = true → zc (xs.drop o) (ys.drop o) = some r → (Op.eqFields k' cs ds fl).run P w = .ok r w := by
          intro fl
          induction fl with
          | nil =>
            intro o zs xs ys r hf q1 q2 n1 n2 hz he
            simp only [zfn, Option.some.injEq] at hf
            subst hf
            simp only [List.length_nil] at n1 n2
            rw [List.drop_of_length_le (by omega), List.drop_of_length_le (by omega)] at he
            simp only [zc, Option.some.injEq] at he
            simp [Op.eqFields, Sem.run_pure, he]
          | cons f fl ih =>
            intro o zs xs ys r hf q1 q2 n1 n2 hz he
            unfold zfn at hf
            split at hf
            case isFalse => cases hf
            rename_i hc
            obtain ⟨c1, c2⟩ := hc
            split at hf
            case h_2 => cases hf
            rename_i z hzk
            split at hf
            case h_2 => cases hf
            rename_i zr hzr
            obtain rfl := Option.some.inj hf
            obtain ⟨b, hb, hzl, hb1, hrun⟩ := zrt d f.type z hzk
            rw [List.length_append] at n1 n2
            obtain ⟨s1, s2, t1, t2, rfl⟩ := zhp z.length he
            obtain ⟨z1, z2⟩ := zpw z.length hz
            rw [List.take_left] at z1
            rw [List.drop_left, List.drop_drop] at z2
            rw [List.drop_drop, List.drop_drop] at t2
            obtain ⟨i, dd, zv, hb'⟩ := (show TOk P (atOf P) from fun _ _ h => h).at hb
            have ld : ∀ l : List AV, l.length = o + (z.length + zr.length) → ∃ q, ldv b.kind.isAgg b.size l o = some q := by
              intro l hl
              unfold ldv
              cases hag : b.kind.isAgg with
              | true => rw [cond_true, if_pos (by omega)]; exact ⟨_, rfl⟩
              | false =>
                rw [cond_false]
                have := hb1 hag
                exact ⟨_, List.getElem?_eq_getElem (by omega)⟩
            obtain ⟨p, hp⟩ := ld xs n1
            obtain ⟨q, hq⟩ := ld ys n2
            obtain ⟨pv, hpv, hpr⟩ := zgm (P := P) (w := w) hb' q1 hp
            obtain ⟨qv, hqv, hqr⟩ := zgm (P := P) (w := w) hb' q2 hq
            have hone := hrun k' (by omega) w K ρ A xs ys o p q s1 pv qv hp hq (by rw [← hzl]; exact z1) (by rw [← hzl]; exact t1) hpr hqr
            have hrest := ih (o + z.length) zr xs ys s2 hzr q1 q2 (by omega) (by omega) z2 t2
            simp only [Op.eqFields, c1, ne_eq, not_false_eq_true, if_true, Sem.run_bind, c2, hpv, hqv, hone, Result.andThen_ok]
            cases s1
            · simp [Sem.run_pure]
            · simpa using hrest
        refine loop fs.toList 0 zs' _ _ r hf ⟨by simpa using g1, fun j v c h1 h2 => g2 j v c h1 (by simpa using h2)⟩ ⟨by simpa using g3, fun j v c h1 h2 => g4 j v c h1 (by simpa using h2)⟩ (by simp; omega) (by simp; omega) ?_ ?_
        · simpa using e0
        · simpa using e3
    · cases h
theorem zzz {d : Nat} {t : TypeId} {a : AT} {zs : List AV} (hd : d ≤ 10000) (h : zgi P d t = some zs) (hz : (zc zs a.zero).isSome = true) (hg : P.eqGuardType P.depth t = false) (ha : atOf P t = some a) (hag : a.kind.isAgg = true) : EqTy P t a.zero := by
  intro w K ρ A xs ys cs ds r x y op q1 q2 hl he
  obtain ⟨a', ha', hzl, _, hrun⟩ := zrt d t zs h
  obtain rfl : a = a' := Option.some.inj (ha.symm.trans ha')
  have hlen := zki he
  have hzx := zev hz hl
  have hxl : zs.length = xs.length := by obtain ⟨r0, h0⟩ := Option.isSome_iff_exists.1 hzx; exact zki h0
  refine ⟨?_, run_eqGuard_agg w op t x y cs ds hg⟩
  unfold Op.equal Op.maxDepth
  have full : ∀ l : List AV, l.length = a.size → (l.drop 0).take a.size = l := fun l hl => by rw [List.drop_zero, List.take_of_length_le (by omega)]
  refine hrun 10000 hd w K ρ A xs ys 0 (.agg xs) (.agg ys) r _ _ ?_ ?_ ?_ ?_ (LRel.agg q1) (LRel.agg q2)
  · simp only [ldv, hag, cond_true]; rw [if_pos (by omega), full xs (by omega)]
  · simp only [ldv, hag, cond_true]; rw [if_pos (by omega), full ys (by omega)]
  · rw [full xs (by omega)]; exact hzx
  · rw [full xs (by omega), full ys (by omega)]; exact he
theorem zxw {T : Nat → Option AT} (hT : TOk P T) : EOk P T (zuj P) := by
  intro t a h ht
  have ha := hT t a ht
  unfold zuj at h
  rw [ha] at h
  simp only [Bool.and_eq_true] at h
  obtain ⟨⟨h1, h2⟩, h3⟩ := h
  cases hk : zgi P 4 t with
  | none => rw [hk] at h2; cases h2
  | some zs =>
    rw [hk] at h2
    exact zzz (by omega) hk h2 (by simpa using h3) ha h1
end
end Go.Proofs.YtpllgpgdcbgalaaDoor
namespace Go.Proofs.YtpllgpgdcbgalaaDoor
open Go Go.RowKit
theorem mixed : Tryd.prog.follows .mixedOrders = true := by kernel_rfl
noncomputable def tab : Nat → Option AT := atOf Tryd.prog
theorem zu : TOk Tryd.prog tab := fun _ _ h => h
def znj (t : Nat) : Bool := Nat.blt t 1000000
noncomputable def eqsT (t : Nat) : Bool := bif znj t then zuj Tryd.prog t else false
theorem zx : EOk Tryd.prog tab eqsT := by
  intro t a h ht
  unfold eqsT at h
  generalize znj t = b at h
  cases b with
  | true => rw [cond_true] at h; exact zxw zu t a h ht
  | false => rw [cond_false] at h; cases h
end Go.Proofs.YtpllgpgdcbgalaaDoor
set_option maxRecDepth 8000
namespace Go.Proofs.YtpllgpgdcbgalaaDoor
open Go Go.RowKit
@[simp] theorem zaem : zb tab 2 = 1 := by kernel_rfl
@[simp] theorem zael : zb tab 3 = 1 := by kernel_rfl
@[simp] theorem zaek : zb tab 4 = 1 := by kernel_rfl
@[simp] theorem zaej : zb tab 5 = 1 := by kernel_rfl
@[simp] theorem zaei : zb tab 6 = 1 := by kernel_rfl
@[simp] theorem zaeh : zb tab 9 = 1 := by kernel_rfl
@[simp] theorem zadj : zb tab 12 = 1 := by kernel_rfl
@[simp] theorem zadi : zb tab 17 = 1 := by kernel_rfl
@[simp] theorem zadh : zb tab 22 = 1 := by kernel_rfl
@[simp] theorem zadg : zb tab 23 = 1 := by kernel_rfl
@[simp] theorem zadf : zb tab 31 = 1 := by kernel_rfl
@[simp] theorem zade : zb tab 32 = 1 := by kernel_rfl
@[simp] theorem zadd : zb tab 38 = 1 := by kernel_rfl
@[simp] theorem zadc : zb tab 41 = 1 := by kernel_rfl
@[simp] theorem zadb : zb tab 57 = 1 := by kernel_rfl
@[simp] theorem zada : zb tab 64 = 1 := by kernel_rfl
@[simp] theorem zacz : zb tab 71 = 1 := by kernel_rfl
@[simp] theorem zacy : zb tab 88 = 1 := by kernel_rfl
@[simp] theorem zabz : zb tab 120 = 1 := by kernel_rfl
@[simp] theorem zaby : zb tab 135 = 1 := by kernel_rfl
@[simp] theorem zabx : zb tab 159 = 1 := by kernel_rfl
@[simp] theorem zabw : zb tab 172 = 0 := by kernel_rfl
@[simp] theorem zabv : zb tab 176 = 1 := by kernel_rfl
@[simp] theorem zabu : zb tab 177 = 1 := by kernel_rfl
@[simp] theorem zabt : zb tab 178 = 1 := by kernel_rfl
@[simp] theorem zabs : zb tab 179 = 1 := by kernel_rfl
@[simp] theorem zabr : zb tab 180 = 1 := by kernel_rfl
def zaw (Q : QT) (K1 : J3) (xs2 : List AV) (H3 : Heap) (nx4 : Nat) : Prop :=
 NC (nth xs2 0) fun v5 =>
 FA 0 v5 fun v6 =>
 LD false 1 v6 H3 fun v7 =>
 LNS v7 fun v8 =>
 BI BinOp.gtr v8 (AV.int IntKind.i64 0) fun v9 =>
 CND v9
 (NC (nth xs2 0) fun v10 =>
 FA 0 v10 fun v11 =>
 LD false 1 v11 H3 fun v12 =>
 IX v12 (AV.int IntKind.i64 0) fun v13 =>
 BI BinOp.eql v13 (AV.int IntKind.u8 32) fun v14 =>
 CND v14
 (NC (nth xs2 0) fun v15 =>
 FA 0 v15 fun v16 =>
 LD false 1 v16 H3 fun v17 =>
 SLS v17 (some (AV.int IntKind.i64 1)) none fun v18 =>
 NC (nth xs2 0) fun v19 =>
 FA 0 v19 fun v20 =>
 ST 1 v20 v18 H3 fun H21 =>
 K1 [nth xs2 0] H21 nx4)
 (NC (nth xs2 0) fun v22 =>
 FA 0 v22 fun v23 =>
 LD false 1 v23 H3 fun v24 =>
 IX v24 (AV.int IntKind.i64 0) fun v25 =>
 BI BinOp.eql v25 (AV.int IntKind.u8 10) fun v26 =>
 CNDC v26
 (NC (nth xs2 0) fun v27 =>
 FA 0 v27 fun v28 =>
 LD false 1 v28 H3 fun v29 =>
 SLS v29 (some (AV.int IntKind.i64 1)) none fun v30 =>
 NC (nth xs2 0) fun v31 =>
 FA 0 v31 fun v32 =>
 ST 1 v32 v30 H3 fun H33 =>
 K1 [nth xs2 0] H33 nx4)
 (NC (nth xs2 0) fun v34 =>
 FA 0 v34 fun v35 =>
 LD false 1 v35 H3 fun v36 =>
 LNS v36 fun v37 =>
 BI BinOp.eql v37 (AV.int IntKind.i64 0) fun v38 =>
 CNDC v38
 (Q (AV.int IntKind.u8 0) H3 nx4)
 (NC (nth xs2 0) fun v39 =>
 FA 0 v39 fun v40 =>
 LD false 1 v40 H3 fun v41 =>
 IX v41 (AV.int IntKind.i64 0) fun v42 =>
 BI BinOp.eql v42 (AV.int IntKind.u8 0) fun v43 =>
 CNDC v43
 (Q (AV.int IntKind.u8 1) H3 nx4)
 (NC (nth xs2 0) fun v44 =>
 FA 0 v44 fun v45 =>
 LD false 1 v45 H3 fun v46 =>
 IX v46 (AV.int IntKind.i64 0) fun v47 =>
 Q v47 H3 nx4)))))
 (NC (nth xs2 0) fun v48 =>
 FA 0 v48 fun v49 =>
 LD false 1 v49 H3 fun v50 =>
 LNS v50 fun v51 =>
 BI BinOp.eql v51 (AV.int IntKind.i64 0) fun v52 =>
 CNDC v52
 (Q (AV.int IntKind.u8 0) H3 nx4)
 (NC (nth xs2 0) fun v53 =>
 FA 0 v53 fun v54 =>
 LD false 1 v54 H3 fun v55 =>
 IX v55 (AV.int IntKind.i64 0) fun v56 =>
 BI BinOp.eql v56 (AV.int IntKind.u8 0) fun v57 =>
 CNDC v57
 (Q (AV.int IntKind.u8 1) H3 nx4)
 (NC (nth xs2 0) fun v58 =>
 FA 0 v58 fun v59 =>
 LD false 1 v59 H3 fun v60 =>
 IX v60 (AV.int IntKind.i64 0) fun v61 =>
 Q v61 H3 nx4)))
def ziw (a0 : AV) (H : Heap) (nx : Nat) (Q : QT) : Prop :=
 LP (zaw Q) [a0] H nx
theorem zmg (a0 : AV) (H : Heap) (nx : Nat) (Q : QT) : ziw a0 H nx Q → za Tryd.prog 27 [a0] H nx Q :=
  ze (lv := lvOf [(2, 1, [0])]) (c := zp Tryd.f27) zu zx mixed Tryd.func27 (by kernel_rfl) (by kernel_rfl) (by kernel_rfl) (by kernel_rfl) (by kernel_rfl)
def zfm (a0 a1 : AV) (H : Heap) (nx : Nat) (Q : QT) : Prop :=
 NC a0 fun v1 =>
 FA 1 v1 fun v2 =>
 LD false 1 v2 H fun v3 =>
 BI BinOp.eql v3 (AV.int IntKind.i64 0) fun v4 =>
 CNDC v4
 (NC a0 fun v5 =>
 FA 1 v5 fun v6 =>
 ST 1 v6 a1 H fun H7 =>
 Q (AV.tup []) H7 nx)
 (Q (AV.tup []) H nx)
theorem zml (a0 a1 : AV) (H : Heap) (nx : Nat) (Q : QT) : zfm a0 a1 H nx Q → za Tryd.prog 48 [a0, a1] H nx Q :=
  ze (lv := lvOf []) (c := zp Tryd.f48) zu zx mixed Tryd.func48 (by kernel_rfl) (by kernel_rfl) (by kernel_rfl) (by kernel_rfl) (by kernel_rfl)
def zix (Q : QT) (v13 : AV) (H14 : Heap) (nx15 : Nat) : Prop :=
 Q (AV.tup []) H14 nx15
def zcn (a1 : AV) (a0 : AV) (Q : QT) (v1 : AV) (H2 : Heap) (nx3 : Nat) : Prop :=
 BI BinOp.eql v1 a1 fun v4 =>
 CNDC v4
 (NC a0 fun v5 =>
 FA 0 v5 fun v6 =>
 LD false 1 v6 H2 fun v7 =>
 SLS v7 (some (AV.int IntKind.i64 1)) none fun v8 =>
 NC a0 fun v9 =>
 FA 0 v9 fun v10 =>
 ST 1 v10 v8 H2 fun H11 =>
 Q (AV.tup []) H11 nx3)
 (BI BinOp.eql v1 (AV.int IntKind.u8 0) fun v12 =>
 CNDC v12
 (za Tryd.prog 48 [a0, AV.int IntKind.i64 8] H2 nx3 (zix Q))
 (za Tryd.prog 48 [a0, AV.int IntKind.i64 2] H2 nx3 (zix Q)))
def zoh (a0 a1 : AV) (H : Heap) (nx : Nat) (Q : QT) : Prop :=
 za Tryd.prog 27 [a0] H nx (zcn a1 a0 Q)
theorem zmh (a0 a1 : AV) (H : Heap) (nx : Nat) (Q : QT) : zoh a0 a1 H nx Q → za Tryd.prog 28 [a0, a1] H nx Q :=
  ze (lv := lvOf []) (c := zp Tryd.f28) zu zx mixed Tryd.func28 (by kernel_rfl) (by kernel_rfl) (by kernel_rfl) (by kernel_rfl) (by kernel_rfl)
def zdq (Q : QT) (K13 : J3) (xs14 : List AV) (H15 : Heap) (nx16 : Nat) : Prop :=
 BI BinOp.lss (nth xs14 2) (nth xs14 1) fun v17 =>
 CNDC v17
 (IX (nth xs14 0) (nth xs14 2) fun v18 =>
 BI BinOp.lss v18 (AV.int IntKind.u8 97) fun v19 =>
 CND v19
 (Q (AV.bool false) H15 nx16)
 (IX (nth xs14 0) (nth xs14 2) fun v20 =>
 BI BinOp.gtr v20 (AV.int IntKind.u8 122) fun v21 =>
 CNDC v21
 (Q (AV.bool false) H15 nx16)
 (BI BinOp.add (nth xs14 2) (AV.int IntKind.i64 1) fun v22 =>
 K13 [nth xs14 0, nth xs14 1, v22] H15 nx16)))
 (LNS (nth xs14 0) fun v23 =>
 BI BinOp.gtr v23 (AV.int IntKind.i64 0) fun v24 =>
 CND v24
 (LNS (nth xs14 0) fun v25 =>
 BI BinOp.lss v25 (AV.int IntKind.i64 9) fun v26 =>
 Q v26 H15 nx16)
 (Q (AV.bool false) H15 nx16))
def zdp (Q : QT) (K3 : J3) (xs4 : List AV) (H5 : Heap) (nx6 : Nat) : Prop :=
 BI BinOp.lss (nth xs4 3) (nth xs4 2) fun v7 =>
 CNDC v7
 (IA 1 (nth xs4 1) (nth xs4 3) fun v8 =>
 LD false 1 v8 H5 fun v9 =>
 BS BinOp.eql (nth xs4 0) v9 fun v10 =>
 CNDC v10
 (Q (AV.bool false) H5 nx6)
 (BI BinOp.add (nth xs4 3) (AV.int IntKind.i64 1) fun v11 =>
 K3 [nth xs4 0, nth xs4 1, nth xs4 2, v11] H5 nx6))
 (LNS (nth xs4 0) fun v12 =>
 LP (zdq Q) [nth xs4 0, v12, AV.int IntKind.i64 0] H5 nx6)
def zkm (a0 : AV) (H : Heap) (nx : Nat) (Q : QT) : Prop :=
 PUTH H nx (AObj.row 1 [AV.str [108, 101, 116], AV.str [115, 101, 116], AV.str [105, 102], AV.str [119, 104, 105, 108, 101], AV.str [115, 97, 121], AV.str [114, 101, 116, 117, 114, 110], AV.str [112, 117, 116, 108], AV.str [112, 117, 116, 114], AV.str [100, 111], AV.str [99, 101, 108, 108], AV.str [108, 101, 102, 116], AV.str [114, 105, 103, 104, 116], AV.str [97, 115, 107], AV.str [104, 101, 114, 101], AV.str [103, 111]]) fun H1 =>
 LNL (AV.slc nx 0 15) fun v2 =>
 LP (zdp Q) [a0, AV.slc nx 0 15, v2, AV.int IntKind.i64 0] H1 (nx + 1)
theorem znx (a0 : AV) (H : Heap) (nx : Nat) (Q : QT) : zkm a0 H nx Q → za Tryd.prog 14 [a0] H nx Q :=
  ze (lv := lvOf [(2, 2, [0, 6, 7, 8]), (2, 8, [0, 17, 18])]) (c := zp Tryd.f14) zu zx mixed Tryd.func14 (by kernel_rfl) (by kernel_rfl) (by kernel_rfl) (by kernel_rfl) (by kernel_rfl)
def zi (xs5 : List AV) (Q : QT) (_ : AV) (H46 : Heap) (nx47 : Nat) : Prop :=
 NC (nth xs5 0) fun v48 =>
 FA 0 v48 fun v49 =>
 LD false 1 v49 H46 fun v50 =>
 SLS v50 none (some (nth xs5 1)) fun v51 =>
 NC (nth xs5 0) fun v52 =>
 FA 0 v52 fun v53 =>
 LD false 1 v53 H46 fun v54 =>
 SLS v54 (some (nth xs5 1)) none fun v55 =>
 NC (nth xs5 0) fun v56 =>
 FA 0 v56 fun v57 =>
 ST 1 v57 v55 H46 fun H58 =>
 Q v51 H58 nx47
def zbt (Q : QT) (K4 : J3) (xs5 : List AV) (H6 : Heap) (nx7 : Nat) : Prop :=
 NC (nth xs5 0) fun v8 =>
 FA 0 v8 fun v9 =>
 LD false 1 v9 H6 fun v10 =>
 LNS v10 fun v11 =>
 BI BinOp.lss (nth xs5 1) v11 fun v12 =>
 CND v12
 (NC (nth xs5 0) fun v13 =>
 FA 0 v13 fun v14 =>
 LD false 1 v14 H6 fun v15 =>
 IX v15 (nth xs5 1) fun v16 =>
 BI BinOp.neq v16 (AV.int IntKind.u8 32) fun v17 =>
 CND v17
 (NC (nth xs5 0) fun v18 =>
 FA 0 v18 fun v19 =>
 LD false 1 v19 H6 fun v20 =>
 IX v20 (nth xs5 1) fun v21 =>
 BI BinOp.neq v21 (AV.int IntKind.u8 10) fun v22 =>
 CND v22
 (NC (nth xs5 0) fun v23 =>
 FA 0 v23 fun v24 =>
 LD false 1 v24 H6 fun v25 =>
 IX v25 (nth xs5 1) fun v26 =>
 BI BinOp.neq v26 (AV.int IntKind.u8 40) fun v27 =>
 CND v27
 (NC (nth xs5 0) fun v28 =>
 FA 0 v28 fun v29 =>
 LD false 1 v29 H6 fun v30 =>
 IX v30 (nth xs5 1) fun v31 =>
 BI BinOp.neq v31 (AV.int IntKind.u8 41) fun v32 =>
 CND v32
 (NC (nth xs5 0) fun v33 =>
 FA 0 v33 fun v34 =>
 LD false 1 v34 H6 fun v35 =>
 IX v35 (nth xs5 1) fun v36 =>
 BI BinOp.neq v36 (AV.int IntKind.u8 39) fun v37 =>
 CNDC v37
 (BI BinOp.add (nth xs5 1) (AV.int IntKind.i64 1) fun v38 =>
 K4 [nth xs5 0, v38] H6 nx7)
 (BI BinOp.eql (nth xs5 1) (AV.int IntKind.i64 0) fun v39 =>
 CND v39
 (NC (nth xs5 0) fun v40 =>
 FA 0 v40 fun v41 =>
 LD false 1 v41 H6 fun v42 =>
 LNS v42 fun v43 =>
 BI BinOp.eql v43 (AV.int IntKind.i64 0) fun v44 =>
 CNDC v44
 (za Tryd.prog 48 [nth xs5 0, AV.int IntKind.i64 8] H6 nx7 (zi xs5 Q))
 (BI BinOp.eql (nth xs5 1) (AV.int IntKind.i64 0) fun v59 =>
 CNDC v59
 (za Tryd.prog 48 [nth xs5 0, AV.int IntKind.i64 2] H6 nx7 (zi xs5 Q))
 (NC (nth xs5 0) fun v74 =>
 FA 0 v74 fun v75 =>
 LD false 1 v75 H6 fun v76 =>
 SLS v76 none (some (nth xs5 1)) fun v77 =>
 NC (nth xs5 0) fun v78 =>
 FA 0 v78 fun v79 =>
 LD false 1 v79 H6 fun v80 =>
 SLS v80 (some (nth xs5 1)) none fun v81 =>
 NC (nth xs5 0) fun v82 =>
 FA 0 v82 fun v83 =>
 ST 1 v83 v81 H6 fun H84 =>
 Q v77 H84 nx7)))
 (BI BinOp.eql (nth xs5 1) (AV.int IntKind.i64 0) fun v85 =>
 CNDC v85
 (za Tryd.prog 48 [nth xs5 0, AV.int IntKind.i64 2] H6 nx7 (zi xs5 Q))
 (NC (nth xs5 0) fun v100 =>
 FA 0 v100 fun v101 =>
 LD false 1 v101 H6 fun v102 =>
 SLS v102 none (some (nth xs5 1)) fun v103 =>
 NC (nth xs5 0) fun v104 =>
 FA 0 v104 fun v105 =>
 LD false 1 v105 H6 fun v106 =>
 SLS v106 (some (nth xs5 1)) none fun v107 =>
 NC (nth xs5 0) fun v108 =>
 FA 0 v108 fun v109 =>
 ST 1 v109 v107 H6 fun H110 =>
 Q v103 H110 nx7))))
 (BI BinOp.eql (nth xs5 1) (AV.int IntKind.i64 0) fun v111 =>
 CND v111
 (NC (nth xs5 0) fun v112 =>
 FA 0 v112 fun v113 =>
 LD false 1 v113 H6 fun v114 =>
 LNS v114 fun v115 =>
 BI BinOp.eql v115 (AV.int IntKind.i64 0) fun v116 =>
 CNDC v116
 (za Tryd.prog 48 [nth xs5 0, AV.int IntKind.i64 8] H6 nx7 (zi xs5 Q))
 (BI BinOp.eql (nth xs5 1) (AV.int IntKind.i64 0) fun v131 =>
 CNDC v131
 (za Tryd.prog 48 [nth xs5 0, AV.int IntKind.i64 2] H6 nx7 (zi xs5 Q))
 (NC (nth xs5 0) fun v146 =>
 FA 0 v146 fun v147 =>
 LD false 1 v147 H6 fun v148 =>
 SLS v148 none (some (nth xs5 1)) fun v149 =>
 NC (nth xs5 0) fun v150 =>
 FA 0 v150 fun v151 =>
 LD false 1 v151 H6 fun v152 =>
 SLS v152 (some (nth xs5 1)) none fun v153 =>
 NC (nth xs5 0) fun v154 =>
 FA 0 v154 fun v155 =>
 ST 1 v155 v153 H6 fun H156 =>
 Q v149 H156 nx7)))
 (BI BinOp.eql (nth xs5 1) (AV.int IntKind.i64 0) fun v157 =>
 CNDC v157
 (za Tryd.prog 48 [nth xs5 0, AV.int IntKind.i64 2] H6 nx7 (zi xs5 Q))
 (NC (nth xs5 0) fun v172 =>
 FA 0 v172 fun v173 =>
 LD false 1 v173 H6 fun v174 =>
 SLS v174 none (some (nth xs5 1)) fun v175 =>
 NC (nth xs5 0) fun v176 =>
 FA 0 v176 fun v177 =>
 LD false 1 v177 H6 fun v178 =>
 SLS v178 (some (nth xs5 1)) none fun v179 =>
 NC (nth xs5 0) fun v180 =>
 FA 0 v180 fun v181 =>
 ST 1 v181 v179 H6 fun H182 =>
 Q v175 H182 nx7))))
 (BI BinOp.eql (nth xs5 1) (AV.int IntKind.i64 0) fun v183 =>
 CND v183
 (NC (nth xs5 0) fun v184 =>
 FA 0 v184 fun v185 =>
 LD false 1 v185 H6 fun v186 =>
 LNS v186 fun v187 =>
 BI BinOp.eql v187 (AV.int IntKind.i64 0) fun v188 =>
 CNDC v188
 (za Tryd.prog 48 [nth xs5 0, AV.int IntKind.i64 8] H6 nx7 (zi xs5 Q))
 (BI BinOp.eql (nth xs5 1) (AV.int IntKind.i64 0) fun v203 =>
 CNDC v203
 (za Tryd.prog 48 [nth xs5 0, AV.int IntKind.i64 2] H6 nx7 (zi xs5 Q))
 (NC (nth xs5 0) fun v218 =>
 FA 0 v218 fun v219 =>
 LD false 1 v219 H6 fun v220 =>
 SLS v220 none (some (nth xs5 1)) fun v221 =>
 NC (nth xs5 0) fun v222 =>
 FA 0 v222 fun v223 =>
 LD false 1 v223 H6 fun v224 =>
 SLS v224 (some (nth xs5 1)) none fun v225 =>
 NC (nth xs5 0) fun v226 =>
 FA 0 v226 fun v227 =>
 ST 1 v227 v225 H6 fun H228 =>
 Q v221 H228 nx7)))
 (BI BinOp.eql (nth xs5 1) (AV.int IntKind.i64 0) fun v229 =>
 CNDC v229
 (za Tryd.prog 48 [nth xs5 0, AV.int IntKind.i64 2] H6 nx7 (zi xs5 Q))
 (NC (nth xs5 0) fun v244 =>
 FA 0 v244 fun v245 =>
 LD false 1 v245 H6 fun v246 =>
 SLS v246 none (some (nth xs5 1)) fun v247 =>
 NC (nth xs5 0) fun v248 =>
 FA 0 v248 fun v249 =>
 LD false 1 v249 H6 fun v250 =>
 SLS v250 (some (nth xs5 1)) none fun v251 =>
 NC (nth xs5 0) fun v252 =>
 FA 0 v252 fun v253 =>
 ST 1 v253 v251 H6 fun H254 =>
 Q v247 H254 nx7))))
 (BI BinOp.eql (nth xs5 1) (AV.int IntKind.i64 0) fun v255 =>
 CND v255
 (NC (nth xs5 0) fun v256 =>
 FA 0 v256 fun v257 =>
 LD false 1 v257 H6 fun v258 =>
 LNS v258 fun v259 =>
 BI BinOp.eql v259 (AV.int IntKind.i64 0) fun v260 =>
 CNDC v260
 (za Tryd.prog 48 [nth xs5 0, AV.int IntKind.i64 8] H6 nx7 (zi xs5 Q))
 (BI BinOp.eql (nth xs5 1) (AV.int IntKind.i64 0) fun v275 =>
 CNDC v275
 (za Tryd.prog 48 [nth xs5 0, AV.int IntKind.i64 2] H6 nx7 (zi xs5 Q))
 (NC (nth xs5 0) fun v290 =>
 FA 0 v290 fun v291 =>
 LD false 1 v291 H6 fun v292 =>
 SLS v292 none (some (nth xs5 1)) fun v293 =>
 NC (nth xs5 0) fun v294 =>
 FA 0 v294 fun v295 =>
 LD false 1 v295 H6 fun v296 =>
 SLS v296 (some (nth xs5 1)) none fun v297 =>
 NC (nth xs5 0) fun v298 =>
 FA 0 v298 fun v299 =>
 ST 1 v299 v297 H6 fun H300 =>
 Q v293 H300 nx7)))
 (BI BinOp.eql (nth xs5 1) (AV.int IntKind.i64 0) fun v301 =>
 CNDC v301
 (za Tryd.prog 48 [nth xs5 0, AV.int IntKind.i64 2] H6 nx7 (zi xs5 Q))
 (NC (nth xs5 0) fun v316 =>
 FA 0 v316 fun v317 =>
 LD false 1 v317 H6 fun v318 =>
 SLS v318 none (some (nth xs5 1)) fun v319 =>
 NC (nth xs5 0) fun v320 =>
 FA 0 v320 fun v321 =>
 LD false 1 v321 H6 fun v322 =>
 SLS v322 (some (nth xs5 1)) none fun v323 =>
 NC (nth xs5 0) fun v324 =>
 FA 0 v324 fun v325 =>
 ST 1 v325 v323 H6 fun H326 =>
 Q v319 H326 nx7))))
 (BI BinOp.eql (nth xs5 1) (AV.int IntKind.i64 0) fun v327 =>
 CND v327
 (NC (nth xs5 0) fun v328 =>
 FA 0 v328 fun v329 =>
 LD false 1 v329 H6 fun v330 =>
 LNS v330 fun v331 =>
 BI BinOp.eql v331 (AV.int IntKind.i64 0) fun v332 =>
 CNDC v332
 (za Tryd.prog 48 [nth xs5 0, AV.int IntKind.i64 8] H6 nx7 (zi xs5 Q))
 (BI BinOp.eql (nth xs5 1) (AV.int IntKind.i64 0) fun v347 =>
 CNDC v347
 (za Tryd.prog 48 [nth xs5 0, AV.int IntKind.i64 2] H6 nx7 (zi xs5 Q))
 (NC (nth xs5 0) fun v362 =>
 FA 0 v362 fun v363 =>
 LD false 1 v363 H6 fun v364 =>
 SLS v364 none (some (nth xs5 1)) fun v365 =>
 NC (nth xs5 0) fun v366 =>
 FA 0 v366 fun v367 =>
 LD false 1 v367 H6 fun v368 =>
 SLS v368 (some (nth xs5 1)) none fun v369 =>
 NC (nth xs5 0) fun v370 =>
 FA 0 v370 fun v371 =>
 ST 1 v371 v369 H6 fun H372 =>
 Q v365 H372 nx7)))
 (BI BinOp.eql (nth xs5 1) (AV.int IntKind.i64 0) fun v373 =>
 CNDC v373
 (za Tryd.prog 48 [nth xs5 0, AV.int IntKind.i64 2] H6 nx7 (zi xs5 Q))
 (NC (nth xs5 0) fun v388 =>
 FA 0 v388 fun v389 =>
 LD false 1 v389 H6 fun v390 =>
 SLS v390 none (some (nth xs5 1)) fun v391 =>
 NC (nth xs5 0) fun v392 =>
 FA 0 v392 fun v393 =>
 LD false 1 v393 H6 fun v394 =>
 SLS v394 (some (nth xs5 1)) none fun v395 =>
 NC (nth xs5 0) fun v396 =>
 FA 0 v396 fun v397 =>
 ST 1 v397 v395 H6 fun H398 =>
 Q v391 H398 nx7))))
 (BI BinOp.eql (nth xs5 1) (AV.int IntKind.i64 0) fun v399 =>
 CND v399
 (NC (nth xs5 0) fun v400 =>
 FA 0 v400 fun v401 =>
 LD false 1 v401 H6 fun v402 =>
 LNS v402 fun v403 =>
 BI BinOp.eql v403 (AV.int IntKind.i64 0) fun v404 =>
 CNDC v404
 (za Tryd.prog 48 [nth xs5 0, AV.int IntKind.i64 8] H6 nx7 (zi xs5 Q))
 (BI BinOp.eql (nth xs5 1) (AV.int IntKind.i64 0) fun v419 =>
 CNDC v419
 (za Tryd.prog 48 [nth xs5 0, AV.int IntKind.i64 2] H6 nx7 (zi xs5 Q))
 (NC (nth xs5 0) fun v434 =>
 FA 0 v434 fun v435 =>
 LD false 1 v435 H6 fun v436 =>
 SLS v436 none (some (nth xs5 1)) fun v437 =>
 NC (nth xs5 0) fun v438 =>
 FA 0 v438 fun v439 =>
 LD false 1 v439 H6 fun v440 =>
 SLS v440 (some (nth xs5 1)) none fun v441 =>
 NC (nth xs5 0) fun v442 =>
 FA 0 v442 fun v443 =>
 ST 1 v443 v441 H6 fun H444 =>
 Q v437 H444 nx7)))
 (BI BinOp.eql (nth xs5 1) (AV.int IntKind.i64 0) fun v445 =>
 CNDC v445
 (za Tryd.prog 48 [nth xs5 0, AV.int IntKind.i64 2] H6 nx7 (zi xs5 Q))
 (NC (nth xs5 0) fun v460 =>
 FA 0 v460 fun v461 =>
 LD false 1 v461 H6 fun v462 =>
 SLS v462 none (some (nth xs5 1)) fun v463 =>
 NC (nth xs5 0) fun v464 =>
 FA 0 v464 fun v465 =>
 LD false 1 v465 H6 fun v466 =>
 SLS v466 (some (nth xs5 1)) none fun v467 =>
 NC (nth xs5 0) fun v468 =>
 FA 0 v468 fun v469 =>
 ST 1 v469 v467 H6 fun H470 =>
 Q v463 H470 nx7)))
def zmd (Q : QT) (a0 : AV) (v1 : AV) (H2 : Heap) (nx3 : Nat) : Prop :=
 LP (zbt Q) [a0, AV.int IntKind.i64 0] H2 nx3
def zqq (a0 : AV) (H : Heap) (nx : Nat) (Q : QT) : Prop :=
 za Tryd.prog 27 [a0] H nx (zmd Q a0)
theorem zof (a0 : AV) (H : Heap) (nx : Nat) (Q : QT) : zqq a0 H nx Q → za Tryd.prog 49 [a0] H nx Q :=
  ze (lv := lvOf [(2, 3, [0, 3])]) (c := zp Tryd.f49) zu zx mixed Tryd.func49 (by kernel_rfl) (by kernel_rfl) (by kernel_rfl) (by kernel_rfl) (by kernel_rfl)
def zqt (Q : QT) (v1 : AV) (v8 : AV) (H9 : Heap) (nx10 : Nat) : Prop :=
 Q v1 H9 nx10
def zhl (a0 : AV) (Q : QT) (v1 : AV) (v4 : AV) (H5 : Heap) (nx6 : Nat) : Prop :=
 UO UnOp.not v4 fun v7 =>
 CNDC v7
 (za Tryd.prog 48 [a0, AV.int IntKind.i64 7] H5 nx6 (zqt Q v1))
 (Q v1 H5 nx6)
def zqs (a0 : AV) (Q : QT) (v1 : AV) (H2 : Heap) (nx3 : Nat) : Prop :=
 za Tryd.prog 14 [v1] H2 nx3 (zhl a0 Q v1)
def zqr (a0 : AV) (H : Heap) (nx : Nat) (Q : QT) : Prop :=
 za Tryd.prog 49 [a0] H nx (zqs a0 Q)
theorem zog (a0 : AV) (H : Heap) (nx : Nat) (Q : QT) : zqr a0 H nx Q → za Tryd.prog 29 [a0] H nx Q :=
  ze (lv := lvOf []) (c := zp Tryd.f29) zu zx mixed Tryd.func29 (by kernel_rfl) (by kernel_rfl) (by kernel_rfl) (by kernel_rfl) (by kernel_rfl)
def znw (K1 : J3) (xs2 : List AV) (v13 : AV) (H14 : Heap) (nx15 : Nat) : Prop :=
 K1 [nth xs2 0, nth xs2 1] H14 nx15
def zhy (Q : QT) (v16 : AV) (H17 : Heap) (nx18 : Nat) : Prop :=
 Q (AV.tup []) H17 nx18
def zec (xs2 : List AV) (K1 : J3) (Q : QT) (v9 : AV) (H10 : Heap) (nx11 : Nat) : Prop :=
 BI BinOp.neq v9 (AV.int IntKind.u8 41) fun v12 =>
 CNDC v12
 (CALL Tryd.prog (nth xs2 1) [] H10 nx11 (znw K1 xs2))
 (za Tryd.prog 28 [nth xs2 0, AV.int IntKind.u8 41] H10 nx11 (zhy Q))
def zeb (Q : QT) (K1 : J3) (xs2 : List AV) (H3 : Heap) (nx4 : Nat) : Prop :=
 NC (nth xs2 0) fun v5 =>
 FA 1 v5 fun v6 =>
 LD false 1 v6 H3 fun v7 =>
 BI BinOp.eql v7 (AV.int IntKind.i64 0) fun v8 =>
 CND v8
 (za Tryd.prog 27 [nth xs2 0] H3 nx4 (zec xs2 K1 Q))
 (za Tryd.prog 28 [nth xs2 0, AV.int IntKind.u8 41] H3 nx4 (zhy Q))
def zhx (a0 a1 : AV) (H : Heap) (nx : Nat) (Q : QT) : Prop :=
 LP (zeb Q) [a0, a1] H nx
theorem zlf (a0 a1 : AV) (H : Heap) (nx : Nat) (Q : QT) : zhx a0 a1 H nx Q → za Tryd.prog 30 [a0, a1] H nx Q :=
  ze (lv := lvOf [(2, 0, [0, 1])]) (c := zp Tryd.f30) zu zx mixed Tryd.func30 (by kernel_rfl) (by kernel_rfl) (by kernel_rfl) (by kernel_rfl) (by kernel_rfl)
def zia (nx : Nat) (Q : QT) (_ : AV) (H6 : Heap) (nx7 : Nat) : Prop :=
 LD false 1 (AV.ptr (nx + 2) 0) H6 fun v8 =>
 Q v8 H6 nx7
def zhz (a0 a1 : AV) (H : Heap) (nx : Nat) (Q : QT) : Prop :=
 a0.sure = true ∧
 PUTH H nx (AObj.row a0.cells.length a0.cells) fun H1 =>
 a1.sure = true ∧
 PUTH H1 (nx + 1) (AObj.row a1.cells.length a1.cells) fun H2 =>
 PUTH H2 (nx + 2) (AObj.row 1 [AV.nils]) fun H3 =>
 LD false 1 (AV.ptr nx 0) H3 fun v4 =>
 za Tryd.prog 30 [v4, AV.clo 50 [AV.ptr (nx + 2) 0, AV.ptr nx 0, AV.ptr (nx + 1) 0]] H3 (nx + 3) (zia nx Q)
theorem zlg (a0 a1 : AV) (H : Heap) (nx : Nat) (Q : QT) : zhz a0 a1 H nx Q → za Tryd.prog 32 [a0, a1] H nx Q :=
  ze (lv := lvOf []) (c := zp Tryd.f32) zu zx mixed Tryd.func32 (by kernel_rfl) (by kernel_rfl) (by kernel_rfl) (by kernel_rfl) (by kernel_rfl)
def zfl (nx28 : Nat) (xs8 : List AV) (K7 : J3) (v41 : AV) (H42 : Heap) (nx43 : Nat) : Prop :=
 ST 1 (AV.ptr nx28 2) v41 H42 fun H44 =>
 LD true 3 (AV.ptr nx28 0) H44 fun v45 =>
 BSL 1 3 [AV.str [], AV.nils, AV.nils] [(0, v45)] fun cells46 =>
 PUTH H44 nx43 (AObj.row 3 cells46) fun H47 =>
 APP 3 64 (nth xs8 1) (AV.slc nx43 0 1) H47 (nx43 + 1) fun v48 H49 nx50 =>
 K7 [nth xs8 0, v48] H49 nx50
def zjp (xs8 : List AV) (nx28 : Nat) (K7 : J3) (_ : AV) (H38 : Heap) (nx39 : Nat) : Prop :=
 LD false 1 (nth xs8 0) H38 fun v40 =>
 za Tryd.prog 32 [v40, AV.int IntKind.i64 0] H38 nx39 (zfl nx28 xs8 K7)
def zjo (xs8 : List AV) (nx28 : Nat) (K7 : J3) (_ : AV) (H34 : Heap) (nx35 : Nat) : Prop :=
 LD false 1 (nth xs8 0) H34 fun v36 =>
 za Tryd.prog 30 [v36, AV.clo 31 [AV.ptr nx28 0, nth xs8 0]] H34 nx35 (zjp xs8 nx28 K7)
def zjn (xs8 : List AV) (K7 : J3) (v26 : AV) (H27 : Heap) (nx28 : Nat) : Prop :=
 BD (zt tab [(9, 0), (32, 1), (41, 2)]) [AV.str [], AV.nils, AV.nils] [(0, v26)] fun v29 =>
 PUTH H27 nx28 (AObj.row 3 [AV.str [], AV.nils, AV.nils]) fun H30 =>
 ST 3 (AV.ptr nx28 0) v29 H30 fun H31 =>
 LD false 1 (nth xs8 0) H31 fun v32 =>
 za Tryd.prog 28 [v32, AV.int IntKind.u8 40] H31 (nx28 + 1) (zjo xs8 nx28 K7)
def zfk (xs8 : List AV) (K7 : J3) (_ : AV) (H23 : Heap) (nx24 : Nat) : Prop :=
 LD false 1 (nth xs8 0) H23 fun v25 =>
 za Tryd.prog 29 [v25] H23 nx24 (zjn xs8 K7)
def zfj (xs8 : List AV) (K7 : J3) (Q : QT) (v17 : AV) (H18 : Heap) (nx19 : Nat) : Prop :=
 BI BinOp.neq v17 (AV.int IntKind.u8 0) fun v20 =>
 CNDC v20
 (LD false 1 (nth xs8 0) H18 fun v21 =>
 za Tryd.prog 28 [v21, AV.int IntKind.u8 40] H18 nx19 (zfk xs8 K7))
 (LD false 1 (nth xs8 0) H18 fun v51 =>
 NC v51 fun v52 =>
 FA 1 v52 fun v53 =>
 LD false 1 v53 H18 fun v54 =>
 BI BinOp.neq v54 (AV.int IntKind.i64 0) fun v55 =>
 CNDC v55
 (LDR false 1 (nth xs8 0) H18 fun v56 _ =>
 NC v56 fun v58 =>
 FA 1 v58 fun v59 =>
 LDR false 1 v59 H18 fun v60 _ =>
 Q (AV.tup [AV.nils, v60]) H18 nx19)
 (Q (AV.tup [nth xs8 1, AV.int IntKind.i64 0]) H18 nx19))
def zfi (Q : QT) (K7 : J3) (xs8 : List AV) (H9 : Heap) (nx10 : Nat) : Prop :=
 LD false 1 (nth xs8 0) H9 fun v11 =>
 NC v11 fun v12 =>
 FA 1 v12 fun v13 =>
 LD false 1 v13 H9 fun v14 =>
 BI BinOp.eql v14 (AV.int IntKind.i64 0) fun v15 =>
 CND v15
 (LD false 1 (nth xs8 0) H9 fun v16 =>
 za Tryd.prog 27 [v16] H9 nx10 (zfj xs8 K7 Q))
 (LD false 1 (nth xs8 0) H9 fun v62 =>
 NC v62 fun v63 =>
 FA 1 v63 fun v64 =>
 LD false 1 v64 H9 fun v65 =>
 BI BinOp.neq v65 (AV.int IntKind.i64 0) fun v66 =>
 CNDC v66
 (LDR false 1 (nth xs8 0) H9 fun v67 _ =>
 NC v67 fun v69 =>
 FA 1 v69 fun v70 =>
 LDR false 1 v70 H9 fun v71 _ =>
 Q (AV.tup [AV.nils, v71]) H9 nx10)
 (Q (AV.tup [nth xs8 1, AV.int IntKind.i64 0]) H9 nx10))
def zfh (a0 : AV) (H : Heap) (nx : Nat) (Q : QT) : Prop :=
 LNS a0 fun v1 =>
 BI BinOp.gtr v1 (AV.int IntKind.i64 1500) fun v2 =>
 CNDC v2
 (Q (AV.tup [AV.nils, AV.int IntKind.i64 4]) H nx)
 (BD (zt tab [(9, 0), (23, 1)]) [AV.str [], AV.int IntKind.i64 0] [(0, a0)] fun v3 =>
 v3.sure = true ∧
 PUTH H nx (AObj.row v3.cells.length v3.cells) fun H4 =>
 PUTH H4 (nx + 1) (AObj.row 1 [AV.nilp]) fun H5 =>
 ST 1 (AV.ptr (nx + 1) 0) (AV.ptr nx 0) H5 fun H6 =>
 LP (zfi Q) [AV.ptr (nx + 1) 0, AV.nils] H6 (nx + 2))
theorem zmk (a0 : AV) (H : Heap) (nx : Nat) (Q : QT) : zfh a0 H nx Q → za Tryd.prog 10 [a0] H nx Q :=
  ze (lv := lvOf [(2, 5, [4, 5])]) (c := zp Tryd.f10) zu zx mixed Tryd.func10 (by kernel_rfl) (by kernel_rfl) (by kernel_rfl) (by kernel_rfl) (by kernel_rfl)
def zak (Q : QT) (K2 : J3) (xs3 : List AV) (H4 : Heap) (nx5 : Nat) : Prop :=
 BI BinOp.lss (nth xs3 3) (nth xs3 2) fun v6 =>
 CNDC v6
 (IA 1 (nth xs3 0) (nth xs3 3) fun v7 =>
 LD false 1 v7 H4 fun v8 =>
 BS BinOp.eql (nth xs3 1) v8 fun v9 =>
 CNDC v9
 (Q (nth xs3 3) H4 nx5)
 (BI BinOp.add (nth xs3 3) (AV.int IntKind.i64 1) fun v10 =>
 K2 [nth xs3 0, nth xs3 1, nth xs3 2, v10] H4 nx5))
 (Q (AV.int IntKind.i64 (-1)) H4 nx5)
def zce (a0 a1 : AV) (H : Heap) (nx : Nat) (Q : QT) : Prop :=
 LNL a0 fun v1 =>
 LP (zak Q) [a0, a1, v1, AV.int IntKind.i64 0] H nx
theorem zfg (a0 a1 : AV) (H : Heap) (nx : Nat) (Q : QT) : zce a0 a1 H nx Q → za Tryd.prog 70 [a0, a1] H nx Q :=
  ze (lv := lvOf [(2, 2, [0, 1, 7, 8])]) (c := zp Tryd.f70) zu zx mixed Tryd.func70 (by kernel_rfl) (by kernel_rfl) (by kernel_rfl) (by kernel_rfl) (by kernel_rfl)
def zet (Q : QT) (K2 : J3) (xs3 : List AV) (H4 : Heap) (nx5 : Nat) : Prop :=
 BI BinOp.lss (nth xs3 3) (nth xs3 2) fun v6 =>
 CNDC v6
 (IA 1 (nth xs3 1) (nth xs3 3) fun v7 =>
 LD false 1 v7 H4 fun v8 =>
 BS BinOp.eql v8 (nth xs3 0) fun v9 =>
 CNDC v9
 (Q (AV.bool true) H4 nx5)
 (BI BinOp.add (nth xs3 3) (AV.int IntKind.i64 1) fun v10 =>
 K2 [nth xs3 0, nth xs3 1, nth xs3 2, v10] H4 nx5))
 (Q (AV.bool false) H4 nx5)
def zmc (a0 a1 : AV) (H : Heap) (nx : Nat) (Q : QT) : Prop :=
 LNL a0 fun v1 =>
 LP (zet Q) [a1, a0, v1, AV.int IntKind.i64 0] H nx
theorem zoe (a0 a1 : AV) (H : Heap) (nx : Nat) (Q : QT) : zmc a0 a1 H nx Q → za Tryd.prog 35 [a0, a1] H nx Q :=
  ze (lv := lvOf [(2, 2, [1, 7, 8, 9])]) (c := zp Tryd.f35) zu zx mixed Tryd.func35 (by kernel_rfl) (by kernel_rfl) (by kernel_rfl) (by kernel_rfl) (by kernel_rfl)
def zfd (Q : QT) (xs29 : List AV) (K28 : J3) (v38 : AV) (H39 : Heap) (nx40 : Nat) : Prop :=
 BI BinOp.neq v38 (AV.int IntKind.i64 0) fun v41 =>
 CNDC v41
 (Q v38 H39 nx40)
 (BI BinOp.add (nth xs29 4) (AV.int IntKind.i64 1) fun v42 =>
 K28 [nth xs29 0, nth xs29 1, nth xs29 2, nth xs29 3, v42] H39 nx40)
def zo (Q : QT) (K28 : J3) (xs29 : List AV) (H30 : Heap) (nx31 : Nat) : Prop :=
 BI BinOp.lss (nth xs29 4) (nth xs29 3) fun v32 =>
 CNDC v32
 (IA 4 (nth xs29 2) (nth xs29 4) fun v33 =>
 LD true 4 v33 H30 fun v34 =>
 PUTH H30 nx31 (AObj.row 4 [AV.int IntKind.i64 0, AV.int IntKind.i64 0, AV.str [], AV.nils]) fun H35 =>
 ST 4 (AV.ptr nx31 0) v34 H35 fun H36 =>
 LD true 4 (AV.ptr nx31 0) H36 fun v37 =>
 za Tryd.prog 55 [nth xs29 0, v37, nth xs29 1] H36 (nx31 + 1) (zfd Q xs29 K28))
 (Q (AV.int IntKind.i64 0) H30 nx31)
def zbn (Q : QT) (nx : Nat) (v13 : AV) (v12 : AV) (a0 : AV) (a2 : AV) (v46 : AV) (H47 : Heap) (nx48 : Nat) : Prop :=
 UO UnOp.not v46 fun v49 =>
 CNDC v49
 (Q (AV.int IntKind.i64 6) H47 nx48)
 (LD false 1 (AV.ptr nx 0) H47 fun v50 =>
 BI BinOp.eql v50 (AV.int IntKind.i64 11) fun v51 =>
 CND v51
 (UO UnOp.not v13 fun v52 =>
 CNDC v52
 (Q (AV.int IntKind.i64 6) H47 nx48)
 (LD false 1 (AV.ptr nx 0) H47 fun v53 =>
 BI BinOp.eql v53 (AV.int IntKind.i64 11) fun v54 =>
 CND v54
 (LD false 1 (AV.ptr nx 3) H47 fun v55 =>
 LNL v55 fun v56 =>
 BI BinOp.neq v12 v56 fun v57 =>
 CNDC v57
 (Q (AV.int IntKind.i64 5) H47 nx48)
 (LD false 1 (AV.ptr nx 3) H47 fun v58 =>
 LNL v58 fun v59 =>
 LP (zo Q) [a0, a2, v58, v59, AV.int IntKind.i64 0] H47 nx48))
 (LD false 1 (AV.ptr nx 3) H47 fun v75 =>
 LNL v75 fun v76 =>
 LP (zo Q) [a0, a2, v75, v76, AV.int IntKind.i64 0] H47 nx48)))
 (LD false 1 (AV.ptr nx 0) H47 fun v92 =>
 BI BinOp.eql v92 (AV.int IntKind.i64 11) fun v93 =>
 CND v93
 (LD false 1 (AV.ptr nx 3) H47 fun v94 =>
 LNL v94 fun v95 =>
 BI BinOp.neq v12 v95 fun v96 =>
 CNDC v96
 (Q (AV.int IntKind.i64 5) H47 nx48)
 (LD false 1 (AV.ptr nx 3) H47 fun v97 =>
 LNL v97 fun v98 =>
 LP (zo Q) [a0, a2, v97, v98, AV.int IntKind.i64 0] H47 nx48))
 (LD false 1 (AV.ptr nx 3) H47 fun v114 =>
 LNL v114 fun v115 =>
 LP (zo Q) [a0, a2, v114, v115, AV.int IntKind.i64 0] H47 nx48)))
def zab (a0 a1 a2 : AV) (H : Heap) (nx : Nat) (Q : QT) : Prop :=
 a1.sure = true ∧
 PUTH H nx (AObj.row a1.cells.length a1.cells) fun H1 =>
 NC a0 fun v2 =>
 FA 0 v2 fun v3 =>
 LDR false 1 v3 H1 fun v4 _ =>
 LDR false 1 (AV.ptr nx 2) H1 fun v6 _ =>
 zh (AK.str) v6 = true ∧
 LOOK [AV.int IntKind.i64 0] false v4 v6 true H1 fun v8 _ fr10 D11 =>
 EX v8 0 fun v12 =>
 EX v8 1 fun v13 =>
 LD false 1 (AV.ptr nx 0) (H1.apply D11) fun v14 =>
 BI BinOp.eql v14 (AV.int IntKind.i64 2) fun v15 =>
 CNDC v15
 (NC a0 fun v16 =>
 FA 2 v16 fun v17 =>
 LDR false 1 v17 (H1.apply D11) fun v18 _ =>
 LDR false 1 (AV.ptr nx 2) (H1.apply D11) fun v20 _ =>
 zh (AK.str) v20 = true ∧
 MUPD v18 v20 (AV.bool true) (H1.apply D11) fun _ _ fr24 D25 =>
 LD false 1 (AV.ptr nx 3) ((H1.apply D11).apply D25) fun v26 =>
 LNL v26 fun v27 =>
 LP (zo Q) [a0, a2, v26, v27, AV.int IntKind.i64 0] ((H1.apply D11).apply D25) (((nx + 1) + fr10.length) + fr24.length))
 (LD false 1 (AV.ptr nx 0) (H1.apply D11) fun v43 =>
 BI BinOp.eql v43 (AV.int IntKind.i64 3) fun v44 =>
 CND v44
 (LD false 1 (AV.ptr nx 2) (H1.apply D11) fun v45 =>
 za Tryd.prog 35 [a2, v45] (H1.apply D11) ((nx + 1) + fr10.length) (zbn Q nx v13 v12 a0 a2))
 (LD false 1 (AV.ptr nx 0) (H1.apply D11) fun v131 =>
 BI BinOp.eql v131 (AV.int IntKind.i64 11) fun v132 =>
 CND v132
 (UO UnOp.not v13 fun v133 =>
 CNDC v133
 (Q (AV.int IntKind.i64 6) (H1.apply D11) ((nx + 1) + fr10.length))
 (LD false 1 (AV.ptr nx 0) (H1.apply D11) fun v134 =>
 BI BinOp.eql v134 (AV.int IntKind.i64 11) fun v135 =>
 CND v135
 (LD false 1 (AV.ptr nx 3) (H1.apply D11) fun v136 =>
 LNL v136 fun v137 =>
 BI BinOp.neq v12 v137 fun v138 =>
 CNDC v138
 (Q (AV.int IntKind.i64 5) (H1.apply D11) ((nx + 1) + fr10.length))
 (LD false 1 (AV.ptr nx 3) (H1.apply D11) fun v139 =>
 LNL v139 fun v140 =>
 LP (zo Q) [a0, a2, v139, v140, AV.int IntKind.i64 0] (H1.apply D11) ((nx + 1) + fr10.length)))
 (LD false 1 (AV.ptr nx 3) (H1.apply D11) fun v156 =>
 LNL v156 fun v157 =>
 LP (zo Q) [a0, a2, v156, v157, AV.int IntKind.i64 0] (H1.apply D11) ((nx + 1) + fr10.length))))
 (LD false 1 (AV.ptr nx 0) (H1.apply D11) fun v173 =>
 BI BinOp.eql v173 (AV.int IntKind.i64 11) fun v174 =>
 CND v174
 (LD false 1 (AV.ptr nx 3) (H1.apply D11) fun v175 =>
 LNL v175 fun v176 =>
 BI BinOp.neq v12 v176 fun v177 =>
 CNDC v177
 (Q (AV.int IntKind.i64 5) (H1.apply D11) ((nx + 1) + fr10.length))
 (LD false 1 (AV.ptr nx 3) (H1.apply D11) fun v178 =>
 LNL v178 fun v179 =>
 LP (zo Q) [a0, a2, v178, v179, AV.int IntKind.i64 0] (H1.apply D11) ((nx + 1) + fr10.length)))
 (LD false 1 (AV.ptr nx 3) (H1.apply D11) fun v195 =>
 LNL v195 fun v196 =>
 LP (zo Q) [a0, a2, v195, v196, AV.int IntKind.i64 0] (H1.apply D11) ((nx + 1) + fr10.length)))))
theorem zmi (a0 a1 a2 : AV) (H : Heap) (nx : Nat) (Q : QT) : zab a0 a1 a2 H nx Q → za Tryd.prog 55 [a0, a1, a2] H nx Q :=
  ze (lv := lvOf [(2, 10, [0, 2, 62, 63, 64])]) (c := zp Tryd.f55) zu zx mixed Tryd.func55 (by kernel_rfl) (by kernel_rfl) (by kernel_rfl) (by kernel_rfl) (by kernel_rfl)
def zej (Q : QT) (xs14 : List AV) (K13 : J3) (v23 : AV) (H24 : Heap) (nx25 : Nat) : Prop :=
 BI BinOp.neq v23 (AV.int IntKind.i64 0) fun v26 =>
 CNDC v26
 (Q v23 H24 nx25)
 (BI BinOp.add (nth xs14 8) (AV.int IntKind.i64 1) fun v27 =>
 K13 [nth xs14 0, nth xs14 1, nth xs14 2, nth xs14 3, nth xs14 4, nth xs14 5, nth xs14 6, nth xs14 7, v27] H24 nx25)
def zei (Q : QT) (xs14 : List AV) (K2 : J3) (v57 : AV) (v78 : AV) (H79 : Heap) (nx80 : Nat) : Prop :=
 BI BinOp.neq v78 (AV.int IntKind.i64 0) fun v81 =>
 CNDC v81
 (Q v78 H79 nx80)
 (BI BinOp.add (nth xs14 5) (AV.int IntKind.i64 1) fun v82 =>
 K2 [nth xs14 0, v57, nth xs14 3, nth xs14 4, v82] H79 nx80)
def zbf (Q : QT) (xs14 : List AV) (v57 : AV) (K2 : J3) (v72 : AV) (H73 : Heap) (nx74 : Nat) : Prop :=
 BI BinOp.neq v72 (AV.int IntKind.i64 0) fun v75 =>
 CNDC v75
 (Q v72 H73 nx74)
 (FA 4 (nth xs14 2) fun v76 =>
 LD false 1 v76 H73 fun v77 =>
 za Tryd.prog 36 [nth xs14 0, v77, v57] H73 nx74 (zei Q xs14 K2 v57))
def zny (Q : QT) (xs14 : List AV) (v57 : AV) (K2 : J3) (v66 : AV) (H67 : Heap) (nx68 : Nat) : Prop :=
 UO UnOp.not v66 fun v69 =>
 CNDC v69
 (Q (AV.int IntKind.i64 6) H67 nx68)
 (FA 3 (nth xs14 2) fun v70 =>
 LD false 1 v70 H67 fun v71 =>
 za Tryd.prog 36 [nth xs14 0, v71, v57] H67 nx68 (zbf Q xs14 v57 K2))
def zcd (Q : QT) (xs14 : List AV) (K2 : J3) (v33 : AV) (H34 : Heap) (nx35 : Nat) : Prop :=
 CNDC v33
 (Q (AV.int IntKind.i64 7) H34 nx35)
 (NC (nth xs14 0) fun v36 =>
 FA 1 v36 fun v37 =>
 LD false 1 v37 H34 fun v38 =>
 BI BinOp.add v38 (AV.int IntKind.i64 1) fun v39 =>
 NC (nth xs14 0) fun v40 =>
 FA 1 v40 fun v41 =>
 ST 1 v41 v39 H34 fun H42 =>
 NC (nth xs14 0) fun v43 =>
 FA 1 v43 fun v44 =>
 LD false 1 v44 H42 fun v45 =>
 BI BinOp.gtr v45 (AV.int IntKind.i64 8) fun v46 =>
 CNDC v46
 (Q (AV.int IntKind.i64 4) H42 nx35)
 (PUTH H42 nx35 (AObj.row 1 []) fun H47 =>
 zaq 1 16 (AV.slc nx35 0 0) (nth xs14 1) H47 (nx35 + 1) fun v48 rd49 fr50 D51 =>
 FA 1 (nth xs14 2) fun v52 =>
 LDR false 1 v52 (H47.apply D51) fun v53 rd54 =>
 BSL 1 1 [AV.str []] [(0, v53)] fun cells55 =>
 PUTH (H47.apply D51) ((nx35 + 1) + fr50.length) (AObj.row 1 cells55) fun H56 =>
 zaq 1 16 v48 (AV.slc ((nx35 + 1) + fr50.length) 0 1) H56 (((nx35 + 1) + fr50.length) + 1) fun v57 _ fr59 D60 =>
 nx35 ∉ [] ∧
 nx35 ∉ [] ∧
 nx35 ∉ [] ∧
 nx35 ∉ [] ∧
 zf (domD D51) [] (
 zf (domD D51) [] (
 nx35 ∉ rd54 ∧
 nx35 ∉ [] ∧
 zf (domD D51) rd54 (
 zf (domD D51) [] (
 nx35 ∉ [] ∧
 nx35 ∉ [((nx35 + 1) + fr50.length)] ∧
 ((nx35 + 1) + fr50.length) ∉ [] ∧
 ((nx35 + 1) + fr50.length) ∉ [] ∧
 zf (domD D51) [] (
 zf (domD D51) [((nx35 + 1) + fr50.length)] (
 ((nx35 + 1) + fr50.length) ∉ rd49 ∧
 FA 0 (nth xs14 2) fun v61 =>
 LD false 1 v61 (H56.apply D60) fun v62 =>
 BI BinOp.eql v62 (AV.int IntKind.i64 2) fun v63 =>
 CND v63
 (FA 1 (nth xs14 2) fun v64 =>
 LD false 1 v64 (H56.apply D60) fun v65 =>
 za Tryd.prog 35 [v57, v65] (H56.apply D60) ((((nx35 + 1) + fr50.length) + 1) + fr59.length) (zny Q xs14 v57 K2))
 (FA 3 (nth xs14 2) fun v83 =>
 LD false 1 v83 (H56.apply D60) fun v84 =>
 za Tryd.prog 36 [nth xs14 0, v84, v57] (H56.apply D60) ((((nx35 + 1) + fr50.length) + 1) + fr59.length) (zbf Q xs14 v57 K2))))))))))
def zeh (Q : QT) (xs14 : List AV) (K2 : J3) (v113 : AV) (H114 : Heap) (nx115 : Nat) : Prop :=
 BI BinOp.neq v113 (AV.int IntKind.i64 0) fun v116 =>
 CNDC v116
 (Q v113 H114 nx115)
 (BI BinOp.add (nth xs14 5) (AV.int IntKind.i64 1) fun v117 =>
 K2 [nth xs14 0, nth xs14 1, nth xs14 3, nth xs14 4, v117] H114 nx115)
def zbe (Q : QT) (xs14 : List AV) (K2 : J3) (v107 : AV) (H108 : Heap) (nx109 : Nat) : Prop :=
 BI BinOp.neq v107 (AV.int IntKind.i64 0) fun v110 =>
 CNDC v110
 (Q v107 H108 nx109)
 (FA 4 (nth xs14 2) fun v111 =>
 LD false 1 v111 H108 fun v112 =>
 za Tryd.prog 36 [nth xs14 0, v112, nth xs14 1] H108 nx109 (zeh Q xs14 K2))
def zeg (Q : QT) (xs14 : List AV) (K2 : J3) (v101 : AV) (H102 : Heap) (nx103 : Nat) : Prop :=
 UO UnOp.not v101 fun v104 =>
 CNDC v104
 (Q (AV.int IntKind.i64 6) H102 nx103)
 (FA 3 (nth xs14 2) fun v105 =>
 LD false 1 v105 H102 fun v106 =>
 za Tryd.prog 36 [nth xs14 0, v106, nth xs14 1] H102 nx103 (zbe Q xs14 K2))
def zam (Q : QT) (K2 : J3) (K13 : J3) (xs14 : List AV) (H15 : Heap) (nx16 : Nat) : Prop :=
 BI BinOp.lss (nth xs14 8) (nth xs14 7) fun v17 =>
 CNDC v17
 (IA 4 (nth xs14 6) (nth xs14 8) fun v18 =>
 LD true 4 v18 H15 fun v19 =>
 PUTH H15 nx16 (AObj.row 4 [AV.int IntKind.i64 0, AV.int IntKind.i64 0, AV.str [], AV.nils]) fun H20 =>
 ST 4 (AV.ptr nx16 0) v19 H20 fun H21 =>
 LD true 4 (AV.ptr nx16 0) H21 fun v22 =>
 za Tryd.prog 55 [nth xs14 0, v22, nth xs14 1] H21 (nx16 + 1) (zej Q xs14 K13))
 (FA 0 (nth xs14 2) fun v28 =>
 LD false 1 v28 H15 fun v29 =>
 BI BinOp.eql v29 (AV.int IntKind.i64 1) fun v30 =>
 CNDC v30
 (FA 1 (nth xs14 2) fun v31 =>
 LD false 1 v31 H15 fun v32 =>
 za Tryd.prog 35 [nth xs14 1, v32] H15 nx16 (zcd Q xs14 K2))
 (FA 0 (nth xs14 2) fun v96 =>
 LD false 1 v96 H15 fun v97 =>
 BI BinOp.eql v97 (AV.int IntKind.i64 2) fun v98 =>
 CND v98
 (FA 1 (nth xs14 2) fun v99 =>
 LD false 1 v99 H15 fun v100 =>
 za Tryd.prog 35 [nth xs14 1, v100] H15 nx16 (zeg Q xs14 K2))
 (FA 3 (nth xs14 2) fun v118 =>
 LD false 1 v118 H15 fun v119 =>
 za Tryd.prog 36 [nth xs14 0, v119, nth xs14 1] H15 nx16 (zbe Q xs14 K2))))
def zef (Q : QT) (K2 : J3) (xs3 : List AV) (H4 : Heap) (nx5 : Nat) : Prop :=
 BI BinOp.lss (nth xs3 4) (nth xs3 3) fun v6 =>
 CNDC v6
 (IA 5 (nth xs3 2) (nth xs3 4) fun v7 =>
 LD true 5 v7 H4 fun v8 =>
 PUTH H4 nx5 (AObj.row 5 [AV.int IntKind.i64 0, AV.str [], AV.nils, AV.nils, AV.nils]) fun H9 =>
 ST 5 (AV.ptr nx5 0) v8 H9 fun H10 =>
 LD false 1 (AV.ptr nx5 2) H10 fun v11 =>
 LNL v11 fun v12 =>
 LP (zam Q K2) [nth xs3 0, nth xs3 1, AV.ptr nx5 0, nth xs3 2, nth xs3 3, nth xs3 4, v11, v12, AV.int IntKind.i64 0] H10 (nx5 + 1))
 (Q (AV.int IntKind.i64 0) H4 nx5)
def zie (a0 a1 a2 : AV) (H : Heap) (nx : Nat) (Q : QT) : Prop :=
 LNL a1 fun v1 =>
 LP (zef Q) [a0, a2, a1, v1, AV.int IntKind.i64 0] H nx
theorem zlh (a0 a1 a2 : AV) (H : Heap) (nx : Nat) (Q : QT) : zie a0 a1 a2 H nx Q → za Tryd.prog 36 [a0, a1, a2] H nx Q :=
  ze (lv := lvOf [(2, 2, [0, 2, 14, 15, 16]), (2, 5, [0, 2, 8, 14, 15, 16, 21, 22, 23])]) (c := zp Tryd.f36) zu zx mixed Tryd.func36 (by kernel_rfl) (by kernel_rfl) (by kernel_rfl) (by kernel_rfl) (by kernel_rfl)
def zjq (xs33 : List AV) (K32 : J3) (v43 : AV) (H44 : Heap) (nx45 : Nat) : Prop :=
 BI BinOp.add (nth xs33 9) (AV.int IntKind.i64 1) fun v46 =>
 K32 [nth xs33 0, nth xs33 1, nth xs33 2, v43, nth xs33 4, nth xs33 5, nth xs33 6, nth xs33 7, nth xs33 8, v46] H44 nx45
def zan (Q : QT) (K9 : J3) (K32 : J3) (xs33 : List AV) (H34 : Heap) (nx35 : Nat) : Prop :=
 BI BinOp.lss (nth xs33 9) (nth xs33 8) fun v36 =>
 CNDC v36
 (IA 1 (nth xs33 7) (nth xs33 9) fun v37 =>
 LD false 1 v37 H34 fun v38 =>
 CND (nth xs33 3)
 (BI BinOp.add (nth xs33 9) (AV.int IntKind.i64 1) fun v39 =>
 K32 [nth xs33 0, nth xs33 1, nth xs33 2, AV.bool true, nth xs33 4, nth xs33 5, nth xs33 6, nth xs33 7, nth xs33 8, v39] H34 nx35)
 (FA 1 (nth xs33 2) fun v40 =>
 LD false 1 v40 H34 fun v41 =>
 SL 1 v41 none (some (nth xs33 9)) H34 fun v42 =>
 za Tryd.prog 35 [v42, v38] H34 nx35 (zjq xs33 K32)))
 (CNDC (nth xs33 3)
 (Q (AV.int IntKind.i64 7) H34 nx35)
 (FA 1 (nth xs33 2) fun v47 =>
 LD false 1 v47 H34 fun v48 =>
 LNL v48 fun v49 =>
 BI BinOp.gtr v49 (AV.int IntKind.i64 4) fun v50 =>
 CNDC v50
 (Q (AV.int IntKind.i64 5) H34 nx35)
 (NC (nth xs33 1) fun v51 =>
 FA 0 v51 fun v52 =>
 LDR false 1 v52 H34 fun v53 _ =>
 FA 0 (nth xs33 2) fun v55 =>
 LDR false 1 v55 H34 fun v56 _ =>
 FA 1 (nth xs33 2) fun v58 =>
 LDR false 1 v58 H34 fun v59 _ =>
 LNL v59 fun v61 =>
 zh (AK.str) v56 = true ∧
 MUPD v53 v56 v61 H34 fun _ _ fr64 D65 =>
 BI BinOp.add (nth xs33 6) (AV.int IntKind.i64 1) fun v66 =>
 K9 [nth xs33 0, nth xs33 1, nth xs33 4, nth xs33 5, v66] (H34.apply D65) (nx35 + fr64.length))))
def zdf (Q : QT) (xs74 : List AV) (K73 : J3) (v89 : AV) (H90 : Heap) (nx91 : Nat) : Prop :=
 BI BinOp.neq v89 (AV.int IntKind.i64 0) fun v92 =>
 CNDC v92
 (Q v89 H90 nx91)
 (BI BinOp.add (nth xs74 3) (AV.int IntKind.i64 1) fun v93 =>
 K73 [nth xs74 0, nth xs74 1, nth xs74 2, v93] H90 nx91)
def zbc (Q : QT) (K73 : J3) (xs74 : List AV) (H75 : Heap) (nx76 : Nat) : Prop :=
 BI BinOp.lss (nth xs74 3) (nth xs74 2) fun v77 =>
 CNDC v77
 (IA 3 (nth xs74 1) (nth xs74 3) fun v78 =>
 LD true 3 v78 H75 fun v79 =>
 PUTH H75 nx76 (AObj.row 3 [AV.str [], AV.nils, AV.nils]) fun H80 =>
 ST 3 (AV.ptr nx76 0) v79 H80 fun H81 =>
 LD false 1 (AV.ptr nx76 1) H81 fun v82 =>
 LNL v82 fun v83 =>
 NC (nth xs74 0) fun v84 =>
 FA 1 v84 fun v85 =>
 ST 1 v85 v83 H81 fun H86 =>
 LD false 1 (AV.ptr nx76 2) H86 fun v87 =>
 LD false 1 (AV.ptr nx76 1) H86 fun v88 =>
 za Tryd.prog 36 [nth xs74 0, v87, v88] H86 (nx76 + 1) (zdf Q xs74 K73))
 (NC (nth xs74 0) fun v94 =>
 FA 2 v94 fun v95 =>
 LD false 1 v95 H75 fun v96 =>
 LNM v96 H75 fun v97 =>
 BI BinOp.gtr v97 (AV.int IntKind.i64 16) fun v98 =>
 CNDC v98
 (Q (AV.int IntKind.i64 4) H75 nx76)
 (Q (AV.int IntKind.i64 0) H75 nx76))
def zde (Q : QT) (K9 : J3) (xs10 : List AV) (H11 : Heap) (nx12 : Nat) : Prop :=
 BI BinOp.lss (nth xs10 4) (nth xs10 3) fun v13 =>
 CNDC v13
 (IA 3 (nth xs10 2) (nth xs10 4) fun v14 =>
 LD true 3 v14 H11 fun v15 =>
 PUTH H11 nx12 (AObj.row 3 [AV.str [], AV.nils, AV.nils]) fun H16 =>
 ST 3 (AV.ptr nx12 0) v15 H16 fun H17 =>
 NC (nth xs10 1) fun v18 =>
 FA 0 v18 fun v19 =>
 LDR false 1 v19 H17 fun v20 _ =>
 LDR false 1 (AV.ptr nx12 0) H17 fun v22 _ =>
 zh (AK.str) v22 = true ∧
 LOOK [AV.int IntKind.i64 0] false v20 v22 true H17 fun v24 _ fr26 D27 =>
 EX v24 0 fun _ =>
 EX v24 1 fun v29 =>
 LD false 1 (AV.ptr nx12 1) (H17.apply D27) fun v30 =>
 LNL v30 fun v31 =>
 LP (zan Q K9) [nth xs10 0, nth xs10 1, AV.ptr nx12 0, v29, nth xs10 2, nth xs10 3, nth xs10 4, v30, v31, AV.int IntKind.i64 0] (H17.apply D27) ((nx12 + 1) + fr26.length))
 (IA 3 (nth xs10 0) (AV.int IntKind.i64 0) fun v67 =>
 FA 1 v67 fun v68 =>
 LD false 1 v68 H11 fun v69 =>
 LNL v69 fun v70 =>
 BI BinOp.neq v70 (AV.int IntKind.i64 0) fun v71 =>
 CNDC v71
 (Q (AV.int IntKind.i64 10) H11 nx12)
 (LNL (nth xs10 0) fun v72 =>
 LP (zbc Q) [nth xs10 1, nth xs10 0, v72, AV.int IntKind.i64 0] H11 nx12))
def zdd (a0 : AV) (H : Heap) (nx : Nat) (Q : QT) : Prop :=
 LNL a0 fun v1 =>
 BI BinOp.eql v1 (AV.int IntKind.i64 0) fun v2 =>
 CND v2
 (Q (AV.int IntKind.i64 5) H nx)
 (LNL a0 fun v3 =>
 BI BinOp.gtr v3 (AV.int IntKind.i64 5) fun v4 =>
 CNDC v4
 (Q (AV.int IntKind.i64 5) H nx)
 (PUTH H nx (AObj.mp []) fun H5 =>
 PUTH H5 (nx + 1) (AObj.mp []) fun H6 =>
 true = true ∧
 PUTH H6 (nx + 2) (AObj.row 3 [AV.amap nx, AV.int IntKind.i64 0, AV.amap (nx + 1)]) fun H7 =>
 LNL a0 fun v8 =>
 LP (zde Q) [a0, AV.ptr (nx + 2) 0, a0, v8, AV.int IntKind.i64 0] H7 (nx + 3)))
theorem zmm (a0 : AV) (H : Heap) (nx : Nat) (Q : QT) : zdd a0 H nx Q → za Tryd.prog 12 [a0] H nx Q :=
  ze (lv := lvOf [(2, 5, [0, 3, 25, 26, 27]), (2, 9, [0, 3, 5, 7, 25, 26, 27, 42, 43, 44]), (2, 22, [3, 80, 81, 82])]) (c := zp Tryd.f12) zu zx mixed Tryd.func12 (by kernel_rfl) (by kernel_rfl) (by kernel_rfl) (by kernel_rfl) (by kernel_rfl)
def zip (a0 : AV) (Q : QT) (_ : AV) (H3 : Heap) (nx4 : Nat) : Prop :=
 NC a0 fun v5 =>
 FA 1 v5 fun v6 =>
 LD false 1 v6 H3 fun v7 =>
 BI BinOp.eql v7 (AV.int IntKind.i64 0) fun v8 =>
 Q v8 H3 nx4
def zey (a0 a1 : AV) (H : Heap) (nx : Nat) (Q : QT) : Prop :=
 BI BinOp.gtr a1 (AV.int IntKind.i64 10) fun v1 =>
 CNDC v1
 (za Tryd.prog 48 [a0, AV.int IntKind.i64 9] H nx (zip a0 Q))
 (NC a0 fun v9 =>
 FA 1 v9 fun v10 =>
 LD false 1 v10 H fun v11 =>
 BI BinOp.eql v11 (AV.int IntKind.i64 0) fun v12 =>
 Q v12 H nx)
theorem zmf (a0 a1 : AV) (H : Heap) (nx : Nat) (Q : QT) : zey a0 a1 H nx Q → za Tryd.prog 68 [a0, a1] H nx Q :=
  ze (lv := lvOf []) (c := zp Tryd.f68) zu zx mixed Tryd.func68 (by kernel_rfl) (by kernel_rfl) (by kernel_rfl) (by kernel_rfl) (by kernel_rfl)
def zge (Q : QT) (K2 : J3) (xs3 : List AV) (H4 : Heap) (nx5 : Nat) : Prop :=
 BI BinOp.lss (nth xs3 2) (nth xs3 1) fun v6 =>
 CNDC v6
 (IX (nth xs3 0) (nth xs3 2) fun v7 =>
 BI BinOp.lss v7 (AV.int IntKind.u8 32) fun v8 =>
 CND v8
 (Q (AV.bool false) H4 nx5)
 (IX (nth xs3 0) (nth xs3 2) fun v9 =>
 BI BinOp.gtr v9 (AV.int IntKind.u8 126) fun v10 =>
 CND v10
 (Q (AV.bool false) H4 nx5)
 (IX (nth xs3 0) (nth xs3 2) fun v11 =>
 BI BinOp.eql v11 (AV.int IntKind.u8 39) fun v12 =>
 CNDC v12
 (Q (AV.bool false) H4 nx5)
 (BI BinOp.add (nth xs3 2) (AV.int IntKind.i64 1) fun v13 =>
 K2 [nth xs3 0, nth xs3 1, v13] H4 nx5))))
 (LNS (nth xs3 0) fun v14 =>
 BI BinOp.lss v14 (AV.int IntKind.i64 13) fun v15 =>
 Q v15 H4 nx5)
def zgd (a0 : AV) (H : Heap) (nx : Nat) (Q : QT) : Prop :=
 LNS a0 fun v1 =>
 LP (zge Q) [a0, v1, AV.int IntKind.i64 0] H nx
theorem zhw (a0 : AV) (H : Heap) (nx : Nat) (Q : QT) : zgd a0 H nx Q → za Tryd.prog 25 [a0] H nx Q :=
  ze (lv := lvOf [(2, 2, [0, 5, 6])]) (c := zp Tryd.f25) zu zx mixed Tryd.func25 (by kernel_rfl) (by kernel_rfl) (by kernel_rfl) (by kernel_rfl) (by kernel_rfl)
def zjb (xs21 : List AV) (Q : QT) (_ : AV) (H49 : Heap) (nx50 : Nat) : Prop :=
 ST 4 (nth xs21 1) (AV.agg [AV.int IntKind.i64 2, AV.int IntKind.i64 0, AV.str [], AV.nils]) H49 fun H51 =>
 LD true 4 (nth xs21 1) H51 fun v52 =>
 Q v52 H51 nx50
def zja (v57 : AV) (xs21 : List AV) (Q : QT) (_ : AV) (H80 : Heap) (nx81 : Nat) : Prop :=
 BD (zt tab [(3, 0), (3, 1), (9, 2), (88, 3)]) [AV.int IntKind.i64 0, AV.int IntKind.i64 0, AV.str [], AV.nils] [(0, AV.int IntKind.i64 2), (2, v57)] fun v82 =>
 ST 4 (nth xs21 1) v82 H80 fun H83 =>
 LD true 4 (nth xs21 1) H83 fun v84 =>
 Q v84 H83 nx81
def zfc (xs21 : List AV) (v57 : AV) (Q : QT) (v74 : AV) (H75 : Heap) (nx76 : Nat) : Prop :=
 UO UnOp.not v74 fun v77 =>
 CNDC v77
 (LD false 1 (nth xs21 0) H75 fun v78 =>
 za Tryd.prog 48 [v78, AV.int IntKind.i64 2] H75 nx76 (zja v57 xs21 Q))
 (BD (zt tab [(3, 0), (3, 1), (9, 2), (88, 3)]) [AV.int IntKind.i64 0, AV.int IntKind.i64 0, AV.str [], AV.nils] [(0, AV.int IntKind.i64 2), (2, v57)] fun v85 =>
 ST 4 (nth xs21 1) v85 H75 fun H86 =>
 LD true 4 (nth xs21 1) H86 fun v87 =>
 Q v87 H86 nx76)
def zcr (K17 : J3) (Q : QT) (xs21 : List AV) (H22 : Heap) (nx23 : Nat) : Prop :=
 CNDC (nth xs21 3)
 (BI BinOp.add (nth xs21 2) (AV.int IntKind.i64 1) fun v25 =>
 K17 [nth xs21 0, nth xs21 1, v25] H22 nx23)
 (LD false 1 (nth xs21 0) H22 fun v26 =>
 NC v26 fun v27 =>
 FA 0 v27 fun v28 =>
 LD false 1 v28 H22 fun v29 =>
 LNS v29 fun v30 =>
 BI BinOp.eql (nth xs21 2) v30 fun v31 =>
 CNDC v31
 (LDR false 1 (nth xs21 0) H22 fun v32 _ =>
 LDR false 1 (nth xs21 0) H22 fun v34 _ =>
 NC v34 fun v36 =>
 FA 0 v36 fun v37 =>
 LDR false 1 v37 H22 fun v38 _ =>
 SLS v38 (some (AV.int IntKind.i64 1)) none fun v40 =>
 NC v32 fun v41 =>
 FA 0 v41 fun v42 =>
 zaf 1 v42 v40 H22 fun _ _ fr45 D46 =>
 LD false 1 (nth xs21 0) (H22.apply D46) fun v47 =>
 za Tryd.prog 48 [v47, AV.int IntKind.i64 8] (H22.apply D46) (nx23 + fr45.length) (zjb xs21 Q))
 (LD false 1 (nth xs21 0) H22 fun v53 =>
 NC v53 fun v54 =>
 FA 0 v54 fun v55 =>
 LD false 1 v55 H22 fun v56 =>
 SLS v56 (some (AV.int IntKind.i64 1)) (some (nth xs21 2)) fun v57 =>
 LDR false 1 (nth xs21 0) H22 fun v58 _ =>
 LDR false 1 (nth xs21 0) H22 fun v60 _ =>
 NC v60 fun v62 =>
 FA 0 v62 fun v63 =>
 LDR false 1 v63 H22 fun v64 _ =>
 BI BinOp.add (nth xs21 2) (AV.int IntKind.i64 1) fun v66 =>
 SLS v64 (some v66) none fun v67 =>
 NC v58 fun v68 =>
 FA 0 v68 fun v69 =>
 zaf 1 v69 v67 H22 fun _ _ fr72 D73 =>
 za Tryd.prog 25 [v57] (H22.apply D73) (nx23 + fr72.length) (zfc xs21 v57 Q)))
def zct (xs18 : List AV) (H19 : Heap) (nx20 : Nat) (j24 : J3) : Prop :=
 LD false 1 (nth xs18 0) H19 fun v88 =>
 NC v88 fun v89 =>
 FA 0 v89 fun v90 =>
 LD false 1 v90 H19 fun v91 =>
 LNS v91 fun v92 =>
 BI BinOp.lss (nth xs18 2) v92 fun v93 =>
 CND v93
 (LD false 1 (nth xs18 0) H19 fun v94 =>
 NC v94 fun v95 =>
 FA 0 v95 fun v96 =>
 LD false 1 v96 H19 fun v97 =>
 IX v97 (nth xs18 2) fun v98 =>
 BI BinOp.neq v98 (AV.int IntKind.u8 39) fun v99 =>
 j24 [nth xs18 0, nth xs18 1, nth xs18 2, v99] H19 nx20)
 (j24 [nth xs18 0, nth xs18 1, nth xs18 2, AV.bool false] H19 nx20)
def zbl (Q : QT) (K17 : J3) (xs18 : List AV) (H19 : Heap) (nx20 : Nat) : Prop :=
 JN (zcr K17 Q) (zct xs18 H19 nx20)
def zcp (v108 : AV) (nx : Nat) (Q : QT) (_ : AV) (H118 : Heap) (nx119 : Nat) : Prop :=
 BD (zt tab [(3, 0), (3, 1), (9, 2), (88, 3)]) [AV.int IntKind.i64 0, AV.int IntKind.i64 0, AV.str [], AV.nils] [(0, AV.int IntKind.i64 1), (1, v108)] fun v120 =>
 ST 4 (AV.ptr (nx + 2) 0) v120 H118 fun H121 =>
 LD true 4 (AV.ptr (nx + 2) 0) H121 fun v122 =>
 Q v122 H121 nx119
def ziz (v102 : AV) (nx : Nat) (Q : QT) (_ : AV) (H140 : Heap) (nx141 : Nat) : Prop :=
 BD (zt tab [(3, 0), (3, 1), (9, 2), (88, 3)]) [AV.int IntKind.i64 0, AV.int IntKind.i64 0, AV.str [], AV.nils] [(0, AV.int IntKind.i64 3), (2, v102)] fun v142 =>
 ST 4 (AV.ptr (nx + 2) 0) v142 H140 fun H143 =>
 LD true 4 (AV.ptr (nx + 2) 0) H143 fun v144 =>
 Q v144 H143 nx141
def zbm (nx : Nat) (v102 : AV) (Q : QT) (v134 : AV) (H135 : Heap) (nx136 : Nat) : Prop :=
 UO UnOp.not v134 fun v137 =>
 CNDC v137
 (LD false 1 (AV.ptr nx 0) H135 fun v138 =>
 za Tryd.prog 48 [v138, AV.int IntKind.i64 7] H135 nx136 (ziz v102 nx Q))
 (BD (zt tab [(3, 0), (3, 1), (9, 2), (88, 3)]) [AV.int IntKind.i64 0, AV.int IntKind.i64 0, AV.str [], AV.nils] [(0, AV.int IntKind.i64 3), (2, v102)] fun v145 =>
 ST 4 (AV.ptr (nx + 2) 0) v145 H135 fun H146 =>
 LD true 4 (AV.ptr (nx + 2) 0) H146 fun v147 =>
 Q v147 H146 nx136)
def zax (v102 : AV) (v108 : AV) (nx : Nat) (Q : QT) (v111 : AV) (H112 : Heap) (nx113 : Nat) : Prop :=
 BS BinOp.eql v111 v102 fun v114 =>
 CNDC v114
 (BI BinOp.gtr v108 (AV.int IntKind.i64 1073741824) fun v115 =>
 CND v115
 (LD false 1 (AV.ptr nx 0) H112 fun v116 =>
 za Tryd.prog 48 [v116, AV.int IntKind.i64 3] H112 nx113 (zcp v108 nx Q))
 (BI BinOp.lss v108 (AV.int IntKind.i64 (-1073741824)) fun v123 =>
 CNDC v123
 (LD false 1 (AV.ptr nx 0) H112 fun v124 =>
 za Tryd.prog 48 [v124, AV.int IntKind.i64 3] H112 nx113 (zcp v108 nx Q))
 (BD (zt tab [(3, 0), (3, 1), (9, 2), (88, 3)]) [AV.int IntKind.i64 0, AV.int IntKind.i64 0, AV.str [], AV.nils] [(0, AV.int IntKind.i64 1), (1, v108)] fun v131 =>
 ST 4 (AV.ptr (nx + 2) 0) v131 H112 fun H132 =>
 LD true 4 (AV.ptr (nx + 2) 0) H132 fun v133 =>
 Q v133 H132 nx113)))
 (za Tryd.prog 14 [v102] H112 nx113 (zbm nx v102 Q))
def zco (v102 : AV) (nx : Nat) (Q : QT) (v105 : AV) (H106 : Heap) (nx107 : Nat) : Prop :=
 EX v105 0 fun v108 =>
 EX v105 1 fun v109 =>
 BF BinOp.eql v109 AV.inil fun v110 =>
 CND v110
 (za Tryd.prog 80 [v108] H106 nx107 (zax v102 v108 nx Q))
 (za Tryd.prog 14 [v102] H106 nx107 (zbm nx v102 Q))
def ziy (nx : Nat) (Q : QT) (v102 : AV) (H103 : Heap) (nx104 : Nat) : Prop :=
 za Tryd.prog 79 [v102] H103 nx104 (zco v102 nx Q)
def zbd (xs221 : List AV) (Q : QT) (_ : AV) (H236 : Heap) (nx237 : Nat) : Prop :=
 LD true 4 (nth xs221 3) H236 fun v238 =>
 ST 4 (nth xs221 2) v238 H236 fun H239 =>
 LD true 4 (nth xs221 2) H239 fun v240 =>
 Q v240 H239 nx237
def zat (xs221 : List AV) (Q : QT) (_ : AV) (H227 : Heap) (nx228 : Nat) : Prop :=
 BI BinOp.geq (nth xs221 4) (AV.int IntKind.i64 0) fun v229 =>
 CND v229
 (FA 3 (nth xs221 3) fun v230 =>
 LD false 1 v230 H227 fun v231 =>
 LNL v231 fun v232 =>
 BI BinOp.neq v232 (nth xs221 4) fun v233 =>
 CND v233
 (LD false 1 (nth xs221 0) H227 fun v234 =>
 za Tryd.prog 48 [v234, AV.int IntKind.i64 5] H227 nx228 (zbd xs221 Q))
 (BI BinOp.lss (nth xs221 4) (AV.int IntKind.i64 0) fun v241 =>
 CND v241
 (FA 3 (nth xs221 3) fun v242 =>
 LD false 1 v242 H227 fun v243 =>
 LNL v243 fun v244 =>
 BI BinOp.gtr v244 (AV.int IntKind.i64 4) fun v245 =>
 CNDC v245
 (LD false 1 (nth xs221 0) H227 fun v246 =>
 za Tryd.prog 48 [v246, AV.int IntKind.i64 5] H227 nx228 (zbd xs221 Q))
 (LD true 4 (nth xs221 3) H227 fun v253 =>
 ST 4 (nth xs221 2) v253 H227 fun H254 =>
 LD true 4 (nth xs221 2) H254 fun v255 =>
 Q v255 H254 nx228))
 (LD true 4 (nth xs221 3) H227 fun v256 =>
 ST 4 (nth xs221 2) v256 H227 fun H257 =>
 LD true 4 (nth xs221 2) H257 fun v258 =>
 Q v258 H257 nx228)))
 (BI BinOp.lss (nth xs221 4) (AV.int IntKind.i64 0) fun v259 =>
 CND v259
 (FA 3 (nth xs221 3) fun v260 =>
 LD false 1 v260 H227 fun v261 =>
 LNL v261 fun v262 =>
 BI BinOp.gtr v262 (AV.int IntKind.i64 4) fun v263 =>
 CNDC v263
 (LD false 1 (nth xs221 0) H227 fun v264 =>
 za Tryd.prog 48 [v264, AV.int IntKind.i64 5] H227 nx228 (zbd xs221 Q))
 (LD true 4 (nth xs221 3) H227 fun v271 =>
 ST 4 (nth xs221 2) v271 H227 fun H272 =>
 LD true 4 (nth xs221 2) H272 fun v273 =>
 Q v273 H272 nx228))
 (LD true 4 (nth xs221 3) H227 fun v274 =>
 ST 4 (nth xs221 2) v274 H227 fun H275 =>
 LD true 4 (nth xs221 2) H275 fun v276 =>
 Q v276 H275 nx228))
def zid (j224 : J3) (xs202 : List AV) (v283 : AV) (H284 : Heap) (nx285 : Nat) : Prop :=
 j224 [nth xs202 0, nth xs202 1, nth xs202 2, nth xs202 4, nth xs202 5] H284 nx285
def zee (xs202 : List AV) (j224 : J3) (v278 : AV) (H279 : Heap) (nx280 : Nat) : Prop :=
 UO UnOp.not v278 fun v281 =>
 CNDC v281
 (LD false 1 (nth xs202 0) H279 fun v282 =>
 za Tryd.prog 48 [v282, AV.int IntKind.i64 7] H279 nx280 (zid j224 xs202))
 (j224 [nth xs202 0, nth xs202 1, nth xs202 2, nth xs202 4, nth xs202 5] H279 nx280)
def zcq (Q : QT) (xs221 : List AV) (H222 : Heap) (nx223 : Nat) : Prop :=
 LD false 1 (nth xs221 0) H222 fun v225 =>
 za Tryd.prog 30 [v225, AV.clo 81 [nth xs221 3, nth xs221 0, nth xs221 1]] H222 nx223 (zat xs221 Q)
def zcs (xs202 : List AV) (H203 : Heap) (nx204 : Nat) (j224 : J3) : Prop :=
 BI BinOp.lss (nth xs202 5) (AV.int IntKind.i64 0) fun v277 =>
 CND v277
 (za Tryd.prog 14 [nth xs202 3] H203 nx204 (zee xs202 j224))
 (j224 [nth xs202 0, nth xs202 1, nth xs202 2, nth xs202 4, nth xs202 5] H203 nx204)
def zbk (Q : QT) (K201 : J3) (xs202 : List AV) (H203 : Heap) (nx204 : Nat) : Prop :=
 BI BinOp.lss (nth xs202 8) (nth xs202 7) fun v205 =>
 CNDC v205
 (IA 1 (nth xs202 6) (nth xs202 8) fun v206 =>
 LD false 1 v206 H203 fun v207 =>
 BS BinOp.eql v207 (nth xs202 3) fun v208 =>
 CNDC v208
 (BI BinOp.add (AV.int IntKind.i64 5) (nth xs202 8) fun v209 =>
 BD (zt tab [(3, 0), (3, 1), (9, 2), (88, 3)]) [AV.int IntKind.i64 0, AV.int IntKind.i64 0, AV.str [], AV.nils] [(0, v209)] fun v210 =>
 PUTH H203 nx204 (AObj.row 1 [AV.int IntKind.i64 2, AV.int IntKind.i64 1, AV.int IntKind.i64 1, AV.int IntKind.i64 1, AV.int IntKind.i64 0, AV.int IntKind.i64 1]) fun H211 =>
 IA 1 (AV.slc nx204 0 6) (nth xs202 8) fun v212 =>
 LDR false 1 v212 H211 fun v213 rd214 =>
 zaf 4 (nth xs202 4) v210 H211 fun _ rd216 fr217 D218 =>
 nx204 ∉ [] ∧
 nx204 ∉ [] ∧
 nx204 ∉ [] ∧
 nx204 ∉ [] ∧
 nx204 ∉ [] ∧
 nx204 ∉ rd216 ∧
 nx204 ∉ (domD D218) ∧
 zf (domD D218) [] (
 zf (domD D218) [] (
 zf (domD D218) [] (
 zf (domD D218) rd214 (
 BI BinOp.add (nth xs202 8) (AV.int IntKind.i64 1) fun v219 =>
 K201 [nth xs202 0, nth xs202 1, nth xs202 2, nth xs202 3, nth xs202 4, v213, nth xs202 6, nth xs202 7, v219] (H211.apply D218) ((nx204 + 1) + fr217.length))))))
 (BI BinOp.add (nth xs202 8) (AV.int IntKind.i64 1) fun v220 =>
 K201 [nth xs202 0, nth xs202 1, nth xs202 2, nth xs202 3, nth xs202 4, nth xs202 5, nth xs202 6, nth xs202 7, v220] H203 nx204))
 (JN (zcq Q) (zcs xs202 H203 nx204))
def zbj (Q : QT) (K186 : J3) (xs187 : List AV) (H188 : Heap) (nx189 : Nat) : Prop :=
 BI BinOp.lss (nth xs187 8) (nth xs187 7) fun v190 =>
 CNDC v190
 (IA 1 (nth xs187 6) (nth xs187 8) fun v191 =>
 LD false 1 v191 H188 fun v192 =>
 BS BinOp.eql v192 (nth xs187 3) fun v193 =>
 CNDC v193
 (BI BinOp.add (nth xs187 8) (AV.int IntKind.i64 1) fun v194 =>
 BD (zt tab [(3, 0), (3, 1), (9, 2), (88, 3)]) [AV.int IntKind.i64 0, AV.int IntKind.i64 0, AV.str [], AV.nils] [(0, AV.int IntKind.i64 4), (1, v194)] fun v195 =>
 ST 4 (nth xs187 4) v195 H188 fun H196 =>
 BI BinOp.add (nth xs187 8) (AV.int IntKind.i64 1) fun v197 =>
 K186 [nth xs187 0, nth xs187 1, nth xs187 2, nth xs187 3, nth xs187 4, AV.int IntKind.i64 2, nth xs187 6, nth xs187 7, v197] H196 nx189)
 (BI BinOp.add (nth xs187 8) (AV.int IntKind.i64 1) fun v198 =>
 K186 [nth xs187 0, nth xs187 1, nth xs187 2, nth xs187 3, nth xs187 4, nth xs187 5, nth xs187 6, nth xs187 7, v198] H188 nx189))
 (PUTH H188 nx189 (AObj.row 1 [AV.str [99, 101, 108, 108], AV.str [108, 101, 102, 116], AV.str [114, 105, 103, 104, 116], AV.str [97, 115, 107], AV.str [104, 101, 114, 101], AV.str [103, 111]]) fun H199 =>
 LNL (AV.slc nx189 0 6) fun v200 =>
 LP (zbk Q) [nth xs187 0, nth xs187 1, nth xs187 2, nth xs187 3, nth xs187 4, nth xs187 5, AV.slc nx189 0 6, v200, AV.int IntKind.i64 0] H199 (nx189 + 1))
def zic (Q : QT) (nx : Nat) (v178 : AV) (H179 : Heap) (nx180 : Nat) : Prop :=
 BD (zt tab [(3, 0), (3, 1), (9, 2), (88, 3)]) [AV.int IntKind.i64 0, AV.int IntKind.i64 0, AV.str [], AV.nils] [(0, AV.int IntKind.i64 11), (2, v178)] fun v181 =>
 PUTH H179 nx180 (AObj.row 4 [AV.int IntKind.i64 0, AV.int IntKind.i64 0, AV.str [], AV.nils]) fun H182 =>
 ST 4 (AV.ptr nx180 0) v181 H182 fun H183 =>
 PUTH H183 (nx180 + 1) (AObj.row 1 [AV.str [43], AV.str [45], AV.str [42], AV.str [60], AV.str [61]]) fun H184 =>
 LNL (AV.slc (nx180 + 1) 0 5) fun v185 =>
 LP (zbj Q) [AV.ptr nx 0, AV.ptr (nx + 1) 0, AV.ptr (nx + 2) 0, v178, AV.ptr nx180 0, AV.int IntKind.i64 (-1), AV.slc (nx180 + 1) 0 5, v185, AV.int IntKind.i64 0] H184 (nx180 + 2)
def zas (Q : QT) (nx : Nat) (v13 : AV) (H14 : Heap) (nx15 : Nat) : Prop :=
 BI BinOp.eql v13 (AV.int IntKind.u8 39) fun v16 =>
 CNDC v16
 (LP (zbl Q) [AV.ptr nx 0, AV.ptr (nx + 2) 0, AV.int IntKind.i64 1] H14 nx15)
 (BI BinOp.neq v13 (AV.int IntKind.u8 40) fun v100 =>
 CNDC v100
 (LD false 1 (AV.ptr nx 0) H14 fun v101 =>
 za Tryd.prog 49 [v101] H14 nx15 (ziy nx Q))
 (LDR false 1 (AV.ptr nx 0) H14 fun v162 _ =>
 LDR false 1 (AV.ptr nx 0) H14 fun v164 _ =>
 NC v164 fun v166 =>
 FA 0 v166 fun v167 =>
 LDR false 1 v167 H14 fun v168 _ =>
 SLS v168 (some (AV.int IntKind.i64 1)) none fun v170 =>
 NC v162 fun v171 =>
 FA 0 v171 fun v172 =>
 zaf 1 v172 v170 H14 fun _ _ fr175 D176 =>
 LD false 1 (AV.ptr nx 0) (H14.apply D176) fun v177 =>
 za Tryd.prog 49 [v177] (H14.apply D176) (nx15 + fr175.length) (zic Q nx)))
def zcc (nx : Nat) (Q : QT) (v6 : AV) (H7 : Heap) (nx8 : Nat) : Prop :=
 UO UnOp.not v6 fun v9 =>
 CNDC v9
 (ST 4 (AV.ptr (nx + 2) 0) (AV.agg [AV.int IntKind.i64 0, AV.int IntKind.i64 0, AV.str [], AV.nils]) H7 fun H10 =>
 LD true 4 (AV.ptr (nx + 2) 0) H10 fun v11 =>
 Q v11 H10 nx8)
 (LD false 1 (AV.ptr nx 0) H7 fun v12 =>
 za Tryd.prog 27 [v12] H7 nx8 (zas Q nx))
def zfb (a0 a1 : AV) (H : Heap) (nx : Nat) (Q : QT) : Prop :=
 a0.sure = true ∧
 PUTH H nx (AObj.row a0.cells.length a0.cells) fun H1 =>
 a1.sure = true ∧
 PUTH H1 (nx + 1) (AObj.row a1.cells.length a1.cells) fun H2 =>
 PUTH H2 (nx + 2) (AObj.row 4 [AV.int IntKind.i64 0, AV.int IntKind.i64 0, AV.str [], AV.nils]) fun H3 =>
 LD false 1 (AV.ptr nx 0) H3 fun v4 =>
 LD false 1 (AV.ptr (nx + 1) 0) H3 fun v5 =>
 za Tryd.prog 68 [v4, v5] H3 (nx + 3) (zcc nx Q)
theorem zfw (a0 a1 : AV) (H : Heap) (nx : Nat) (Q : QT) : zfb a0 a1 H nx Q → za Tryd.prog 69 [a0, a1] H nx Q :=
  ze (lv := lvOf [(0, 6, [2, 4, 6, 42]), (2, 6, [2, 4, 6]), (2, 32, [2, 3, 4, 11, 12, 13, 132, 133, 134]), (2, 38, [2, 3, 4, 11, 12, 13, 146, 147, 148]), (3, 45, [2, 3, 4, 12, 13])]) (c := zp Tryd.f69) zu zx mixed Tryd.func69 (by kernel_rfl) (by kernel_rfl) (by kernel_rfl) (by kernel_rfl) (by kernel_rfl)
def zfa (H41 : Heap) (nx42 : Nat) (v45 : AV) (xs40 : List AV) (v44 : AV) (rd46 : List Nat) (K39 : J3) (v48 : AV) (_ : List Nat) (fr50 : List Nat) (D51 : zw) : Prop :=
 BSL 1 4 [AV.int IntKind.i64 0, AV.int IntKind.i64 0, AV.str [], AV.nils] [(0, v48)] fun cells52 =>
 PUTH (H41.apply D51) (nx42 + fr50.length) (AObj.row 4 cells52) fun H53 =>
 zaq 4 56 v45 (AV.slc (nx42 + fr50.length) 0 1) H53 ((nx42 + fr50.length) + 1) fun v54 _ fr56 D57 =>
 FA 2 (nth xs40 4) fun v58 =>
 zaf 1 v58 v54 (H53.apply D57) fun _ _ fr61 D62 =>
 zf (domD D51) [] (
 SOFT v44 v45 D51 rd46 (
 (nx42 + fr50.length) ∉ [] ∧
 (nx42 + fr50.length) ∉ rd46 ∧
 BI BinOp.add (nth xs40 6) (AV.int IntKind.i64 1) fun v63 =>
 K39 [nth xs40 0, nth xs40 1, nth xs40 2, nth xs40 3, nth xs40 4, nth xs40 5, v63] ((H53.apply D57).apply D62) ((((nx42 + fr50.length) + 1) + fr56.length) + fr61.length)))
def zck (xs40 : List AV) (Q : QT) (_ : AV) (H84 : Heap) (nx85 : Nat) : Prop :=
 LD true 5 (nth xs40 4) H84 fun v86 =>
 ST 5 (nth xs40 2) v86 H84 fun H87 =>
 LD true 5 (nth xs40 2) H87 fun v88 =>
 Q v88 H87 nx85
def ziv (xs40 : List AV) (Q : QT) (v78 : AV) (H79 : Heap) (nx80 : Nat) : Prop :=
 FA 4 (nth xs40 4) fun v81 =>
 ST 1 v81 v78 H79 fun H82 =>
 za Tryd.prog 28 [nth xs40 0, AV.int IntKind.u8 41] H82 nx80 (zck xs40 Q)
def ziu (xs40 : List AV) (Q : QT) (_ : AV) (H75 : Heap) (nx76 : Nat) : Prop :=
 BI BinOp.add (nth xs40 1) (AV.int IntKind.i64 1) fun v77 =>
 za Tryd.prog 32 [nth xs40 0, v77] H75 nx76 (ziv xs40 Q)
def zit (xs40 : List AV) (Q : QT) (v69 : AV) (H70 : Heap) (nx71 : Nat) : Prop :=
 FA 3 (nth xs40 4) fun v72 =>
 ST 1 v72 v69 H70 fun H73 =>
 za Tryd.prog 28 [nth xs40 0, AV.int IntKind.u8 40] H73 nx71 (ziu xs40 Q)
def zis (xs40 : List AV) (Q : QT) (_ : AV) (H66 : Heap) (nx67 : Nat) : Prop :=
 BI BinOp.add (nth xs40 1) (AV.int IntKind.i64 1) fun v68 =>
 za Tryd.prog 32 [nth xs40 0, v68] H66 nx67 (zit xs40 Q)
def zir (xs40 : List AV) (Q : QT) (v91 : AV) (H92 : Heap) (nx93 : Nat) : Prop :=
 FA 3 (nth xs40 4) fun v94 =>
 ST 1 v94 v91 H92 fun H95 =>
 LD true 5 (nth xs40 4) H95 fun v96 =>
 ST 5 (nth xs40 2) v96 H95 fun H97 =>
 LD true 5 (nth xs40 2) H97 fun v98 =>
 Q v98 H97 nx93
def zag (Q : QT) (K39 : J3) (xs40 : List AV) (H41 : Heap) (nx42 : Nat) : Prop :=
 BI BinOp.lss (nth xs40 6) (nth xs40 5) fun v43 =>
 CNDC v43
 (FA 2 (nth xs40 4) fun v44 =>
 LDR false 1 v44 H41 fun v45 rd46 =>
 BI BinOp.add (nth xs40 1) (AV.int IntKind.i64 1) fun v47 =>
 zae Tryd.prog (AV.clo 69 []) [nth xs40 0, v47] H41 nx42 (zfa H41 nx42 v45 xs40 v44 rd46 K39))
 (BI BinOp.eql (nth xs40 3) (AV.int IntKind.i64 3) fun v64 =>
 CNDC v64
 (za Tryd.prog 28 [nth xs40 0, AV.int IntKind.u8 40] H41 nx42 (zis xs40 Q))
 (BI BinOp.eql (nth xs40 3) (AV.int IntKind.i64 4) fun v89 =>
 CNDC v89
 (BI BinOp.add (nth xs40 1) (AV.int IntKind.i64 1) fun v90 =>
 za Tryd.prog 32 [nth xs40 0, v90] H41 nx42 (zir xs40 Q))
 (za Tryd.prog 28 [nth xs40 0, AV.int IntKind.u8 41] H41 nx42 (zck xs40 Q))))
def zcj (xs28 : List AV) (j35 : J3) (v106 : AV) (H107 : Heap) (nx108 : Nat) : Prop :=
 FA 1 (nth xs28 4) fun v109 =>
 ST 1 v109 v106 H107 fun H110 =>
 j35 [nth xs28 0, nth xs28 1, nth xs28 2, nth xs28 3, nth xs28 4] H110 nx108
def zcl (Q : QT) (xs32 : List AV) (H33 : Heap) (nx34 : Nat) : Prop :=
 PUTH H33 nx34 (AObj.row 1 [AV.int IntKind.i64 0, AV.int IntKind.i64 1, AV.int IntKind.i64 1, AV.int IntKind.i64 1, AV.int IntKind.i64 1, AV.int IntKind.i64 1, AV.int IntKind.i64 1, AV.int IntKind.i64 2, AV.int IntKind.i64 2, AV.int IntKind.i64 1]) fun H36 =>
 IA 1 (AV.slc nx34 0 10) (nth xs32 3) fun v37 =>
 LD false 1 v37 H36 fun v38 =>
 LP (zag Q) [nth xs32 0, nth xs32 1, nth xs32 2, nth xs32 3, nth xs32 4, v38, AV.int IntKind.i64 0] H36 (nx34 + 1)
def zcm (xs28 : List AV) (H29 : Heap) (nx30 : Nat) (j35 : J3) : Prop :=
 BI BinOp.eql (nth xs28 3) (AV.int IntKind.i64 1) fun v105 =>
 CND v105
 (za Tryd.prog 29 [nth xs28 0] H29 nx30 (zcj xs28 j35))
 (BI BinOp.eql (nth xs28 3) (AV.int IntKind.i64 2) fun v111 =>
 CNDC v111
 (za Tryd.prog 29 [nth xs28 0] H29 nx30 (zcj xs28 j35))
 (j35 [nth xs28 0, nth xs28 1, nth xs28 2, nth xs28 3, nth xs28 4] H29 nx30))
def ziq (j31 : J3) (a0 : AV) (a1 : AV) (nx : Nat) (v24 : AV) (nx13 : Nat) (v118 : AV) (H119 : Heap) (nx120 : Nat) : Prop :=
 j31 [a0, a1, AV.ptr nx 0, v24, AV.ptr (nx13 + 1) 0] H119 nx120
def zbh (Q : QT) (xs28 : List AV) (H29 : Heap) (nx30 : Nat) : Prop :=
 JN (zcl Q) (zcm xs28 H29 nx30)
def zbi (v24 : AV) (a0 : AV) (H27 : Heap) (nx13 : Nat) (a1 : AV) (nx : Nat) (j31 : J3) : Prop :=
 BI BinOp.eql v24 (AV.int IntKind.i64 0) fun v117 =>
 CNDC v117
 (za Tryd.prog 48 [a0, AV.int IntKind.i64 1] H27 (nx13 + 2) (ziq j31 a0 a1 nx v24 nx13))
 (j31 [a0, a1, AV.ptr nx 0, v24, AV.ptr (nx13 + 1) 0] H27 (nx13 + 2))
def zed (Q : QT) (a0 : AV) (a1 : AV) (nx : Nat) (v11 : AV) (H12 : Heap) (nx13 : Nat) : Prop :=
 PUTH H12 nx13 (AObj.mp []) fun H14 =>
 zh (AK.str) (AV.str [108, 101, 116]) = true ∧
 MU (AV.amap nx13) (AV.str [108, 101, 116]) (AV.int IntKind.i64 1) H14 fun H15 =>
 zh (AK.str) (AV.str [115, 101, 116]) = true ∧
 MU (AV.amap nx13) (AV.str [115, 101, 116]) (AV.int IntKind.i64 2) H15 fun H16 =>
 zh (AK.str) (AV.str [105, 102]) = true ∧
 MU (AV.amap nx13) (AV.str [105, 102]) (AV.int IntKind.i64 3) H16 fun H17 =>
 zh (AK.str) (AV.str [119, 104, 105, 108, 101]) = true ∧
 MU (AV.amap nx13) (AV.str [119, 104, 105, 108, 101]) (AV.int IntKind.i64 4) H17 fun H18 =>
 zh (AK.str) (AV.str [115, 97, 121]) = true ∧
 MU (AV.amap nx13) (AV.str [115, 97, 121]) (AV.int IntKind.i64 5) H18 fun H19 =>
 zh (AK.str) (AV.str [114, 101, 116, 117, 114, 110]) = true ∧
 MU (AV.amap nx13) (AV.str [114, 101, 116, 117, 114, 110]) (AV.int IntKind.i64 6) H19 fun H20 =>
 zh (AK.str) (AV.str [112, 117, 116, 108]) = true ∧
 MU (AV.amap nx13) (AV.str [112, 117, 116, 108]) (AV.int IntKind.i64 7) H20 fun H21 =>
 zh (AK.str) (AV.str [112, 117, 116, 114]) = true ∧
 MU (AV.amap nx13) (AV.str [112, 117, 116, 114]) (AV.int IntKind.i64 8) H21 fun H22 =>
 zh (AK.str) (AV.str [100, 111]) = true ∧
 MU (AV.amap nx13) (AV.str [100, 111]) (AV.int IntKind.i64 9) H22 fun H23 =>
 zh (AK.str) v11 = true ∧
 LK [AV.int IntKind.i64 0] false (AV.amap nx13) v11 false H23 fun v24 =>
 BD (zt tab [(3, 0), (9, 1), (88, 2), (41, 3), (41, 4)]) [AV.int IntKind.i64 0, AV.str [], AV.nils, AV.nils, AV.nils] [(0, v24)] fun v25 =>
 PUTH H23 (nx13 + 1) (AObj.row 5 [AV.int IntKind.i64 0, AV.str [], AV.nils, AV.nils, AV.nils]) fun H26 =>
 ST 5 (AV.ptr (nx13 + 1) 0) v25 H26 fun H27 =>
 JN (zbh Q) (zbi v24 a0 H27 nx13 a1 nx)
def zib (a0 : AV) (Q : QT) (a1 : AV) (nx : Nat) (v8 : AV) (H9 : Heap) (nx10 : Nat) : Prop :=
 za Tryd.prog 49 [a0] H9 nx10 (zed Q a0 a1 nx)
def zcb (nx : Nat) (Q : QT) (a0 : AV) (a1 : AV) (v2 : AV) (H3 : Heap) (nx4 : Nat) : Prop :=
 UO UnOp.not v2 fun v5 =>
 CNDC v5
 (ST 5 (AV.ptr nx 0) (AV.agg [AV.int IntKind.i64 0, AV.str [], AV.nils, AV.nils, AV.nils]) H3 fun H6 =>
 LD true 5 (AV.ptr nx 0) H6 fun v7 =>
 Q v7 H6 nx4)
 (za Tryd.prog 28 [a0, AV.int IntKind.u8 40] H3 nx4 (zib a0 Q a1 nx))
def zez (a0 a1 : AV) (H : Heap) (nx : Nat) (Q : QT) : Prop :=
 PUTH H nx (AObj.row 5 [AV.int IntKind.i64 0, AV.str [], AV.nils, AV.nils, AV.nils]) fun H1 =>
 za Tryd.prog 68 [a0, a1] H1 (nx + 1) (zcb nx Q a0 a1)
theorem zfv (a0 a1 : AV) (H : Heap) (nx : Nat) (Q : QT) : zez a0 a1 H nx Q → za Tryd.prog 51 [a0, a1] H nx Q :=
  ze (lv := lvOf [(2, 12, [0, 1, 4, 6, 7, 39, 40]), (3, 9, [0, 1, 4, 6, 7]), (3, 11, [0, 1, 4, 6, 7])]) (c := zp Tryd.f51) zu zx mixed Tryd.func51 (by kernel_rfl) (by kernel_rfl) (by kernel_rfl) (by kernel_rfl) (by kernel_rfl)
def zcx (v1 : AV) (H : Heap) (nx : Nat) (a0 : AV) (rd2 : List Nat) (rd4 : List Nat) (rd6 : List Nat) (Q : QT) (v7 : AV) (rd8 : List Nat) (fr9 : List Nat) (D10 : zw) : Prop :=
 LNL v1 fun v11 =>
 PUTH (H.apply D10) (nx + fr9.length) (AObj.row 5 [AV.int IntKind.i64 0, AV.str [], AV.nils, AV.nils, AV.nils]) fun H12 =>
 zaq 5 96 v1 (AV.slc (nx + fr9.length) 0 1) H12 ((nx + fr9.length) + 1) fun v13 _ fr15 D16 =>
 IA 5 v13 v11 fun v17 =>
 zaf 5 v17 v7 (H12.apply D16) fun _ rd19 fr20 D21 =>
 zaf 1 a0 v13 ((H12.apply D16).apply D21) fun _ rd23 fr24 D25 =>
 SOFT a0 v1 D10 rd2 (
 zf (domD D10) [] (
 zf (domD D10) [] (
 (nx + fr9.length) ∉ rd2 ∧
 (nx + fr9.length) ∉ rd4 ∧
 (nx + fr9.length) ∉ rd6 ∧
 zf (domD D10) [] (
 zf (domD D10) [(nx + fr9.length)] (
 (nx + fr9.length) ∉ rd8 ∧
 (nx + fr9.length) ∉ [] ∧
 zf (domD D25) [] (
 zf (domD D21) rd23 (
 zf (domD D21) (domD D25) (
 zf (domD D25) rd19 (
 Q (AV.tup []) (((H12.apply D16).apply D21).apply D25) (((((nx + fr9.length) + 1) + fr15.length) + fr20.length) + fr24.length))))))))))
def zcw (a0 a1 a2 : AV) (H : Heap) (nx : Nat) (Q : QT) : Prop :=
 LDR false 1 a0 H fun v1 rd2 =>
 LDR false 1 a1 H fun v3 rd4 =>
 LDR false 1 a2 H fun v5 rd6 =>
 zae Tryd.prog (AV.clo 51 []) [v3, v5] H nx (zcx v1 H nx a0 rd2 rd4 rd6 Q)
theorem zkd (a0 a1 a2 : AV) (H : Heap) (nx : Nat) (Q : QT) : zcw a0 a1 a2 H nx Q → za Tryd.prog 50 [a0, a1, a2] H nx Q :=
  ze (lv := lvOf []) (c := zp Tryd.f50) zu zx mixed Tryd.func50 (by kernel_rfl) (by kernel_rfl) (by kernel_rfl) (by kernel_rfl) (by kernel_rfl)
def zdi (v2 : AV) (H : Heap) (nx : Nat) (a0 : AV) (v1 : AV) (rd3 : List Nat) (rd5 : List Nat) (rd7 : List Nat) (Q : QT) (v9 : AV) (rd10 : List Nat) (fr11 : List Nat) (D12 : zw) : Prop :=
 LNL v2 fun v13 =>
 PUTH (H.apply D12) (nx + fr11.length) (AObj.row 4 [AV.int IntKind.i64 0, AV.int IntKind.i64 0, AV.str [], AV.nils]) fun H14 =>
 zaq 4 56 v2 (AV.slc (nx + fr11.length) 0 1) H14 ((nx + fr11.length) + 1) fun v15 _ fr17 D18 =>
 IA 4 v15 v13 fun v19 =>
 zaf 4 v19 v9 (H14.apply D18) fun _ rd21 fr22 D23 =>
 FA 3 a0 fun v24 =>
 zaf 1 v24 v15 ((H14.apply D18).apply D23) fun _ rd26 fr27 D28 =>
 zf (domD D12) [] (
 SOFT v1 v2 D12 rd3 (
 zf (domD D12) [] (
 zf (domD D12) [] (
 (nx + fr11.length) ∉ [] ∧
 (nx + fr11.length) ∉ rd3 ∧
 (nx + fr11.length) ∉ rd5 ∧
 (nx + fr11.length) ∉ rd7 ∧
 (nx + fr11.length) ∉ [] ∧
 zf (domD D12) [] (
 zf (domD D12) [(nx + fr11.length)] (
 (nx + fr11.length) ∉ rd10 ∧
 (nx + fr11.length) ∉ [] ∧
 zf (domD D23) [] (
 zf (domD D23) [] (
 zf (domD D28) [] (
 zf (domD D23) rd26 (
 zf (domD D23) (domD D28) (
 zf (domD D28) rd21 (
 Q (AV.tup []) (((H14.apply D18).apply D23).apply D28) (((((nx + fr11.length) + 1) + fr17.length) + fr22.length) + fr27.length)))))))))))))
def zdh (a0 a1 a2 : AV) (H : Heap) (nx : Nat) (Q : QT) : Prop :=
 FA 3 a0 fun v1 =>
 LDR false 1 v1 H fun v2 rd3 =>
 LDR false 1 a1 H fun v4 rd5 =>
 LDR false 1 a2 H fun v6 rd7 =>
 BI BinOp.add v6 (AV.int IntKind.i64 1) fun v8 =>
 zae Tryd.prog (AV.clo 69 []) [v4, v8] H nx (zdi v2 H nx a0 v1 rd3 rd5 rd7 Q)
theorem zkl (a0 a1 a2 : AV) (H : Heap) (nx : Nat) (Q : QT) : zdh a0 a1 a2 H nx Q → za Tryd.prog 81 [a0, a1, a2] H nx Q :=
  ze (lv := lvOf []) (c := zp Tryd.f81) zu zx mixed Tryd.func81 (by kernel_rfl) (by kernel_rfl) (by kernel_rfl) (by kernel_rfl) (by kernel_rfl)
def zea (H : Heap) (nx : Nat) (v2 : AV) (a0 : AV) (v1 : AV) (rd3 : List Nat) (Q : QT) (v6 : AV) (_ : List Nat) (fr8 : List Nat) (D9 : zw) : Prop :=
 BSL 1 1 [AV.str []] [(0, v6)] fun cells10 =>
 PUTH (H.apply D9) (nx + fr8.length) (AObj.row 1 cells10) fun H11 =>
 zaq 1 16 v2 (AV.slc (nx + fr8.length) 0 1) H11 ((nx + fr8.length) + 1) fun v12 _ fr14 D15 =>
 FA 1 a0 fun v16 =>
 zaf 1 v16 v12 (H11.apply D15) fun _ _ fr19 D20 =>
 zf (domD D9) [] (
 SOFT v1 v2 D9 rd3 (
 (nx + fr8.length) ∉ [] ∧
 (nx + fr8.length) ∉ rd3 ∧
 Q (AV.tup []) ((H11.apply D15).apply D20) ((((nx + fr8.length) + 1) + fr14.length) + fr19.length)))
def zdz (a0 a1 : AV) (H : Heap) (nx : Nat) (Q : QT) : Prop :=
 FA 1 a0 fun v1 =>
 LDR false 1 v1 H fun v2 rd3 =>
 LDR false 1 a1 H fun v4 _ =>
 zae Tryd.prog (AV.clo 29 []) [v4] H nx (zea H nx v2 a0 v1 rd3 Q)
theorem zle (a0 a1 : AV) (H : Heap) (nx : Nat) (Q : QT) : zdz a0 a1 H nx Q → za Tryd.prog 31 [a0, a1] H nx Q :=
  ze (lv := lvOf []) (c := zp Tryd.f31) zu zx mixed Tryd.func31 (by kernel_rfl) (by kernel_rfl) (by kernel_rfl) (by kernel_rfl) (by kernel_rfl)
end Go.Proofs.YtpllgpgdcbgalaaDoor
