/- Structures that are compared by their cells. The program's types, as its own table has them. What is to be shown of each function, written out. -/
import Derived.Test.YtpllgpgdcbgalaaDoorG3
import Derived.Laws.StructEq
import Derived.Test.YtpllgpgdcbgalaaDoorChecked
import Derived.Test.YtpllgpgdcbgalaaDoorG4
import Derived.KernelRfl
import Derived.Test.YtpllgpgdcbgalaaDoorG5
set_option linter.unusedSimpArgs false
set_option linter.unusedVariables false
namespace Go.Proofs.YtpllgpgdcbgalaaDoor
open Go Go.RowKit
section
variable (P : Program)
def szAt (t : TypeId) : Nat := match atOf P t with | some a => a.size | none => 0
def zhm (t : TypeId) : Bool := match atOf P t with | some a => !a.kind.isAgg && Nat.beq a.size 1 | none => false
def zfe (ok : TypeId → Option (List AV)) : List Field → Nat → Option (List AV)
  | [], _ => some []
  | f :: r, off => if f.name ≠ "_" ∧ f.offset = off then match ok f.type with
      | some z => match zfe ok r (off + z.length) with
        | some zr => some (z ++ zr)
        | none => none
      | none => none
    else none
def zfn : Nat → TypeId → Option (List AV)
  | 0, _ => none
  | d + 1, t => match P.underlying t with
    | some (.int k) => if zhm P t = true then some [.int k 0] else none
    | some .string => if zhm P t = true then some [.str []] else none
    | some .bool => if zhm P t = true then some [.bool false] else none
    | some (.struct fs) => if P.stoodInHeld t = false ∧ (match atOf P t with | some a => a.kind.isAgg | none => false) = true then match zfe (zfn d) fs.toList 0 with
        | some zs => if zs.length = szAt P t then some zs else none
        | none => none
      else none
    | _ => none
def zrf (t : TypeId) : Bool := match atOf P t with
  | some a => a.kind.isAgg && (match zfn P 4 t with | some zs => (zc zs a.zero).isSome | none => false) && !(P.eqGuardType P.depth t)
  | none => false
end
theorem zit : ∀ {xs ys : List AV} {r : Bool}, zc xs ys = some r → xs.length = ys.length
  | [], [], _, _ => rfl
  | [], _ :: _, _, h => by simp [zc] at h
  | x :: xs, [], _, h => by cases x <;> simp [zc] at h
  | x :: xs, y :: ys, r, h => by
    have : ∃ r', zc xs ys = some r' := by
      cases x <;> cases y <;> simp only [zc] at h <;> first
        | (cases h; done)
        | (split at h
           · obtain ⟨r', h', _⟩ := Option.map_eq_some_iff.1 h; exact ⟨r', h'⟩
           · cases h)
        | (obtain ⟨r', h', _⟩ := Option.map_eq_some_iff.1 h; exact ⟨r', h'⟩)
    obtain ⟨r', h'⟩ := this
    simp [zit h']
theorem zpd {x y : AV} {xs ys : List AV} {r : Bool} (h : zc (x :: xs) (y :: ys) = some r) : ∃ r1 r2, zc [x] [y] = some r1 ∧ zc xs ys = some r2 ∧ r = (r1 && r2) := by
  cases x <;> cases y <;> simp only [zc] at h ⊢ <;> first
    | (cases h; done)
    | (split at h
       · rename_i hk
         obtain ⟨r', h', rfl⟩ := Option.map_eq_some_iff.1 h
         exact ⟨_, r', by rw [if_pos hk]; rfl, h', by simp⟩
       · cases h)
    | (obtain ⟨r', h', rfl⟩ := Option.map_eq_some_iff.1 h
       exact ⟨_, r', rfl, h', by simp⟩)
theorem zfo : ∀ {xs ys : List AV} {r1 r2 : Bool} {us vs : List AV}, zc xs ys = some r1 → zc us vs = some r2 → zc (xs ++ us) (ys ++ vs) = some (r1 && r2)
  | [], [], r1, r2, us, vs, h, k => by simp [zc] at h; subst h; simpa using k
  | [], _ :: _, _, _, _, _, h, _ => by simp [zc] at h
  | x :: xs, [], _, _, _, _, h, _ => by cases x <;> simp [zc] at h
  | x :: xs, y :: ys, r1, r2, us, vs, h, k => by
    cases x <;> cases y <;> simp only [zc, List.cons_append] at h ⊢ <;> first
      | (cases h; done)
      | (split at h
         · rename_i hk
           obtain ⟨r', h', rfl⟩ := Option.map_eq_some_iff.1 h
           rw [if_pos hk, zfo h' k]; simp [Bool.and_assoc]
         · cases h)
      | (obtain ⟨r', h', rfl⟩ := Option.map_eq_some_iff.1 h
         rw [zfo h' k]; simp [Bool.and_assoc])
theorem zgh : ∀ (n : Nat) {xs ys : List AV} {r : Bool}, zc xs ys = some r → ∃ r1 r2, zc (xs.take n) (ys.take n) = some r1 ∧ zc (xs.drop n) (ys.drop n) = some r2 ∧ r = (r1 && r2)
  | 0, xs, ys, r, h => ⟨true, r, by simp [zc], by simpa using h, by simp⟩
  | n + 1, [], [], r, h => ⟨true, r, by simp [zc], by simpa using h, by simp⟩
  | n + 1, [], _ :: _, r, h => by simp [zc] at h
  | n + 1, x :: xs, [], r, h => by cases x <;> simp [zc] at h
  | n + 1, x :: xs, y :: ys, r, h => by
    obtain ⟨r1, r2, h1, h2, rfl⟩ := zpd h
    obtain ⟨q1, q2, g1, g2, rfl⟩ := zgh n h2
    refine ⟨r1 && q1, q2, ?_, by simpa using g2, by simp [Bool.and_assoc]⟩
    simpa using zfo h1 g1
theorem zdv : ∀ {a b c : List AV}, (zc a b).isSome = true → (zc b c).isSome = true → (zc a c).isSome = true
  | [], [], c, _, h => h
  | [], _ :: _, _, h, _ => by simp [zc] at h
  | x :: a, [], _, h, _ => by cases x <;> simp [zc] at h
  | x :: a, y :: b, [], _, h => by cases y <;> simp [zc] at h
  | x :: a, y :: b, z :: c, h, k => by
    cases x <;> cases y <;> simp only [zc] at h <;> try (cases h; done)
    all_goals
      cases z <;> simp only [zc] at k <;> try (cases k; done)
    · split at h
      · rename_i h1
        split at k
        · rename_i h2
          simp only [zc]
          rw [if_pos (h1.trans h2)]
          have := zdv (a := a) (b := b) (c := c) (by simpa using h) (by simpa using k)
          simpa using this
        · cases k
      · cases h
    · have := zdv (a := a) (b := b) (c := c) (by simpa using h) (by simpa using k)
      simpa [zc] using this
    · have := zdv (a := a) (b := b) (c := c) (by simpa using h) (by simpa using k)
      simpa [zc] using this
theorem znq (n : Nat) {xs ys : List AV} (h : (zc xs ys).isSome = true) : (zc (xs.take n) (ys.take n)).isSome = true ∧ (zc (xs.drop n) (ys.drop n)).isSome = true := by
  obtain ⟨r, hr⟩ := Option.isSome_iff_exists.1 h
  obtain ⟨r1, r2, h1, h2, _⟩ := zgh n hr
  exact ⟨by rw [h1]; rfl, by rw [h2]; rfl⟩
section
variable {P : Program}
def zpl (P : Program) (t : TypeId) (z : AV) : Prop := match z with
  | .int k _ => P.underlying t = some (.int k)
  | .str _ => P.underlying t = some .string
  | .bool _ => P.underlying t = some .bool
  | _ => False
theorem zom {t : TypeId} {k : Nat} {w : World} {K : ze} {ρ : Nat → Loc} {A : Nat → Prop} {z v u : AV} {a b : Value} {r : Bool} (hu : zpl P t z) (hz : (zc [z] [v]).isSome = true)
    (hv : VRel K ρ A v a) (hw : VRel K ρ A u b) (he : zc [v] [u] = some r) : (Op.equalIn (k + 1) t a b).run P w = .ok r w := by
  cases z <;> simp only [zpl] at hu <;> cases v <;> simp only [zc] at hz <;> (try (cases hz; done)) <;> cases u <;> simp only [zc] at he <;> (try (cases he; done)) <;> cases hv <;> cases hw
  · split at he
    · rename_i hk
      subst hk
      rw [run_equalIn_int w k t _ _ _ _ hu]
      simpa using he
    · cases he
  · rw [run_equalIn_bool' w k t _ _ hu]; simpa using he
  · rw [run_equalIn_string w k t _ _ hu]; simpa [ByteArray.toList_eq] using he
def zvd (P : Program) (d : Nat) (t : TypeId) (zs : List AV) : Prop := ∃ a, atOf P t = some a ∧ zs.length = a.size ∧ (a.kind.isAgg = false → a.size = 1) ∧ ∀ (k : Nat), d ≤ k → ∀ (w : World) (K : ze) (ρ : Nat → Loc) (A : Nat → Prop) (cells cells' : List AV) (off : Nat) (v u : AV) (r : Bool) (x y : Value),
    ldv a.kind.isAgg a.size cells off = some v → ldv a.kind.isAgg a.size cells' off = some u → (zc zs ((cells.drop off).take a.size)).isSome = true → zc ((cells.drop off).take a.size) ((cells'.drop off).take a.size) = some r → VRel K ρ A v x → VRel K ρ A u y →
    (Op.equalIn k t x y).run P w = .ok r w
theorem zhs {d : Nat} {t : TypeId} {z : AV} (hu : zpl P t z) (hs : zhm P t = true) : zvd P (d + 1) t [z] := by
  unfold zhm at hs
  cases ha : atOf P t with
  | none => rw [ha] at hs; cases hs
  | some a =>
    rw [ha] at hs
    simp only [Bool.and_eq_true] at hs
    have hag : a.kind.isAgg = false := by simpa using hs.1
    have hsz : a.size = 1 := Nat.eq_of_beq_eq_true hs.2
    refine ⟨a, ha, by rw [hsz]; rfl, fun _ => hsz, fun k hk w K ρ A cells cells' off v u r x y e1 e2 e0 e3 r1 r2 => ?_⟩
    simp only [ldv, hag, cond_false] at e1 e2
    have t1 : ∀ {l : List AV} {q : AV}, l[off]? = some q → (l.drop off).take 1 = [q] := by
      intro l q hl
      obtain ⟨hlt, rfl⟩ := List.getElem?_eq_some_iff.1 hl
      rw [List.drop_eq_getElem_cons hlt]; rfl
    rw [hsz, t1 e1] at e0
    rw [hsz, t1 e1, t1 e2] at e3
    obtain ⟨k', rfl⟩ : ∃ k', k = k' + 1 := ⟨k - 1, by omega⟩
    exact zom hu e0 r1 r2 e3
theorem zpc : ∀ (d : Nat) (t : TypeId) (zs : List AV), zfn P d t = some zs → zvd P d t zs
  | 0, t, zs, h => by cases h
  | d + 1, t, zs, h => by
    unfold zfn at h
    split at h
    · rename_i ki hu
      split at h
      · rename_i hs; cases h; exact zhs hu hs
      · cases h
    · rename_i hu
      split at h
      · rename_i hs; cases h; exact zhs hu hs
      · cases h
    · rename_i hu
      split at h
      · rename_i hs; cases h; exact zhs hu hs
      · cases h
    · rename_i fs hu
      by_cases hc : P.stoodInHeld t = false ∧ (match atOf P t with | some a => a.kind.isAgg | none => false) = true
      case neg => rw [if_neg hc] at h; cases h
      rw [if_pos hc] at h
      obtain ⟨hst, h3⟩ := hc
      split at h
      case h_2 => cases h
      rename_i zs' hf
      split at h
      case isFalse => cases h
      rename_i hlen
      obtain rfl := Option.some.inj h
      cases ha : atOf P t with
      | none => rw [ha] at h3; cases h3
      | some a =>
        rw [ha] at h3
        simp only at h3
        have hl : zs'.length = a.size := by rw [hlen]; unfold szAt; rw [ha]
        refine ⟨a, ha, hl, fun e => (by rw [h3] at e; cases e), fun k hk w K ρ A cells cells' off v u r x y e1 e2 e0 e3 r1 r2 => ?_⟩
        simp only [ldv, h3, cond_true] at e1 e2
        split at e1
        case isFalse => cases e1
        rename_i l1
        split at e2
        case isFalse => cases e2
        rename_i l2
        cases e1
        cases e2
        cases r1 with
        | agg _ cs g1 g2 =>
        cases r2 with
        | agg _ ds g3 g4 =>
        obtain ⟨k', rfl⟩ : ∃ k', k = k' + 1 := ⟨k - 1, by omega⟩
        have hfo : P.fieldsOf t = fs := by simp [Program.fieldsOf, hu]
        rw [run_equalIn_struct w k' t cs ds (by rw [hfo]; exact hu) hst, hfo]
        have loop : ∀ (fl : List Field) (o : Nat) (zs xs ys : List AV) (r : Bool), zfe (zfn P d) fl o = some zs → LRel K ρ A xs cs.toList → LRel K ρ A ys ds.toList → xs.length = o + zs.length → ys.length = o + zs.length →
            (zc zs (xs.drop o)).isSome = true → zc (xs.drop o) (ys.drop o) = some r → (Op.eqFields k' cs ds fl).run P w = .ok r w := by
          intro fl
          induction fl with
          | nil =>
            intro o zs xs ys r hf q1 q2 n1 n2 hz he
            simp only [zfe, Option.some.injEq] at hf
            subst hf
            simp only [List.length_nil] at n1 n2
            rw [List.drop_of_length_le (by omega), List.drop_of_length_le (by omega)] at he
            simp only [zc, Option.some.injEq] at he
            simp [Op.eqFields, Sem.run_pure, he]
          | cons f fl ih =>
            intro o zs xs ys r hf q1 q2 n1 n2 hz he
            unfold zfe at hf
            split at hf
            case isFalse => cases hf
            rename_i hc
            obtain ⟨c1, c2⟩ := hc
            split at hf
            case h_2 => cases hf
            rename_i z hzk
            split at hf
            case h_2 => cases hf
            rename_i zr hzr
            obtain rfl := Option.some.inj hf
            obtain ⟨b, hb, hzl, hb1, hrun⟩ := zpc d f.type z hzk
            rw [List.length_append] at n1 n2
            obtain ⟨s1, s2, t1, t2, rfl⟩ := zgh z.length he
            obtain ⟨z1, z2⟩ := znq z.length hz
            rw [List.take_left] at z1
            rw [List.drop_left, List.drop_drop] at z2
            rw [List.drop_drop, List.drop_drop] at t2
            obtain ⟨i, dd, zv, hb'⟩ := (show TOk P (atOf P) from fun _ _ h => h).at hb
            have ld : ∀ l : List AV, l.length = o + (z.length + zr.length) → ∃ q, ldv b.kind.isAgg b.size l o = some q := by
              intro l hl
              unfold ldv
              cases hag : b.kind.isAgg with
              | true => rw [cond_true, if_pos (by omega)]; exact ⟨_, rfl⟩
              | false =>
                rw [cond_false]
                have := hb1 hag
                exact ⟨_, List.getElem?_eq_getElem (by omega)⟩
            obtain ⟨p, hp⟩ := ld xs n1
            obtain ⟨q, hq⟩ := ld ys n2
            obtain ⟨pv, hpv, hpr⟩ := zfs (P := P) (w := w) hb' q1 hp
            obtain ⟨qv, hqv, hqr⟩ := zfs (P := P) (w := w) hb' q2 hq
            have hone := hrun k' (by omega) w K ρ A xs ys o p q s1 pv qv hp hq (by rw [← hzl]; exact z1) (by rw [← hzl]; exact t1) hpr hqr
            have hrest := ih (o + z.length) zr xs ys s2 hzr q1 q2 (by omega) (by omega) z2 t2
            simp only [Op.eqFields, c1, ne_eq, not_false_eq_true, if_true, Sem.run_bind, c2, hpv, hqv, hone, Result.andThen_ok]
            cases s1
            · simp [Sem.run_pure]
            · simpa using hrest
        refine loop fs.toList 0 zs' _ _ r hf ⟨by simpa using g1, fun j v c h1 h2 => g2 j v c h1 (by simpa using h2)⟩ ⟨by simpa using g3, fun j v c h1 h2 => g4 j v c h1 (by simpa using h2)⟩ (by simp; omega) (by simp; omega) ?_ ?_
        · simpa using e0
        · simpa using e3
    · cases h
theorem zvx {d : Nat} {t : TypeId} {a : AT} {zs : List AV} (hd : d ≤ 10000) (h : zfn P d t = some zs) (hz : (zc zs a.zero).isSome = true) (hg : P.eqGuardType P.depth t = false) (ha : atOf P t = some a) (hag : a.kind.isAgg = true) : EqTy P t a.zero := by
  intro w K ρ A xs ys cs ds r x y op q1 q2 hl he
  obtain ⟨a', ha', hzl, _, hrun⟩ := zpc d t zs h
  obtain rfl : a = a' := Option.some.inj (ha.symm.trans ha')
  have hlen := zit he
  have hzx := zdv hz hl
  have hxl : zs.length = xs.length := by obtain ⟨r0, h0⟩ := Option.isSome_iff_exists.1 hzx; exact zit h0
  refine ⟨?_, run_eqGuard_agg w op t x y cs ds hg⟩
  unfold Op.equal Op.maxDepth
  have full : ∀ l : List AV, l.length = a.size → (l.drop 0).take a.size = l := fun l hl => by rw [List.drop_zero, List.take_of_length_le (by omega)]
  refine hrun 10000 hd w K ρ A xs ys 0 (.agg xs) (.agg ys) r _ _ ?_ ?_ ?_ ?_ (LRel.agg q1) (LRel.agg q2)
  · simp only [ldv, hag, cond_true]; rw [if_pos (by omega), full xs (by omega)]
  · simp only [ldv, hag, cond_true]; rw [if_pos (by omega), full ys (by omega)]
  · rw [full xs (by omega)]; exact hzx
  · rw [full xs (by omega), full ys (by omega)]; exact he
theorem ztz {T : Nat → Option AT} (hT : TOk P T) : EOk P T (zrf P) := by
  intro t a h ht
  have ha := hT t a ht
  unfold zrf at h
  rw [ha] at h
  simp only [Bool.and_eq_true] at h
  obtain ⟨⟨h1, h2⟩, h3⟩ := h
  cases hk : zfn P 4 t with
  | none => rw [hk] at h2; cases h2
  | some zs =>
    rw [hk] at h2
    exact zvx (by omega) hk h2 (by simpa using h3) ha h1
end
end Go.Proofs.YtpllgpgdcbgalaaDoor
namespace Go.Proofs.YtpllgpgdcbgalaaDoor
open Go Go.RowKit
theorem mixed : Tryd.prog.follows .mixedOrders = true := by kernel_rfl
noncomputable def tab : Nat → Option AT := atOf Tryd.prog
theorem zx : TOk Tryd.prog tab := fun _ _ h => h
def zqr (t : Nat) : Bool := Nat.blt t 1000000
noncomputable def eqsT (t : Nat) : Bool := bif zqr t then zrf Tryd.prog t else false
theorem zac : EOk Tryd.prog tab eqsT := by
  intro t a h ht
  unfold eqsT at h
  generalize zqr t = b at h
  cases b with
  | true => rw [cond_true] at h; exact ztz zx t a h ht
  | false => rw [cond_false] at h; cases h
end Go.Proofs.YtpllgpgdcbgalaaDoor
set_option maxRecDepth 8000
namespace Go.Proofs.YtpllgpgdcbgalaaDoor
open Go Go.RowKit
@[simp] theorem zaah : zb tab 2 = 1 := by kernel_rfl
@[simp] theorem zaag : zb tab 3 = 1 := by kernel_rfl
@[simp] theorem zaaf : zb tab 4 = 1 := by kernel_rfl
@[simp] theorem zaae : zb tab 5 = 1 := by kernel_rfl
@[simp] theorem zaad : zb tab 6 = 1 := by kernel_rfl
@[simp] theorem zaac : zb tab 9 = 1 := by kernel_rfl
@[simp] theorem zze : zb tab 12 = 1 := by kernel_rfl
@[simp] theorem zzd : zb tab 17 = 1 := by kernel_rfl
@[simp] theorem zzc : zb tab 22 = 1 := by kernel_rfl
@[simp] theorem zzb : zb tab 23 = 1 := by kernel_rfl
@[simp] theorem zza : zb tab 31 = 1 := by kernel_rfl
@[simp] theorem zyz : zb tab 32 = 1 := by kernel_rfl
@[simp] theorem zyy : zb tab 38 = 1 := by kernel_rfl
@[simp] theorem zyx : zb tab 41 = 1 := by kernel_rfl
@[simp] theorem zyw : zb tab 57 = 1 := by kernel_rfl
@[simp] theorem zyv : zb tab 64 = 1 := by kernel_rfl
@[simp] theorem zyu : zb tab 71 = 1 := by kernel_rfl
@[simp] theorem zyt : zb tab 88 = 1 := by kernel_rfl
@[simp] theorem zxs : zb tab 120 = 1 := by kernel_rfl
@[simp] theorem zxr : zb tab 135 = 1 := by kernel_rfl
@[simp] theorem zxq : zb tab 159 = 1 := by kernel_rfl
@[simp] theorem zxp : zb tab 172 = 0 := by kernel_rfl
@[simp] theorem zxo : zb tab 176 = 1 := by kernel_rfl
@[simp] theorem zxn : zb tab 177 = 1 := by kernel_rfl
@[simp] theorem zxm : zb tab 178 = 1 := by kernel_rfl
@[simp] theorem zxl : zb tab 179 = 1 := by kernel_rfl
@[simp] theorem zxk : zb tab 180 = 1 := by kernel_rfl
def zaq (Q : QT) (K1 : J3) (xs2 : List AV) (H3 : Heap) (nx4 : Nat) : Prop :=
 NC (nth xs2 0) fun v5 =>
 FA 0 v5 fun v6 =>
 LD false 1 v6 H3 fun v7 =>
 LNS v7 fun v8 =>
 BI BinOp.gtr v8 (AV.int IntKind.i64 0) fun v9 =>
 CND v9
 (NC (nth xs2 0) fun v10 =>
 FA 0 v10 fun v11 =>
 LD false 1 v11 H3 fun v12 =>
 IX v12 (AV.int IntKind.i64 0) fun v13 =>
 BI BinOp.eql v13 (AV.int IntKind.u8 32) fun v14 =>
 CND v14
 (NC (nth xs2 0) fun v15 =>
 FA 0 v15 fun v16 =>
 LD false 1 v16 H3 fun v17 =>
 SLS v17 (some (AV.int IntKind.i64 1)) none fun v18 =>
 NC (nth xs2 0) fun v19 =>
 FA 0 v19 fun v20 =>
 ST 1 v20 v18 H3 fun H21 =>
 K1 [nth xs2 0] H21 nx4)
 (NC (nth xs2 0) fun v22 =>
 FA 0 v22 fun v23 =>
 LD false 1 v23 H3 fun v24 =>
 IX v24 (AV.int IntKind.i64 0) fun v25 =>
 BI BinOp.eql v25 (AV.int IntKind.u8 10) fun v26 =>
 CNDC v26
 (NC (nth xs2 0) fun v27 =>
 FA 0 v27 fun v28 =>
 LD false 1 v28 H3 fun v29 =>
 SLS v29 (some (AV.int IntKind.i64 1)) none fun v30 =>
 NC (nth xs2 0) fun v31 =>
 FA 0 v31 fun v32 =>
 ST 1 v32 v30 H3 fun H33 =>
 K1 [nth xs2 0] H33 nx4)
 (NC (nth xs2 0) fun v34 =>
 FA 0 v34 fun v35 =>
 LD false 1 v35 H3 fun v36 =>
 LNS v36 fun v37 =>
 BI BinOp.eql v37 (AV.int IntKind.i64 0) fun v38 =>
 CNDC v38
 (Q (AV.int IntKind.u8 0) H3 nx4)
 (NC (nth xs2 0) fun v39 =>
 FA 0 v39 fun v40 =>
 LD false 1 v40 H3 fun v41 =>
 IX v41 (AV.int IntKind.i64 0) fun v42 =>
 BI BinOp.eql v42 (AV.int IntKind.u8 0) fun v43 =>
 CNDC v43
 (Q (AV.int IntKind.u8 1) H3 nx4)
 (NC (nth xs2 0) fun v44 =>
 FA 0 v44 fun v45 =>
 LD false 1 v45 H3 fun v46 =>
 IX v46 (AV.int IntKind.i64 0) fun v47 =>
 Q v47 H3 nx4)))))
 (NC (nth xs2 0) fun v48 =>
 FA 0 v48 fun v49 =>
 LD false 1 v49 H3 fun v50 =>
 LNS v50 fun v51 =>
 BI BinOp.eql v51 (AV.int IntKind.i64 0) fun v52 =>
 CNDC v52
 (Q (AV.int IntKind.u8 0) H3 nx4)
 (NC (nth xs2 0) fun v53 =>
 FA 0 v53 fun v54 =>
 LD false 1 v54 H3 fun v55 =>
 IX v55 (AV.int IntKind.i64 0) fun v56 =>
 BI BinOp.eql v56 (AV.int IntKind.u8 0) fun v57 =>
 CNDC v57
 (Q (AV.int IntKind.u8 1) H3 nx4)
 (NC (nth xs2 0) fun v58 =>
 FA 0 v58 fun v59 =>
 LD false 1 v59 H3 fun v60 =>
 IX v60 (AV.int IntKind.i64 0) fun v61 =>
 Q v61 H3 nx4)))
def zhe (a0 : AV) (H : Heap) (nx : Nat) (Q : QT) : Prop :=
 LP (zaq Q) [a0] H nx
theorem zkf (a0 : AV) (H : Heap) (nx : Nat) (Q : QT) : zhe a0 H nx Q → za Tryd.prog 27 [a0] H nx Q :=
  zg (lv := lvOf [(2, 1, [0])]) (c := zm Tryd.f27) zx zac mixed Tryd.func27 (by kernel_rfl) (by kernel_rfl) (by kernel_rfl) (by kernel_rfl) (by kernel_rfl)
def zeq (a0 a1 : AV) (H : Heap) (nx : Nat) (Q : QT) : Prop :=
 NC a0 fun v1 =>
 FA 1 v1 fun v2 =>
 LD false 1 v2 H fun v3 =>
 BI BinOp.eql v3 (AV.int IntKind.i64 0) fun v4 =>
 CNDC v4
 (NC a0 fun v5 =>
 FA 1 v5 fun v6 =>
 ST 1 v6 a1 H fun H7 =>
 Q (AV.tup []) H7 nx)
 (Q (AV.tup []) H nx)
theorem zki (a0 a1 : AV) (H : Heap) (nx : Nat) (Q : QT) : zeq a0 a1 H nx Q → za Tryd.prog 48 [a0, a1] H nx Q :=
  zg (lv := lvOf []) (c := zm Tryd.f48) zx zac mixed Tryd.func48 (by kernel_rfl) (by kernel_rfl) (by kernel_rfl) (by kernel_rfl) (by kernel_rfl)
def zhf (Q : QT) (v13 : AV) (H14 : Heap) (nx15 : Nat) : Prop :=
 Q (AV.tup []) H14 nx15
def zce (a1 : AV) (a0 : AV) (Q : QT) (v1 : AV) (H2 : Heap) (nx3 : Nat) : Prop :=
 BI BinOp.eql v1 a1 fun v4 =>
 CNDC v4
 (NC a0 fun v5 =>
 FA 0 v5 fun v6 =>
 LD false 1 v6 H2 fun v7 =>
 SLS v7 (some (AV.int IntKind.i64 1)) none fun v8 =>
 NC a0 fun v9 =>
 FA 0 v9 fun v10 =>
 ST 1 v10 v8 H2 fun H11 =>
 Q (AV.tup []) H11 nx3)
 (BI BinOp.eql v1 (AV.int IntKind.u8 0) fun v12 =>
 CNDC v12
 (za Tryd.prog 48 [a0, AV.int IntKind.i64 8] H2 nx3 (zhf Q))
 (za Tryd.prog 48 [a0, AV.int IntKind.i64 2] H2 nx3 (zhf Q)))
def zmc (a0 a1 : AV) (H : Heap) (nx : Nat) (Q : QT) : Prop :=
 za Tryd.prog 27 [a0] H nx (zce a1 a0 Q)
theorem zkg (a0 a1 : AV) (H : Heap) (nx : Nat) (Q : QT) : zmc a0 a1 H nx Q → za Tryd.prog 28 [a0, a1] H nx Q :=
  zg (lv := lvOf []) (c := zm Tryd.f28) zx zac mixed Tryd.func28 (by kernel_rfl) (by kernel_rfl) (by kernel_rfl) (by kernel_rfl) (by kernel_rfl)
def zcx (Q : QT) (K13 : J3) (xs14 : List AV) (H15 : Heap) (nx16 : Nat) : Prop :=
 BI BinOp.lss (nth xs14 2) (nth xs14 1) fun v17 =>
 CNDC v17
 (IX (nth xs14 0) (nth xs14 2) fun v18 =>
 BI BinOp.lss v18 (AV.int IntKind.u8 97) fun v19 =>
 CND v19
 (Q (AV.bool false) H15 nx16)
 (IX (nth xs14 0) (nth xs14 2) fun v20 =>
 BI BinOp.gtr v20 (AV.int IntKind.u8 122) fun v21 =>
 CNDC v21
 (Q (AV.bool false) H15 nx16)
 (BI BinOp.add (nth xs14 2) (AV.int IntKind.i64 1) fun v22 =>
 K13 [nth xs14 0, nth xs14 1, v22] H15 nx16)))
 (LNS (nth xs14 0) fun v23 =>
 BI BinOp.gtr v23 (AV.int IntKind.i64 0) fun v24 =>
 CND v24
 (LNS (nth xs14 0) fun v25 =>
 BI BinOp.lss v25 (AV.int IntKind.i64 9) fun v26 =>
 Q v26 H15 nx16)
 (Q (AV.bool false) H15 nx16))
def zcw (Q : QT) (K3 : J3) (xs4 : List AV) (H5 : Heap) (nx6 : Nat) : Prop :=
 BI BinOp.lss (nth xs4 3) (nth xs4 2) fun v7 =>
 CNDC v7
 (IA 1 (nth xs4 1) (nth xs4 3) fun v8 =>
 LD false 1 v8 H5 fun v9 =>
 BS BinOp.eql (nth xs4 0) v9 fun v10 =>
 CNDC v10
 (Q (AV.bool false) H5 nx6)
 (BI BinOp.add (nth xs4 3) (AV.int IntKind.i64 1) fun v11 =>
 K3 [nth xs4 0, nth xs4 1, nth xs4 2, v11] H5 nx6))
 (LNS (nth xs4 0) fun v12 =>
 LP (zcx Q) [nth xs4 0, v12, AV.int IntKind.i64 0] H5 nx6)
def ziy (a0 : AV) (H : Heap) (nx : Nat) (Q : QT) : Prop :=
 PUTH H nx (AObj.row 1 [AV.str [108, 101, 116], AV.str [115, 101, 116], AV.str [105, 102], AV.str [119, 104, 105, 108, 101], AV.str [115, 97, 121], AV.str [114, 101, 116, 117, 114, 110], AV.str [112, 117, 116, 108], AV.str [112, 117, 116, 114], AV.str [100, 111], AV.str [99, 101, 108, 108], AV.str [108, 101, 102, 116], AV.str [114, 105, 103, 104, 116], AV.str [97, 115, 107], AV.str [104, 101, 114, 101], AV.str [103, 111]]) fun H1 =>
 LNL (AV.slc nx 0 15) fun v2 =>
 LP (zcw Q) [a0, AV.slc nx 0 15, v2, AV.int IntKind.i64 0] H1 (nx + 1)
theorem zls (a0 : AV) (H : Heap) (nx : Nat) (Q : QT) : ziy a0 H nx Q → za Tryd.prog 14 [a0] H nx Q :=
  zg (lv := lvOf [(2, 2, [0, 6, 7, 8]), (2, 8, [0, 17, 18])]) (c := zm Tryd.f14) zx zac mixed Tryd.func14 (by kernel_rfl) (by kernel_rfl) (by kernel_rfl) (by kernel_rfl) (by kernel_rfl)
def zf (xs5 : List AV) (Q : QT) (_ : AV) (H46 : Heap) (nx47 : Nat) : Prop :=
 NC (nth xs5 0) fun v48 =>
 FA 0 v48 fun v49 =>
 LD false 1 v49 H46 fun v50 =>
 SLS v50 none (some (nth xs5 1)) fun v51 =>
 NC (nth xs5 0) fun v52 =>
 FA 0 v52 fun v53 =>
 LD false 1 v53 H46 fun v54 =>
 SLS v54 (some (nth xs5 1)) none fun v55 =>
 NC (nth xs5 0) fun v56 =>
 FA 0 v56 fun v57 =>
 ST 1 v57 v55 H46 fun H58 =>
 Q v51 H58 nx47
def zbm (Q : QT) (K4 : J3) (xs5 : List AV) (H6 : Heap) (nx7 : Nat) : Prop :=
 NC (nth xs5 0) fun v8 =>
 FA 0 v8 fun v9 =>
 LD false 1 v9 H6 fun v10 =>
 LNS v10 fun v11 =>
 BI BinOp.lss (nth xs5 1) v11 fun v12 =>
 CND v12
 (NC (nth xs5 0) fun v13 =>
 FA 0 v13 fun v14 =>
 LD false 1 v14 H6 fun v15 =>
 IX v15 (nth xs5 1) fun v16 =>
 BI BinOp.neq v16 (AV.int IntKind.u8 32) fun v17 =>
 CND v17
 (NC (nth xs5 0) fun v18 =>
 FA 0 v18 fun v19 =>
 LD false 1 v19 H6 fun v20 =>
 IX v20 (nth xs5 1) fun v21 =>
 BI BinOp.neq v21 (AV.int IntKind.u8 10) fun v22 =>
 CND v22
 (NC (nth xs5 0) fun v23 =>
 FA 0 v23 fun v24 =>
 LD false 1 v24 H6 fun v25 =>
 IX v25 (nth xs5 1) fun v26 =>
 BI BinOp.neq v26 (AV.int IntKind.u8 40) fun v27 =>
 CND v27
 (NC (nth xs5 0) fun v28 =>
 FA 0 v28 fun v29 =>
 LD false 1 v29 H6 fun v30 =>
 IX v30 (nth xs5 1) fun v31 =>
 BI BinOp.neq v31 (AV.int IntKind.u8 41) fun v32 =>
 CND v32
 (NC (nth xs5 0) fun v33 =>
 FA 0 v33 fun v34 =>
 LD false 1 v34 H6 fun v35 =>
 IX v35 (nth xs5 1) fun v36 =>
 BI BinOp.neq v36 (AV.int IntKind.u8 39) fun v37 =>
 CNDC v37
 (BI BinOp.add (nth xs5 1) (AV.int IntKind.i64 1) fun v38 =>
 K4 [nth xs5 0, v38] H6 nx7)
 (BI BinOp.eql (nth xs5 1) (AV.int IntKind.i64 0) fun v39 =>
 CND v39
 (NC (nth xs5 0) fun v40 =>
 FA 0 v40 fun v41 =>
 LD false 1 v41 H6 fun v42 =>
 LNS v42 fun v43 =>
 BI BinOp.eql v43 (AV.int IntKind.i64 0) fun v44 =>
 CNDC v44
 (za Tryd.prog 48 [nth xs5 0, AV.int IntKind.i64 8] H6 nx7 (zf xs5 Q))
 (BI BinOp.eql (nth xs5 1) (AV.int IntKind.i64 0) fun v59 =>
 CNDC v59
 (za Tryd.prog 48 [nth xs5 0, AV.int IntKind.i64 2] H6 nx7 (zf xs5 Q))
 (NC (nth xs5 0) fun v74 =>
 FA 0 v74 fun v75 =>
 LD false 1 v75 H6 fun v76 =>
 SLS v76 none (some (nth xs5 1)) fun v77 =>
 NC (nth xs5 0) fun v78 =>
 FA 0 v78 fun v79 =>
 LD false 1 v79 H6 fun v80 =>
 SLS v80 (some (nth xs5 1)) none fun v81 =>
 NC (nth xs5 0) fun v82 =>
 FA 0 v82 fun v83 =>
 ST 1 v83 v81 H6 fun H84 =>
 Q v77 H84 nx7)))
 (BI BinOp.eql (nth xs5 1) (AV.int IntKind.i64 0) fun v85 =>
 CNDC v85
 (za Tryd.prog 48 [nth xs5 0, AV.int IntKind.i64 2] H6 nx7 (zf xs5 Q))
 (NC (nth xs5 0) fun v100 =>
 FA 0 v100 fun v101 =>
 LD false 1 v101 H6 fun v102 =>
 SLS v102 none (some (nth xs5 1)) fun v103 =>
 NC (nth xs5 0) fun v104 =>
 FA 0 v104 fun v105 =>
 LD false 1 v105 H6 fun v106 =>
 SLS v106 (some (nth xs5 1)) none fun v107 =>
 NC (nth xs5 0) fun v108 =>
 FA 0 v108 fun v109 =>
 ST 1 v109 v107 H6 fun H110 =>
 Q v103 H110 nx7))))
 (BI BinOp.eql (nth xs5 1) (AV.int IntKind.i64 0) fun v111 =>
 CND v111
 (NC (nth xs5 0) fun v112 =>
 FA 0 v112 fun v113 =>
 LD false 1 v113 H6 fun v114 =>
 LNS v114 fun v115 =>
 BI BinOp.eql v115 (AV.int IntKind.i64 0) fun v116 =>
 CNDC v116
 (za Tryd.prog 48 [nth xs5 0, AV.int IntKind.i64 8] H6 nx7 (zf xs5 Q))
 (BI BinOp.eql (nth xs5 1) (AV.int IntKind.i64 0) fun v131 =>
 CNDC v131
 (za Tryd.prog 48 [nth xs5 0, AV.int IntKind.i64 2] H6 nx7 (zf xs5 Q))
 (NC (nth xs5 0) fun v146 =>
 FA 0 v146 fun v147 =>
 LD false 1 v147 H6 fun v148 =>
 SLS v148 none (some (nth xs5 1)) fun v149 =>
 NC (nth xs5 0) fun v150 =>
 FA 0 v150 fun v151 =>
 LD false 1 v151 H6 fun v152 =>
 SLS v152 (some (nth xs5 1)) none fun v153 =>
 NC (nth xs5 0) fun v154 =>
 FA 0 v154 fun v155 =>
 ST 1 v155 v153 H6 fun H156 =>
 Q v149 H156 nx7)))
 (BI BinOp.eql (nth xs5 1) (AV.int IntKind.i64 0) fun v157 =>
 CNDC v157
 (za Tryd.prog 48 [nth xs5 0, AV.int IntKind.i64 2] H6 nx7 (zf xs5 Q))
 (NC (nth xs5 0) fun v172 =>
 FA 0 v172 fun v173 =>
 LD false 1 v173 H6 fun v174 =>
 SLS v174 none (some (nth xs5 1)) fun v175 =>
 NC (nth xs5 0) fun v176 =>
 FA 0 v176 fun v177 =>
 LD false 1 v177 H6 fun v178 =>
 SLS v178 (some (nth xs5 1)) none fun v179 =>
 NC (nth xs5 0) fun v180 =>
 FA 0 v180 fun v181 =>
 ST 1 v181 v179 H6 fun H182 =>
 Q v175 H182 nx7))))
 (BI BinOp.eql (nth xs5 1) (AV.int IntKind.i64 0) fun v183 =>
 CND v183
 (NC (nth xs5 0) fun v184 =>
 FA 0 v184 fun v185 =>
 LD false 1 v185 H6 fun v186 =>
 LNS v186 fun v187 =>
 BI BinOp.eql v187 (AV.int IntKind.i64 0) fun v188 =>
 CNDC v188
 (za Tryd.prog 48 [nth xs5 0, AV.int IntKind.i64 8] H6 nx7 (zf xs5 Q))
 (BI BinOp.eql (nth xs5 1) (AV.int IntKind.i64 0) fun v203 =>
 CNDC v203
 (za Tryd.prog 48 [nth xs5 0, AV.int IntKind.i64 2] H6 nx7 (zf xs5 Q))
 (NC (nth xs5 0) fun v218 =>
 FA 0 v218 fun v219 =>
 LD false 1 v219 H6 fun v220 =>
 SLS v220 none (some (nth xs5 1)) fun v221 =>
 NC (nth xs5 0) fun v222 =>
 FA 0 v222 fun v223 =>
 LD false 1 v223 H6 fun v224 =>
 SLS v224 (some (nth xs5 1)) none fun v225 =>
 NC (nth xs5 0) fun v226 =>
 FA 0 v226 fun v227 =>
 ST 1 v227 v225 H6 fun H228 =>
 Q v221 H228 nx7)))
 (BI BinOp.eql (nth xs5 1) (AV.int IntKind.i64 0) fun v229 =>
 CNDC v229
 (za Tryd.prog 48 [nth xs5 0, AV.int IntKind.i64 2] H6 nx7 (zf xs5 Q))
 (NC (nth xs5 0) fun v244 =>
 FA 0 v244 fun v245 =>
 LD false 1 v245 H6 fun v246 =>
 SLS v246 none (some (nth xs5 1)) fun v247 =>
 NC (nth xs5 0) fun v248 =>
 FA 0 v248 fun v249 =>
 LD false 1 v249 H6 fun v250 =>
 SLS v250 (some (nth xs5 1)) none fun v251 =>
 NC (nth xs5 0) fun v252 =>
 FA 0 v252 fun v253 =>
 ST 1 v253 v251 H6 fun H254 =>
 Q v247 H254 nx7))))
 (BI BinOp.eql (nth xs5 1) (AV.int IntKind.i64 0) fun v255 =>
 CND v255
 (NC (nth xs5 0) fun v256 =>
 FA 0 v256 fun v257 =>
 LD false 1 v257 H6 fun v258 =>
 LNS v258 fun v259 =>
 BI BinOp.eql v259 (AV.int IntKind.i64 0) fun v260 =>
 CNDC v260
 (za Tryd.prog 48 [nth xs5 0, AV.int IntKind.i64 8] H6 nx7 (zf xs5 Q))
 (BI BinOp.eql (nth xs5 1) (AV.int IntKind.i64 0) fun v275 =>
 CNDC v275
 (za Tryd.prog 48 [nth xs5 0, AV.int IntKind.i64 2] H6 nx7 (zf xs5 Q))
 (NC (nth xs5 0) fun v290 =>
 FA 0 v290 fun v291 =>
 LD false 1 v291 H6 fun v292 =>
 SLS v292 none (some (nth xs5 1)) fun v293 =>
 NC (nth xs5 0) fun v294 =>
 FA 0 v294 fun v295 =>
 LD false 1 v295 H6 fun v296 =>
 SLS v296 (some (nth xs5 1)) none fun v297 =>
 NC (nth xs5 0) fun v298 =>
 FA 0 v298 fun v299 =>
 ST 1 v299 v297 H6 fun H300 =>
 Q v293 H300 nx7)))
 (BI BinOp.eql (nth xs5 1) (AV.int IntKind.i64 0) fun v301 =>
 CNDC v301
 (za Tryd.prog 48 [nth xs5 0, AV.int IntKind.i64 2] H6 nx7 (zf xs5 Q))
 (NC (nth xs5 0) fun v316 =>
 FA 0 v316 fun v317 =>
 LD false 1 v317 H6 fun v318 =>
 SLS v318 none (some (nth xs5 1)) fun v319 =>
 NC (nth xs5 0) fun v320 =>
 FA 0 v320 fun v321 =>
 LD false 1 v321 H6 fun v322 =>
 SLS v322 (some (nth xs5 1)) none fun v323 =>
 NC (nth xs5 0) fun v324 =>
 FA 0 v324 fun v325 =>
 ST 1 v325 v323 H6 fun H326 =>
 Q v319 H326 nx7))))
 (BI BinOp.eql (nth xs5 1) (AV.int IntKind.i64 0) fun v327 =>
 CND v327
 (NC (nth xs5 0) fun v328 =>
 FA 0 v328 fun v329 =>
 LD false 1 v329 H6 fun v330 =>
 LNS v330 fun v331 =>
 BI BinOp.eql v331 (AV.int IntKind.i64 0) fun v332 =>
 CNDC v332
 (za Tryd.prog 48 [nth xs5 0, AV.int IntKind.i64 8] H6 nx7 (zf xs5 Q))
 (BI BinOp.eql (nth xs5 1) (AV.int IntKind.i64 0) fun v347 =>
 CNDC v347
 (za Tryd.prog 48 [nth xs5 0, AV.int IntKind.i64 2] H6 nx7 (zf xs5 Q))
 (NC (nth xs5 0) fun v362 =>
 FA 0 v362 fun v363 =>
 LD false 1 v363 H6 fun v364 =>
 SLS v364 none (some (nth xs5 1)) fun v365 =>
 NC (nth xs5 0) fun v366 =>
 FA 0 v366 fun v367 =>
 LD false 1 v367 H6 fun v368 =>
 SLS v368 (some (nth xs5 1)) none fun v369 =>
 NC (nth xs5 0) fun v370 =>
 FA 0 v370 fun v371 =>
 ST 1 v371 v369 H6 fun H372 =>
 Q v365 H372 nx7)))
 (BI BinOp.eql (nth xs5 1) (AV.int IntKind.i64 0) fun v373 =>
 CNDC v373
 (za Tryd.prog 48 [nth xs5 0, AV.int IntKind.i64 2] H6 nx7 (zf xs5 Q))
 (NC (nth xs5 0) fun v388 =>
 FA 0 v388 fun v389 =>
 LD false 1 v389 H6 fun v390 =>
 SLS v390 none (some (nth xs5 1)) fun v391 =>
 NC (nth xs5 0) fun v392 =>
 FA 0 v392 fun v393 =>
 LD false 1 v393 H6 fun v394 =>
 SLS v394 (some (nth xs5 1)) none fun v395 =>
 NC (nth xs5 0) fun v396 =>
 FA 0 v396 fun v397 =>
 ST 1 v397 v395 H6 fun H398 =>
 Q v391 H398 nx7))))
 (BI BinOp.eql (nth xs5 1) (AV.int IntKind.i64 0) fun v399 =>
 CND v399
 (NC (nth xs5 0) fun v400 =>
 FA 0 v400 fun v401 =>
 LD false 1 v401 H6 fun v402 =>
 LNS v402 fun v403 =>
 BI BinOp.eql v403 (AV.int IntKind.i64 0) fun v404 =>
 CNDC v404
 (za Tryd.prog 48 [nth xs5 0, AV.int IntKind.i64 8] H6 nx7 (zf xs5 Q))
 (BI BinOp.eql (nth xs5 1) (AV.int IntKind.i64 0) fun v419 =>
 CNDC v419
 (za Tryd.prog 48 [nth xs5 0, AV.int IntKind.i64 2] H6 nx7 (zf xs5 Q))
 (NC (nth xs5 0) fun v434 =>
 FA 0 v434 fun v435 =>
 LD false 1 v435 H6 fun v436 =>
 SLS v436 none (some (nth xs5 1)) fun v437 =>
 NC (nth xs5 0) fun v438 =>
 FA 0 v438 fun v439 =>
 LD false 1 v439 H6 fun v440 =>
 SLS v440 (some (nth xs5 1)) none fun v441 =>
 NC (nth xs5 0) fun v442 =>
 FA 0 v442 fun v443 =>
 ST 1 v443 v441 H6 fun H444 =>
 Q v437 H444 nx7)))
 (BI BinOp.eql (nth xs5 1) (AV.int IntKind.i64 0) fun v445 =>
 CNDC v445
 (za Tryd.prog 48 [nth xs5 0, AV.int IntKind.i64 2] H6 nx7 (zf xs5 Q))
 (NC (nth xs5 0) fun v460 =>
 FA 0 v460 fun v461 =>
 LD false 1 v461 H6 fun v462 =>
 SLS v462 none (some (nth xs5 1)) fun v463 =>
 NC (nth xs5 0) fun v464 =>
 FA 0 v464 fun v465 =>
 LD false 1 v465 H6 fun v466 =>
 SLS v466 (some (nth xs5 1)) none fun v467 =>
 NC (nth xs5 0) fun v468 =>
 FA 0 v468 fun v469 =>
 ST 1 v469 v467 H6 fun H470 =>
 Q v463 H470 nx7)))
def zkb (Q : QT) (a0 : AV) (v1 : AV) (H2 : Heap) (nx3 : Nat) : Prop :=
 LP (zbm Q) [a0, AV.int IntKind.i64 0] H2 nx3
def zog (a0 : AV) (H : Heap) (nx : Nat) (Q : QT) : Prop :=
 za Tryd.prog 27 [a0] H nx (zkb Q a0)
theorem zma (a0 : AV) (H : Heap) (nx : Nat) (Q : QT) : zog a0 H nx Q → za Tryd.prog 49 [a0] H nx Q :=
  zg (lv := lvOf [(2, 3, [0, 3])]) (c := zm Tryd.f49) zx zac mixed Tryd.func49 (by kernel_rfl) (by kernel_rfl) (by kernel_rfl) (by kernel_rfl) (by kernel_rfl)
def zoj (Q : QT) (v1 : AV) (v8 : AV) (H9 : Heap) (nx10 : Nat) : Prop :=
 Q v1 H9 nx10
def zgd (a0 : AV) (Q : QT) (v1 : AV) (v4 : AV) (H5 : Heap) (nx6 : Nat) : Prop :=
 UO UnOp.not v4 fun v7 =>
 CNDC v7
 (za Tryd.prog 48 [a0, AV.int IntKind.i64 7] H5 nx6 (zoj Q v1))
 (Q v1 H5 nx6)
def zoi (a0 : AV) (Q : QT) (v1 : AV) (H2 : Heap) (nx3 : Nat) : Prop :=
 za Tryd.prog 14 [v1] H2 nx3 (zgd a0 Q v1)
def zoh (a0 : AV) (H : Heap) (nx : Nat) (Q : QT) : Prop :=
 za Tryd.prog 49 [a0] H nx (zoi a0 Q)
theorem zmb (a0 : AV) (H : Heap) (nx : Nat) (Q : QT) : zoh a0 H nx Q → za Tryd.prog 29 [a0] H nx Q :=
  zg (lv := lvOf []) (c := zm Tryd.f29) zx zac mixed Tryd.func29 (by kernel_rfl) (by kernel_rfl) (by kernel_rfl) (by kernel_rfl) (by kernel_rfl)
def zlr (K1 : J3) (xs2 : List AV) (v13 : AV) (H14 : Heap) (nx15 : Nat) : Prop :=
 K1 [nth xs2 0, nth xs2 1] H14 nx15
def zgj (Q : QT) (v16 : AV) (H17 : Heap) (nx18 : Nat) : Prop :=
 Q (AV.tup []) H17 nx18
def zdi (xs2 : List AV) (K1 : J3) (Q : QT) (v9 : AV) (H10 : Heap) (nx11 : Nat) : Prop :=
 BI BinOp.neq v9 (AV.int IntKind.u8 41) fun v12 =>
 CNDC v12
 (CALL Tryd.prog (nth xs2 1) [] H10 nx11 (zlr K1 xs2))
 (za Tryd.prog 28 [nth xs2 0, AV.int IntKind.u8 41] H10 nx11 (zgj Q))
def zdh (Q : QT) (K1 : J3) (xs2 : List AV) (H3 : Heap) (nx4 : Nat) : Prop :=
 NC (nth xs2 0) fun v5 =>
 FA 1 v5 fun v6 =>
 LD false 1 v6 H3 fun v7 =>
 BI BinOp.eql v7 (AV.int IntKind.i64 0) fun v8 =>
 CND v8
 (za Tryd.prog 27 [nth xs2 0] H3 nx4 (zdi xs2 K1 Q))
 (za Tryd.prog 28 [nth xs2 0, AV.int IntKind.u8 41] H3 nx4 (zgj Q))
def zgi (a0 a1 : AV) (H : Heap) (nx : Nat) (Q : QT) : Prop :=
 LP (zdh Q) [a0, a1] H nx
theorem zji (a0 a1 : AV) (H : Heap) (nx : Nat) (Q : QT) : zgi a0 a1 H nx Q → za Tryd.prog 30 [a0, a1] H nx Q :=
  zg (lv := lvOf [(2, 0, [0, 1])]) (c := zm Tryd.f30) zx zac mixed Tryd.func30 (by kernel_rfl) (by kernel_rfl) (by kernel_rfl) (by kernel_rfl) (by kernel_rfl)
def zgl (nx : Nat) (Q : QT) (_ : AV) (H6 : Heap) (nx7 : Nat) : Prop :=
 LD false 1 (AV.ptr (nx + 2) 0) H6 fun v8 =>
 Q v8 H6 nx7
def zgk (a0 a1 : AV) (H : Heap) (nx : Nat) (Q : QT) : Prop :=
 a0.sure = true ∧
 PUTH H nx (AObj.row a0.cells.length a0.cells) fun H1 =>
 a1.sure = true ∧
 PUTH H1 (nx + 1) (AObj.row a1.cells.length a1.cells) fun H2 =>
 PUTH H2 (nx + 2) (AObj.row 1 [AV.nils]) fun H3 =>
 LD false 1 (AV.ptr nx 0) H3 fun v4 =>
 za Tryd.prog 30 [v4, AV.clo 50 [AV.ptr (nx + 2) 0, AV.ptr nx 0, AV.ptr (nx + 1) 0]] H3 (nx + 3) (zgl nx Q)
theorem zjj (a0 a1 : AV) (H : Heap) (nx : Nat) (Q : QT) : zgk a0 a1 H nx Q → za Tryd.prog 32 [a0, a1] H nx Q :=
  zg (lv := lvOf []) (c := zm Tryd.f32) zx zac mixed Tryd.func32 (by kernel_rfl) (by kernel_rfl) (by kernel_rfl) (by kernel_rfl) (by kernel_rfl)
def zep (nx28 : Nat) (xs8 : List AV) (K7 : J3) (v41 : AV) (H42 : Heap) (nx43 : Nat) : Prop :=
 ST 1 (AV.ptr nx28 2) v41 H42 fun H44 =>
 LD true 3 (AV.ptr nx28 0) H44 fun v45 =>
 BSL 1 3 [AV.str [], AV.nils, AV.nils] [(0, v45)] fun cells46 =>
 PUTH H44 nx43 (AObj.row 3 cells46) fun H47 =>
 APP 3 64 (nth xs8 1) (AV.slc nx43 0 1) H47 (nx43 + 1) fun v48 H49 nx50 =>
 K7 [nth xs8 0, v48] H49 nx50
def zhz (xs8 : List AV) (nx28 : Nat) (K7 : J3) (_ : AV) (H38 : Heap) (nx39 : Nat) : Prop :=
 LD false 1 (nth xs8 0) H38 fun v40 =>
 za Tryd.prog 32 [v40, AV.int IntKind.i64 0] H38 nx39 (zep nx28 xs8 K7)
def zhy (xs8 : List AV) (nx28 : Nat) (K7 : J3) (_ : AV) (H34 : Heap) (nx35 : Nat) : Prop :=
 LD false 1 (nth xs8 0) H34 fun v36 =>
 za Tryd.prog 30 [v36, AV.clo 31 [AV.ptr nx28 0, nth xs8 0]] H34 nx35 (zhz xs8 nx28 K7)
def zhx (xs8 : List AV) (K7 : J3) (v26 : AV) (H27 : Heap) (nx28 : Nat) : Prop :=
 BD (zo tab [(9, 0), (32, 1), (41, 2)]) [AV.str [], AV.nils, AV.nils] [(0, v26)] fun v29 =>
 PUTH H27 nx28 (AObj.row 3 [AV.str [], AV.nils, AV.nils]) fun H30 =>
 ST 3 (AV.ptr nx28 0) v29 H30 fun H31 =>
 LD false 1 (nth xs8 0) H31 fun v32 =>
 za Tryd.prog 28 [v32, AV.int IntKind.u8 40] H31 (nx28 + 1) (zhy xs8 nx28 K7)
def zeo (xs8 : List AV) (K7 : J3) (_ : AV) (H23 : Heap) (nx24 : Nat) : Prop :=
 LD false 1 (nth xs8 0) H23 fun v25 =>
 za Tryd.prog 29 [v25] H23 nx24 (zhx xs8 K7)
def zen (xs8 : List AV) (K7 : J3) (Q : QT) (v17 : AV) (H18 : Heap) (nx19 : Nat) : Prop :=
 BI BinOp.neq v17 (AV.int IntKind.u8 0) fun v20 =>
 CNDC v20
 (LD false 1 (nth xs8 0) H18 fun v21 =>
 za Tryd.prog 28 [v21, AV.int IntKind.u8 40] H18 nx19 (zeo xs8 K7))
 (LD false 1 (nth xs8 0) H18 fun v51 =>
 NC v51 fun v52 =>
 FA 1 v52 fun v53 =>
 LD false 1 v53 H18 fun v54 =>
 BI BinOp.neq v54 (AV.int IntKind.i64 0) fun v55 =>
 CNDC v55
 (LDR false 1 (nth xs8 0) H18 fun v56 _ =>
 NC v56 fun v58 =>
 FA 1 v58 fun v59 =>
 LDR false 1 v59 H18 fun v60 _ =>
 Q (AV.tup [AV.nils, v60]) H18 nx19)
 (Q (AV.tup [nth xs8 1, AV.int IntKind.i64 0]) H18 nx19))
def zem (Q : QT) (K7 : J3) (xs8 : List AV) (H9 : Heap) (nx10 : Nat) : Prop :=
 LD false 1 (nth xs8 0) H9 fun v11 =>
 NC v11 fun v12 =>
 FA 1 v12 fun v13 =>
 LD false 1 v13 H9 fun v14 =>
 BI BinOp.eql v14 (AV.int IntKind.i64 0) fun v15 =>
 CND v15
 (LD false 1 (nth xs8 0) H9 fun v16 =>
 za Tryd.prog 27 [v16] H9 nx10 (zen xs8 K7 Q))
 (LD false 1 (nth xs8 0) H9 fun v62 =>
 NC v62 fun v63 =>
 FA 1 v63 fun v64 =>
 LD false 1 v64 H9 fun v65 =>
 BI BinOp.neq v65 (AV.int IntKind.i64 0) fun v66 =>
 CNDC v66
 (LDR false 1 (nth xs8 0) H9 fun v67 _ =>
 NC v67 fun v69 =>
 FA 1 v69 fun v70 =>
 LDR false 1 v70 H9 fun v71 _ =>
 Q (AV.tup [AV.nils, v71]) H9 nx10)
 (Q (AV.tup [nth xs8 1, AV.int IntKind.i64 0]) H9 nx10))
def zel (a0 : AV) (H : Heap) (nx : Nat) (Q : QT) : Prop :=
 LNS a0 fun v1 =>
 BI BinOp.gtr v1 (AV.int IntKind.i64 1500) fun v2 =>
 CNDC v2
 (Q (AV.tup [AV.nils, AV.int IntKind.i64 4]) H nx)
 (BD (zo tab [(9, 0), (23, 1)]) [AV.str [], AV.int IntKind.i64 0] [(0, a0)] fun v3 =>
 v3.sure = true ∧
 PUTH H nx (AObj.row v3.cells.length v3.cells) fun H4 =>
 PUTH H4 (nx + 1) (AObj.row 1 [AV.nilp]) fun H5 =>
 ST 1 (AV.ptr (nx + 1) 0) (AV.ptr nx 0) H5 fun H6 =>
 LP (zem Q) [AV.ptr (nx + 1) 0, AV.nils] H6 (nx + 2))
theorem zkh (a0 : AV) (H : Heap) (nx : Nat) (Q : QT) : zel a0 H nx Q → za Tryd.prog 10 [a0] H nx Q :=
  zg (lv := lvOf [(2, 5, [4, 5])]) (c := zm Tryd.f10) zx zac mixed Tryd.func10 (by kernel_rfl) (by kernel_rfl) (by kernel_rfl) (by kernel_rfl) (by kernel_rfl)
def zaa (Q : QT) (K2 : J3) (xs3 : List AV) (H4 : Heap) (nx5 : Nat) : Prop :=
 BI BinOp.lss (nth xs3 3) (nth xs3 2) fun v6 =>
 CNDC v6
 (IA 1 (nth xs3 0) (nth xs3 3) fun v7 =>
 LD false 1 v7 H4 fun v8 =>
 BS BinOp.eql (nth xs3 1) v8 fun v9 =>
 CNDC v9
 (Q (nth xs3 3) H4 nx5)
 (BI BinOp.add (nth xs3 3) (AV.int IntKind.i64 1) fun v10 =>
 K2 [nth xs3 0, nth xs3 1, nth xs3 2, v10] H4 nx5))
 (Q (AV.int IntKind.i64 (-1)) H4 nx5)
def zbs (a0 a1 : AV) (H : Heap) (nx : Nat) (Q : QT) : Prop :=
 LNL a0 fun v1 =>
 LP (zaa Q) [a0, a1, v1, AV.int IntKind.i64 0] H nx
theorem zei (a0 a1 : AV) (H : Heap) (nx : Nat) (Q : QT) : zbs a0 a1 H nx Q → za Tryd.prog 70 [a0, a1] H nx Q :=
  zg (lv := lvOf [(2, 2, [0, 1, 7, 8])]) (c := zm Tryd.f70) zx zac mixed Tryd.func70 (by kernel_rfl) (by kernel_rfl) (by kernel_rfl) (by kernel_rfl) (by kernel_rfl)
def zbl (Q : QT) (v1 : AV) (H2 : Heap) (nx3 : Nat) : Prop :=
 BI BinOp.geq v1 (AV.int IntKind.i64 0) fun v4 =>
 Q v4 H2 nx3
def zej (a0 a1 : AV) (H : Heap) (nx : Nat) (Q : QT) : Prop :=
 za Tryd.prog 70 [a0, a1] H nx (zbl Q)
theorem zdl (a0 a1 : AV) (H : Heap) (nx : Nat) (Q : QT) : zej a0 a1 H nx Q → za Tryd.prog 52 [a0, a1] H nx Q :=
  zg (lv := lvOf []) (c := zm Tryd.f52) zx zac mixed Tryd.func52 (by kernel_rfl) (by kernel_rfl) (by kernel_rfl) (by kernel_rfl) (by kernel_rfl)
def zfb (Q : QT) (xs3 : List AV) (K2 : J3) (v10 : AV) (H11 : Heap) (nx12 : Nat) : Prop :=
 CNDC v10
 (Q (AV.bool false) H11 nx12)
 (BI BinOp.add (nth xs3 3) (AV.int IntKind.i64 1) fun v13 =>
 K2 [nth xs3 0, nth xs3 1, nth xs3 2, v13] H11 nx12)
def zfa (Q : QT) (K2 : J3) (xs3 : List AV) (H4 : Heap) (nx5 : Nat) : Prop :=
 BI BinOp.lss (nth xs3 3) (nth xs3 2) fun v6 =>
 CNDC v6
 (IA 1 (nth xs3 1) (nth xs3 3) fun v7 =>
 LD false 1 v7 H4 fun v8 =>
 SL 1 (nth xs3 0) none (some (nth xs3 3)) H4 fun v9 =>
 za Tryd.prog 52 [v9, v8] H4 nx5 (zfb Q xs3 K2))
 (Q (AV.bool true) H4 nx5)
def zih (a0 : AV) (H : Heap) (nx : Nat) (Q : QT) : Prop :=
 LNL a0 fun v1 =>
 LP (zfa Q) [a0, a0, v1, AV.int IntKind.i64 0] H nx
theorem zkm (a0 : AV) (H : Heap) (nx : Nat) (Q : QT) : zih a0 H nx Q → za Tryd.prog 33 [a0] H nx Q :=
  zg (lv := lvOf [(2, 2, [0, 5, 6, 7])]) (c := zm Tryd.f33) zx zac mixed Tryd.func33 (by kernel_rfl) (by kernel_rfl) (by kernel_rfl) (by kernel_rfl) (by kernel_rfl)
def zab (a0 : AV) (H : Heap) (nx : Nat) (Q : QT) : Prop :=
 BL BinOp.eql a0 AV.nils fun v1 =>
 CNDC v1
 (Q AV.nils H nx)
 (PUTH H nx (AObj.row 1 []) fun H2 =>
 APP 1 16 (AV.slc nx 0 0) a0 H2 (nx + 1) fun v3 H4 nx5 =>
 Q v3 H4 nx5)
theorem zek (a0 : AV) (H : Heap) (nx : Nat) (Q : QT) : zab a0 H nx Q → za Tryd.prog 53 [a0] H nx Q :=
  zg (lv := lvOf []) (c := zm Tryd.f53) zx zac mixed Tryd.func53 (by kernel_rfl) (by kernel_rfl) (by kernel_rfl) (by kernel_rfl) (by kernel_rfl)
def zaz (a0 : AV) (a1 : AV) (Q : QT) (v4 : AV) (H5 : Heap) (nx6 : Nat) : Prop :=
 UO UnOp.not v4 fun v7 =>
 CNDC v7
 (NC a0 fun v8 =>
 FA 2 v8 fun v9 =>
 LD false 1 v9 H5 fun v10 =>
 BSL 1 1 [AV.str []] [(0, a1)] fun cells11 =>
 PUTH H5 nx6 (AObj.row 1 cells11) fun H12 =>
 APP 1 16 v10 (AV.slc nx6 0 1) H12 (nx6 + 1) fun v13 H14 nx15 =>
 NC a0 fun v16 =>
 FA 2 v16 fun v17 =>
 ST 1 v17 v13 H14 fun H18 =>
 Q (AV.tup []) H18 nx15)
 (Q (AV.tup []) H5 nx6)
def zfc (a0 a1 : AV) (H : Heap) (nx : Nat) (Q : QT) : Prop :=
 NC a0 fun v1 =>
 FA 2 v1 fun v2 =>
 LD false 1 v2 H fun v3 =>
 za Tryd.prog 52 [v3, a1] H nx (zaz a0 a1 Q)
theorem zhv (a0 a1 : AV) (H : Heap) (nx : Nat) (Q : QT) : zfc a0 a1 H nx Q → za Tryd.prog 71 [a0, a1] H nx Q :=
  zg (lv := lvOf []) (c := zm Tryd.f71) zx zac mixed Tryd.func71 (by kernel_rfl) (by kernel_rfl) (by kernel_rfl) (by kernel_rfl) (by kernel_rfl)
def zcm (Q : QT) (xs16 : List AV) (K15 : J3) (v24 : AV) (H25 : Heap) (nx26 : Nat) : Prop :=
 BI BinOp.neq v24 (AV.int IntKind.i64 0) fun v27 =>
 CNDC v27
 (Q v24 H25 nx26)
 (BI BinOp.add (nth xs16 4) (AV.int IntKind.i64 1) fun v28 =>
 K15 [nth xs16 0, nth xs16 1, nth xs16 2, nth xs16 3, v28] H25 nx26)
def zn (Q : QT) (K15 : J3) (xs16 : List AV) (H17 : Heap) (nx18 : Nat) : Prop :=
 BI BinOp.lss (nth xs16 4) (nth xs16 3) fun v19 =>
 CNDC v19
 (NC (nth xs16 1) fun v20 =>
 FA 3 v20 fun v21 =>
 LD false 1 v21 H17 fun v22 =>
 IA 4 v22 (nth xs16 4) fun v23 =>
 za Tryd.prog 54 [nth xs16 0, v23, nth xs16 2] H17 nx18 (zcm Q xs16 K15))
 (Q (AV.int IntKind.i64 0) H17 nx18)
def zfd (a1 : AV) (Q : QT) (a0 : AV) (a2 : AV) (_ : AV) (H9 : Heap) (nx10 : Nat) : Prop :=
 NC a1 fun v11 =>
 FA 3 v11 fun v12 =>
 LD false 1 v12 H9 fun v13 =>
 LNL v13 fun v14 =>
 LP (zn Q) [a0, a1, a2, v14, AV.int IntKind.i64 0] H9 nx10
def zcl (Q : QT) (a1 : AV) (a0 : AV) (a2 : AV) (v33 : AV) (H34 : Heap) (nx35 : Nat) : Prop :=
 UO UnOp.not v33 fun v36 =>
 CNDC v36
 (Q (AV.int IntKind.i64 6) H34 nx35)
 (NC a1 fun v37 =>
 FA 3 v37 fun v38 =>
 LD false 1 v38 H34 fun v39 =>
 LNL v39 fun v40 =>
 LP (zn Q) [a0, a1, a2, v40, AV.int IntKind.i64 0] H34 nx35)
def zai (a0 a1 a2 : AV) (H : Heap) (nx : Nat) (Q : QT) : Prop :=
 NC a1 fun v1 =>
 FA 0 v1 fun v2 =>
 LD false 1 v2 H fun v3 =>
 BI BinOp.eql v3 (AV.int IntKind.i64 2) fun v4 =>
 CNDC v4
 (NC a1 fun v5 =>
 FA 2 v5 fun v6 =>
 LD false 1 v6 H fun v7 =>
 za Tryd.prog 71 [a0, v7] H nx (zfd a1 Q a0 a2))
 (BI BinOp.eql v3 (AV.int IntKind.i64 3) fun v29 =>
 CNDC v29
 (NC a1 fun v30 =>
 FA 2 v30 fun v31 =>
 LD false 1 v31 H fun v32 =>
 za Tryd.prog 52 [a2, v32] H nx (zcl Q a1 a0 a2))
 (BI BinOp.eql v3 (AV.int IntKind.i64 11) fun v55 =>
 CNDC v55
 (NC a0 fun v56 =>
 FA 0 v56 fun v57 =>
 LDR false 1 v57 H fun v58 _ =>
 NC a1 fun v60 =>
 FA 2 v60 fun v61 =>
 LDR false 1 v61 H fun v62 _ =>
 zq (AK.str) v62 = true ∧
 LOOK [AV.int IntKind.i64 0] false v58 v62 true H fun v64 _ fr66 D67 =>
 EX v64 0 fun v68 =>
 EX v64 1 fun v69 =>
 UO UnOp.not v69 fun v70 =>
 CNDC v70
 (Q (AV.int IntKind.i64 6) (H.apply D67) (nx + fr66.length))
 (NC a1 fun v71 =>
 FA 3 v71 fun v72 =>
 LD false 1 v72 (H.apply D67) fun v73 =>
 LNL v73 fun v74 =>
 BI BinOp.neq v68 v74 fun v75 =>
 CNDC v75
 (Q (AV.int IntKind.i64 5) (H.apply D67) (nx + fr66.length))
 (NC a1 fun v76 =>
 FA 3 v76 fun v77 =>
 LD false 1 v77 (H.apply D67) fun v78 =>
 LNL v78 fun v79 =>
 LP (zn Q) [a0, a1, a2, v79, AV.int IntKind.i64 0] (H.apply D67) (nx + fr66.length))))
 (NC a1 fun v94 =>
 FA 3 v94 fun v95 =>
 LD false 1 v95 H fun v96 =>
 LNL v96 fun v97 =>
 LP (zn Q) [a0, a1, a2, v97, AV.int IntKind.i64 0] H nx)))
theorem zhw (a0 a1 a2 : AV) (H : Heap) (nx : Nat) (Q : QT) : zai a0 a1 a2 H nx Q → za Tryd.prog 54 [a0, a1, a2] H nx Q :=
  zg (lv := lvOf [(2, 14, [0, 1, 2, 59, 60])]) (c := zm Tryd.f54) zx zac mixed Tryd.func54 (by kernel_rfl) (by kernel_rfl) (by kernel_rfl) (by kernel_rfl) (by kernel_rfl)
def zl (Q : QT) (xs16 : List AV) (K15 : J3) (v24 : AV) (H25 : Heap) (nx26 : Nat) : Prop :=
 BI BinOp.neq v24 (AV.int IntKind.i64 0) fun v27 =>
 CNDC v27
 (Q v24 H25 nx26)
 (BI BinOp.add (nth xs16 7) (AV.int IntKind.i64 1) fun v28 =>
 K15 [nth xs16 0, nth xs16 1, nth xs16 2, nth xs16 3, nth xs16 4, nth xs16 5, nth xs16 6, v28] H25 nx26)
def zk (Q : QT) (K5 : J3) (K69 : J3) (xs70 : List AV) (H71 : Heap) (nx72 : Nat) : Prop :=
 BI BinOp.lss (nth xs70 7) (nth xs70 6) fun v73 =>
 CNDC v73
 (IA 1 (nth xs70 5) (nth xs70 7) fun v74 =>
 LD false 1 v74 H71 fun v75 =>
 za Tryd.prog 34 [nth xs70 0, v75, nth xs70 2] H71 nx72 (zl Q xs70 K69))
 (BI BinOp.add (nth xs70 4) (AV.int IntKind.i64 1) fun v81 =>
 K5 [nth xs70 0, nth xs70 1, nth xs70 2, nth xs70 3, v81] H71 nx72)
def zag (Q : QT) (xs16 : List AV) (K5 : J3) (v36 : AV) (H37 : Heap) (nx38 : Nat) : Prop :=
 CNDC v36
 (Q (AV.int IntKind.i64 7) H37 nx38)
 (NC (nth xs16 0) fun v39 =>
 FA 1 v39 fun v40 =>
 LD false 1 v40 H37 fun v41 =>
 BI BinOp.add v41 (AV.int IntKind.i64 1) fun v42 =>
 NC (nth xs16 0) fun v43 =>
 FA 1 v43 fun v44 =>
 ST 1 v44 v42 H37 fun H45 =>
 NC (nth xs16 0) fun v46 =>
 FA 1 v46 fun v47 =>
 LD false 1 v47 H45 fun v48 =>
 BI BinOp.gtr v48 (AV.int IntKind.i64 8) fun v49 =>
 CNDC v49
 (Q (AV.int IntKind.i64 4) H45 nx38)
 (NC (nth xs16 3) fun v50 =>
 FA 1 v50 fun v51 =>
 LD false 1 v51 H45 fun v52 =>
 BSL 1 1 [AV.str []] [(0, v52)] fun cells53 =>
 PUTH H45 nx38 (AObj.row 1 cells53) fun H54 =>
 APP 1 16 (nth xs16 2) (AV.slc nx38 0 1) H54 (nx38 + 1) fun v55 H56 nx57 =>
 NC (nth xs16 3) fun v58 =>
 FA 3 v58 fun v59 =>
 LDR false 1 v59 H56 fun v60 _ =>
 NC (nth xs16 3) fun v62 =>
 FA 4 v62 fun v63 =>
 LDR false 1 v63 H56 fun v64 _ =>
 BSL 2 1 [AV.nils] [(0, v60), (1, v64)] fun cells66 =>
 PUTH H56 nx57 (AObj.row 1 cells66) fun H67 =>
 LNL (AV.slc nx57 0 2) fun v68 =>
 nx57 ∉ [] ∧
 nx57 ∉ [] ∧
 LP (zk Q K5) [nth xs16 0, nth xs16 1, v55, nth xs16 4, nth xs16 5, AV.slc nx57 0 2, v68, AV.int IntKind.i64 0] H67 (nx57 + 1)))
def zbu (Q : QT) (xs16 : List AV) (K5 : J3) (v86 : AV) (H87 : Heap) (nx88 : Nat) : Prop :=
 UO UnOp.not v86 fun v89 =>
 CNDC v89
 (Q (AV.int IntKind.i64 6) H87 nx88)
 (NC (nth xs16 3) fun v90 =>
 FA 3 v90 fun v91 =>
 LDR false 1 v91 H87 fun v92 _ =>
 NC (nth xs16 3) fun v94 =>
 FA 4 v94 fun v95 =>
 LDR false 1 v95 H87 fun v96 _ =>
 BSL 2 1 [AV.nils] [(0, v92), (1, v96)] fun cells98 =>
 PUTH H87 nx88 (AObj.row 1 cells98) fun H99 =>
 LNL (AV.slc nx88 0 2) fun v100 =>
 nx88 ∉ [] ∧
 nx88 ∉ [] ∧
 LP (zk Q K5) [nth xs16 0, nth xs16 1, nth xs16 2, nth xs16 4, nth xs16 5, AV.slc nx88 0 2, v100, AV.int IntKind.i64 0] H99 (nx88 + 1))
def zp (Q : QT) (K5 : J3) (K15 : J3) (xs16 : List AV) (H17 : Heap) (nx18 : Nat) : Prop :=
 BI BinOp.lss (nth xs16 7) (nth xs16 6) fun v19 =>
 CNDC v19
 (NC (nth xs16 3) fun v20 =>
 FA 2 v20 fun v21 =>
 LD false 1 v21 H17 fun v22 =>
 IA 4 v22 (nth xs16 7) fun v23 =>
 za Tryd.prog 54 [nth xs16 0, v23, nth xs16 2] H17 nx18 (zl Q xs16 K15))
 (NC (nth xs16 3) fun v29 =>
 FA 0 v29 fun v30 =>
 LD false 1 v30 H17 fun v31 =>
 BI BinOp.eql v31 (AV.int IntKind.i64 1) fun v32 =>
 CNDC v32
 (NC (nth xs16 3) fun v33 =>
 FA 1 v33 fun v34 =>
 LD false 1 v34 H17 fun v35 =>
 za Tryd.prog 52 [nth xs16 2, v35] H17 nx18 (zag Q xs16 K5))
 (BI BinOp.eql v31 (AV.int IntKind.i64 2) fun v82 =>
 CNDC v82
 (NC (nth xs16 3) fun v83 =>
 FA 1 v83 fun v84 =>
 LD false 1 v84 H17 fun v85 =>
 za Tryd.prog 52 [nth xs16 2, v85] H17 nx18 (zbu Q xs16 K5))
 (NC (nth xs16 3) fun v114 =>
 FA 3 v114 fun v115 =>
 LDR false 1 v115 H17 fun v116 _ =>
 NC (nth xs16 3) fun v118 =>
 FA 4 v118 fun v119 =>
 LDR false 1 v119 H17 fun v120 _ =>
 BSL 2 1 [AV.nils] [(0, v116), (1, v120)] fun cells122 =>
 PUTH H17 nx18 (AObj.row 1 cells122) fun H123 =>
 LNL (AV.slc nx18 0 2) fun v124 =>
 nx18 ∉ [] ∧
 nx18 ∉ [] ∧
 LP (zk Q K5) [nth xs16 0, nth xs16 1, nth xs16 2, nth xs16 4, nth xs16 5, AV.slc nx18 0 2, v124, AV.int IntKind.i64 0] H123 (nx18 + 1))))
def zbt (Q : QT) (K5 : J3) (xs6 : List AV) (H7 : Heap) (nx8 : Nat) : Prop :=
 BI BinOp.lss (nth xs6 4) (nth xs6 3) fun v9 =>
 CNDC v9
 (IA 5 (nth xs6 1) (nth xs6 4) fun v10 =>
 NC v10 fun v11 =>
 FA 2 v11 fun v12 =>
 LD false 1 v12 H7 fun v13 =>
 LNL v13 fun v14 =>
 LP (zp Q K5) [nth xs6 0, nth xs6 1, nth xs6 2, v10, nth xs6 3, nth xs6 4, v14, AV.int IntKind.i64 0] H7 nx8)
 (Q (AV.int IntKind.i64 0) H7 nx8)
def zeg (a1 : AV) (Q : QT) (a0 : AV) (v1 : AV) (H2 : Heap) (nx3 : Nat) : Prop :=
 LNL a1 fun v4 =>
 LP (zbt Q) [a0, a1, v1, v4, AV.int IntKind.i64 0] H2 nx3
def zef (a0 a1 a2 : AV) (H : Heap) (nx : Nat) (Q : QT) : Prop :=
 za Tryd.prog 53 [a2] H nx (zeg a1 Q a0)
theorem zhl (a0 a1 a2 : AV) (H : Heap) (nx : Nat) (Q : QT) : zef a0 a1 a2 H nx Q → za Tryd.prog 34 [a0, a1, a2] H nx Q :=
  zg (lv := lvOf [(2, 3, [0, 1, 2, 17, 18]), (2, 7, [0, 1, 2, 8, 17, 18, 28, 29]), (2, 25, [0, 1, 2, 17, 18, 93, 94, 95])]) (c := zm Tryd.f34) zx zac mixed Tryd.func34 (by kernel_rfl) (by kernel_rfl) (by kernel_rfl) (by kernel_rfl) (by kernel_rfl)
def zdb (Q : QT) (nx11 : Nat) (xs9 : List AV) (K8 : J3) (v30 : AV) (H31 : Heap) (nx32 : Nat) : Prop :=
 UO UnOp.not v30 fun v33 =>
 CNDC v33
 (Q (AV.int IntKind.i64 7) H31 nx32)
 (LD false 1 (AV.ptr nx11 1) H31 fun v34 =>
 LNL v34 fun v35 =>
 BI BinOp.gtr v35 (AV.int IntKind.i64 4) fun v36 =>
 CNDC v36
 (Q (AV.int IntKind.i64 5) H31 nx32)
 (NC (nth xs9 1) fun v37 =>
 FA 0 v37 fun v38 =>
 LDR false 1 v38 H31 fun v39 _ =>
 LDR false 1 (AV.ptr nx11 0) H31 fun v41 _ =>
 LDR false 1 (AV.ptr nx11 1) H31 fun v43 _ =>
 LNL v43 fun v45 =>
 zq (AK.str) v41 = true ∧
 MUPD v39 v41 v45 H31 fun _ _ fr48 D49 =>
 BI BinOp.add (nth xs9 4) (AV.int IntKind.i64 1) fun v50 =>
 K8 [nth xs9 0, nth xs9 1, nth xs9 2, nth xs9 3, v50] (H31.apply D49) (nx32 + fr48.length)))
def zda (Q : QT) (xs58 : List AV) (K57 : J3) (v73 : AV) (H74 : Heap) (nx75 : Nat) : Prop :=
 BI BinOp.neq v73 (AV.int IntKind.i64 0) fun v76 =>
 CNDC v76
 (Q v73 H74 nx75)
 (BI BinOp.add (nth xs58 3) (AV.int IntKind.i64 1) fun v77 =>
 K57 [nth xs58 0, nth xs58 1, nth xs58 2, v77] H74 nx75)
def zbb (Q : QT) (K57 : J3) (xs58 : List AV) (H59 : Heap) (nx60 : Nat) : Prop :=
 BI BinOp.lss (nth xs58 3) (nth xs58 2) fun v61 =>
 CNDC v61
 (IA 3 (nth xs58 1) (nth xs58 3) fun v62 =>
 LD true 3 v62 H59 fun v63 =>
 PUTH H59 nx60 (AObj.row 3 [AV.str [], AV.nils, AV.nils]) fun H64 =>
 ST 3 (AV.ptr nx60 0) v63 H64 fun H65 =>
 LD false 1 (AV.ptr nx60 1) H65 fun v66 =>
 LNL v66 fun v67 =>
 NC (nth xs58 0) fun v68 =>
 FA 1 v68 fun v69 =>
 ST 1 v69 v67 H65 fun H70 =>
 LD false 1 (AV.ptr nx60 2) H70 fun v71 =>
 LD false 1 (AV.ptr nx60 1) H70 fun v72 =>
 za Tryd.prog 34 [nth xs58 0, v71, v72] H70 (nx60 + 1) (zda Q xs58 K57))
 (NC (nth xs58 0) fun v78 =>
 FA 2 v78 fun v79 =>
 LD false 1 v79 H59 fun v80 =>
 LNL v80 fun v81 =>
 BI BinOp.gtr v81 (AV.int IntKind.i64 16) fun v82 =>
 CNDC v82
 (Q (AV.int IntKind.i64 4) H59 nx60)
 (Q (AV.int IntKind.i64 0) H59 nx60))
def zcz (Q : QT) (K8 : J3) (xs9 : List AV) (H10 : Heap) (nx11 : Nat) : Prop :=
 BI BinOp.lss (nth xs9 4) (nth xs9 3) fun v12 =>
 CNDC v12
 (IA 3 (nth xs9 2) (nth xs9 4) fun v13 =>
 LD true 3 v13 H10 fun v14 =>
 PUTH H10 nx11 (AObj.row 3 [AV.str [], AV.nils, AV.nils]) fun H15 =>
 ST 3 (AV.ptr nx11 0) v14 H15 fun H16 =>
 NC (nth xs9 1) fun v17 =>
 FA 0 v17 fun v18 =>
 LDR false 1 v18 H16 fun v19 _ =>
 LDR false 1 (AV.ptr nx11 0) H16 fun v21 _ =>
 zq (AK.str) v21 = true ∧
 LOOK [AV.int IntKind.i64 0] false v19 v21 true H16 fun v23 _ fr25 D26 =>
 EX v23 0 fun _ =>
 EX v23 1 fun v28 =>
 CND v28
 (Q (AV.int IntKind.i64 7) (H16.apply D26) ((nx11 + 1) + fr25.length))
 (LD false 1 (AV.ptr nx11 1) (H16.apply D26) fun v29 =>
 za Tryd.prog 33 [v29] (H16.apply D26) ((nx11 + 1) + fr25.length) (zdb Q nx11 xs9 K8)))
 (IA 3 (nth xs9 0) (AV.int IntKind.i64 0) fun v51 =>
 FA 1 v51 fun v52 =>
 LD false 1 v52 H10 fun v53 =>
 LNL v53 fun v54 =>
 BI BinOp.gtr v54 (AV.int IntKind.i64 0) fun v55 =>
 CNDC v55
 (Q (AV.int IntKind.i64 10) H10 nx11)
 (LNL (nth xs9 0) fun v56 =>
 LP (zbb Q) [nth xs9 1, nth xs9 0, v56, AV.int IntKind.i64 0] H10 nx11))
def zcy (a0 : AV) (H : Heap) (nx : Nat) (Q : QT) : Prop :=
 LNL a0 fun v1 =>
 BI BinOp.lss v1 (AV.int IntKind.i64 1) fun v2 =>
 CND v2
 (Q (AV.int IntKind.i64 5) H nx)
 (LNL a0 fun v3 =>
 BI BinOp.gtr v3 (AV.int IntKind.i64 5) fun v4 =>
 CNDC v4
 (Q (AV.int IntKind.i64 5) H nx)
 (PUTH H nx (AObj.mp []) fun H5 =>
 true = true ∧
 PUTH H5 (nx + 1) (AObj.row 3 [AV.amap nx, AV.int IntKind.i64 0, AV.nils]) fun H6 =>
 LNL a0 fun v7 =>
 LP (zcz Q) [a0, AV.ptr (nx + 1) 0, a0, v7, AV.int IntKind.i64 0] H6 (nx + 2)))
theorem zlt (a0 : AV) (H : Heap) (nx : Nat) (Q : QT) : zcy a0 H nx Q → za Tryd.prog 11 [a0] H nx Q :=
  zg (lv := lvOf [(2, 5, [0, 3, 22, 23, 24]), (2, 17, [3, 65, 66, 67])]) (c := zm Tryd.f11) zx zac mixed Tryd.func11 (by kernel_rfl) (by kernel_rfl) (by kernel_rfl) (by kernel_rfl) (by kernel_rfl)
def zkd (Q : QT) (v1 : AV) (H2 : Heap) (nx3 : Nat) : Prop :=
 EX v1 0 fun v4 =>
 EX v1 1 fun _ =>
 Q v4 H2 nx3
def zkc (a0 : AV) (H : Heap) (nx : Nat) (Q : QT) : Prop :=
 za Tryd.prog 10 [a0] H nx (zkd Q)
theorem zmd (a0 : AV) (H : Heap) (nx : Nat) (Q : QT) : zkc a0 H nx Q → za Tryd.prog 15 [a0] H nx Q :=
  zg (lv := lvOf []) (c := zm Tryd.f15) zx zac mixed Tryd.func15 (by kernel_rfl) (by kernel_rfl) (by kernel_rfl) (by kernel_rfl) (by kernel_rfl)
def zig (Q : QT) (v18 : AV) (H19 : Heap) (nx20 : Nat) : Prop :=
 BI BinOp.eql v18 (AV.int IntKind.i64 10) fun v21 =>
 Q v21 H19 nx20
def zif (Q : QT) (v15 : AV) (H16 : Heap) (nx17 : Nat) : Prop :=
 za Tryd.prog 11 [v15] H16 nx17 (zig Q)
def zie (Q : QT) (v11 : AV) (H12 : Heap) (nx13 : Nat) : Prop :=
 BI BinOp.eql v11 (AV.int IntKind.i64 0) fun v14 =>
 CND v14
 (za Tryd.prog 15 [AV.str [40, 109, 97, 105, 110, 32, 40, 120, 41, 32, 40, 115, 97, 121, 32, 120, 41, 41]] H12 nx13 (zif Q))
 (Q (AV.bool false) H12 nx13)
def zid (Q : QT) (v8 : AV) (H9 : Heap) (nx10 : Nat) : Prop :=
 za Tryd.prog 11 [v8] H9 nx10 (zie Q)
def zic (Q : QT) (v4 : AV) (H5 : Heap) (nx6 : Nat) : Prop :=
 BI BinOp.eql v4 (AV.int IntKind.i64 6) fun v7 =>
 CND v7
 (za Tryd.prog 15 [AV.str [40, 109, 97, 105, 110, 32, 40, 41, 32, 40, 115, 97, 121, 32, 40, 102, 32, 49, 41, 41, 41, 40, 102, 32, 40, 120, 41, 32, 40, 114, 101, 116, 117, 114, 110, 32, 120, 41, 41]] H5 nx6 (zid Q))
 (Q (AV.bool false) H5 nx6)
def zib (Q : QT) (v1 : AV) (H2 : Heap) (nx3 : Nat) : Prop :=
 za Tryd.prog 11 [v1] H2 nx3 (zic Q)
def zia (H : Heap) (nx : Nat) (Q : QT) : Prop :=
 za Tryd.prog 15 [AV.str [40, 109, 97, 105, 110, 32, 40, 41, 32, 40, 115, 97, 121, 32, 120, 41, 41]] H nx (zib Q)
theorem zkj (H : Heap) (nx : Nat) (Q : QT) : zia  H nx Q → za Tryd.prog 13 [] H nx Q :=
  zg (lv := lvOf []) (c := zm Tryd.f13) zx zac mixed Tryd.func13 (by kernel_rfl) (by kernel_rfl) (by kernel_rfl) (by kernel_rfl) (by kernel_rfl)
def zez (Q : QT) (v57 : AV) (H58 : Heap) (nx59 : Nat) : Prop :=
 BI BinOp.eql v57 (AV.int IntKind.i64 7) fun v60 =>
 Q v60 H58 nx59
def zey (Q : QT) (v54 : AV) (H55 : Heap) (nx56 : Nat) : Prop :=
 za Tryd.prog 11 [v54] H55 nx56 (zez Q)
def zex (a0 : AV) (Q : QT) (v46 : AV) (H47 : Heap) (nx48 : Nat) : Prop :=
 BI BinOp.eql v46 (AV.int IntKind.i64 6) fun v49 =>
 CND v49
 (BS BinOp.add (AV.str [40, 109, 97, 105, 110, 32, 40, 41, 32, 40, 108, 101, 116, 32]) a0 fun v50 =>
 BS BinOp.add v50 (AV.str [32, 49, 41, 32, 40, 108, 101, 116, 32]) fun v51 =>
 BS BinOp.add v51 a0 fun v52 =>
 BS BinOp.add v52 (AV.str [32, 50, 41, 41]) fun v53 =>
 za Tryd.prog 15 [v53] H47 nx48 (zey Q))
 (Q (AV.bool false) H47 nx48)
def zew (a0 : AV) (Q : QT) (v43 : AV) (H44 : Heap) (nx45 : Nat) : Prop :=
 za Tryd.prog 11 [v43] H44 nx45 (zex a0 Q)
def zev (v17 : AV) (a1 : AV) (a0 : AV) (Q : QT) (v36 : AV) (H37 : Heap) (nx38 : Nat) : Prop :=
 BI BinOp.eql v36 (AV.int IntKind.i64 0) fun v39 =>
 CND v39
 (BS BinOp.add v17 (AV.str [40, 115, 101, 116, 32]) fun v40 =>
 BS BinOp.add v40 a1 fun v41 =>
 BS BinOp.add v41 (AV.str [32, 50, 41, 41]) fun v42 =>
 za Tryd.prog 15 [v42] H37 nx38 (zew a0 Q))
 (Q (AV.bool false) H37 nx38)
def zeu (v17 : AV) (a1 : AV) (a0 : AV) (Q : QT) (v33 : AV) (H34 : Heap) (nx35 : Nat) : Prop :=
 za Tryd.prog 11 [v33] H34 nx35 (zev v17 a1 a0 Q)
def zet (v17 : AV) (a0 : AV) (a1 : AV) (Q : QT) (v24 : AV) (H25 : Heap) (nx26 : Nat) : Prop :=
 BI BinOp.eql v24 (AV.int IntKind.i64 6) fun v27 =>
 CND v27
 (BS BinOp.add v17 (AV.str [40, 108, 101, 116, 32]) fun v28 =>
 BS BinOp.add v28 a0 fun v29 =>
 BS BinOp.add v29 (AV.str [32, 50, 41, 32, 40, 115, 97, 121, 32]) fun v30 =>
 BS BinOp.add v30 a0 fun v31 =>
 BS BinOp.add v31 (AV.str [41, 41]) fun v32 =>
 za Tryd.prog 15 [v32] H25 nx26 (zeu v17 a1 a0 Q))
 (Q (AV.bool false) H25 nx26)
def zes (v17 : AV) (a0 : AV) (a1 : AV) (Q : QT) (v21 : AV) (H22 : Heap) (nx23 : Nat) : Prop :=
 za Tryd.prog 11 [v21] H22 nx23 (zet v17 a0 a1 Q)
def zay (Q : QT) (a0 : AV) (a1 : AV) (v9 : AV) (H10 : Heap) (nx11 : Nat) : Prop :=
 UO UnOp.not v9 fun v12 =>
 CND v12
 (Q (AV.bool true) H10 nx11)
 (BS BinOp.eql a0 a1 fun v13 =>
 CNDC v13
 (Q (AV.bool true) H10 nx11)
 (BS BinOp.add (AV.str [40, 109, 97, 105, 110, 32, 40, 41, 32, 40, 105, 102, 32, 49, 32, 40, 40, 108, 101, 116, 32]) a0 fun v14 =>
 BS BinOp.add v14 (AV.str [32, 49, 41, 32, 40, 115, 97, 121, 32]) fun v15 =>
 BS BinOp.add v15 a0 fun v16 =>
 BS BinOp.add v16 (AV.str [41, 41, 32, 40, 41, 41, 32]) fun v17 =>
 BS BinOp.add v17 (AV.str [40, 115, 97, 121, 32]) fun v18 =>
 BS BinOp.add v18 a0 fun v19 =>
 BS BinOp.add v19 (AV.str [41, 41]) fun v20 =>
 za Tryd.prog 15 [v20] H10 nx11 (zes v17 a0 a1 Q)))
def zbr (Q : QT) (a1 : AV) (a0 : AV) (v5 : AV) (H6 : Heap) (nx7 : Nat) : Prop :=
 UO UnOp.not v5 fun v8 =>
 CND v8
 (Q (AV.bool true) H6 nx7)
 (za Tryd.prog 14 [a1] H6 nx7 (zay Q a0 a1))
def zee (Q : QT) (a0 : AV) (a1 : AV) (v1 : AV) (H2 : Heap) (nx3 : Nat) : Prop :=
 UO UnOp.not v1 fun v4 =>
 CNDC v4
 (Q (AV.bool false) H2 nx3)
 (za Tryd.prog 14 [a0] H2 nx3 (zbr Q a1 a0))
def zer (a0 a1 : AV) (H : Heap) (nx : Nat) (Q : QT) : Prop :=
 za Tryd.prog 13 [] H nx (zee Q a0 a1)
theorem zhu (a0 a1 : AV) (H : Heap) (nx : Nat) (Q : QT) : zer a0 a1 H nx Q → za Tryd.prog 4 [a0, a1] H nx Q :=
  zg (lv := lvOf []) (c := zm Tryd.f4) zx zac mixed Tryd.func4 (by kernel_rfl) (by kernel_rfl) (by kernel_rfl) (by kernel_rfl) (by kernel_rfl)
def zgx (a0 : AV) (Q : QT) (_ : AV) (H3 : Heap) (nx4 : Nat) : Prop :=
 NC a0 fun v5 =>
 FA 1 v5 fun v6 =>
 LD false 1 v6 H3 fun v7 =>
 BI BinOp.eql v7 (AV.int IntKind.i64 0) fun v8 =>
 Q v8 H3 nx4
def zdy (a0 a1 : AV) (H : Heap) (nx : Nat) (Q : QT) : Prop :=
 BI BinOp.gtr a1 (AV.int IntKind.i64 10) fun v1 =>
 CNDC v1
 (za Tryd.prog 48 [a0, AV.int IntKind.i64 9] H nx (zgx a0 Q))
 (NC a0 fun v9 =>
 FA 1 v9 fun v10 =>
 LD false 1 v10 H fun v11 =>
 BI BinOp.eql v11 (AV.int IntKind.i64 0) fun v12 =>
 Q v12 H nx)
theorem zke (a0 a1 : AV) (H : Heap) (nx : Nat) (Q : QT) : zdy a0 a1 H nx Q → za Tryd.prog 68 [a0, a1] H nx Q :=
  zg (lv := lvOf []) (c := zm Tryd.f68) zx zac mixed Tryd.func68 (by kernel_rfl) (by kernel_rfl) (by kernel_rfl) (by kernel_rfl) (by kernel_rfl)
def ziw (Q : QT) (K2 : J3) (xs3 : List AV) (H4 : Heap) (nx5 : Nat) : Prop :=
 BI BinOp.lss (nth xs3 2) (nth xs3 1) fun v6 =>
 CNDC v6
 (IX (nth xs3 0) (nth xs3 2) fun v7 =>
 BI BinOp.lss v7 (AV.int IntKind.u8 32) fun v8 =>
 CND v8
 (Q (AV.bool false) H4 nx5)
 (IX (nth xs3 0) (nth xs3 2) fun v9 =>
 BI BinOp.gtr v9 (AV.int IntKind.u8 126) fun v10 =>
 CND v10
 (Q (AV.bool false) H4 nx5)
 (IX (nth xs3 0) (nth xs3 2) fun v11 =>
 BI BinOp.eql v11 (AV.int IntKind.u8 39) fun v12 =>
 CNDC v12
 (Q (AV.bool false) H4 nx5)
 (BI BinOp.add (nth xs3 2) (AV.int IntKind.i64 1) fun v13 =>
 K2 [nth xs3 0, nth xs3 1, v13] H4 nx5))))
 (LNS (nth xs3 0) fun v14 =>
 BI BinOp.lss v14 (AV.int IntKind.i64 13) fun v15 =>
 Q v15 H4 nx5)
def ziv (a0 : AV) (H : Heap) (nx : Nat) (Q : QT) : Prop :=
 LNS a0 fun v1 =>
 LP (ziw Q) [a0, v1, AV.int IntKind.i64 0] H nx
theorem zlq (a0 : AV) (H : Heap) (nx : Nat) (Q : QT) : ziv a0 H nx Q → za Tryd.prog 25 [a0] H nx Q :=
  zg (lv := lvOf [(2, 2, [0, 5, 6])]) (c := zm Tryd.f25) zx zac mixed Tryd.func25 (by kernel_rfl) (by kernel_rfl) (by kernel_rfl) (by kernel_rfl) (by kernel_rfl)
def zhj (xs21 : List AV) (Q : QT) (_ : AV) (H49 : Heap) (nx50 : Nat) : Prop :=
 ST 4 (nth xs21 1) (AV.agg [AV.int IntKind.i64 2, AV.int IntKind.i64 0, AV.str [], AV.nils]) H49 fun H51 =>
 LD true 4 (nth xs21 1) H51 fun v52 =>
 Q v52 H51 nx50
def zhi (v57 : AV) (xs21 : List AV) (Q : QT) (_ : AV) (H80 : Heap) (nx81 : Nat) : Prop :=
 BD (zo tab [(3, 0), (3, 1), (9, 2), (88, 3)]) [AV.int IntKind.i64 0, AV.int IntKind.i64 0, AV.str [], AV.nils] [(0, AV.int IntKind.i64 2), (2, v57)] fun v82 =>
 ST 4 (nth xs21 1) v82 H80 fun H83 =>
 LD true 4 (nth xs21 1) H83 fun v84 =>
 Q v84 H83 nx81
def zec (xs21 : List AV) (v57 : AV) (Q : QT) (v74 : AV) (H75 : Heap) (nx76 : Nat) : Prop :=
 UO UnOp.not v74 fun v77 =>
 CNDC v77
 (LD false 1 (nth xs21 0) H75 fun v78 =>
 za Tryd.prog 48 [v78, AV.int IntKind.i64 2] H75 nx76 (zhi v57 xs21 Q))
 (BD (zo tab [(3, 0), (3, 1), (9, 2), (88, 3)]) [AV.int IntKind.i64 0, AV.int IntKind.i64 0, AV.str [], AV.nils] [(0, AV.int IntKind.i64 2), (2, v57)] fun v85 =>
 ST 4 (nth xs21 1) v85 H75 fun H86 =>
 LD true 4 (nth xs21 1) H86 fun v87 =>
 Q v87 H86 nx76)
def zci (K17 : J3) (Q : QT) (xs21 : List AV) (H22 : Heap) (nx23 : Nat) : Prop :=
 CNDC (nth xs21 3)
 (BI BinOp.add (nth xs21 2) (AV.int IntKind.i64 1) fun v25 =>
 K17 [nth xs21 0, nth xs21 1, v25] H22 nx23)
 (LD false 1 (nth xs21 0) H22 fun v26 =>
 NC v26 fun v27 =>
 FA 0 v27 fun v28 =>
 LD false 1 v28 H22 fun v29 =>
 LNS v29 fun v30 =>
 BI BinOp.eql (nth xs21 2) v30 fun v31 =>
 CNDC v31
 (LDR false 1 (nth xs21 0) H22 fun v32 _ =>
 LDR false 1 (nth xs21 0) H22 fun v34 _ =>
 NC v34 fun v36 =>
 FA 0 v36 fun v37 =>
 LDR false 1 v37 H22 fun v38 _ =>
 SLS v38 (some (AV.int IntKind.i64 1)) none fun v40 =>
 NC v32 fun v41 =>
 FA 0 v41 fun v42 =>
 zan 1 v42 v40 H22 fun _ _ fr45 D46 =>
 LD false 1 (nth xs21 0) (H22.apply D46) fun v47 =>
 za Tryd.prog 48 [v47, AV.int IntKind.i64 8] (H22.apply D46) (nx23 + fr45.length) (zhj xs21 Q))
 (LD false 1 (nth xs21 0) H22 fun v53 =>
 NC v53 fun v54 =>
 FA 0 v54 fun v55 =>
 LD false 1 v55 H22 fun v56 =>
 SLS v56 (some (AV.int IntKind.i64 1)) (some (nth xs21 2)) fun v57 =>
 LDR false 1 (nth xs21 0) H22 fun v58 _ =>
 LDR false 1 (nth xs21 0) H22 fun v60 _ =>
 NC v60 fun v62 =>
 FA 0 v62 fun v63 =>
 LDR false 1 v63 H22 fun v64 _ =>
 BI BinOp.add (nth xs21 2) (AV.int IntKind.i64 1) fun v66 =>
 SLS v64 (some v66) none fun v67 =>
 NC v58 fun v68 =>
 FA 0 v68 fun v69 =>
 zan 1 v69 v67 H22 fun _ _ fr72 D73 =>
 za Tryd.prog 25 [v57] (H22.apply D73) (nx23 + fr72.length) (zec xs21 v57 Q)))
def zck (xs18 : List AV) (H19 : Heap) (nx20 : Nat) (j24 : J3) : Prop :=
 LD false 1 (nth xs18 0) H19 fun v88 =>
 NC v88 fun v89 =>
 FA 0 v89 fun v90 =>
 LD false 1 v90 H19 fun v91 =>
 LNS v91 fun v92 =>
 BI BinOp.lss (nth xs18 2) v92 fun v93 =>
 CND v93
 (LD false 1 (nth xs18 0) H19 fun v94 =>
 NC v94 fun v95 =>
 FA 0 v95 fun v96 =>
 LD false 1 v96 H19 fun v97 =>
 IX v97 (nth xs18 2) fun v98 =>
 BI BinOp.neq v98 (AV.int IntKind.u8 39) fun v99 =>
 j24 [nth xs18 0, nth xs18 1, nth xs18 2, v99] H19 nx20)
 (j24 [nth xs18 0, nth xs18 1, nth xs18 2, AV.bool false] H19 nx20)
def zbg (Q : QT) (K17 : J3) (xs18 : List AV) (H19 : Heap) (nx20 : Nat) : Prop :=
 JN (zci K17 Q) (zck xs18 H19 nx20)
def zcg (v108 : AV) (nx : Nat) (Q : QT) (_ : AV) (H118 : Heap) (nx119 : Nat) : Prop :=
 BD (zo tab [(3, 0), (3, 1), (9, 2), (88, 3)]) [AV.int IntKind.i64 0, AV.int IntKind.i64 0, AV.str [], AV.nils] [(0, AV.int IntKind.i64 1), (1, v108)] fun v120 =>
 ST 4 (AV.ptr (nx + 2) 0) v120 H118 fun H121 =>
 LD true 4 (AV.ptr (nx + 2) 0) H121 fun v122 =>
 Q v122 H121 nx119
def zhh (v102 : AV) (nx : Nat) (Q : QT) (_ : AV) (H140 : Heap) (nx141 : Nat) : Prop :=
 BD (zo tab [(3, 0), (3, 1), (9, 2), (88, 3)]) [AV.int IntKind.i64 0, AV.int IntKind.i64 0, AV.str [], AV.nils] [(0, AV.int IntKind.i64 3), (2, v102)] fun v142 =>
 ST 4 (AV.ptr (nx + 2) 0) v142 H140 fun H143 =>
 LD true 4 (AV.ptr (nx + 2) 0) H143 fun v144 =>
 Q v144 H143 nx141
def zbh (nx : Nat) (v102 : AV) (Q : QT) (v134 : AV) (H135 : Heap) (nx136 : Nat) : Prop :=
 UO UnOp.not v134 fun v137 =>
 CNDC v137
 (LD false 1 (AV.ptr nx 0) H135 fun v138 =>
 za Tryd.prog 48 [v138, AV.int IntKind.i64 7] H135 nx136 (zhh v102 nx Q))
 (BD (zo tab [(3, 0), (3, 1), (9, 2), (88, 3)]) [AV.int IntKind.i64 0, AV.int IntKind.i64 0, AV.str [], AV.nils] [(0, AV.int IntKind.i64 3), (2, v102)] fun v145 =>
 ST 4 (AV.ptr (nx + 2) 0) v145 H135 fun H146 =>
 LD true 4 (AV.ptr (nx + 2) 0) H146 fun v147 =>
 Q v147 H146 nx136)
def zar (v102 : AV) (v108 : AV) (nx : Nat) (Q : QT) (v111 : AV) (H112 : Heap) (nx113 : Nat) : Prop :=
 BS BinOp.eql v111 v102 fun v114 =>
 CNDC v114
 (BI BinOp.gtr v108 (AV.int IntKind.i64 1073741824) fun v115 =>
 CND v115
 (LD false 1 (AV.ptr nx 0) H112 fun v116 =>
 za Tryd.prog 48 [v116, AV.int IntKind.i64 3] H112 nx113 (zcg v108 nx Q))
 (BI BinOp.lss v108 (AV.int IntKind.i64 (-1073741824)) fun v123 =>
 CNDC v123
 (LD false 1 (AV.ptr nx 0) H112 fun v124 =>
 za Tryd.prog 48 [v124, AV.int IntKind.i64 3] H112 nx113 (zcg v108 nx Q))
 (BD (zo tab [(3, 0), (3, 1), (9, 2), (88, 3)]) [AV.int IntKind.i64 0, AV.int IntKind.i64 0, AV.str [], AV.nils] [(0, AV.int IntKind.i64 1), (1, v108)] fun v131 =>
 ST 4 (AV.ptr (nx + 2) 0) v131 H112 fun H132 =>
 LD true 4 (AV.ptr (nx + 2) 0) H132 fun v133 =>
 Q v133 H132 nx113)))
 (za Tryd.prog 14 [v102] H112 nx113 (zbh nx v102 Q))
def zcf (v102 : AV) (nx : Nat) (Q : QT) (v105 : AV) (H106 : Heap) (nx107 : Nat) : Prop :=
 EX v105 0 fun v108 =>
 EX v105 1 fun v109 =>
 BF BinOp.eql v109 AV.inil fun v110 =>
 CND v110
 (za Tryd.prog 80 [v108] H106 nx107 (zar v102 v108 nx Q))
 (za Tryd.prog 14 [v102] H106 nx107 (zbh nx v102 Q))
def zhg (nx : Nat) (Q : QT) (v102 : AV) (H103 : Heap) (nx104 : Nat) : Prop :=
 za Tryd.prog 79 [v102] H103 nx104 (zcf v102 nx Q)
def zax (xs221 : List AV) (Q : QT) (_ : AV) (H236 : Heap) (nx237 : Nat) : Prop :=
 LD true 4 (nth xs221 3) H236 fun v238 =>
 ST 4 (nth xs221 2) v238 H236 fun H239 =>
 LD true 4 (nth xs221 2) H239 fun v240 =>
 Q v240 H239 nx237
def zal (xs221 : List AV) (Q : QT) (_ : AV) (H227 : Heap) (nx228 : Nat) : Prop :=
 BI BinOp.geq (nth xs221 4) (AV.int IntKind.i64 0) fun v229 =>
 CND v229
 (FA 3 (nth xs221 3) fun v230 =>
 LD false 1 v230 H227 fun v231 =>
 LNL v231 fun v232 =>
 BI BinOp.neq v232 (nth xs221 4) fun v233 =>
 CND v233
 (LD false 1 (nth xs221 0) H227 fun v234 =>
 za Tryd.prog 48 [v234, AV.int IntKind.i64 5] H227 nx228 (zax xs221 Q))
 (BI BinOp.lss (nth xs221 4) (AV.int IntKind.i64 0) fun v241 =>
 CND v241
 (FA 3 (nth xs221 3) fun v242 =>
 LD false 1 v242 H227 fun v243 =>
 LNL v243 fun v244 =>
 BI BinOp.gtr v244 (AV.int IntKind.i64 4) fun v245 =>
 CNDC v245
 (LD false 1 (nth xs221 0) H227 fun v246 =>
 za Tryd.prog 48 [v246, AV.int IntKind.i64 5] H227 nx228 (zax xs221 Q))
 (LD true 4 (nth xs221 3) H227 fun v253 =>
 ST 4 (nth xs221 2) v253 H227 fun H254 =>
 LD true 4 (nth xs221 2) H254 fun v255 =>
 Q v255 H254 nx228))
 (LD true 4 (nth xs221 3) H227 fun v256 =>
 ST 4 (nth xs221 2) v256 H227 fun H257 =>
 LD true 4 (nth xs221 2) H257 fun v258 =>
 Q v258 H257 nx228)))
 (BI BinOp.lss (nth xs221 4) (AV.int IntKind.i64 0) fun v259 =>
 CND v259
 (FA 3 (nth xs221 3) fun v260 =>
 LD false 1 v260 H227 fun v261 =>
 LNL v261 fun v262 =>
 BI BinOp.gtr v262 (AV.int IntKind.i64 4) fun v263 =>
 CNDC v263
 (LD false 1 (nth xs221 0) H227 fun v264 =>
 za Tryd.prog 48 [v264, AV.int IntKind.i64 5] H227 nx228 (zax xs221 Q))
 (LD true 4 (nth xs221 3) H227 fun v271 =>
 ST 4 (nth xs221 2) v271 H227 fun H272 =>
 LD true 4 (nth xs221 2) H272 fun v273 =>
 Q v273 H272 nx228))
 (LD true 4 (nth xs221 3) H227 fun v274 =>
 ST 4 (nth xs221 2) v274 H227 fun H275 =>
 LD true 4 (nth xs221 2) H275 fun v276 =>
 Q v276 H275 nx228))
def zgo (j224 : J3) (xs202 : List AV) (v283 : AV) (H284 : Heap) (nx285 : Nat) : Prop :=
 j224 [nth xs202 0, nth xs202 1, nth xs202 2, nth xs202 4, nth xs202 5] H284 nx285
def zdk (xs202 : List AV) (j224 : J3) (v278 : AV) (H279 : Heap) (nx280 : Nat) : Prop :=
 UO UnOp.not v278 fun v281 =>
 CNDC v281
 (LD false 1 (nth xs202 0) H279 fun v282 =>
 za Tryd.prog 48 [v282, AV.int IntKind.i64 7] H279 nx280 (zgo j224 xs202))
 (j224 [nth xs202 0, nth xs202 1, nth xs202 2, nth xs202 4, nth xs202 5] H279 nx280)
def zch (Q : QT) (xs221 : List AV) (H222 : Heap) (nx223 : Nat) : Prop :=
 LD false 1 (nth xs221 0) H222 fun v225 =>
 za Tryd.prog 30 [v225, AV.clo 81 [nth xs221 3, nth xs221 0, nth xs221 1]] H222 nx223 (zal xs221 Q)
def zcj (xs202 : List AV) (H203 : Heap) (nx204 : Nat) (j224 : J3) : Prop :=
 BI BinOp.lss (nth xs202 5) (AV.int IntKind.i64 0) fun v277 =>
 CND v277
 (za Tryd.prog 14 [nth xs202 3] H203 nx204 (zdk xs202 j224))
 (j224 [nth xs202 0, nth xs202 1, nth xs202 2, nth xs202 4, nth xs202 5] H203 nx204)
def zbf (Q : QT) (K201 : J3) (xs202 : List AV) (H203 : Heap) (nx204 : Nat) : Prop :=
 BI BinOp.lss (nth xs202 8) (nth xs202 7) fun v205 =>
 CNDC v205
 (IA 1 (nth xs202 6) (nth xs202 8) fun v206 =>
 LD false 1 v206 H203 fun v207 =>
 BS BinOp.eql v207 (nth xs202 3) fun v208 =>
 CNDC v208
 (BI BinOp.add (AV.int IntKind.i64 5) (nth xs202 8) fun v209 =>
 BD (zo tab [(3, 0), (3, 1), (9, 2), (88, 3)]) [AV.int IntKind.i64 0, AV.int IntKind.i64 0, AV.str [], AV.nils] [(0, v209)] fun v210 =>
 PUTH H203 nx204 (AObj.row 1 [AV.int IntKind.i64 2, AV.int IntKind.i64 1, AV.int IntKind.i64 1, AV.int IntKind.i64 1, AV.int IntKind.i64 0, AV.int IntKind.i64 1]) fun H211 =>
 IA 1 (AV.slc nx204 0 6) (nth xs202 8) fun v212 =>
 LDR false 1 v212 H211 fun v213 rd214 =>
 zan 4 (nth xs202 4) v210 H211 fun _ rd216 fr217 D218 =>
 nx204 ∉ [] ∧
 nx204 ∉ [] ∧
 nx204 ∉ [] ∧
 nx204 ∉ [] ∧
 nx204 ∉ [] ∧
 nx204 ∉ rd216 ∧
 nx204 ∉ (domD D218) ∧
 zj (domD D218) [] (
 zj (domD D218) [] (
 zj (domD D218) [] (
 zj (domD D218) rd214 (
 BI BinOp.add (nth xs202 8) (AV.int IntKind.i64 1) fun v219 =>
 K201 [nth xs202 0, nth xs202 1, nth xs202 2, nth xs202 3, nth xs202 4, v213, nth xs202 6, nth xs202 7, v219] (H211.apply D218) ((nx204 + 1) + fr217.length))))))
 (BI BinOp.add (nth xs202 8) (AV.int IntKind.i64 1) fun v220 =>
 K201 [nth xs202 0, nth xs202 1, nth xs202 2, nth xs202 3, nth xs202 4, nth xs202 5, nth xs202 6, nth xs202 7, v220] H203 nx204))
 (JN (zch Q) (zcj xs202 H203 nx204))
def zbe (Q : QT) (K186 : J3) (xs187 : List AV) (H188 : Heap) (nx189 : Nat) : Prop :=
 BI BinOp.lss (nth xs187 8) (nth xs187 7) fun v190 =>
 CNDC v190
 (IA 1 (nth xs187 6) (nth xs187 8) fun v191 =>
 LD false 1 v191 H188 fun v192 =>
 BS BinOp.eql v192 (nth xs187 3) fun v193 =>
 CNDC v193
 (BI BinOp.add (nth xs187 8) (AV.int IntKind.i64 1) fun v194 =>
 BD (zo tab [(3, 0), (3, 1), (9, 2), (88, 3)]) [AV.int IntKind.i64 0, AV.int IntKind.i64 0, AV.str [], AV.nils] [(0, AV.int IntKind.i64 4), (1, v194)] fun v195 =>
 ST 4 (nth xs187 4) v195 H188 fun H196 =>
 BI BinOp.add (nth xs187 8) (AV.int IntKind.i64 1) fun v197 =>
 K186 [nth xs187 0, nth xs187 1, nth xs187 2, nth xs187 3, nth xs187 4, AV.int IntKind.i64 2, nth xs187 6, nth xs187 7, v197] H196 nx189)
 (BI BinOp.add (nth xs187 8) (AV.int IntKind.i64 1) fun v198 =>
 K186 [nth xs187 0, nth xs187 1, nth xs187 2, nth xs187 3, nth xs187 4, nth xs187 5, nth xs187 6, nth xs187 7, v198] H188 nx189))
 (PUTH H188 nx189 (AObj.row 1 [AV.str [99, 101, 108, 108], AV.str [108, 101, 102, 116], AV.str [114, 105, 103, 104, 116], AV.str [97, 115, 107], AV.str [104, 101, 114, 101], AV.str [103, 111]]) fun H199 =>
 LNL (AV.slc nx189 0 6) fun v200 =>
 LP (zbf Q) [nth xs187 0, nth xs187 1, nth xs187 2, nth xs187 3, nth xs187 4, nth xs187 5, AV.slc nx189 0 6, v200, AV.int IntKind.i64 0] H199 (nx189 + 1))
def zgn (Q : QT) (nx : Nat) (v178 : AV) (H179 : Heap) (nx180 : Nat) : Prop :=
 BD (zo tab [(3, 0), (3, 1), (9, 2), (88, 3)]) [AV.int IntKind.i64 0, AV.int IntKind.i64 0, AV.str [], AV.nils] [(0, AV.int IntKind.i64 11), (2, v178)] fun v181 =>
 PUTH H179 nx180 (AObj.row 4 [AV.int IntKind.i64 0, AV.int IntKind.i64 0, AV.str [], AV.nils]) fun H182 =>
 ST 4 (AV.ptr nx180 0) v181 H182 fun H183 =>
 PUTH H183 (nx180 + 1) (AObj.row 1 [AV.str [43], AV.str [45], AV.str [42], AV.str [60], AV.str [61]]) fun H184 =>
 LNL (AV.slc (nx180 + 1) 0 5) fun v185 =>
 LP (zbe Q) [AV.ptr nx 0, AV.ptr (nx + 1) 0, AV.ptr (nx + 2) 0, v178, AV.ptr nx180 0, AV.int IntKind.i64 (-1), AV.slc (nx180 + 1) 0 5, v185, AV.int IntKind.i64 0] H184 (nx180 + 2)
def zak (Q : QT) (nx : Nat) (v13 : AV) (H14 : Heap) (nx15 : Nat) : Prop :=
 BI BinOp.eql v13 (AV.int IntKind.u8 39) fun v16 =>
 CNDC v16
 (LP (zbg Q) [AV.ptr nx 0, AV.ptr (nx + 2) 0, AV.int IntKind.i64 1] H14 nx15)
 (BI BinOp.neq v13 (AV.int IntKind.u8 40) fun v100 =>
 CNDC v100
 (LD false 1 (AV.ptr nx 0) H14 fun v101 =>
 za Tryd.prog 49 [v101] H14 nx15 (zhg nx Q))
 (LDR false 1 (AV.ptr nx 0) H14 fun v162 _ =>
 LDR false 1 (AV.ptr nx 0) H14 fun v164 _ =>
 NC v164 fun v166 =>
 FA 0 v166 fun v167 =>
 LDR false 1 v167 H14 fun v168 _ =>
 SLS v168 (some (AV.int IntKind.i64 1)) none fun v170 =>
 NC v162 fun v171 =>
 FA 0 v171 fun v172 =>
 zan 1 v172 v170 H14 fun _ _ fr175 D176 =>
 LD false 1 (AV.ptr nx 0) (H14.apply D176) fun v177 =>
 za Tryd.prog 49 [v177] (H14.apply D176) (nx15 + fr175.length) (zgn Q nx)))
def zbq (nx : Nat) (Q : QT) (v6 : AV) (H7 : Heap) (nx8 : Nat) : Prop :=
 UO UnOp.not v6 fun v9 =>
 CNDC v9
 (ST 4 (AV.ptr (nx + 2) 0) (AV.agg [AV.int IntKind.i64 0, AV.int IntKind.i64 0, AV.str [], AV.nils]) H7 fun H10 =>
 LD true 4 (AV.ptr (nx + 2) 0) H10 fun v11 =>
 Q v11 H10 nx8)
 (LD false 1 (AV.ptr nx 0) H7 fun v12 =>
 za Tryd.prog 27 [v12] H7 nx8 (zak Q nx))
def zeb (a0 a1 : AV) (H : Heap) (nx : Nat) (Q : QT) : Prop :=
 a0.sure = true ∧
 PUTH H nx (AObj.row a0.cells.length a0.cells) fun H1 =>
 a1.sure = true ∧
 PUTH H1 (nx + 1) (AObj.row a1.cells.length a1.cells) fun H2 =>
 PUTH H2 (nx + 2) (AObj.row 4 [AV.int IntKind.i64 0, AV.int IntKind.i64 0, AV.str [], AV.nils]) fun H3 =>
 LD false 1 (AV.ptr nx 0) H3 fun v4 =>
 LD false 1 (AV.ptr (nx + 1) 0) H3 fun v5 =>
 za Tryd.prog 68 [v4, v5] H3 (nx + 3) (zbq nx Q)
theorem zfk (a0 a1 : AV) (H : Heap) (nx : Nat) (Q : QT) : zeb a0 a1 H nx Q → za Tryd.prog 69 [a0, a1] H nx Q :=
  zg (lv := lvOf [(0, 6, [2, 4, 6, 42]), (2, 6, [2, 4, 6]), (2, 32, [2, 3, 4, 11, 12, 13, 132, 133, 134]), (2, 38, [2, 3, 4, 11, 12, 13, 146, 147, 148]), (3, 45, [2, 3, 4, 12, 13])]) (c := zm Tryd.f69) zx zac mixed Tryd.func69 (by kernel_rfl) (by kernel_rfl) (by kernel_rfl) (by kernel_rfl) (by kernel_rfl)
def zea (H41 : Heap) (nx42 : Nat) (v45 : AV) (xs40 : List AV) (v44 : AV) (rd46 : List Nat) (K39 : J3) (v48 : AV) (_ : List Nat) (fr50 : List Nat) (D51 : zw) : Prop :=
 BSL 1 4 [AV.int IntKind.i64 0, AV.int IntKind.i64 0, AV.str [], AV.nils] [(0, v48)] fun cells52 =>
 PUTH (H41.apply D51) (nx42 + fr50.length) (AObj.row 4 cells52) fun H53 =>
 zaw 4 56 v45 (AV.slc (nx42 + fr50.length) 0 1) H53 ((nx42 + fr50.length) + 1) fun v54 _ fr56 D57 =>
 FA 2 (nth xs40 4) fun v58 =>
 zan 1 v58 v54 (H53.apply D57) fun _ _ fr61 D62 =>
 zj (domD D51) [] (
 SOFT v44 v45 D51 rd46 (
 (nx42 + fr50.length) ∉ [] ∧
 (nx42 + fr50.length) ∉ rd46 ∧
 BI BinOp.add (nth xs40 6) (AV.int IntKind.i64 1) fun v63 =>
 K39 [nth xs40 0, nth xs40 1, nth xs40 2, nth xs40 3, nth xs40 4, nth xs40 5, v63] ((H53.apply D57).apply D62) ((((nx42 + fr50.length) + 1) + fr56.length) + fr61.length)))
def zcb (xs40 : List AV) (Q : QT) (_ : AV) (H84 : Heap) (nx85 : Nat) : Prop :=
 LD true 5 (nth xs40 4) H84 fun v86 =>
 ST 5 (nth xs40 2) v86 H84 fun H87 =>
 LD true 5 (nth xs40 2) H87 fun v88 =>
 Q v88 H87 nx85
def zhd (xs40 : List AV) (Q : QT) (v78 : AV) (H79 : Heap) (nx80 : Nat) : Prop :=
 FA 4 (nth xs40 4) fun v81 =>
 ST 1 v81 v78 H79 fun H82 =>
 za Tryd.prog 28 [nth xs40 0, AV.int IntKind.u8 41] H82 nx80 (zcb xs40 Q)
def zhc (xs40 : List AV) (Q : QT) (_ : AV) (H75 : Heap) (nx76 : Nat) : Prop :=
 BI BinOp.add (nth xs40 1) (AV.int IntKind.i64 1) fun v77 =>
 za Tryd.prog 32 [nth xs40 0, v77] H75 nx76 (zhd xs40 Q)
def zhb (xs40 : List AV) (Q : QT) (v69 : AV) (H70 : Heap) (nx71 : Nat) : Prop :=
 FA 3 (nth xs40 4) fun v72 =>
 ST 1 v72 v69 H70 fun H73 =>
 za Tryd.prog 28 [nth xs40 0, AV.int IntKind.u8 40] H73 nx71 (zhc xs40 Q)
def zha (xs40 : List AV) (Q : QT) (_ : AV) (H66 : Heap) (nx67 : Nat) : Prop :=
 BI BinOp.add (nth xs40 1) (AV.int IntKind.i64 1) fun v68 =>
 za Tryd.prog 32 [nth xs40 0, v68] H66 nx67 (zhb xs40 Q)
def zgz (xs40 : List AV) (Q : QT) (v91 : AV) (H92 : Heap) (nx93 : Nat) : Prop :=
 FA 3 (nth xs40 4) fun v94 =>
 ST 1 v94 v91 H92 fun H95 =>
 LD true 5 (nth xs40 4) H95 fun v96 =>
 ST 5 (nth xs40 2) v96 H95 fun H97 =>
 LD true 5 (nth xs40 2) H97 fun v98 =>
 Q v98 H97 nx93
def zz (Q : QT) (K39 : J3) (xs40 : List AV) (H41 : Heap) (nx42 : Nat) : Prop :=
 BI BinOp.lss (nth xs40 6) (nth xs40 5) fun v43 =>
 CNDC v43
 (FA 2 (nth xs40 4) fun v44 =>
 LDR false 1 v44 H41 fun v45 rd46 =>
 BI BinOp.add (nth xs40 1) (AV.int IntKind.i64 1) fun v47 =>
 zao Tryd.prog (AV.clo 69 []) [nth xs40 0, v47] H41 nx42 (zea H41 nx42 v45 xs40 v44 rd46 K39))
 (BI BinOp.eql (nth xs40 3) (AV.int IntKind.i64 3) fun v64 =>
 CNDC v64
 (za Tryd.prog 28 [nth xs40 0, AV.int IntKind.u8 40] H41 nx42 (zha xs40 Q))
 (BI BinOp.eql (nth xs40 3) (AV.int IntKind.i64 4) fun v89 =>
 CNDC v89
 (BI BinOp.add (nth xs40 1) (AV.int IntKind.i64 1) fun v90 =>
 za Tryd.prog 32 [nth xs40 0, v90] H41 nx42 (zgz xs40 Q))
 (za Tryd.prog 28 [nth xs40 0, AV.int IntKind.u8 41] H41 nx42 (zcb xs40 Q))))
def zca (xs28 : List AV) (j35 : J3) (v106 : AV) (H107 : Heap) (nx108 : Nat) : Prop :=
 FA 1 (nth xs28 4) fun v109 =>
 ST 1 v109 v106 H107 fun H110 =>
 j35 [nth xs28 0, nth xs28 1, nth xs28 2, nth xs28 3, nth xs28 4] H110 nx108
def zcc (Q : QT) (xs32 : List AV) (H33 : Heap) (nx34 : Nat) : Prop :=
 PUTH H33 nx34 (AObj.row 1 [AV.int IntKind.i64 0, AV.int IntKind.i64 1, AV.int IntKind.i64 1, AV.int IntKind.i64 1, AV.int IntKind.i64 1, AV.int IntKind.i64 1, AV.int IntKind.i64 1, AV.int IntKind.i64 2, AV.int IntKind.i64 2, AV.int IntKind.i64 1]) fun H36 =>
 IA 1 (AV.slc nx34 0 10) (nth xs32 3) fun v37 =>
 LD false 1 v37 H36 fun v38 =>
 LP (zz Q) [nth xs32 0, nth xs32 1, nth xs32 2, nth xs32 3, nth xs32 4, v38, AV.int IntKind.i64 0] H36 (nx34 + 1)
def zcd (xs28 : List AV) (H29 : Heap) (nx30 : Nat) (j35 : J3) : Prop :=
 BI BinOp.eql (nth xs28 3) (AV.int IntKind.i64 1) fun v105 =>
 CND v105
 (za Tryd.prog 29 [nth xs28 0] H29 nx30 (zca xs28 j35))
 (BI BinOp.eql (nth xs28 3) (AV.int IntKind.i64 2) fun v111 =>
 CNDC v111
 (za Tryd.prog 29 [nth xs28 0] H29 nx30 (zca xs28 j35))
 (j35 [nth xs28 0, nth xs28 1, nth xs28 2, nth xs28 3, nth xs28 4] H29 nx30))
def zgy (j31 : J3) (a0 : AV) (a1 : AV) (nx : Nat) (v24 : AV) (nx13 : Nat) (v118 : AV) (H119 : Heap) (nx120 : Nat) : Prop :=
 j31 [a0, a1, AV.ptr nx 0, v24, AV.ptr (nx13 + 1) 0] H119 nx120
def zbc (Q : QT) (xs28 : List AV) (H29 : Heap) (nx30 : Nat) : Prop :=
 JN (zcc Q) (zcd xs28 H29 nx30)
def zbd (v24 : AV) (a0 : AV) (H27 : Heap) (nx13 : Nat) (a1 : AV) (nx : Nat) (j31 : J3) : Prop :=
 BI BinOp.eql v24 (AV.int IntKind.i64 0) fun v117 =>
 CNDC v117
 (za Tryd.prog 48 [a0, AV.int IntKind.i64 1] H27 (nx13 + 2) (zgy j31 a0 a1 nx v24 nx13))
 (j31 [a0, a1, AV.ptr nx 0, v24, AV.ptr (nx13 + 1) 0] H27 (nx13 + 2))
def zdj (Q : QT) (a0 : AV) (a1 : AV) (nx : Nat) (v11 : AV) (H12 : Heap) (nx13 : Nat) : Prop :=
 PUTH H12 nx13 (AObj.mp []) fun H14 =>
 zq (AK.str) (AV.str [108, 101, 116]) = true ∧
 MU (AV.amap nx13) (AV.str [108, 101, 116]) (AV.int IntKind.i64 1) H14 fun H15 =>
 zq (AK.str) (AV.str [115, 101, 116]) = true ∧
 MU (AV.amap nx13) (AV.str [115, 101, 116]) (AV.int IntKind.i64 2) H15 fun H16 =>
 zq (AK.str) (AV.str [105, 102]) = true ∧
 MU (AV.amap nx13) (AV.str [105, 102]) (AV.int IntKind.i64 3) H16 fun H17 =>
 zq (AK.str) (AV.str [119, 104, 105, 108, 101]) = true ∧
 MU (AV.amap nx13) (AV.str [119, 104, 105, 108, 101]) (AV.int IntKind.i64 4) H17 fun H18 =>
 zq (AK.str) (AV.str [115, 97, 121]) = true ∧
 MU (AV.amap nx13) (AV.str [115, 97, 121]) (AV.int IntKind.i64 5) H18 fun H19 =>
 zq (AK.str) (AV.str [114, 101, 116, 117, 114, 110]) = true ∧
 MU (AV.amap nx13) (AV.str [114, 101, 116, 117, 114, 110]) (AV.int IntKind.i64 6) H19 fun H20 =>
 zq (AK.str) (AV.str [112, 117, 116, 108]) = true ∧
 MU (AV.amap nx13) (AV.str [112, 117, 116, 108]) (AV.int IntKind.i64 7) H20 fun H21 =>
 zq (AK.str) (AV.str [112, 117, 116, 114]) = true ∧
 MU (AV.amap nx13) (AV.str [112, 117, 116, 114]) (AV.int IntKind.i64 8) H21 fun H22 =>
 zq (AK.str) (AV.str [100, 111]) = true ∧
 MU (AV.amap nx13) (AV.str [100, 111]) (AV.int IntKind.i64 9) H22 fun H23 =>
 zq (AK.str) v11 = true ∧
 LK [AV.int IntKind.i64 0] false (AV.amap nx13) v11 false H23 fun v24 =>
 BD (zo tab [(3, 0), (9, 1), (88, 2), (41, 3), (41, 4)]) [AV.int IntKind.i64 0, AV.str [], AV.nils, AV.nils, AV.nils] [(0, v24)] fun v25 =>
 PUTH H23 (nx13 + 1) (AObj.row 5 [AV.int IntKind.i64 0, AV.str [], AV.nils, AV.nils, AV.nils]) fun H26 =>
 ST 5 (AV.ptr (nx13 + 1) 0) v25 H26 fun H27 =>
 JN (zbc Q) (zbd v24 a0 H27 nx13 a1 nx)
def zgm (a0 : AV) (Q : QT) (a1 : AV) (nx : Nat) (v8 : AV) (H9 : Heap) (nx10 : Nat) : Prop :=
 za Tryd.prog 49 [a0] H9 nx10 (zdj Q a0 a1 nx)
def zbp (nx : Nat) (Q : QT) (a0 : AV) (a1 : AV) (v2 : AV) (H3 : Heap) (nx4 : Nat) : Prop :=
 UO UnOp.not v2 fun v5 =>
 CNDC v5
 (ST 5 (AV.ptr nx 0) (AV.agg [AV.int IntKind.i64 0, AV.str [], AV.nils, AV.nils, AV.nils]) H3 fun H6 =>
 LD true 5 (AV.ptr nx 0) H6 fun v7 =>
 Q v7 H6 nx4)
 (za Tryd.prog 28 [a0, AV.int IntKind.u8 40] H3 nx4 (zgm a0 Q a1 nx))
def zdz (a0 a1 : AV) (H : Heap) (nx : Nat) (Q : QT) : Prop :=
 PUTH H nx (AObj.row 5 [AV.int IntKind.i64 0, AV.str [], AV.nils, AV.nils, AV.nils]) fun H1 =>
 za Tryd.prog 68 [a0, a1] H1 (nx + 1) (zbp nx Q a0 a1)
theorem zfj (a0 a1 : AV) (H : Heap) (nx : Nat) (Q : QT) : zdz a0 a1 H nx Q → za Tryd.prog 51 [a0, a1] H nx Q :=
  zg (lv := lvOf [(2, 12, [0, 1, 4, 6, 7, 39, 40]), (3, 9, [0, 1, 4, 6, 7]), (3, 11, [0, 1, 4, 6, 7])]) (c := zm Tryd.f51) zx zac mixed Tryd.func51 (by kernel_rfl) (by kernel_rfl) (by kernel_rfl) (by kernel_rfl) (by kernel_rfl)
def zcp (v1 : AV) (H : Heap) (nx : Nat) (a0 : AV) (rd2 : List Nat) (rd4 : List Nat) (rd6 : List Nat) (Q : QT) (v7 : AV) (rd8 : List Nat) (fr9 : List Nat) (D10 : zw) : Prop :=
 LNL v1 fun v11 =>
 PUTH (H.apply D10) (nx + fr9.length) (AObj.row 5 [AV.int IntKind.i64 0, AV.str [], AV.nils, AV.nils, AV.nils]) fun H12 =>
 zaw 5 96 v1 (AV.slc (nx + fr9.length) 0 1) H12 ((nx + fr9.length) + 1) fun v13 _ fr15 D16 =>
 IA 5 v13 v11 fun v17 =>
 zan 5 v17 v7 (H12.apply D16) fun _ rd19 fr20 D21 =>
 zan 1 a0 v13 ((H12.apply D16).apply D21) fun _ rd23 fr24 D25 =>
 SOFT a0 v1 D10 rd2 (
 zj (domD D10) [] (
 zj (domD D10) [] (
 (nx + fr9.length) ∉ rd2 ∧
 (nx + fr9.length) ∉ rd4 ∧
 (nx + fr9.length) ∉ rd6 ∧
 zj (domD D10) [] (
 zj (domD D10) [(nx + fr9.length)] (
 (nx + fr9.length) ∉ rd8 ∧
 (nx + fr9.length) ∉ [] ∧
 zj (domD D25) [] (
 zj (domD D21) rd23 (
 zj (domD D21) (domD D25) (
 zj (domD D25) rd19 (
 Q (AV.tup []) (((H12.apply D16).apply D21).apply D25) (((((nx + fr9.length) + 1) + fr15.length) + fr20.length) + fr24.length))))))))))
def zco (a0 a1 a2 : AV) (H : Heap) (nx : Nat) (Q : QT) : Prop :=
 LDR false 1 a0 H fun v1 rd2 =>
 LDR false 1 a1 H fun v3 rd4 =>
 LDR false 1 a2 H fun v5 rd6 =>
 zao Tryd.prog (AV.clo 51 []) [v3, v5] H nx (zcp v1 H nx a0 rd2 rd4 rd6 Q)
theorem zip (a0 a1 a2 : AV) (H : Heap) (nx : Nat) (Q : QT) : zco a0 a1 a2 H nx Q → za Tryd.prog 50 [a0, a1, a2] H nx Q :=
  zg (lv := lvOf []) (c := zm Tryd.f50) zx zac mixed Tryd.func50 (by kernel_rfl) (by kernel_rfl) (by kernel_rfl) (by kernel_rfl) (by kernel_rfl)
def zcs (v2 : AV) (H : Heap) (nx : Nat) (a0 : AV) (v1 : AV) (rd3 : List Nat) (rd5 : List Nat) (rd7 : List Nat) (Q : QT) (v9 : AV) (rd10 : List Nat) (fr11 : List Nat) (D12 : zw) : Prop :=
 LNL v2 fun v13 =>
 PUTH (H.apply D12) (nx + fr11.length) (AObj.row 4 [AV.int IntKind.i64 0, AV.int IntKind.i64 0, AV.str [], AV.nils]) fun H14 =>
 zaw 4 56 v2 (AV.slc (nx + fr11.length) 0 1) H14 ((nx + fr11.length) + 1) fun v15 _ fr17 D18 =>
 IA 4 v15 v13 fun v19 =>
 zan 4 v19 v9 (H14.apply D18) fun _ rd21 fr22 D23 =>
 FA 3 a0 fun v24 =>
 zan 1 v24 v15 ((H14.apply D18).apply D23) fun _ rd26 fr27 D28 =>
 zj (domD D12) [] (
 SOFT v1 v2 D12 rd3 (
 zj (domD D12) [] (
 zj (domD D12) [] (
 (nx + fr11.length) ∉ [] ∧
 (nx + fr11.length) ∉ rd3 ∧
 (nx + fr11.length) ∉ rd5 ∧
 (nx + fr11.length) ∉ rd7 ∧
 (nx + fr11.length) ∉ [] ∧
 zj (domD D12) [] (
 zj (domD D12) [(nx + fr11.length)] (
 (nx + fr11.length) ∉ rd10 ∧
 (nx + fr11.length) ∉ [] ∧
 zj (domD D23) [] (
 zj (domD D23) [] (
 zj (domD D28) [] (
 zj (domD D23) rd26 (
 zj (domD D23) (domD D28) (
 zj (domD D28) rd21 (
 Q (AV.tup []) (((H14.apply D18).apply D23).apply D28) (((((nx + fr11.length) + 1) + fr17.length) + fr22.length) + fr27.length)))))))))))))
def zcr (a0 a1 a2 : AV) (H : Heap) (nx : Nat) (Q : QT) : Prop :=
 FA 3 a0 fun v1 =>
 LDR false 1 v1 H fun v2 rd3 =>
 LDR false 1 a1 H fun v4 rd5 =>
 LDR false 1 a2 H fun v6 rd7 =>
 BI BinOp.add v6 (AV.int IntKind.i64 1) fun v8 =>
 zao Tryd.prog (AV.clo 69 []) [v4, v8] H nx (zcs v2 H nx a0 v1 rd3 rd5 rd7 Q)
theorem zix (a0 a1 a2 : AV) (H : Heap) (nx : Nat) (Q : QT) : zcr a0 a1 a2 H nx Q → za Tryd.prog 81 [a0, a1, a2] H nx Q :=
  zg (lv := lvOf []) (c := zm Tryd.f81) zx zac mixed Tryd.func81 (by kernel_rfl) (by kernel_rfl) (by kernel_rfl) (by kernel_rfl) (by kernel_rfl)
def zdg (H : Heap) (nx : Nat) (v2 : AV) (a0 : AV) (v1 : AV) (rd3 : List Nat) (Q : QT) (v6 : AV) (_ : List Nat) (fr8 : List Nat) (D9 : zw) : Prop :=
 BSL 1 1 [AV.str []] [(0, v6)] fun cells10 =>
 PUTH (H.apply D9) (nx + fr8.length) (AObj.row 1 cells10) fun H11 =>
 zaw 1 16 v2 (AV.slc (nx + fr8.length) 0 1) H11 ((nx + fr8.length) + 1) fun v12 _ fr14 D15 =>
 FA 1 a0 fun v16 =>
 zan 1 v16 v12 (H11.apply D15) fun _ _ fr19 D20 =>
 zj (domD D9) [] (
 SOFT v1 v2 D9 rd3 (
 (nx + fr8.length) ∉ [] ∧
 (nx + fr8.length) ∉ rd3 ∧
 Q (AV.tup []) ((H11.apply D15).apply D20) ((((nx + fr8.length) + 1) + fr14.length) + fr19.length)))
def zdf (a0 a1 : AV) (H : Heap) (nx : Nat) (Q : QT) : Prop :=
 FA 1 a0 fun v1 =>
 LDR false 1 v1 H fun v2 rd3 =>
 LDR false 1 a1 H fun v4 _ =>
 zao Tryd.prog (AV.clo 29 []) [v4] H nx (zdg H nx v2 a0 v1 rd3 Q)
theorem zjh (a0 a1 : AV) (H : Heap) (nx : Nat) (Q : QT) : zdf a0 a1 H nx Q → za Tryd.prog 31 [a0, a1] H nx Q :=
  zg (lv := lvOf []) (c := zm Tryd.f31) zx zac mixed Tryd.func31 (by kernel_rfl) (by kernel_rfl) (by kernel_rfl) (by kernel_rfl) (by kernel_rfl)
end Go.Proofs.YtpllgpgdcbgalaaDoor
