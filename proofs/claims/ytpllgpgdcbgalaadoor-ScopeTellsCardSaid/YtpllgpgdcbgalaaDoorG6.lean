/- Structures that are compared by their cells. The program's types, as its own table has them. -/
import Derived.Test.YtpllgpgdcbgalaaDoorG3
import Derived.Laws.StructEq
import Derived.Test.YtpllgpgdcbgalaaDoorChecked
import Derived.Test.YtpllgpgdcbgalaaDoorG4
import Derived.KernelRfl
set_option linter.unusedSimpArgs false
set_option linter.unusedVariables false
namespace Go.Proofs.YtpllgpgdcbgalaaDoor
open Go Go.RowKit
section
variable (P : Program)
def szAt (t : TypeId) : Nat := match atOf P t with | some a => a.size | none => 0
def zia (t : TypeId) : Bool := match atOf P t with | some a => !a.kind.isAgg && Nat.beq a.size 1 | none => false
def zfp (ok : TypeId → Option (List AV)) : List Field → Nat → Option (List AV)
  | [], _ => some []
  | f :: r, off => if f.name ≠ "_" ∧ f.offset = off then match ok f.type with
      | some z => match zfp ok r (off + z.length) with
        | some zr => some (z ++ zr)
        | none => none
      | none => none
    else none
def zfy : Nat → TypeId → Option (List AV)
  | 0, _ => none
  | d + 1, t => match P.underlying t with
    | some (.int k) => if zia P t = true then some [.int k 0] else none
    | some .string => if zia P t = true then some [.str []] else none
    | some .bool => if zia P t = true then some [.bool false] else none
    | some (.struct fs) => if P.stoodInHeld t = false ∧ (match atOf P t with | some a => a.kind.isAgg | none => false) = true then match zfp (zfy d) fs.toList 0 with
        | some zs => if zs.length = szAt P t then some zs else none
        | none => none
      else none
    | _ => none
def zrt (t : TypeId) : Bool := match atOf P t with
  | some a => a.kind.isAgg && (match zfy P 4 t with | some zs => (zc zs a.zero).isSome | none => false) && !(P.eqGuardType P.depth t)
  | none => false
end
theorem zjc : ∀ {xs ys : List AV} {r : Bool}, zc xs ys = some r → xs.length = ys.length
  | [], [], _, _ => rfl
  | [], _ :: _, _, h => by simp [zc] at h
  | x :: xs, [], _, h => by cases x <;> simp [zc] at h
  | x :: xs, y :: ys, r, h => by
    have : ∃ r', zc xs ys = some r' := by
      cases x <;> cases y <;> simp only [zc] at h <;> first
        | (cases h; done)
        | (split at h
           · obtain ⟨r', h', _⟩ := Option.map_eq_some_iff.1 h; exact ⟨r', h'⟩
           · cases h)
        | (obtain ⟨r', h', _⟩ := Option.map_eq_some_iff.1 h; exact ⟨r', h'⟩)
    obtain ⟨r', h'⟩ := this
    simp [zjc h']
theorem zpq {x y : AV} {xs ys : List AV} {r : Bool} (h : zc (x :: xs) (y :: ys) = some r) : ∃ r1 r2, zc [x] [y] = some r1 ∧ zc xs ys = some r2 ∧ r = (r1 && r2) := by
  cases x <;> cases y <;> simp only [zc] at h ⊢ <;> first
    | (cases h; done)
    | (split at h
       · rename_i hk
         obtain ⟨r', h', rfl⟩ := Option.map_eq_some_iff.1 h
         exact ⟨_, r', by rw [if_pos hk]; rfl, h', by simp⟩
       · cases h)
    | (obtain ⟨r', h', rfl⟩ := Option.map_eq_some_iff.1 h
       exact ⟨_, r', rfl, h', by simp⟩)
theorem zfz : ∀ {xs ys : List AV} {r1 r2 : Bool} {us vs : List AV}, zc xs ys = some r1 → zc us vs = some r2 → zc (xs ++ us) (ys ++ vs) = some (r1 && r2)
  | [], [], r1, r2, us, vs, h, k => by simp [zc] at h; subst h; simpa using k
  | [], _ :: _, _, _, _, _, h, _ => by simp [zc] at h
  | x :: xs, [], _, _, _, _, h, _ => by cases x <;> simp [zc] at h
  | x :: xs, y :: ys, r1, r2, us, vs, h, k => by
    cases x <;> cases y <;> simp only [zc, List.cons_append] at h ⊢ <;> first
      | (cases h; done)
      | (split at h
         · rename_i hk
           obtain ⟨r', h', rfl⟩ := Option.map_eq_some_iff.1 h
           rw [if_pos hk, zfz h' k]; simp [Bool.and_assoc]
         · cases h)
      | (obtain ⟨r', h', rfl⟩ := Option.map_eq_some_iff.1 h
         rw [zfz h' k]; simp [Bool.and_assoc])
theorem zgr : ∀ (n : Nat) {xs ys : List AV} {r : Bool}, zc xs ys = some r → ∃ r1 r2, zc (xs.take n) (ys.take n) = some r1 ∧ zc (xs.drop n) (ys.drop n) = some r2 ∧ r = (r1 && r2)
  | 0, xs, ys, r, h => ⟨true, r, by simp [zc], by simpa using h, by simp⟩
  | n + 1, [], [], r, h => ⟨true, r, by simp [zc], by simpa using h, by simp⟩
  | n + 1, [], _ :: _, r, h => by simp [zc] at h
  | n + 1, x :: xs, [], r, h => by cases x <;> simp [zc] at h
  | n + 1, x :: xs, y :: ys, r, h => by
    obtain ⟨r1, r2, h1, h2, rfl⟩ := zpq h
    obtain ⟨q1, q2, g1, g2, rfl⟩ := zgr n h2
    refine ⟨r1 && q1, q2, ?_, by simpa using g2, by simp [Bool.and_assoc]⟩
    simpa using zfz h1 g1
theorem zeo : ∀ {a b c : List AV}, (zc a b).isSome = true → (zc b c).isSome = true → (zc a c).isSome = true
  | [], [], c, _, h => h
  | [], _ :: _, _, h, _ => by simp [zc] at h
  | x :: a, [], _, h, _ => by cases x <;> simp [zc] at h
  | x :: a, y :: b, [], _, h => by cases y <;> simp [zc] at h
  | x :: a, y :: b, z :: c, h, k => by
    cases x <;> cases y <;> simp only [zc] at h <;> try (cases h; done)
    all_goals
      cases z <;> simp only [zc] at k <;> try (cases k; done)
    · split at h
      · rename_i h1
        split at k
        · rename_i h2
          simp only [zc]
          rw [if_pos (h1.trans h2)]
          have := zeo (a := a) (b := b) (c := c) (by simpa using h) (by simpa using k)
          simpa using this
        · cases k
      · cases h
    · have := zeo (a := a) (b := b) (c := c) (by simpa using h) (by simpa using k)
      simpa [zc] using this
    · have := zeo (a := a) (b := b) (c := c) (by simpa using h) (by simpa using k)
      simpa [zc] using this
theorem zoa (n : Nat) {xs ys : List AV} (h : (zc xs ys).isSome = true) : (zc (xs.take n) (ys.take n)).isSome = true ∧ (zc (xs.drop n) (ys.drop n)).isSome = true := by
  obtain ⟨r, hr⟩ := Option.isSome_iff_exists.1 h
  obtain ⟨r1, r2, h1, h2, _⟩ := zgr n hr
  exact ⟨by rw [h1]; rfl, by rw [h2]; rfl⟩
section
variable {P : Program}
def zpy (P : Program) (t : TypeId) (z : AV) : Prop := match z with
  | .int k _ => P.underlying t = some (.int k)
  | .str _ => P.underlying t = some .string
  | .bool _ => P.underlying t = some .bool
  | _ => False
theorem zox {t : TypeId} {k : Nat} {w : World} {K : ze} {ρ : Nat → Loc} {A : Nat → Prop} {z v u : AV} {a b : Value} {r : Bool} (hu : zpy P t z) (hz : (zc [z] [v]).isSome = true)
    (hv : VRel K ρ A v a) (hw : VRel K ρ A u b) (he : zc [v] [u] = some r) : (Op.equalIn (k + 1) t a b).run P w = .ok r w := by
  cases z <;> simp only [zpy] at hu <;> cases v <;> simp only [zc] at hz <;> (try (cases hz; done)) <;> cases u <;> simp only [zc] at he <;> (try (cases he; done)) <;> cases hv <;> cases hw
  · split at he
    · rename_i hk
      subst hk
      rw [run_equalIn_int w k t _ _ _ _ hu]
      simpa using he
    · cases he
  · rw [run_equalIn_bool' w k t _ _ hu]; simpa using he
  · rw [run_equalIn_string w k t _ _ hu]; simpa [ByteArray.toList_eq] using he
def zwc (P : Program) (d : Nat) (t : TypeId) (zs : List AV) : Prop := ∃ a, atOf P t = some a ∧ zs.length = a.size ∧ (a.kind.isAgg = false → a.size = 1) ∧ ∀ (k : Nat), d ≤ k → ∀ (w : World) (K : ze) (ρ : Nat → Loc) (A : Nat → Prop) (cells cells' : List AV) (off : Nat) (v u : AV) (r : Bool) (x y : Value),
    ldv a.kind.isAgg a.size cells off = some v → ldv a.kind.isAgg a.size cells' off = some u → (zc zs ((cells.drop off).take a.size)).isSome = true → zc ((cells.drop off).take a.size) ((cells'.drop off).take a.size) = some r → VRel K ρ A v x → VRel K ρ A u y →
    (Op.equalIn k t x y).run P w = .ok r w
theorem zig {d : Nat} {t : TypeId} {z : AV} (hu : zpy P t z) (hs : zia P t = true) : zwc P (d + 1) t [z] := by
  unfold zia at hs
  cases ha : atOf P t with
  | none => rw [ha] at hs; cases hs
  | some a =>
    rw [ha] at hs
    simp only [Bool.and_eq_true] at hs
    have hag : a.kind.isAgg = false := by simpa using hs.1
    have hsz : a.size = 1 := Nat.eq_of_beq_eq_true hs.2
    refine ⟨a, ha, by rw [hsz]; rfl, fun _ => hsz, fun k hk w K ρ A cells cells' off v u r x y e1 e2 e0 e3 r1 r2 => ?_⟩
    simp only [ldv, hag, cond_false] at e1 e2
    have t1 : ∀ {l : List AV} {q : AV}, l[off]? = some q → (l.drop off).take 1 = [q] := by
      intro l q hl
      obtain ⟨hlt, rfl⟩ := List.getElem?_eq_some_iff.1 hl
      rw [List.drop_eq_getElem_cons hlt]; rfl
    rw [hsz, t1 e1] at e0
    rw [hsz, t1 e1, t1 e2] at e3
    obtain ⟨k', rfl⟩ : ∃ k', k = k' + 1 := ⟨k - 1, by omega⟩
    exact zox hu e0 r1 r2 e3
theorem zpp : ∀ (d : Nat) (t : TypeId) (zs : List AV), zfy P d t = some zs → zwc P d t zs
  | 0, t, zs, h => by cases h
  | d + 1, t, zs, h => by
    unfold zfy at h
    split at h
    · rename_i ki hu
      split at h
      · rename_i hs; cases h; exact zig hu hs
      · cases h
    · rename_i hu
      split at h
      · rename_i hs; cases h; exact zig hu hs
      · cases h
    · rename_i hu
      split at h
      · rename_i hs; cases h; exact zig hu hs
      · cases h
    · rename_i fs hu
      by_cases hc : P.stoodInHeld t = false ∧ (match atOf P t with | some a => a.kind.isAgg | none => false) = true
      case neg => rw [if_neg hc] at h; cases h
      rw [if_pos hc] at h
      obtain ⟨hst, h3⟩ := hc
      split at h
      case h_2 => cases h
      rename_i zs' hf
      split at h
      case isFalse => cases h
      rename_i hlen
      obtain rfl := Option.some.inj h
      cases ha : atOf P t with
      | none => rw [ha] at h3; cases h3
      | some a =>
        rw [ha] at h3
        simp only at h3
        have hl : zs'.length = a.size := by rw [hlen]; unfold szAt; rw [ha]
        refine ⟨a, ha, hl, fun e => (by rw [h3] at e; cases e), fun k hk w K ρ A cells cells' off v u r x y e1 e2 e0 e3 r1 r2 => ?_⟩
        simp only [ldv, h3, cond_true] at e1 e2
        split at e1
        case isFalse => cases e1
        rename_i l1
        split at e2
        case isFalse => cases e2
        rename_i l2
        cases e1
        cases e2
        cases r1 with
        | agg _ cs g1 g2 =>
        cases r2 with
        | agg _ ds g3 g4 =>
        obtain ⟨k', rfl⟩ : ∃ k', k = k' + 1 := ⟨k - 1, by omega⟩
        have hfo : P.fieldsOf t = fs := by simp [Program.fieldsOf, hu]
        rw [run_equalIn_struct w k' t cs ds (by rw [hfo]; exact hu) hst, hfo]
        have loop : ∀ (fl : List Field) (o : Nat) (zs xs ys : List AV) (r : Bool), zfp (zfy P d) fl o = some zs → LRel K ρ A xs cs.toList → LRel K ρ A ys ds.toList → xs.length = o + zs.length → ys.length = o + zs.length →
            (zc zs (xs.drop o)).isSome = true → zc (xs.drop o) (ys.drop o) = some r → (Op.eqFields k' cs ds fl).run P w = .ok r w := by
          intro fl
          induction fl with
          | nil =>
            intro o zs xs ys r hf q1 q2 n1 n2 hz he
            simp only [zfp, Option.some.injEq] at hf
            subst hf
            simp only [List.length_nil] at n1 n2
            rw [List.drop_of_length_le (by omega), List.drop_of_length_le (by omega)] at he
            simp only [zc, Option.some.injEq] at he
            simp [Op.eqFields, Sem.run_pure, he]
          | cons f fl ih =>
            intro o zs xs ys r hf q1 q2 n1 n2 hz he
            unfold zfp at hf
            split at hf
            case isFalse => cases hf
            rename_i hc
            obtain ⟨c1, c2⟩ := hc
            split at hf
            case h_2 => cases hf
            rename_i z hzk
            split at hf
            case h_2 => cases hf
            rename_i zr hzr
            obtain rfl := Option.some.inj hf
            obtain ⟨b, hb, hzl, hb1, hrun⟩ := zpp d f.type z hzk
            rw [List.length_append] at n1 n2
            obtain ⟨s1, s2, t1, t2, rfl⟩ := zgr z.length he
            obtain ⟨z1, z2⟩ := zoa z.length hz
            rw [List.take_left] at z1
            rw [List.drop_left, List.drop_drop] at z2
            rw [List.drop_drop, List.drop_drop] at t2
            obtain ⟨i, dd, zv, hb'⟩ := (show TOk P (atOf P) from fun _ _ h => h).at hb
            have ld : ∀ l : List AV, l.length = o + (z.length + zr.length) → ∃ q, ldv b.kind.isAgg b.size l o = some q := by
              intro l hl
              unfold ldv
              cases hag : b.kind.isAgg with
              | true => rw [cond_true, if_pos (by omega)]; exact ⟨_, rfl⟩
              | false =>
                rw [cond_false]
                have := hb1 hag
                exact ⟨_, List.getElem?_eq_getElem (by omega)⟩
            obtain ⟨p, hp⟩ := ld xs n1
            obtain ⟨q, hq⟩ := ld ys n2
            obtain ⟨pv, hpv, hpr⟩ := zgd (P := P) (w := w) hb' q1 hp
            obtain ⟨qv, hqv, hqr⟩ := zgd (P := P) (w := w) hb' q2 hq
            have hone := hrun k' (by omega) w K ρ A xs ys o p q s1 pv qv hp hq (by rw [← hzl]; exact z1) (by rw [← hzl]; exact t1) hpr hqr
            have hrest := ih (o + z.length) zr xs ys s2 hzr q1 q2 (by omega) (by omega) z2 t2
            simp only [Op.eqFields, c1, ne_eq, not_false_eq_true, if_true, Sem.run_bind, c2, hpv, hqv, hone, Result.andThen_ok]
            cases s1
            · simp [Sem.run_pure]
            · simpa using hrest
        refine loop fs.toList 0 zs' _ _ r hf ⟨by simpa using g1, fun j v c h1 h2 => g2 j v c h1 (by simpa using h2)⟩ ⟨by simpa using g3, fun j v c h1 h2 => g4 j v c h1 (by simpa using h2)⟩ (by simp; omega) (by simp; omega) ?_ ?_
        · simpa using e0
        · simpa using e3
    · cases h
theorem zwy {d : Nat} {t : TypeId} {a : AT} {zs : List AV} (hd : d ≤ 10000) (h : zfy P d t = some zs) (hz : (zc zs a.zero).isSome = true) (hg : P.eqGuardType P.depth t = false) (ha : atOf P t = some a) (hag : a.kind.isAgg = true) : EqTy P t a.zero := by
  intro w K ρ A xs ys cs ds r x y op q1 q2 hl he
  obtain ⟨a', ha', hzl, _, hrun⟩ := zpp d t zs h
  obtain rfl : a = a' := Option.some.inj (ha.symm.trans ha')
  have hlen := zjc he
  have hzx := zeo hz hl
  have hxl : zs.length = xs.length := by obtain ⟨r0, h0⟩ := Option.isSome_iff_exists.1 hzx; exact zjc h0
  refine ⟨?_, run_eqGuard_agg w op t x y cs ds hg⟩
  unfold Op.equal Op.maxDepth
  have full : ∀ l : List AV, l.length = a.size → (l.drop 0).take a.size = l := fun l hl => by rw [List.drop_zero, List.take_of_length_le (by omega)]
  refine hrun 10000 hd w K ρ A xs ys 0 (.agg xs) (.agg ys) r _ _ ?_ ?_ ?_ ?_ (LRel.agg q1) (LRel.agg q2)
  · simp only [ldv, hag, cond_true]; rw [if_pos (by omega), full xs (by omega)]
  · simp only [ldv, hag, cond_true]; rw [if_pos (by omega), full ys (by omega)]
  · rw [full xs (by omega)]; exact hzx
  · rw [full xs (by omega), full ys (by omega)]; exact he
theorem zux {T : Nat → Option AT} (hT : TOk P T) : EOk P T (zrt P) := by
  intro t a h ht
  have ha := hT t a ht
  unfold zrt at h
  rw [ha] at h
  simp only [Bool.and_eq_true] at h
  obtain ⟨⟨h1, h2⟩, h3⟩ := h
  cases hk : zfy P 4 t with
  | none => rw [hk] at h2; cases h2
  | some zs =>
    rw [hk] at h2
    exact zwy (by omega) hk h2 (by simpa using h3) ha h1
end
end Go.Proofs.YtpllgpgdcbgalaaDoor
namespace Go.Proofs.YtpllgpgdcbgalaaDoor
open Go Go.RowKit
theorem mixed : Tryd.prog.follows .mixedOrders = true := by kernel_rfl
noncomputable def tab : Nat → Option AT := atOf Tryd.prog
theorem zaa : TOk Tryd.prog tab := fun _ _ h => h
def zrd (t : Nat) : Bool := Nat.blt t 1000000
noncomputable def eqsT (t : Nat) : Bool := bif zrd t then zrt Tryd.prog t else false
theorem zac : EOk Tryd.prog tab eqsT := by
  intro t a h ht
  unfold eqsT at h
  generalize zrd t = b at h
  cases b with
  | true => rw [cond_true] at h; exact zux zaa t a h ht
  | false => rw [cond_false] at h; cases h
end Go.Proofs.YtpllgpgdcbgalaaDoor
