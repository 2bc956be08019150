/- Structures that are compared by their cells. The program's types, as its own table has them. What is to be shown of each function, written out. DERIVED: THE SHELF's CONTRACTS AT THIS DUMP, IN PLAIN WORDS (tools/lay-plain.mjs out of 'YtpllgpgdcbgalaaDoorShelf0.lean', which tools/lay-shelf.mjs wrote): THE SAME DECLARATIONS UNDER THE SAME NAMES: 'import', 'namespace', 'open', 'def', 'theorem' AND NOTHING ELSE: no command of the shelf's: FOR A HAND-IN. Each laying: the table of numbers ('.._ren') and one theorem, a field a fact of the dump's own or the kernel's comparison; each contract: ONE APPLICATION. strconv.Itoa: a number's digits. strconv.Atoi: a word's number, and whether it is one. The parser's small functions. The parser's names and words. The parser: up to a bracket. The parser as plain functions of its state: the text that is left, and what was wrong first. The parser: statements as plain functions; up to a bracket, as a plain function. A call that changes what it is handed by address, where the order is drawn. A call that changes what it is handed by address, where the order is drawn: what it leaves names no more than what was there named. -/
import Derived.Test.YtpllgpgdcbgalaaDoorG3
import Derived.Laws.StructEq
import Derived.Test.YtpllgpgdcbgalaaDoorChecked
import Derived.Test.YtpllgpgdcbgalaaDoorG4
import Derived.KernelRfl
import Derived.Test.YtpllgpgdcbgalaaDoorG5
import Derived.Shelf.Small.Strs
import Derived.Shelf.Strconv.Atoi
import Derived.Shelf.Strconv.Itoa0
import Derived.Shelf.Strconv.Itoa1
import Derived.Shelf.LaysM
import Derived.Shelf.Strconv.Itoa2
import Derived.Shelf.Strconv.Itoa3
import Derived.Shelf.Strconv.AtoiErrFast
import Derived.Shelf.Strconv.ParseIntEmpty
import Derived.Shelf.Strconv.AtoiFail
import Derived.Shelf.Strconv.Clone
import Derived.Shelf.Strconv.SyntaxError
import Derived.Shelf.LaysC
import Derived.Shelf.Strconv.ToError
import Derived.Shelf.Strconv.Lower
import Derived.Shelf.Strconv.ParseUint10
import Derived.Shelf.Strconv.ParseUint10Empty
import Derived.Shelf.Strconv.ParseUint10Any
import Derived.Shelf.Strconv.ParseInt10
import Derived.Shelf.Strconv.AtoiLong
import Derived.Shelf.Strconv.AtoiInnerAll
import Derived.Shelf.Strconv.RangeError
import Derived.Shelf.Strconv.ToErrorRange
import Derived.Shelf.Strconv.AtoiAll
import Derived.Shelf.Strconv.ErrVarAll
import Derived.Shelf.Strings.Search1
import Derived.Shelf.Strings.Search2
import Derived.Shelf.Strings.Search3
import Derived.Shelf.Strings.Shaped
import Derived.Ground.Names2Prog
import Derived.Test.YtpllgpgdcbgalaaDoorProg
import Derived.Lib.ItoaLen
set_option linter.unusedSimpArgs false
set_option linter.unusedVariables false
namespace Go.Proofs.YtpllgpgdcbgalaaDoor
open Go Go.RowKit
section
variable (P : Program)
def szAt (t : TypeId) : Nat := match atOf P t with | some a => a.size | none => 0
def zhv (t : TypeId) : Bool := match atOf P t with | some a => !a.kind.isAgg && Nat.beq a.size 1 | none => false
def zer (ok : TypeId → Option (List AV)) : List Field → Nat → Option (List AV)
  | [], _ => some []
  | f :: r, off => if f.name ≠ "_" ∧ f.offset = off then match ok f.type with
      | some z => match zer ok r (off + z.length) with
        | some zr => some (z ++ zr)
        | none => none
      | none => none
    else none
def zgc : Nat → TypeId → Option (List AV)
  | 0, _ => none
  | d + 1, t => match P.underlying t with
    | some (.int k) => if zhv P t = true then some [.int k 0] else none
    | some .string => if zhv P t = true then some [.str []] else none
    | some .bool => if zhv P t = true then some [.bool false] else none
    | some (.struct fs) => if P.stoodInHeld t = false ∧ (match atOf P t with | some a => a.kind.isAgg | none => false) = true then match zer (zgc d) fs.toList 0 with
        | some zs => if zs.length = szAt P t then some zs else none
        | none => none
      else none
    | _ => none
def zsb (t : TypeId) : Bool := match atOf P t with
  | some a => a.kind.isAgg && (match zgc P 4 t with | some zs => (zc zs a.zero).isSome | none => false) && !(P.eqGuardType P.depth t)
  | none => false
end
theorem zji : ∀ {xs ys : List AV} {r : Bool}, zc xs ys = some r → xs.length = ys.length
  | [], [], _, _ => rfl
  | [], _ :: _, _, h => by simp [zc] at h
  | x :: xs, [], _, h => by cases x <;> simp [zc] at h
  | x :: xs, y :: ys, r, h => by
    have : ∃ r', zc xs ys = some r' := by
      cases x <;> cases y <;> simp only [zc] at h <;> first
        | (cases h; done)
        | (split at h
           · obtain ⟨r', h', _⟩ := Option.map_eq_some_iff.1 h; exact ⟨r', h'⟩
           · cases h)
        | (obtain ⟨r', h', _⟩ := Option.map_eq_some_iff.1 h; exact ⟨r', h'⟩)
    obtain ⟨r', h'⟩ := this
    simp [zji h']
theorem zpv {x y : AV} {xs ys : List AV} {r : Bool} (h : zc (x :: xs) (y :: ys) = some r) : ∃ r1 r2, zc [x] [y] = some r1 ∧ zc xs ys = some r2 ∧ r = (r1 && r2) := by
  cases x <;> cases y <;> simp only [zc] at h ⊢ <;> first
    | (cases h; done)
    | (split at h
       · rename_i hk
         obtain ⟨r', h', rfl⟩ := Option.map_eq_some_iff.1 h
         exact ⟨_, r', by rw [if_pos hk]; rfl, h', by simp⟩
       · cases h)
    | (obtain ⟨r', h', rfl⟩ := Option.map_eq_some_iff.1 h
       exact ⟨_, r', rfl, h', by simp⟩)
theorem zgd : ∀ {xs ys : List AV} {r1 r2 : Bool} {us vs : List AV}, zc xs ys = some r1 → zc us vs = some r2 → zc (xs ++ us) (ys ++ vs) = some (r1 && r2)
  | [], [], r1, r2, us, vs, h, k => by simp [zc] at h; subst h; simpa using k
  | [], _ :: _, _, _, _, _, h, _ => by simp [zc] at h
  | x :: xs, [], _, _, _, _, h, _ => by cases x <;> simp [zc] at h
  | x :: xs, y :: ys, r1, r2, us, vs, h, k => by
    cases x <;> cases y <;> simp only [zc, List.cons_append] at h ⊢ <;> first
      | (cases h; done)
      | (split at h
         · rename_i hk
           obtain ⟨r', h', rfl⟩ := Option.map_eq_some_iff.1 h
           rw [if_pos hk, zgd h' k]; simp [Bool.and_assoc]
         · cases h)
      | (obtain ⟨r', h', rfl⟩ := Option.map_eq_some_iff.1 h
         rw [zgd h' k]; simp [Bool.and_assoc])
theorem zhd : ∀ (n : Nat) {xs ys : List AV} {r : Bool}, zc xs ys = some r → ∃ r1 r2, zc (xs.take n) (ys.take n) = some r1 ∧ zc (xs.drop n) (ys.drop n) = some r2 ∧ r = (r1 && r2)
  | 0, xs, ys, r, h => ⟨true, r, by simp [zc], by simpa using h, by simp⟩
  | n + 1, [], [], r, h => ⟨true, r, by simp [zc], by simpa using h, by simp⟩
  | n + 1, [], _ :: _, r, h => by simp [zc] at h
  | n + 1, x :: xs, [], r, h => by cases x <;> simp [zc] at h
  | n + 1, x :: xs, y :: ys, r, h => by
    obtain ⟨r1, r2, h1, h2, rfl⟩ := zpv h
    obtain ⟨q1, q2, g1, g2, rfl⟩ := zhd n h2
    refine ⟨r1 && q1, q2, ?_, by simpa using g2, by simp [Bool.and_assoc]⟩
    simpa using zgd h1 g1
theorem zdx : ∀ {a b c : List AV}, (zc a b).isSome = true → (zc b c).isSome = true → (zc a c).isSome = true
  | [], [], c, _, h => h
  | [], _ :: _, _, h, _ => by simp [zc] at h
  | x :: a, [], _, h, _ => by cases x <;> simp [zc] at h
  | x :: a, y :: b, [], _, h => by cases y <;> simp [zc] at h
  | x :: a, y :: b, z :: c, h, k => by
    cases x <;> cases y <;> simp only [zc] at h <;> try (cases h; done)
    all_goals
      cases z <;> simp only [zc] at k <;> try (cases k; done)
    · split at h
      · rename_i h1
        split at k
        · rename_i h2
          simp only [zc]
          rw [if_pos (h1.trans h2)]
          have := zdx (a := a) (b := b) (c := c) (by simpa using h) (by simpa using k)
          simpa using this
        · cases k
      · cases h
    · have := zdx (a := a) (b := b) (c := c) (by simpa using h) (by simpa using k)
      simpa [zc] using this
    · have := zdx (a := a) (b := b) (c := c) (by simpa using h) (by simpa using k)
      simpa [zc] using this
theorem zny (n : Nat) {xs ys : List AV} (h : (zc xs ys).isSome = true) : (zc (xs.take n) (ys.take n)).isSome = true ∧ (zc (xs.drop n) (ys.drop n)).isSome = true := by
  obtain ⟨r, hr⟩ := Option.isSome_iff_exists.1 h
  obtain ⟨r1, r2, h1, h2, _⟩ := zhd n hr
  exact ⟨by rw [h1]; rfl, by rw [h2]; rfl⟩
section
variable {P : Program}
def zqf (P : Program) (t : TypeId) (z : AV) : Prop := match z with
  | .int k _ => P.underlying t = some (.int k)
  | .str _ => P.underlying t = some .string
  | .bool _ => P.underlying t = some .bool
  | _ => False
theorem zoy {t : TypeId} {k : Nat} {w : World} {K : ze} {ρ : Nat → Loc} {A : Nat → Prop} {z v u : AV} {a b : Value} {r : Bool} (hu : zqf P t z) (hz : (zc [z] [v]).isSome = true)
    (hv : VRel K ρ A v a) (hw : VRel K ρ A u b) (he : zc [v] [u] = some r) : (Op.equalIn (k + 1) t a b).run P w = .ok r w := by
  cases z <;> simp only [zqf] at hu <;> cases v <;> simp only [zc] at hz <;> (try (cases hz; done)) <;> cases u <;> simp only [zc] at he <;> (try (cases he; done)) <;> cases hv <;> cases hw
  · split at he
    · rename_i hk
      subst hk
      rw [run_equalIn_int w k t _ _ _ _ hu]
      simpa using he
    · cases he
  · rw [run_equalIn_bool' w k t _ _ hu]; simpa using he
  · rw [run_equalIn_string w k t _ _ hu]; simpa [ByteArray.toList_eq] using he
def zvl (P : Program) (d : Nat) (t : TypeId) (zs : List AV) : Prop := ∃ a, atOf P t = some a ∧ zs.length = a.size ∧ (a.kind.isAgg = false → a.size = 1) ∧ ∀ (k : Nat), d ≤ k → ∀ (w : World) (K : ze) (ρ : Nat → Loc) (A : Nat → Prop) (cells cells' : List AV) (off : Nat) (v u : AV) (r : Bool) (x y : Value),
    ldv a.kind.isAgg a.size cells off = some v → ldv a.kind.isAgg a.size cells' off = some u → (zc zs ((cells.drop off).take a.size)).isSome = true → zc ((cells.drop off).take a.size) ((cells'.drop off).take a.size) = some r → VRel K ρ A v x → VRel K ρ A u y →
    (Op.equalIn k t x y).run P w = .ok r w
theorem zic {d : Nat} {t : TypeId} {z : AV} (hu : zqf P t z) (hs : zhv P t = true) : zvl P (d + 1) t [z] := by
  unfold zhv at hs
  cases ha : atOf P t with
  | none => rw [ha] at hs; cases hs
  | some a =>
    rw [ha] at hs
    simp only [Bool.and_eq_true] at hs
    have hag : a.kind.isAgg = false := by simpa using hs.1
    have hsz : a.size = 1 := Nat.eq_of_beq_eq_true hs.2
    refine ⟨a, ha, by rw [hsz]; rfl, fun _ => hsz, fun k hk w K ρ A cells cells' off v u r x y e1 e2 e0 e3 r1 r2 => ?_⟩
    simp only [ldv, hag, cond_false] at e1 e2
    have t1 : ∀ {l : List AV} {q : AV}, l[off]? = some q → (l.drop off).take 1 = [q] := by
      intro l q hl
      obtain ⟨hlt, rfl⟩ := List.getElem?_eq_some_iff.1 hl
      rw [List.drop_eq_getElem_cons hlt]; rfl
    rw [hsz, t1 e1] at e0
    rw [hsz, t1 e1, t1 e2] at e3
    obtain ⟨k', rfl⟩ : ∃ k', k = k' + 1 := ⟨k - 1, by omega⟩
    exact zoy hu e0 r1 r2 e3
theorem zpu : ∀ (d : Nat) (t : TypeId) (zs : List AV), zgc P d t = some zs → zvl P d t zs
  | 0, t, zs, h => by cases h
  | d + 1, t, zs, h => by
    unfold zgc at h
    split at h
    · rename_i ki hu
      split at h
      · rename_i hs; cases h; exact zic hu hs
      · cases h
    · rename_i hu
      split at h
      · rename_i hs; cases h; exact zic hu hs
      · cases h
    · rename_i hu
      split at h
      · rename_i hs; cases h; exact zic hu hs
      · cases h
    · rename_i fs hu
      by_cases hc : P.stoodInHeld t = false ∧ (match atOf P t with | some a => a.kind.isAgg | none => false) = true
      case neg => rw [if_neg hc] at h; cases h
      rw [if_pos hc] at h
      obtain ⟨hst, h3⟩ := hc
      split at h
      case h_2 => cases h
      rename_i zs' hf
      split at h
      case isFalse => cases h
      rename_i hlen
      obtain rfl := Option.some.inj h
      cases ha : atOf P t with
      | none => rw [ha] at h3; cases h3
      | some a =>
        rw [ha] at h3
        simp only at h3
        have hl : zs'.length = a.size := by rw [hlen]; unfold szAt; rw [ha]
        refine ⟨a, ha, hl, fun e => (by rw [h3] at e; cases e), fun k hk w K ρ A cells cells' off v u r x y e1 e2 e0 e3 r1 r2 => ?_⟩
        simp only [ldv, h3, cond_true] at e1 e2
        split at e1
        case isFalse => cases e1
        rename_i l1
        split at e2
        case isFalse => cases e2
        rename_i l2
        cases e1
        cases e2
        cases r1 with
        | agg _ cs g1 g2 =>
        cases r2 with
        | agg _ ds g3 g4 =>
        obtain ⟨k', rfl⟩ : ∃ k', k = k' + 1 := ⟨k - 1, by omega⟩
        have hfo : P.fieldsOf t = fs := by simp [Program.fieldsOf, hu]
        rw [run_equalIn_struct w k' t cs ds (by rw [hfo]; exact hu) hst, hfo]
        have loop : ∀ (fl : List Field) (o : Nat) (zs xs ys : List AV) (r : Bool), zer (zgc P d) fl o = some zs → LRel K ρ A xs cs.toList → LRel K ρ A ys ds.toList → xs.length = o + zs.length → ys.length = o + zs.length →
            (zc zs (xs.drop o)).isSome = true → zc (xs.drop o) (ys.drop o) = some r → (Op.eqFields k' cs ds fl).run P w = .ok r w := by
          intro fl
          induction fl with
          | nil =>
            intro o zs xs ys r hf q1 q2 n1 n2 hz he
            simp only [zer, Option.some.injEq] at hf
            subst hf
            simp only [List.length_nil] at n1 n2
            rw [List.drop_of_length_le (by omega), List.drop_of_length_le (by omega)] at he
            simp only [zc, Option.some.injEq] at he
            simp [Op.eqFields, Sem.run_pure, he]
          | cons f fl ih =>
            intro o zs xs ys r hf q1 q2 n1 n2 hz he
            unfold zer at hf
            split at hf
            case isFalse => cases hf
            rename_i hc
            obtain ⟨c1, c2⟩ := hc
            split at hf
            case h_2 => cases hf
            rename_i z hzk
            split at hf
            case h_2 => cases hf
            rename_i zr hzr
            obtain rfl := Option.some.inj hf
            obtain ⟨b, hb, hzl, hb1, hrun⟩ := zpu d f.type z hzk
            rw [List.length_append] at n1 n2
            obtain ⟨s1, s2, t1, t2, rfl⟩ := zhd z.length he
            obtain ⟨z1, z2⟩ := zny z.length hz
            rw [List.take_left] at z1
            rw [List.drop_left, List.drop_drop] at z2
            rw [List.drop_drop, List.drop_drop] at t2
            obtain ⟨i, dd, zv, hb'⟩ := (show TOk P (atOf P) from fun _ _ h => h).at hb
            have ld : ∀ l : List AV, l.length = o + (z.length + zr.length) → ∃ q, ldv b.kind.isAgg b.size l o = some q := by
              intro l hl
              unfold ldv
              cases hag : b.kind.isAgg with
              | true => rw [cond_true, if_pos (by omega)]; exact ⟨_, rfl⟩
              | false =>
                rw [cond_false]
                have := hb1 hag
                exact ⟨_, List.getElem?_eq_getElem (by omega)⟩
            obtain ⟨p, hp⟩ := ld xs n1
            obtain ⟨q, hq⟩ := ld ys n2
            obtain ⟨pv, hpv, hpr⟩ := zgg (P := P) (w := w) hb' q1 hp
            obtain ⟨qv, hqv, hqr⟩ := zgg (P := P) (w := w) hb' q2 hq
            have hone := hrun k' (by omega) w K ρ A xs ys o p q s1 pv qv hp hq (by rw [← hzl]; exact z1) (by rw [← hzl]; exact t1) hpr hqr
            have hrest := ih (o + z.length) zr xs ys s2 hzr q1 q2 (by omega) (by omega) z2 t2
            simp only [Op.eqFields, c1, ne_eq, not_false_eq_true, if_true, Sem.run_bind, c2, hpv, hqv, hone, Result.andThen_ok]
            cases s1
            · simp [Sem.run_pure]
            · simpa using hrest
        refine loop fs.toList 0 zs' _ _ r hf ⟨by simpa using g1, fun j v c h1 h2 => g2 j v c h1 (by simpa using h2)⟩ ⟨by simpa using g3, fun j v c h1 h2 => g4 j v c h1 (by simpa using h2)⟩ (by simp; omega) (by simp; omega) ?_ ?_
        · simpa using e0
        · simpa using e3
    · cases h
theorem zvz {d : Nat} {t : TypeId} {a : AT} {zs : List AV} (hd : d ≤ 10000) (h : zgc P d t = some zs) (hz : (zc zs a.zero).isSome = true) (hg : P.eqGuardType P.depth t = false) (ha : atOf P t = some a) (hag : a.kind.isAgg = true) : EqTy P t a.zero := by
  intro w K ρ A xs ys cs ds r x y op q1 q2 hl he
  obtain ⟨a', ha', hzl, _, hrun⟩ := zpu d t zs h
  obtain rfl : a = a' := Option.some.inj (ha.symm.trans ha')
  have hlen := zji he
  have hzx := zdx hz hl
  have hxl : zs.length = xs.length := by obtain ⟨r0, h0⟩ := Option.isSome_iff_exists.1 hzx; exact zji h0
  refine ⟨?_, run_eqGuard_agg w op t x y cs ds hg⟩
  unfold Op.equal Op.maxDepth
  have full : ∀ l : List AV, l.length = a.size → (l.drop 0).take a.size = l := fun l hl => by rw [List.drop_zero, List.take_of_length_le (by omega)]
  refine hrun 10000 hd w K ρ A xs ys 0 (.agg xs) (.agg ys) r _ _ ?_ ?_ ?_ ?_ (LRel.agg q1) (LRel.agg q2)
  · simp only [ldv, hag, cond_true]; rw [if_pos (by omega), full xs (by omega)]
  · simp only [ldv, hag, cond_true]; rw [if_pos (by omega), full ys (by omega)]
  · rw [full xs (by omega)]; exact hzx
  · rw [full xs (by omega), full ys (by omega)]; exact he
theorem zun {T : Nat → Option AT} (hT : TOk P T) : EOk P T (zsb P) := by
  intro t a h ht
  have ha := hT t a ht
  unfold zsb at h
  rw [ha] at h
  simp only [Bool.and_eq_true] at h
  obtain ⟨⟨h1, h2⟩, h3⟩ := h
  cases hk : zgc P 4 t with
  | none => rw [hk] at h2; cases h2
  | some zs =>
    rw [hk] at h2
    exact zvz (by omega) hk h2 (by simpa using h3) ha h1
end
end Go.Proofs.YtpllgpgdcbgalaaDoor
namespace Go.Proofs.YtpllgpgdcbgalaaDoor
open Go Go.RowKit
theorem mixed : Tryd.prog.follows .mixedOrders = true := by kernel_rfl
noncomputable def tab : Nat → Option AT := atOf Tryd.prog
theorem zu : TOk Tryd.prog tab := fun _ _ h => h
def zpd (t : Nat) : Bool := Nat.blt t 1000000
noncomputable def eqsT (t : Nat) : Bool := bif zpd t then zsb Tryd.prog t else false
theorem zx : EOk Tryd.prog tab eqsT := by
  intro t a h ht
  unfold eqsT at h
  generalize zpd t = b at h
  cases b with
  | true => rw [cond_true] at h; exact zun zu t a h ht
  | false => rw [cond_false] at h; cases h
end Go.Proofs.YtpllgpgdcbgalaaDoor
set_option maxRecDepth 8000
namespace Go.Proofs.YtpllgpgdcbgalaaDoor
open Go Go.RowKit
@[simp] theorem zaaq : zb tab 2 = 1 := by kernel_rfl
@[simp] theorem zaap : zb tab 3 = 1 := by kernel_rfl
@[simp] theorem zaao : zb tab 4 = 1 := by kernel_rfl
@[simp] theorem zaan : zb tab 5 = 1 := by kernel_rfl
@[simp] theorem zaam : zb tab 6 = 1 := by kernel_rfl
@[simp] theorem zaal : zb tab 9 = 1 := by kernel_rfl
@[simp] theorem zzn : zb tab 12 = 1 := by kernel_rfl
@[simp] theorem zzm : zb tab 17 = 1 := by kernel_rfl
@[simp] theorem zzl : zb tab 22 = 1 := by kernel_rfl
@[simp] theorem zzk : zb tab 23 = 1 := by kernel_rfl
@[simp] theorem zzj : zb tab 31 = 1 := by kernel_rfl
@[simp] theorem zzi : zb tab 32 = 1 := by kernel_rfl
@[simp] theorem zzh : zb tab 38 = 1 := by kernel_rfl
@[simp] theorem zzg : zb tab 41 = 1 := by kernel_rfl
@[simp] theorem zzf : zb tab 57 = 1 := by kernel_rfl
@[simp] theorem zze : zb tab 64 = 1 := by kernel_rfl
@[simp] theorem zzd : zb tab 71 = 1 := by kernel_rfl
@[simp] theorem zzc : zb tab 88 = 1 := by kernel_rfl
@[simp] theorem zya : zb tab 120 = 1 := by kernel_rfl
@[simp] theorem zxz : zb tab 135 = 1 := by kernel_rfl
@[simp] theorem zxy : zb tab 159 = 1 := by kernel_rfl
@[simp] theorem zxx : zb tab 172 = 0 := by kernel_rfl
@[simp] theorem zxw : zb tab 176 = 1 := by kernel_rfl
@[simp] theorem zxv : zb tab 177 = 1 := by kernel_rfl
@[simp] theorem zxu : zb tab 178 = 1 := by kernel_rfl
@[simp] theorem zxt : zb tab 179 = 1 := by kernel_rfl
@[simp] theorem zxs : zb tab 180 = 1 := by kernel_rfl
def zap (Q : QT) (K1 : J3) (xs2 : List AV) (H3 : Heap) (nx4 : Nat) : Prop :=
 NC (nth xs2 0) fun v5 =>
 FA 0 v5 fun v6 =>
 LD false 1 v6 H3 fun v7 =>
 LNS v7 fun v8 =>
 BI BinOp.gtr v8 (AV.int IntKind.i64 0) fun v9 =>
 CND v9
 (NC (nth xs2 0) fun v10 =>
 FA 0 v10 fun v11 =>
 LD false 1 v11 H3 fun v12 =>
 IX v12 (AV.int IntKind.i64 0) fun v13 =>
 BI BinOp.eql v13 (AV.int IntKind.u8 32) fun v14 =>
 CND v14
 (NC (nth xs2 0) fun v15 =>
 FA 0 v15 fun v16 =>
 LD false 1 v16 H3 fun v17 =>
 SLS v17 (some (AV.int IntKind.i64 1)) none fun v18 =>
 NC (nth xs2 0) fun v19 =>
 FA 0 v19 fun v20 =>
 ST 1 v20 v18 H3 fun H21 =>
 K1 [nth xs2 0] H21 nx4)
 (NC (nth xs2 0) fun v22 =>
 FA 0 v22 fun v23 =>
 LD false 1 v23 H3 fun v24 =>
 IX v24 (AV.int IntKind.i64 0) fun v25 =>
 BI BinOp.eql v25 (AV.int IntKind.u8 10) fun v26 =>
 CNDC v26
 (NC (nth xs2 0) fun v27 =>
 FA 0 v27 fun v28 =>
 LD false 1 v28 H3 fun v29 =>
 SLS v29 (some (AV.int IntKind.i64 1)) none fun v30 =>
 NC (nth xs2 0) fun v31 =>
 FA 0 v31 fun v32 =>
 ST 1 v32 v30 H3 fun H33 =>
 K1 [nth xs2 0] H33 nx4)
 (NC (nth xs2 0) fun v34 =>
 FA 0 v34 fun v35 =>
 LD false 1 v35 H3 fun v36 =>
 LNS v36 fun v37 =>
 BI BinOp.eql v37 (AV.int IntKind.i64 0) fun v38 =>
 CNDC v38
 (Q (AV.int IntKind.u8 0) H3 nx4)
 (NC (nth xs2 0) fun v39 =>
 FA 0 v39 fun v40 =>
 LD false 1 v40 H3 fun v41 =>
 IX v41 (AV.int IntKind.i64 0) fun v42 =>
 BI BinOp.eql v42 (AV.int IntKind.u8 0) fun v43 =>
 CNDC v43
 (Q (AV.int IntKind.u8 1) H3 nx4)
 (NC (nth xs2 0) fun v44 =>
 FA 0 v44 fun v45 =>
 LD false 1 v45 H3 fun v46 =>
 IX v46 (AV.int IntKind.i64 0) fun v47 =>
 Q v47 H3 nx4)))))
 (NC (nth xs2 0) fun v48 =>
 FA 0 v48 fun v49 =>
 LD false 1 v49 H3 fun v50 =>
 LNS v50 fun v51 =>
 BI BinOp.eql v51 (AV.int IntKind.i64 0) fun v52 =>
 CNDC v52
 (Q (AV.int IntKind.u8 0) H3 nx4)
 (NC (nth xs2 0) fun v53 =>
 FA 0 v53 fun v54 =>
 LD false 1 v54 H3 fun v55 =>
 IX v55 (AV.int IntKind.i64 0) fun v56 =>
 BI BinOp.eql v56 (AV.int IntKind.u8 0) fun v57 =>
 CNDC v57
 (Q (AV.int IntKind.u8 1) H3 nx4)
 (NC (nth xs2 0) fun v58 =>
 FA 0 v58 fun v59 =>
 LD false 1 v59 H3 fun v60 =>
 IX v60 (AV.int IntKind.i64 0) fun v61 =>
 Q v61 H3 nx4)))
def zho (a0 : AV) (H : Heap) (nx : Nat) (Q : QT) : Prop :=
 LP (zap Q) [a0] H nx
theorem zky (a0 : AV) (H : Heap) (nx : Nat) (Q : QT) : zho a0 H nx Q → za Tryd.prog 27 [a0] H nx Q :=
  zg (lv := lvOf [(2, 1, [0])]) (c := zj Tryd.f27) zu zx mixed Tryd.func27 (by kernel_rfl) (by kernel_rfl) (by kernel_rfl) (by kernel_rfl) (by kernel_rfl)
def zed (a0 a1 : AV) (H : Heap) (nx : Nat) (Q : QT) : Prop :=
 NC a0 fun v1 =>
 FA 1 v1 fun v2 =>
 LD false 1 v2 H fun v3 =>
 BI BinOp.eql v3 (AV.int IntKind.i64 0) fun v4 =>
 CNDC v4
 (NC a0 fun v5 =>
 FA 1 v5 fun v6 =>
 ST 1 v6 a1 H fun H7 =>
 Q (AV.tup []) H7 nx)
 (Q (AV.tup []) H nx)
theorem zkz (a0 a1 : AV) (H : Heap) (nx : Nat) (Q : QT) : zed a0 a1 H nx Q → za Tryd.prog 48 [a0, a1] H nx Q :=
  zg (lv := lvOf []) (c := zj Tryd.f48) zu zx mixed Tryd.func48 (by kernel_rfl) (by kernel_rfl) (by kernel_rfl) (by kernel_rfl) (by kernel_rfl)
def zdh (Q : QT) (K13 : J3) (xs14 : List AV) (H15 : Heap) (nx16 : Nat) : Prop :=
 BI BinOp.lss (nth xs14 2) (nth xs14 1) fun v17 =>
 CNDC v17
 (IX (nth xs14 0) (nth xs14 2) fun v18 =>
 BI BinOp.lss v18 (AV.int IntKind.u8 97) fun v19 =>
 CND v19
 (Q (AV.bool false) H15 nx16)
 (IX (nth xs14 0) (nth xs14 2) fun v20 =>
 BI BinOp.gtr v20 (AV.int IntKind.u8 122) fun v21 =>
 CNDC v21
 (Q (AV.bool false) H15 nx16)
 (BI BinOp.add (nth xs14 2) (AV.int IntKind.i64 1) fun v22 =>
 K13 [nth xs14 0, nth xs14 1, v22] H15 nx16)))
 (LNS (nth xs14 0) fun v23 =>
 BI BinOp.gtr v23 (AV.int IntKind.i64 0) fun v24 =>
 CND v24
 (LNS (nth xs14 0) fun v25 =>
 BI BinOp.lss v25 (AV.int IntKind.i64 9) fun v26 =>
 Q v26 H15 nx16)
 (Q (AV.bool false) H15 nx16))
def zdg (Q : QT) (K3 : J3) (xs4 : List AV) (H5 : Heap) (nx6 : Nat) : Prop :=
 BI BinOp.lss (nth xs4 3) (nth xs4 2) fun v7 =>
 CNDC v7
 (IA 1 (nth xs4 1) (nth xs4 3) fun v8 =>
 LD false 1 v8 H5 fun v9 =>
 BS BinOp.eql (nth xs4 0) v9 fun v10 =>
 CNDC v10
 (Q (AV.bool false) H5 nx6)
 (BI BinOp.add (nth xs4 3) (AV.int IntKind.i64 1) fun v11 =>
 K3 [nth xs4 0, nth xs4 1, nth xs4 2, v11] H5 nx6))
 (LNS (nth xs4 0) fun v12 =>
 LP (zdh Q) [nth xs4 0, v12, AV.int IntKind.i64 0] H5 nx6)
def zjl (a0 : AV) (H : Heap) (nx : Nat) (Q : QT) : Prop :=
 PUTH H nx (AObj.row 1 [AV.str [108, 101, 116], AV.str [115, 101, 116], AV.str [105, 102], AV.str [119, 104, 105, 108, 101], AV.str [115, 97, 121], AV.str [114, 101, 116, 117, 114, 110], AV.str [112, 117, 116, 108], AV.str [112, 117, 116, 114], AV.str [100, 111], AV.str [99, 101, 108, 108], AV.str [108, 101, 102, 116], AV.str [114, 105, 103, 104, 116], AV.str [97, 115, 107], AV.str [104, 101, 114, 101], AV.str [103, 111]]) fun H1 =>
 LNL (AV.slc nx 0 15) fun v2 =>
 LP (zdg Q) [a0, AV.slc nx 0 15, v2, AV.int IntKind.i64 0] H1 (nx + 1)
theorem zmg (a0 : AV) (H : Heap) (nx : Nat) (Q : QT) : zjl a0 H nx Q → za Tryd.prog 14 [a0] H nx Q :=
  zg (lv := lvOf [(2, 2, [0, 6, 7, 8]), (2, 8, [0, 17, 18])]) (c := zj Tryd.f14) zu zx mixed Tryd.func14 (by kernel_rfl) (by kernel_rfl) (by kernel_rfl) (by kernel_rfl) (by kernel_rfl)
def zf (xs5 : List AV) (Q : QT) (_ : AV) (H46 : Heap) (nx47 : Nat) : Prop :=
 NC (nth xs5 0) fun v48 =>
 FA 0 v48 fun v49 =>
 LD false 1 v49 H46 fun v50 =>
 SLS v50 none (some (nth xs5 1)) fun v51 =>
 NC (nth xs5 0) fun v52 =>
 FA 0 v52 fun v53 =>
 LD false 1 v53 H46 fun v54 =>
 SLS v54 (some (nth xs5 1)) none fun v55 =>
 NC (nth xs5 0) fun v56 =>
 FA 0 v56 fun v57 =>
 ST 1 v57 v55 H46 fun H58 =>
 Q v51 H58 nx47
def zbv (Q : QT) (K4 : J3) (xs5 : List AV) (H6 : Heap) (nx7 : Nat) : Prop :=
 NC (nth xs5 0) fun v8 =>
 FA 0 v8 fun v9 =>
 LD false 1 v9 H6 fun v10 =>
 LNS v10 fun v11 =>
 BI BinOp.lss (nth xs5 1) v11 fun v12 =>
 CND v12
 (NC (nth xs5 0) fun v13 =>
 FA 0 v13 fun v14 =>
 LD false 1 v14 H6 fun v15 =>
 IX v15 (nth xs5 1) fun v16 =>
 BI BinOp.neq v16 (AV.int IntKind.u8 32) fun v17 =>
 CND v17
 (NC (nth xs5 0) fun v18 =>
 FA 0 v18 fun v19 =>
 LD false 1 v19 H6 fun v20 =>
 IX v20 (nth xs5 1) fun v21 =>
 BI BinOp.neq v21 (AV.int IntKind.u8 10) fun v22 =>
 CND v22
 (NC (nth xs5 0) fun v23 =>
 FA 0 v23 fun v24 =>
 LD false 1 v24 H6 fun v25 =>
 IX v25 (nth xs5 1) fun v26 =>
 BI BinOp.neq v26 (AV.int IntKind.u8 40) fun v27 =>
 CND v27
 (NC (nth xs5 0) fun v28 =>
 FA 0 v28 fun v29 =>
 LD false 1 v29 H6 fun v30 =>
 IX v30 (nth xs5 1) fun v31 =>
 BI BinOp.neq v31 (AV.int IntKind.u8 41) fun v32 =>
 CND v32
 (NC (nth xs5 0) fun v33 =>
 FA 0 v33 fun v34 =>
 LD false 1 v34 H6 fun v35 =>
 IX v35 (nth xs5 1) fun v36 =>
 BI BinOp.neq v36 (AV.int IntKind.u8 39) fun v37 =>
 CNDC v37
 (BI BinOp.add (nth xs5 1) (AV.int IntKind.i64 1) fun v38 =>
 K4 [nth xs5 0, v38] H6 nx7)
 (BI BinOp.eql (nth xs5 1) (AV.int IntKind.i64 0) fun v39 =>
 CND v39
 (NC (nth xs5 0) fun v40 =>
 FA 0 v40 fun v41 =>
 LD false 1 v41 H6 fun v42 =>
 LNS v42 fun v43 =>
 BI BinOp.eql v43 (AV.int IntKind.i64 0) fun v44 =>
 CNDC v44
 (za Tryd.prog 48 [nth xs5 0, AV.int IntKind.i64 8] H6 nx7 (zf xs5 Q))
 (BI BinOp.eql (nth xs5 1) (AV.int IntKind.i64 0) fun v59 =>
 CNDC v59
 (za Tryd.prog 48 [nth xs5 0, AV.int IntKind.i64 2] H6 nx7 (zf xs5 Q))
 (NC (nth xs5 0) fun v74 =>
 FA 0 v74 fun v75 =>
 LD false 1 v75 H6 fun v76 =>
 SLS v76 none (some (nth xs5 1)) fun v77 =>
 NC (nth xs5 0) fun v78 =>
 FA 0 v78 fun v79 =>
 LD false 1 v79 H6 fun v80 =>
 SLS v80 (some (nth xs5 1)) none fun v81 =>
 NC (nth xs5 0) fun v82 =>
 FA 0 v82 fun v83 =>
 ST 1 v83 v81 H6 fun H84 =>
 Q v77 H84 nx7)))
 (BI BinOp.eql (nth xs5 1) (AV.int IntKind.i64 0) fun v85 =>
 CNDC v85
 (za Tryd.prog 48 [nth xs5 0, AV.int IntKind.i64 2] H6 nx7 (zf xs5 Q))
 (NC (nth xs5 0) fun v100 =>
 FA 0 v100 fun v101 =>
 LD false 1 v101 H6 fun v102 =>
 SLS v102 none (some (nth xs5 1)) fun v103 =>
 NC (nth xs5 0) fun v104 =>
 FA 0 v104 fun v105 =>
 LD false 1 v105 H6 fun v106 =>
 SLS v106 (some (nth xs5 1)) none fun v107 =>
 NC (nth xs5 0) fun v108 =>
 FA 0 v108 fun v109 =>
 ST 1 v109 v107 H6 fun H110 =>
 Q v103 H110 nx7))))
 (BI BinOp.eql (nth xs5 1) (AV.int IntKind.i64 0) fun v111 =>
 CND v111
 (NC (nth xs5 0) fun v112 =>
 FA 0 v112 fun v113 =>
 LD false 1 v113 H6 fun v114 =>
 LNS v114 fun v115 =>
 BI BinOp.eql v115 (AV.int IntKind.i64 0) fun v116 =>
 CNDC v116
 (za Tryd.prog 48 [nth xs5 0, AV.int IntKind.i64 8] H6 nx7 (zf xs5 Q))
 (BI BinOp.eql (nth xs5 1) (AV.int IntKind.i64 0) fun v131 =>
 CNDC v131
 (za Tryd.prog 48 [nth xs5 0, AV.int IntKind.i64 2] H6 nx7 (zf xs5 Q))
 (NC (nth xs5 0) fun v146 =>
 FA 0 v146 fun v147 =>
 LD false 1 v147 H6 fun v148 =>
 SLS v148 none (some (nth xs5 1)) fun v149 =>
 NC (nth xs5 0) fun v150 =>
 FA 0 v150 fun v151 =>
 LD false 1 v151 H6 fun v152 =>
 SLS v152 (some (nth xs5 1)) none fun v153 =>
 NC (nth xs5 0) fun v154 =>
 FA 0 v154 fun v155 =>
 ST 1 v155 v153 H6 fun H156 =>
 Q v149 H156 nx7)))
 (BI BinOp.eql (nth xs5 1) (AV.int IntKind.i64 0) fun v157 =>
 CNDC v157
 (za Tryd.prog 48 [nth xs5 0, AV.int IntKind.i64 2] H6 nx7 (zf xs5 Q))
 (NC (nth xs5 0) fun v172 =>
 FA 0 v172 fun v173 =>
 LD false 1 v173 H6 fun v174 =>
 SLS v174 none (some (nth xs5 1)) fun v175 =>
 NC (nth xs5 0) fun v176 =>
 FA 0 v176 fun v177 =>
 LD false 1 v177 H6 fun v178 =>
 SLS v178 (some (nth xs5 1)) none fun v179 =>
 NC (nth xs5 0) fun v180 =>
 FA 0 v180 fun v181 =>
 ST 1 v181 v179 H6 fun H182 =>
 Q v175 H182 nx7))))
 (BI BinOp.eql (nth xs5 1) (AV.int IntKind.i64 0) fun v183 =>
 CND v183
 (NC (nth xs5 0) fun v184 =>
 FA 0 v184 fun v185 =>
 LD false 1 v185 H6 fun v186 =>
 LNS v186 fun v187 =>
 BI BinOp.eql v187 (AV.int IntKind.i64 0) fun v188 =>
 CNDC v188
 (za Tryd.prog 48 [nth xs5 0, AV.int IntKind.i64 8] H6 nx7 (zf xs5 Q))
 (BI BinOp.eql (nth xs5 1) (AV.int IntKind.i64 0) fun v203 =>
 CNDC v203
 (za Tryd.prog 48 [nth xs5 0, AV.int IntKind.i64 2] H6 nx7 (zf xs5 Q))
 (NC (nth xs5 0) fun v218 =>
 FA 0 v218 fun v219 =>
 LD false 1 v219 H6 fun v220 =>
 SLS v220 none (some (nth xs5 1)) fun v221 =>
 NC (nth xs5 0) fun v222 =>
 FA 0 v222 fun v223 =>
 LD false 1 v223 H6 fun v224 =>
 SLS v224 (some (nth xs5 1)) none fun v225 =>
 NC (nth xs5 0) fun v226 =>
 FA 0 v226 fun v227 =>
 ST 1 v227 v225 H6 fun H228 =>
 Q v221 H228 nx7)))
 (BI BinOp.eql (nth xs5 1) (AV.int IntKind.i64 0) fun v229 =>
 CNDC v229
 (za Tryd.prog 48 [nth xs5 0, AV.int IntKind.i64 2] H6 nx7 (zf xs5 Q))
 (NC (nth xs5 0) fun v244 =>
 FA 0 v244 fun v245 =>
 LD false 1 v245 H6 fun v246 =>
 SLS v246 none (some (nth xs5 1)) fun v247 =>
 NC (nth xs5 0) fun v248 =>
 FA 0 v248 fun v249 =>
 LD false 1 v249 H6 fun v250 =>
 SLS v250 (some (nth xs5 1)) none fun v251 =>
 NC (nth xs5 0) fun v252 =>
 FA 0 v252 fun v253 =>
 ST 1 v253 v251 H6 fun H254 =>
 Q v247 H254 nx7))))
 (BI BinOp.eql (nth xs5 1) (AV.int IntKind.i64 0) fun v255 =>
 CND v255
 (NC (nth xs5 0) fun v256 =>
 FA 0 v256 fun v257 =>
 LD false 1 v257 H6 fun v258 =>
 LNS v258 fun v259 =>
 BI BinOp.eql v259 (AV.int IntKind.i64 0) fun v260 =>
 CNDC v260
 (za Tryd.prog 48 [nth xs5 0, AV.int IntKind.i64 8] H6 nx7 (zf xs5 Q))
 (BI BinOp.eql (nth xs5 1) (AV.int IntKind.i64 0) fun v275 =>
 CNDC v275
 (za Tryd.prog 48 [nth xs5 0, AV.int IntKind.i64 2] H6 nx7 (zf xs5 Q))
 (NC (nth xs5 0) fun v290 =>
 FA 0 v290 fun v291 =>
 LD false 1 v291 H6 fun v292 =>
 SLS v292 none (some (nth xs5 1)) fun v293 =>
 NC (nth xs5 0) fun v294 =>
 FA 0 v294 fun v295 =>
 LD false 1 v295 H6 fun v296 =>
 SLS v296 (some (nth xs5 1)) none fun v297 =>
 NC (nth xs5 0) fun v298 =>
 FA 0 v298 fun v299 =>
 ST 1 v299 v297 H6 fun H300 =>
 Q v293 H300 nx7)))
 (BI BinOp.eql (nth xs5 1) (AV.int IntKind.i64 0) fun v301 =>
 CNDC v301
 (za Tryd.prog 48 [nth xs5 0, AV.int IntKind.i64 2] H6 nx7 (zf xs5 Q))
 (NC (nth xs5 0) fun v316 =>
 FA 0 v316 fun v317 =>
 LD false 1 v317 H6 fun v318 =>
 SLS v318 none (some (nth xs5 1)) fun v319 =>
 NC (nth xs5 0) fun v320 =>
 FA 0 v320 fun v321 =>
 LD false 1 v321 H6 fun v322 =>
 SLS v322 (some (nth xs5 1)) none fun v323 =>
 NC (nth xs5 0) fun v324 =>
 FA 0 v324 fun v325 =>
 ST 1 v325 v323 H6 fun H326 =>
 Q v319 H326 nx7))))
 (BI BinOp.eql (nth xs5 1) (AV.int IntKind.i64 0) fun v327 =>
 CND v327
 (NC (nth xs5 0) fun v328 =>
 FA 0 v328 fun v329 =>
 LD false 1 v329 H6 fun v330 =>
 LNS v330 fun v331 =>
 BI BinOp.eql v331 (AV.int IntKind.i64 0) fun v332 =>
 CNDC v332
 (za Tryd.prog 48 [nth xs5 0, AV.int IntKind.i64 8] H6 nx7 (zf xs5 Q))
 (BI BinOp.eql (nth xs5 1) (AV.int IntKind.i64 0) fun v347 =>
 CNDC v347
 (za Tryd.prog 48 [nth xs5 0, AV.int IntKind.i64 2] H6 nx7 (zf xs5 Q))
 (NC (nth xs5 0) fun v362 =>
 FA 0 v362 fun v363 =>
 LD false 1 v363 H6 fun v364 =>
 SLS v364 none (some (nth xs5 1)) fun v365 =>
 NC (nth xs5 0) fun v366 =>
 FA 0 v366 fun v367 =>
 LD false 1 v367 H6 fun v368 =>
 SLS v368 (some (nth xs5 1)) none fun v369 =>
 NC (nth xs5 0) fun v370 =>
 FA 0 v370 fun v371 =>
 ST 1 v371 v369 H6 fun H372 =>
 Q v365 H372 nx7)))
 (BI BinOp.eql (nth xs5 1) (AV.int IntKind.i64 0) fun v373 =>
 CNDC v373
 (za Tryd.prog 48 [nth xs5 0, AV.int IntKind.i64 2] H6 nx7 (zf xs5 Q))
 (NC (nth xs5 0) fun v388 =>
 FA 0 v388 fun v389 =>
 LD false 1 v389 H6 fun v390 =>
 SLS v390 none (some (nth xs5 1)) fun v391 =>
 NC (nth xs5 0) fun v392 =>
 FA 0 v392 fun v393 =>
 LD false 1 v393 H6 fun v394 =>
 SLS v394 (some (nth xs5 1)) none fun v395 =>
 NC (nth xs5 0) fun v396 =>
 FA 0 v396 fun v397 =>
 ST 1 v397 v395 H6 fun H398 =>
 Q v391 H398 nx7))))
 (BI BinOp.eql (nth xs5 1) (AV.int IntKind.i64 0) fun v399 =>
 CND v399
 (NC (nth xs5 0) fun v400 =>
 FA 0 v400 fun v401 =>
 LD false 1 v401 H6 fun v402 =>
 LNS v402 fun v403 =>
 BI BinOp.eql v403 (AV.int IntKind.i64 0) fun v404 =>
 CNDC v404
 (za Tryd.prog 48 [nth xs5 0, AV.int IntKind.i64 8] H6 nx7 (zf xs5 Q))
 (BI BinOp.eql (nth xs5 1) (AV.int IntKind.i64 0) fun v419 =>
 CNDC v419
 (za Tryd.prog 48 [nth xs5 0, AV.int IntKind.i64 2] H6 nx7 (zf xs5 Q))
 (NC (nth xs5 0) fun v434 =>
 FA 0 v434 fun v435 =>
 LD false 1 v435 H6 fun v436 =>
 SLS v436 none (some (nth xs5 1)) fun v437 =>
 NC (nth xs5 0) fun v438 =>
 FA 0 v438 fun v439 =>
 LD false 1 v439 H6 fun v440 =>
 SLS v440 (some (nth xs5 1)) none fun v441 =>
 NC (nth xs5 0) fun v442 =>
 FA 0 v442 fun v443 =>
 ST 1 v443 v441 H6 fun H444 =>
 Q v437 H444 nx7)))
 (BI BinOp.eql (nth xs5 1) (AV.int IntKind.i64 0) fun v445 =>
 CNDC v445
 (za Tryd.prog 48 [nth xs5 0, AV.int IntKind.i64 2] H6 nx7 (zf xs5 Q))
 (NC (nth xs5 0) fun v460 =>
 FA 0 v460 fun v461 =>
 LD false 1 v461 H6 fun v462 =>
 SLS v462 none (some (nth xs5 1)) fun v463 =>
 NC (nth xs5 0) fun v464 =>
 FA 0 v464 fun v465 =>
 LD false 1 v465 H6 fun v466 =>
 SLS v466 (some (nth xs5 1)) none fun v467 =>
 NC (nth xs5 0) fun v468 =>
 FA 0 v468 fun v469 =>
 ST 1 v469 v467 H6 fun H470 =>
 Q v463 H470 nx7)))
def zku (Q : QT) (a0 : AV) (v1 : AV) (H2 : Heap) (nx3 : Nat) : Prop :=
 LP (zbv Q) [a0, AV.int IntKind.i64 0] H2 nx3
def zou (a0 : AV) (H : Heap) (nx : Nat) (Q : QT) : Prop :=
 za Tryd.prog 27 [a0] H nx (zku Q a0)
theorem zmn (a0 : AV) (H : Heap) (nx : Nat) (Q : QT) : zou a0 H nx Q → za Tryd.prog 49 [a0] H nx Q :=
  zg (lv := lvOf [(2, 3, [0, 3])]) (c := zj Tryd.f49) zu zx mixed Tryd.func49 (by kernel_rfl) (by kernel_rfl) (by kernel_rfl) (by kernel_rfl) (by kernel_rfl)
def zox (Q : QT) (v1 : AV) (v8 : AV) (H9 : Heap) (nx10 : Nat) : Prop :=
 Q v1 H9 nx10
def zgs (a0 : AV) (Q : QT) (v1 : AV) (v4 : AV) (H5 : Heap) (nx6 : Nat) : Prop :=
 UO UnOp.not v4 fun v7 =>
 CNDC v7
 (za Tryd.prog 48 [a0, AV.int IntKind.i64 7] H5 nx6 (zox Q v1))
 (Q v1 H5 nx6)
def zow (a0 : AV) (Q : QT) (v1 : AV) (H2 : Heap) (nx3 : Nat) : Prop :=
 za Tryd.prog 14 [v1] H2 nx3 (zgs a0 Q v1)
def zov (a0 : AV) (H : Heap) (nx : Nat) (Q : QT) : Prop :=
 za Tryd.prog 49 [a0] H nx (zow a0 Q)
theorem zmo (a0 : AV) (H : Heap) (nx : Nat) (Q : QT) : zov a0 H nx Q → za Tryd.prog 29 [a0] H nx Q :=
  zg (lv := lvOf []) (c := zj Tryd.f29) zu zx mixed Tryd.func29 (by kernel_rfl) (by kernel_rfl) (by kernel_rfl) (by kernel_rfl) (by kernel_rfl)
end Go.Proofs.YtpllgpgdcbgalaaDoor
namespace Go.Proofs
open Go.Shelf
def Tryd.lays137_ren : Go.Shelf.Ren := ⟨fun | 137 => 96 | 217 => 89 | 266 => 97 | n => n, fun | 9 => 9 | 5 => 5 | 3 => 3 | n => n, fun | n => n⟩
theorem Tryd.lays137 : Go.Proofs.Lays.n137 Tryd.prog Tryd.lays137_ren := {
  mixed := by kernel_rfl
  f137 := Tryd.func96.trans (congrArg some (by kernel_rfl))
  f217 := Tryd.func89.trans (congrArg some (by kernel_rfl))
  f266 := Tryd.func97.trans (congrArg some (by kernel_rfl))
  t3 := Tryd.underlying3
  a3 := Tryd.isAgg3
  z3 := Tryd.sizeOf3
  v3 := Tryd.zeroValue3
  t5 := Tryd.underlying5
  a5 := Tryd.isAgg5
  z5 := Tryd.sizeOf5
  v5 := Tryd.zeroValue5
  t9 := Tryd.underlying9
  a9 := Tryd.isAgg9
  z9 := Tryd.sizeOf9
  v9 := Tryd.zeroValue9 }
open Go.RowKit in
theorem Tryd.strings_IndexByte (s : ByteArray) (c : Int) (w : World) :
    Calls Tryd.prog 96 #[.string s, .int .u8 c] w fun e w' => e = .returned (.int .i64 (Lib.indexByte s.data.toList c.toNat.toUInt8)) ∧ w' = w := Any.strings_IndexByte Tryd.lays137 s c w
def Tryd.laysM171_ren : Go.Shelf.Ren := ⟨fun | 171 => 80 | 243 => 95 | 246 => 104 | 283 => 108 | 284 => 109 | 285 => 110 | 286 => 111 | 129 => 115 | 317 => 114 | 318 => 116 | 319 => 117 | 320 => 118 | 337 => 119 | 338 => 120 | n => n, fun | 3 => 3 | 9 => 9 | 2 => 2 | 4 => 4 | 171 => 153 | 0 => 0 | 53 => 146 | 37 => 139 | 5 => 5 | 173 => 156 | 212 => 164 | 51 => 135 | 20 => 20 | 213 => 165 | 46 => 133 | 232 => 168 | 233 => 169 | n => n, fun | 17 => 3 | 18 => 4 | 19 => 5 | n => n⟩
theorem Tryd.laysM171 : Go.Proofs.LaysM.n171 Tryd.prog Tryd.laysM171_ren := {
  mixed := by kernel_rfl
  f129 := Tryd.func115.trans (congrArg some (by kernel_rfl))
  f171 := Tryd.func80.trans (congrArg some (by kernel_rfl))
  f243 := Tryd.func95.trans (congrArg some (by kernel_rfl))
  f246 := Tryd.func104.trans (congrArg some (by kernel_rfl))
  f283 := Tryd.func108.trans (congrArg some (by kernel_rfl))
  f284 := Tryd.func109.trans (congrArg some (by kernel_rfl))
  f285 := Tryd.func110.trans (congrArg some (by kernel_rfl))
  f286 := Tryd.func111.trans (congrArg some (by kernel_rfl))
  f317 := Tryd.func114.trans (congrArg some (by kernel_rfl))
  f318 := Tryd.func116.trans (congrArg some (by kernel_rfl))
  f319 := Tryd.func117.trans (congrArg some (by kernel_rfl))
  f320 := Tryd.func118.trans (congrArg some (by kernel_rfl))
  f337 := Tryd.func119.trans (congrArg some (by kernel_rfl))
  f338 := Tryd.func120.trans (congrArg some (by kernel_rfl))
  t0 := Tryd.underlying0
  a0 := Tryd.isAgg0
  z0 := Tryd.sizeOf0
  v0 := Tryd.zeroValue0
  t2 := Tryd.underlying2
  a2 := Tryd.isAgg2
  z2 := Tryd.sizeOf2
  v2 := Tryd.zeroValue2
  t3 := Tryd.underlying3
  a3 := Tryd.isAgg3
  z3 := Tryd.sizeOf3
  v3 := Tryd.zeroValue3
  t4 := Tryd.underlying4
  a4 := Tryd.isAgg4
  z4 := Tryd.sizeOf4
  v4 := Tryd.zeroValue4
  t5 := Tryd.underlying5
  a5 := Tryd.isAgg5
  z5 := Tryd.sizeOf5
  v5 := Tryd.zeroValue5
  t9 := Tryd.underlying9
  a9 := Tryd.isAgg9
  z9 := Tryd.sizeOf9
  v9 := Tryd.zeroValue9
  t20 := Tryd.underlying20
  a20 := Tryd.isAgg20
  z20 := Tryd.sizeOf20
  v20 := Tryd.zeroValue20
  t37 := Tryd.underlying139
  a37 := Tryd.isAgg139
  z37 := Tryd.sizeOf139
  v37 := Tryd.zeroValue139
  t46 := Tryd.underlying133
  a46 := Tryd.isAgg133
  z46 := Tryd.sizeOf133
  v46 := Tryd.zeroValue133
  t51 := Tryd.underlying135
  a51 := Tryd.isAgg135
  z51 := Tryd.sizeOf135
  v51 := Tryd.zeroValue135
  t53 := Tryd.underlying146
  a53 := Tryd.isAgg146
  z53 := Tryd.sizeOf146
  v53 := Tryd.zeroValue146
  t171 := Tryd.underlying153
  a171 := Tryd.isAgg153
  z171 := Tryd.sizeOf153
  v171 := Tryd.zeroValue153
  t173 := Tryd.underlying156
  a173 := Tryd.isAgg156
  z173 := Tryd.sizeOf156
  v173 := Tryd.zeroValue156
  t212 := Tryd.underlying164
  a212 := Tryd.isAgg164
  z212 := Tryd.sizeOf164
  v212 := Tryd.zeroValue164
  t213 := Tryd.underlying165
  a213 := Tryd.isAgg165
  z213 := Tryd.sizeOf165
  t232 := Tryd.underlying168
  a232 := Tryd.isAgg168
  z232 := Tryd.sizeOf168
  v232 := Tryd.zeroValue168
  t233 := Tryd.underlying169
  a233 := Tryd.isAgg169
  z233 := Tryd.sizeOf169
  v233 := Tryd.zeroValue169
  g17 := by kernel_rfl
  g18 := by kernel_rfl
  g19 := by kernel_rfl
  i0 := by kernel_rfl
  i2 := by kernel_rfl
  i3 := by kernel_rfl
  i4 := by kernel_rfl
  i5 := by kernel_rfl
  i9 := by kernel_rfl
  i20 := by kernel_rfl
  i37 := by kernel_rfl
  i46 := by kernel_rfl
  i51 := by kernel_rfl
  i53 := by kernel_rfl
  i171 := by kernel_rfl
  i173 := by kernel_rfl
  i212 := by kernel_rfl
  i232 := by kernel_rfl
  i233 := by kernel_rfl
  m17 := by kernel_rfl
  m18 := by kernel_rfl
  m19 := by kernel_rfl }
open Go.RowKit Go.Sort Go.Lib in
theorem Tryd.strconv_Itoa (n : Int) (h0 : -9223372036854775808 ≤ n) (h1 : n ≤ 9223372036854775807) (w : World) (htab : Lib.TabIs Tryd.prog w "internal/strconv.uint64pow10" .u64 Lib.pow10Tab) :
    Calls Tryd.prog 80 #[.int .i64 n] w fun e w' => e = .returned (.string ⟨(Lib.itoa n).toArray⟩) ∧ ∃ k os, w' = grow (w.drewN k) os := Any.strconv_Itoa Tryd.laysM171 n h0 h1 w htab
def Tryd.laysC172_ren : Go.Shelf.Ren := ⟨fun | 172 => 79 | 244 => 93 | 245 => 94 | 247 => 99 | 279 => 100 | 280 => 101 | 281 => 102 | 282 => 103 | 287 => 105 | 316 => 106 | 171 => 80 | 205 => 107 | 321 => 112 | 322 => 113 | 243 => 95 | 246 => 104 | 283 => 108 | 284 => 109 | 285 => 110 | 286 => 111 | 129 => 115 | 317 => 114 | 318 => 116 | 319 => 117 | 320 => 118 | 337 => 119 | 338 => 120 | n => n, fun | 9 => 9 | 3 => 3 | 75 => 120 | 76 => 121 | 4 => 4 | 5 => 5 | 167 => 138 | 37 => 139 | 0 => 0 | 85 => 140 | 2 => 2 | 168 => 142 | 53 => 146 | 175 => 147 | 46 => 133 | 210 => 151 | 127 => 159 | 145 => 162 | 143 => 160 | 21 => 21 | 171 => 153 | 173 => 156 | 212 => 164 | 51 => 135 | 20 => 20 | 213 => 165 | 232 => 168 | 233 => 169 | 80 => 53 | n => n, fun | 15 => 1 | 16 => 2 | 17 => 3 | 18 => 4 | 19 => 5 | n => n⟩
theorem Tryd.laysC172 : Go.Proofs.LaysC.n172 Tryd.prog Tryd.laysC172_ren := {
  mixed := by kernel_rfl
  f129 := Tryd.func115.trans (congrArg some (by kernel_rfl))
  f171 := Tryd.func80.trans (congrArg some (by kernel_rfl))
  f172 := Tryd.func79.trans (congrArg some (by kernel_rfl))
  f205 := Tryd.func107.trans (congrArg some (by kernel_rfl))
  f243 := Tryd.func95.trans (congrArg some (by kernel_rfl))
  f244 := Tryd.func93.trans (congrArg some (by kernel_rfl))
  f245 := Tryd.func94.trans (congrArg some (by kernel_rfl))
  f246 := Tryd.func104.trans (congrArg some (by kernel_rfl))
  f247 := Tryd.func99.trans (congrArg some (by kernel_rfl))
  f279 := Tryd.func100.trans (congrArg some (by kernel_rfl))
  f280 := Tryd.func101.trans (congrArg some (by kernel_rfl))
  f281 := Tryd.func102.trans (congrArg some (by kernel_rfl))
  f282 := Tryd.func103.trans (congrArg some (by kernel_rfl))
  f283 := Tryd.func108.trans (congrArg some (by kernel_rfl))
  f284 := Tryd.func109.trans (congrArg some (by kernel_rfl))
  f285 := Tryd.func110.trans (congrArg some (by kernel_rfl))
  f286 := Tryd.func111.trans (congrArg some (by kernel_rfl))
  f287 := Tryd.func105.trans (congrArg some (by kernel_rfl))
  f316 := Tryd.func106.trans (congrArg some (by kernel_rfl))
  f317 := Tryd.func114.trans (congrArg some (by kernel_rfl))
  f318 := Tryd.func116.trans (congrArg some (by kernel_rfl))
  f319 := Tryd.func117.trans (congrArg some (by kernel_rfl))
  f320 := Tryd.func118.trans (congrArg some (by kernel_rfl))
  f321 := Tryd.func112.trans (congrArg some (by kernel_rfl))
  f322 := Tryd.func113.trans (congrArg some (by kernel_rfl))
  f337 := Tryd.func119.trans (congrArg some (by kernel_rfl))
  f338 := Tryd.func120.trans (congrArg some (by kernel_rfl))
  t0 := Tryd.underlying0
  a0 := Tryd.isAgg0
  z0 := Tryd.sizeOf0
  v0 := Tryd.zeroValue0
  t2 := Tryd.underlying2
  a2 := Tryd.isAgg2
  z2 := Tryd.sizeOf2
  v2 := Tryd.zeroValue2
  t3 := Tryd.underlying3
  a3 := Tryd.isAgg3
  z3 := Tryd.sizeOf3
  v3 := Tryd.zeroValue3
  t4 := Tryd.underlying4
  a4 := Tryd.isAgg4
  z4 := Tryd.sizeOf4
  v4 := Tryd.zeroValue4
  t5 := Tryd.underlying5
  a5 := Tryd.isAgg5
  z5 := Tryd.sizeOf5
  v5 := Tryd.zeroValue5
  t9 := Tryd.underlying9
  a9 := Tryd.isAgg9
  z9 := Tryd.sizeOf9
  v9 := Tryd.zeroValue9
  t20 := Tryd.underlying20
  a20 := Tryd.isAgg20
  z20 := Tryd.sizeOf20
  v20 := Tryd.zeroValue20
  t21 := Tryd.underlying21
  a21 := Tryd.isAgg21
  z21 := Tryd.sizeOf21
  v21 := Tryd.zeroValue21
  t37 := Tryd.underlying139
  a37 := Tryd.isAgg139
  z37 := Tryd.sizeOf139
  v37 := Tryd.zeroValue139
  t46 := Tryd.underlying133
  a46 := Tryd.isAgg133
  z46 := Tryd.sizeOf133
  v46 := Tryd.zeroValue133
  t51 := Tryd.underlying135
  a51 := Tryd.isAgg135
  z51 := Tryd.sizeOf135
  v51 := Tryd.zeroValue135
  t53 := Tryd.underlying146
  a53 := Tryd.isAgg146
  z53 := Tryd.sizeOf146
  v53 := Tryd.zeroValue146
  t75 := Tryd.underlying120
  a75 := Tryd.isAgg120
  z75 := Tryd.sizeOf120
  v75 := Tryd.zeroValue120
  t76 := Tryd.underlying121
  a76 := Tryd.isAgg121
  z76 := Tryd.sizeOf121
  v76 := Tryd.zeroValue121
  t85 := Tryd.underlying140
  a85 := Tryd.isAgg140
  z85 := Tryd.sizeOf140
  v85 := Tryd.zeroValue140
  t127 := Tryd.underlying159
  a127 := Tryd.isAgg159
  z127 := Tryd.sizeOf159
  v127 := Tryd.zeroValue159
  t143 := Tryd.underlying160
  a143 := Tryd.isAgg160
  z143 := Tryd.sizeOf160
  v143 := Tryd.zeroValue160
  t145 := Tryd.underlying162
  a145 := Tryd.isAgg162
  z145 := Tryd.sizeOf162
  v145 := Tryd.zeroValue162
  t167 := Tryd.underlying138
  a167 := Tryd.isAgg138
  z167 := Tryd.sizeOf138
  v167 := Tryd.zeroValue138
  t168 := Tryd.underlying142
  a168 := Tryd.isAgg142
  z168 := Tryd.sizeOf142
  v168 := Tryd.zeroValue142
  t171 := Tryd.underlying153
  a171 := Tryd.isAgg153
  z171 := Tryd.sizeOf153
  v171 := Tryd.zeroValue153
  t173 := Tryd.underlying156
  a173 := Tryd.isAgg156
  z173 := Tryd.sizeOf156
  v173 := Tryd.zeroValue156
  t175 := Tryd.underlying147
  a175 := Tryd.isAgg147
  z175 := Tryd.sizeOf147
  v175 := Tryd.zeroValue147
  t210 := Tryd.underlying151
  a210 := Tryd.isAgg151
  z210 := Tryd.sizeOf151
  v210 := Tryd.zeroValue151
  t212 := Tryd.underlying164
  a212 := Tryd.isAgg164
  z212 := Tryd.sizeOf164
  v212 := Tryd.zeroValue164
  t213 := Tryd.underlying165
  a213 := Tryd.isAgg165
  z213 := Tryd.sizeOf165
  t232 := Tryd.underlying168
  a232 := Tryd.isAgg168
  z232 := Tryd.sizeOf168
  v232 := Tryd.zeroValue168
  t233 := Tryd.underlying169
  a233 := Tryd.isAgg169
  z233 := Tryd.sizeOf169
  v233 := Tryd.zeroValue169
  g15 := by kernel_rfl
  g16 := by kernel_rfl
  g17 := by kernel_rfl
  g18 := by kernel_rfl
  g19 := by kernel_rfl
  t80 := Tryd.underlying53
  a80 := Tryd.isAgg53
  z80 := Tryd.sizeOf53
  v80 := Tryd.zeroValue53
  i0 := by kernel_rfl
  i2 := by kernel_rfl
  i3 := by kernel_rfl
  i4 := by kernel_rfl
  i5 := by kernel_rfl
  i9 := by kernel_rfl
  i20 := by kernel_rfl
  i21 := by kernel_rfl
  i37 := by kernel_rfl
  i46 := by kernel_rfl
  i51 := by kernel_rfl
  i53 := by kernel_rfl
  i75 := by kernel_rfl
  i76 := by kernel_rfl
  i80 := by kernel_rfl
  i85 := by kernel_rfl
  i127 := by kernel_rfl
  i143 := by kernel_rfl
  i145 := by kernel_rfl
  i167 := by kernel_rfl
  i168 := by kernel_rfl
  i171 := by kernel_rfl
  i173 := by kernel_rfl
  i175 := by kernel_rfl
  i210 := by kernel_rfl
  i212 := by kernel_rfl
  i232 := by kernel_rfl
  i233 := by kernel_rfl
  m15 := by kernel_rfl
  m16 := by kernel_rfl
  m17 := by kernel_rfl
  m18 := by kernel_rfl
  m19 := by kernel_rfl
  c0 := by kernel_rfl
  c2 := by kernel_rfl
  c3 := by kernel_rfl
  c4 := by kernel_rfl
  c5 := by kernel_rfl
  c9 := by kernel_rfl
  c20 := by kernel_rfl
  c21 := by kernel_rfl
  c37 := by kernel_rfl
  c46 := by kernel_rfl
  c51 := by kernel_rfl
  c53 := by kernel_rfl
  c75 := by kernel_rfl
  c76 := by kernel_rfl
  c80 := by kernel_rfl
  c85 := by kernel_rfl
  c127 := by kernel_rfl
  c143 := by kernel_rfl
  c145 := by kernel_rfl
  c167 := by kernel_rfl
  c168 := by kernel_rfl
  c171 := by kernel_rfl
  c173 := by kernel_rfl
  c175 := by kernel_rfl
  c210 := by kernel_rfl
  c212 := by kernel_rfl
  c213 := by kernel_rfl
  c232 := by kernel_rfl
  c233 := by kernel_rfl }
open Go.RowKit in
theorem Tryd.strconv_Atoi_ok (s : ByteArray) (hmax : s.size ≤ 9223372036854775806) (v : Int) (h : Lib.atoiAll s.data.toList = .ok v) (w : World) :
    Calls Tryd.prog 79 #[.string s] w fun e w' => e = .returned (.tuple #[.int .i64 v, .nilIface]) ∧ (w' = w ∨ ∃ t, w' = Lib.bytesWorld w 5 t) := Any.strconv_Atoi_ok Tryd.laysC172 s hmax v h w
open Go.RowKit in
theorem Tryd.strconv_Atoi_syntax_var (s : ByteArray) (hlim : s.size ≤ 281474976710656) (h : Lib.atoiAll s.data.toList = Lib.atoiAll []) (tp : TypeId) (p : Value) (w : World) (hvar : w.var? Tryd.prog "strconv.ErrSyntax" = some #[.iface tp p]) :
    Calls Tryd.prog 79 #[.string s] w fun e w' => ∃ N, e = .returned (.tuple #[.int .i64 0, .iface 142 (.pointer (some ⟨N, 0, none⟩))]) ∧ w.heap.size ≤ N ∧ w'.heap[N]? = some (.cells #[.string ⟨#[65, 116, 111, 105]⟩, .string s, .iface tp p] 151 (0, 0)) ∧ Below w.heap.size w w' := Any.strconv_Atoi_syntax_var Tryd.laysC172 s hlim h tp p w hvar
open Go.RowKit in
theorem Tryd.strconv_Atoi_range_var (s : ByteArray) (hlim : s.size ≤ 281474976710656) (h : Lib.atoiAll s.data.toList = .range) (tp : TypeId) (p : Value) (w : World) (hvar : w.var? Tryd.prog "strconv.ErrRange" = some #[.iface tp p]) :
    Calls Tryd.prog 79 #[.string s] w fun e w' => ∃ N, e = .returned (.tuple #[.int .i64 (Lib.atoiSat s.data.toList), .iface 142 (.pointer (some ⟨N, 0, none⟩))]) ∧ w.heap.size ≤ N ∧ w'.heap[N]? = some (.cells #[.string ⟨#[65, 116, 111, 105]⟩, .string s, .iface tp p] 151 (0, 0)) ∧ Below w.heap.size w w' := Any.strconv_Atoi_range_var Tryd.laysC172 s hlim h tp p w hvar
def Tryd.lays144_ren : Go.Shelf.Ren := ⟨fun | 144 => 47 | 143 => 67 | 219 => 78 | 217 => 89 | 225 => 90 | 224 => 91 | 267 => 92 | 266 => 97 | 314 => 98 | n => n, fun | 9 => 9 | 4 => 4 | 3 => 3 | 5 => 5 | 46 => 133 | 146 => 136 | 51 => 135 | n => n, fun | 1 => 0 | n => n⟩
theorem Tryd.lays144 : Go.Proofs.Lays.n144 Tryd.prog Tryd.lays144_ren := {
  mixed := by kernel_rfl
  f143 := Tryd.func67.trans (congrArg some (by kernel_rfl))
  f144 := Tryd.func47.trans (congrArg some (by kernel_rfl))
  f217 := Tryd.func89.trans (congrArg some (by kernel_rfl))
  f219 := Tryd.func78.trans (congrArg some (by kernel_rfl))
  f224 := Tryd.func91.trans (congrArg some (by kernel_rfl))
  f225 := Tryd.func90.trans (congrArg some (by kernel_rfl))
  f266 := Tryd.func97.trans (congrArg some (by kernel_rfl))
  f267 := Tryd.func92.trans (congrArg some (by kernel_rfl))
  f314 := Tryd.func98.trans (congrArg some (by kernel_rfl))
  t3 := Tryd.underlying3
  a3 := Tryd.isAgg3
  z3 := Tryd.sizeOf3
  v3 := Tryd.zeroValue3
  t4 := Tryd.underlying4
  a4 := Tryd.isAgg4
  z4 := Tryd.sizeOf4
  v4 := Tryd.zeroValue4
  t5 := Tryd.underlying5
  a5 := Tryd.isAgg5
  z5 := Tryd.sizeOf5
  v5 := Tryd.zeroValue5
  t9 := Tryd.underlying9
  a9 := Tryd.isAgg9
  z9 := Tryd.sizeOf9
  v9 := Tryd.zeroValue9
  t46 := Tryd.underlying133
  a46 := Tryd.isAgg133
  z46 := Tryd.sizeOf133
  v46 := Tryd.zeroValue133
  t51 := Tryd.underlying135
  a51 := Tryd.isAgg135
  z51 := Tryd.sizeOf135
  v51 := Tryd.zeroValue135
  t146 := Tryd.underlying136
  a146 := Tryd.isAgg136
  z146 := Tryd.sizeOf136
  v146 := Tryd.zeroValue136
  g1 := by kernel_rfl }
open Go.RowKit Go.Lib in
theorem Tryd.strings_Contains_one (s : ByteArray) (c : UInt8) (w : World) :
    Calls Tryd.prog 47 #[.string s, .string ⟨#[c]⟩] w fun e w' => e = .returned (.bool (decide (0 ≤ Lib.indexByte s.data.toList c))) ∧ w' = w := Any.strings_Contains_one Tryd.lays144 s c w
open Go.RowKit Go.Lib in
theorem Tryd.strings_Contains (s sub : ByteArray) (m : Int) (w : World) (hs : s.size < 4294967281) (hm : w.cell? ⟨0, 0, none⟩ = some (.int .i64 m)) :
    Calls Tryd.prog 47 #[.string s, .string sub] w fun e w' => e = .returned (.bool (Lib.contains s.data.toList sub.data.toList)) ∧ w' = w := Any.strings_Contains Tryd.lays144 s sub m w hs hm
end Go.Proofs
namespace Go.Proofs.YtpllgpgdcbgalaaDoor
open Go Go.RowKit
theorem Sim.below {A : Nat → Prop} {ρ : Nat → Loc} {H : Heap} {w w' : World} (s : Sim A ρ H w) (b : Below w.heap.size w w') : Sim A ρ H w' ∧ Fr A ρ H w A ρ H w' := by
  have hK : ∀ b' o, Kof ρ H w b' = some o → Kof ρ H w' b' = some o := fun b' o hb => by
    obtain ⟨h1, h2⟩ := zk.1 hb
    exact zk.2 ⟨h1, by rw [b.block b' (Array.getElem?_eq_some_iff.1 h2).1]; exact h2⟩
  refine ⟨⟨s.live, fun g o ho => ?_, s.inj, s.lay.mono hK⟩, ⟨fun _ h => ⟨rfl, h⟩, hK, b.os, b.tape, b.output, b.size⟩⟩
  exact (s.obj g o ho).mono (b.block _ (s.obj g o ho).block_lt) hK (fun _ h => ⟨rfl, h⟩)
theorem QC.of_calls {P : Program} {f : FuncId} {fn : Func} {c : Code} {args : List AV} {r : AV} (hf : P.funcs[f]? = some fn) (hb : fn.body = some c) (hname : (fn.name == "runtime.NumGoroutine") = false)
    (h : ∀ (K : ze) (ρ : Nat → Loc) (A : Nat → Prop) (w : World) (cargs : Array Value), LayK (fun b => w.heap[b]?) → LRel K ρ A args cargs.toList → Calls P f cargs w fun e w' => (∃ v, e = .returned v ∧ ∀ (K : ze) (ρ : Nat → Loc) (A : Nat → Prop), VRel K ρ A r v) ∧ Below w.heap.size w w') : QC P f args r := by
  intro H nx ρ w cargs s ha
  have hcall : (callFunc f cargs).run P w = .ok (.enter f cargs) w := by
    have hname' : ¬ fn.name = "runtime.NumGoroutine" := by simpa using hname
    simp [callFunc, program, Sem.run_bind, Sem.run, hf, hname', hb, pure]
  rw [hcall]
  simp only [zq]
  refine (h _ _ _ w cargs (s.lay.mono fun b o hb => (zk.1 hb).2) ha).mono fun e w' ⟨⟨v, he, hv⟩, hw⟩ => ?_
  obtain ⟨s', f'⟩ := s.below hw
  exact ⟨v, he, r, H, nx, ρ, ⟨rfl, rfl, rfl⟩, s', hv _ _ _, f'⟩
theorem ztw : (Tryd.prog.globalNamed "internal/strconv.uint64pow10").isSome = true := by kernel_rfl
theorem LayK.tab {w : World} (h : LayK (fun b => w.heap[b]?)) : Lib.TabIs Tryd.prog w "internal/strconv.uint64pow10" .u64 Lib.pow10Tab := by
  obtain ⟨g, hg⟩ := Option.isSome_iff_exists.1 ztw
  obtain ⟨e, m, hc⟩ := h.1 g hg
  unfold Lib.TabIs World.var?
  have hc' : w.heap[g]? = _ := hc
  rw [hg, Option.bind_some, hc']
set_option maxRecDepth 8000 in
theorem zvx (n : Int) (h0 : -9223372036854775808 ≤ n) (h1 : n ≤ 9223372036854775807) : QC Tryd.prog 80 [.int .i64 n] (.str (Lib.itoa n)) := by
  refine QC.of_calls (c := zj Tryd.f80) Tryd.func80 (by kernel_rfl) (by kernel_rfl) fun K ρ A w cargs hl ha => ?_
  have hc : cargs = #[.int .i64 n] := by
    obtain ⟨hlen, hg⟩ := ha
    have hlen' : cargs.toList.length = 1 := hlen
    match he : cargs.toList, hlen' with
    | [v], _ =>
      have := hg 0 (.int .i64 n) v rfl (by rw [he]; rfl)
      cases this
      exact Array.ext' (by rw [he])
  subst hc
  refine (Tryd.strconv_Itoa n h0 h1 w hl.tab).mono fun e w' ⟨he, k, os, hw⟩ => ?_
  subst he hw
  refine ⟨⟨_, rfl, fun K ρ A => .str _⟩, ⟨rfl, rfl, rfl, ?_, fun b hb => ?_⟩⟩
  · simp [Sort.grow, World.drewN]
  · simp only [Sort.grow, World.drewN]
    rw [Array.getElem?_append_left (by simpa using hb)]
end Go.Proofs.YtpllgpgdcbgalaaDoor
namespace Go.Proofs.YtpllgpgdcbgalaaDoor
open Go Go.RowKit
theorem zqn : (Tryd.prog.globalNamed "strconv.ErrSyntax").isSome = true := by kernel_rfl
theorem zrv : (Tryd.prog.globalNamed "strconv.ErrRange").isSome = true := by kernel_rfl
theorem LayE.var {n : String} {w : World} (h : LayE n (fun b => w.heap[b]?)) (hn : (Tryd.prog.globalNamed n).isSome = true) : ∃ t p, w.var? Tryd.prog n = some #[.iface t p] := by
  obtain ⟨g, hg⟩ := Option.isSome_iff_exists.1 hn
  obtain ⟨t, p, e, m, hc⟩ := h g hg
  have hc' : w.heap[g]? = _ := hc
  exact ⟨t, p, by unfold World.var?; rw [hg, Option.bind_some, hc']⟩
theorem zqx (w : World) (e : TypeId) (s : ByteArray) : Below w.heap.size w (Lib.bytesWorld w e s) := ⟨rfl, rfl, rfl, by rw [Lib.bytesWorld_size]; omega, fun k hk => Lib.bytesWorld_at_old w e s k hk⟩
def zsl (s : List UInt8) : AV := match Lib.atoiAll s with
  | .ok v => .tup [.int .i64 v, .inil]
  | .range => .tup [.int .i64 (Lib.atoiSat s), .ifc]
  | _ => .tup [.int .i64 0, .ifc]
theorem tup2 {n : Int} {x : AV} {c : Value} (h : ∀ K ρ A, VRel K ρ A x c) (K : ze) (ρ : Nat → Loc) (A : Nat → Prop) : VRel K ρ A (.tup [.int .i64 n, x]) (.tuple #[.int .i64 n, c]) :=
  .tup _ _ rfl fun j v c' hv hc => by
    match j with
    | 0 => cases hv; cases hc; exact .int _ _
    | 1 => cases hv; cases hc; exact h K ρ A
set_option maxRecDepth 8000 in
theorem zwc (s : List UInt8) (h : s.length ≤ 281474976710656) : QC Tryd.prog 79 [.str s] (zsl s) := by
  refine QC.of_calls (c := zj Tryd.f79) Tryd.func79 (by kernel_rfl) (by kernel_rfl) fun K ρ A w cargs hl ha => ?_
  have hc : cargs = #[.string ⟨s.toArray⟩] := by
    obtain ⟨hlen, hg⟩ := ha
    have hlen' : cargs.toList.length = 1 := hlen
    match he : cargs.toList, hlen' with
    | [v], _ =>
      have := hg 0 (.str s) v rfl (by rw [he]; rfl)
      cases this
      exact Array.ext' (by rw [he])
  subst hc
  have hs : (ByteArray.mk s.toArray).size = s.length := by show s.toArray.size = _; simp
  have hd : (ByteArray.mk s.toArray).data.toList = s := by simp
  unfold zsl
  cases hv : Lib.atoiAll s with
  | ok v =>
    refine (Tryd.strconv_Atoi_ok ⟨s.toArray⟩ (by omega) v (by rw [hd]; exact hv) w).mono fun e w' ⟨he, hw⟩ => ⟨⟨_, he, tup2 fun _ _ _ => .inil⟩, ?_⟩
    rcases hw with rfl | ⟨t, rfl⟩
    · exact .refl _ _
    · exact zqx w _ t
  | range =>
    obtain ⟨t, p, hvar⟩ := hl.2.2.1.var zrv
    have hx : Lib.atoiSat (ByteArray.mk s.toArray).data.toList = Lib.atoiSat s := by rw [hd]
    exact (Tryd.strconv_Atoi_range_var ⟨s.toArray⟩ (by omega) (by rw [hd]; exact hv) t p w hvar).mono fun e w' ⟨N, he, _, _, hw⟩ => ⟨⟨_, hx ▸ he, tup2 fun _ _ _ => .ifc _ ⟨_, _, rfl⟩⟩, hw⟩
  | _ =>
    obtain ⟨t, p, hvar⟩ := hl.2.1.var zqn
    exact (Tryd.strconv_Atoi_syntax_var ⟨s.toArray⟩ (by omega) (by rw [hd]; exact hv) t p w hvar).mono fun e w' ⟨N, he, _, _, hw⟩ => ⟨⟨_, he, tup2 fun _ _ _ => .ifc _ ⟨_, _, rfl⟩⟩, hw⟩
end Go.Proofs.YtpllgpgdcbgalaaDoor
set_option maxRecDepth 8000
namespace Go.Proofs.YtpllgpgdcbgalaaDoor
open Go Go.RowKit
def PR (st : VM.St) : AObj := .row 2 [.str st.1, .int .i64 st.2]
theorem Heap.put_same {H : Heap} {g : Nat} {o : Option AObj} (h : H g = o) : H.put g o = H := by
  funext x
  by_cases hx : x = g
  · subst hx; rw [Heap.put_at, h]
  · rw [Heap.put_ne _ _ hx]
@[simp ↓ high] theorem zza {s : Str} {ki : IntKind} {a : Int} {k : AV → Prop} : SLS (.str s) (some (.int ki a)) none k = (0 ≤ a ∧ a ≤ s.length ∧ k (.str (s.drop a.toNat))) := by
  simp [SLS, zet, lohi, PURE, qk]
@[simp ↓ high] theorem zzb {s : Str} {ki : IntKind} {b : Int} {k : AV → Prop} : SLS (.str s) none (some (.int ki b)) k = (0 ≤ b ∧ b ≤ s.length ∧ k (.str (s.take b.toNat))) := by
  simp [SLS, zet, lohi, PURE, qk]
@[simp ↓ high] theorem zaaj {s : Str} {ki kj : IntKind} {a b : Int} {k : AV → Prop} : SLS (.str s) (some (.int ki a)) (some (.int kj b)) k = (0 ≤ a ∧ a ≤ b ∧ b ≤ s.length ∧ k (.str ((s.take b.toNat).drop a.toNat))) := by
  simp [SLS, zet, lohi, PURE, qk]
section
variable {g : Nat} {st : VM.St} {H : Heap} {n : Nat} {Q : QT}
theorem ztm {e : Int} (hg : H g = some (PR st)) (hq : Q (.tup []) (H.put g (some (PR (VM.badF e st)))) n) : za Tryd.prog 48 [.ptr g 0, .int .i64 e] H n Q := by
  refine zkz _ _ _ _ _ ?_
  unfold VM.badF at hq
  have hg' : H g = some (.row 2 [.str st.1, .int .i64 st.2]) := hg
  by_cases h : st.2 = 0
  · simp only [if_pos h, PR] at hq
    simp [zed, hg', h, hq]
  · simp only [if_neg h, PR] at hq
    rw [Heap.put_same hg'] at hq
    simp [zed, hg', h, hq]
theorem zcc {c d : UInt8} {z : Int} (h : c ≠ d) (hz : (d.toNat : Int) = z) : ¬ (c.toNat : Int) = z := fun e => h (UInt8.toNat_inj.1 (by omega))
theorem zbj (c : UInt8) (r : Str) : VM.trim (c :: r) = if VM.blank c then VM.trim r else c :: r := by
  unfold VM.trim; rw [List.dropWhile_cons]
theorem zvq (hg : H g = some (PR st)) (hq : Q (.int .u8 (VM.nxt st.1)) (H.put g (some (PR (VM.trim st.1, st.2)))) n) : za Tryd.prog 27 [.ptr g 0] H n Q := by
  refine zky _ _ _ _ ?_
  unfold zho
  refine LP.mk (fun m xs H' n' => xs = [.ptr g 0] ∧ n' = n ∧ ∃ s, m = s.length ∧ VM.trim s = VM.trim st.1 ∧ H' = H.put g (some (PR (s, st.2)))) st.1.length ⟨rfl, rfl, st.1, rfl, rfl, (Heap.put_same hg).symm⟩ ?_
  rintro m xs H' n' ⟨rfl, rfl, s, rfl, ht, rfl⟩
  have hg' : (H.put g (some (PR (s, st.2)))) g = some (.row 2 [.str s, .int .i64 st.2]) := Heap.put_at _ _ _
  have hnx : VM.nxt st.1 = VM.nxt s := by unfold VM.nxt; rw [ht]
  rw [hnx, ← ht] at hq
  generalize hX : Heap.put H g (some (PR (s, st.2))) = HX at hg'
  have hP : ∀ o, HX.put g o = H.put g o := fun o => by rw [← hX, Heap.put_put]
  cases s with
  | nil =>
    have hq' : Q (.int .u8 0) HX n' := by rw [← hX]; exact hq
    simp [zap, hg', hq']
  | cons c r =>
    have hl : ¬ (r.length : Int) + 1 = 0 := by omega
    by_cases h32 : c = 32
    · subst h32
      simp [zap, hg', hP, PR]
      exact ⟨by omega, r.length, by omega, r, rfl, by rw [← ht, zbj]; rfl, rfl⟩
    by_cases h10 : c = 10
    · subst h10
      simp [zap, hg', hP, PR]
      exact ⟨by omega, r.length, by omega, r, rfl, by rw [← ht, zbj]; rfl, rfl⟩
    have n32 : ¬ (c.toNat : Int) = 32 := zcc h32 rfl
    have n10 : ¬ (c.toNat : Int) = 10 := zcc h10 rfl
    have htr : VM.trim (c :: r) = c :: r := by rw [zbj, if_neg]; simp [VM.blank, h32, h10]
    have hnx' : VM.nxt (c :: r) = if c = 0 then 1 else (c.toNat : Int) := by unfold VM.nxt; rw [htr]
    rw [htr, hnx'] at hq
    by_cases h0 : c = 0
    · subst h0
      have hq' : Q (.int .u8 1) HX n' := by rw [← hX]; exact hq
      simp [zap, hg', hl, hq']
    · have n0 : ¬ c.toNat = 0 := by have := zcc h0 (z := 0) rfl; omega
      rw [if_neg h0] at hq
      have hq' : Q (.int .u8 (c.toNat : Int)) HX n' := by rw [← hX]; exact hq
      simp [zap, hg', hl, hq', n32, n10, n0]
theorem zhn {b : Str} (h : VM.nxt b ≠ 0) : ∃ c r, VM.trim b = c :: r := by
  unfold VM.nxt at h
  cases ht : VM.trim b with
  | nil => rw [ht] at h; exact absurd rfl h
  | cons c r => exact ⟨c, r, rfl⟩
theorem zkd {p : UInt8 → Bool} {a b : Str} (ha : ∀ x ∈ a, p x = true) (hb : ∀ c r, b = c :: r → p c = false) : (a ++ b).takeWhile p = a ∧ (a ++ b).dropWhile p = b := by
  induction a with
  | nil =>
    cases b with
    | nil => exact ⟨rfl, rfl⟩
    | cons c r => have := hb c r rfl; simp [this]
  | cons x a ih =>
    have h := ih fun y hy => ha y (by simp [hy])
    simp [ha x (by simp), h.1, h.2]
theorem w_ac (hs : st.1.length < 4611686018427387904) (hg : H g = some (PR st)) (hq : Q (.str (VM.wF st).1) (H.put g (some (PR (VM.wF st).2))) n) : za Tryd.prog 49 [.ptr g 0] H n Q := by
  refine zmn _ _ _ _ ?_
  refine zvq hg ?_
  have htl : (VM.trim st.1).length ≤ st.1.length := VM.trim_le _
  have hw : ∀ a b, VM.trim st.1 = a ++ b → (∀ x ∈ a, VM.wordC x = true) → (∀ c r, b = c :: r → VM.wordC c = false) → VM.wF st = (a, if a = [] then VM.badF (if b = [] then 8 else 2) (b, st.2) else (b, st.2)) := by
    intro a b h1 h2 h3
    have := zkd h2 h3
    unfold VM.wF
    rw [h1, this.1, this.2]
    by_cases ha : a = []
    · subst ha; simp
    · simp [ha]
  generalize VM.trim st.1 = t at *
  have hg' : (H.put g (some (PR (t, st.2)))) g = some (.row 2 [.str t, .int .i64 st.2]) := Heap.put_at _ _ _
  have hP : ∀ o, (H.put g (some (PR (t, st.2)))).put g o = H.put g o := fun o => Heap.put_put ..
  generalize H.put g (some (PR (t, st.2))) = HX at *
  unfold zku
  refine LP.mk (fun m xs H' n' => H' = HX ∧ n' = n ∧ ∃ a b, xs = [.ptr g 0, .int .i64 (a.length : Int)] ∧ t = a ++ b ∧ (∀ x ∈ a, VM.wordC x = true) ∧ m = b.length) t.length ⟨rfl, rfl, [], t, rfl, rfl, by simp, rfl⟩ ?_
  rintro m xs H' n' ⟨rfl, rfl, a, b, rfl, ht, ha, rfl⟩
  -- where the word ends
  have fin : (∀ c r, b = c :: r → VM.wordC c = false) → (a = [] → za Tryd.prog 48 [.ptr g 0, .int .i64 (if b = [] then 8 else 2)] H' n' (zf [.ptr g 0, .int .i64 (a.length : Int)] Q)) ∧ (a ≠ [] → Q (.str a) (H.put g (some (.row 2 [.str b, .int .i64 st.2]))) n') := by
    intro hb
    have h := hw a b ht ha hb
    rw [h] at hq
    refine ⟨fun e => ?_, fun e => ?_⟩
    · subst e
      simp only [if_true] at hq
      refine ztm (st := (b, st.2)) (by rw [hg', ht]; rfl) ?_
      rw [hP]
      unfold VM.badF at hq ⊢
      generalize (if (b, st.2).2 = 0 then (if b = [] then (8 : Int) else 2) else (b, st.2).2) = k at *
      have hx : (H.put g (some (PR (b, k)))) g = some (.row 2 [.str b, .int .i64 k]) := Heap.put_at _ _ _
      have hP2 : ∀ o, (H.put g (some (PR (b, k)))).put g o = H.put g o := fun o => Heap.put_put ..
      have hq' : Q (.str []) (H.put g (some (.row 2 [.str b, .int .i64 k]))) n' := hq
      have hb0 : (0 : Int) ≤ b.length := by omega
      generalize H.put g (some (PR (b, k))) = HY at *
      simp [zf, hx, hP2, hq', hb0]
    · simp only [if_neg e] at hq
      exact hq
  have h0 : (0 : Int) ≤ a.length := by omega
  cases b with
  | nil =>
    have hl : t = a := by rw [ht, List.append_nil]
    subst hl
    obtain ⟨f1, f2⟩ := fin (by simp)
    by_cases e : t = []
    · subst e
      have f1' := f1 rfl
      simp at f1'
      simp [zbv, hg', f1']
    · have f2' := f2 e
      have hne : ¬ (t.length : Int) = 0 := fun h => e (List.length_eq_zero_iff.1 (by omega))
      simp [zbv, hg', hne, e, hP, f2']
  | cons c r =>
    have hl : (t.length : Int) = a.length + (r.length + 1) := by rw [ht]; simp
    have hlt : (a.length : Int) < a.length + (r.length + 1) := by omega
    have hle : (a.length : Int) ≤ a.length + (r.length + 1) := by omega
    have hx : t[a.length]? = some c := by rw [ht]; simp
    by_cases hc : VM.wordC c = true
    · have hc' := hc
      simp only [VM.wordC, Bool.not_eq_true', Bool.or_eq_false_iff, beq_eq_false_iff_ne] at hc'
      obtain ⟨⟨⟨⟨c1, c2⟩, c3⟩, c4⟩, c5⟩ := hc'
      have b1 : ¬ (c.toNat : Int) = 32 := zcc c1 rfl
      have b2 : ¬ (c.toNat : Int) = 10 := zcc c2 rfl
      have b3 : ¬ (c.toNat : Int) = 40 := zcc c3 rfl
      have b4 : ¬ (c.toNat : Int) = 41 := zcc c4 rfl
      have b5 : ¬ (c.toNat : Int) = 39 := zcc c5 rfl
      have hwr : IntKind.i64.wrap ((a.length : Int) + 1) = (a.length : Int) + 1 := i64w (by omega)
      simp [zbv, hg', hl, hlt, hx, b1, b2, b3, b4, b5, hwr]
      refine ⟨r.length, by omega, a ++ [c], by rw [List.length_append]; simp, r, by rw [ht]; simp, ?_, rfl⟩
      intro x hx'
      rcases List.mem_append.1 hx' with h | h
      · exact ha x h
      · rw [List.mem_singleton.1 h]; exact hc
    · obtain ⟨f1, f2⟩ := fin (by rintro c' r' h; cases h; simpa using hc)
      have hc' : c = 32 ∨ c = 10 ∨ c = 40 ∨ c = 41 ∨ c = 39 := by
        refine Classical.byContradiction fun h => hc ?_
        simp only [not_or] at h
        simp [VM.wordC, h]
      have htk : t.take a.length = a := by rw [ht]; simp
      have hdr : t.drop a.length = c :: r := by rw [ht]; simp
      by_cases e : a = []
      · subst e
        have f1' := f1 rfl
        simp at f1'
        have hl' : (t.length : Int) = r.length + 1 := by rw [ht]; simp
        have hlt' : (0 : Int) < r.length + 1 := by omega
        have hne : ¬ (r.length : Int) + 1 = 0 := by omega
        have hx' : t[0]? = some c := by rw [ht]; simp
        clear hl hx
        rcases hc' with rfl | rfl | rfl | rfl | rfl <;> simp [zbv, hg', hl', hlt', hne, hx', f1']
      · have f2' := f2 e
        have hne : ¬ (a.length : Int) = 0 := fun h => e (List.length_eq_zero_iff.1 (by omega))
        rcases hc' with rfl | rfl | rfl | rfl | rfl <;> simp [zbv, hg', hl, hlt, hle, hx, hne, e, hP, htk, hdr, f2']
end
end Go.Proofs.YtpllgpgdcbgalaaDoor
set_option maxRecDepth 8000
namespace Go.Proofs.YtpllgpgdcbgalaaDoor
open Go Go.RowKit
theorem zqe {p : UInt8 → Bool} (s : Str) (i : Nat) : (s.drop i).all p = if h : i < s.length then p s[i] && (s.drop (i + 1)).all p else true := by
  split
  · rename_i h
    rw [List.drop_eq_getElem_cons h, List.all_cons]
  · rename_i h
    rw [List.drop_of_length_le (by omega)]; rfl
def zav (c : UInt8) : Bool := decide (97 ≤ c.toNat) && decide (c.toNat ≤ 122)
theorem zgb (s : Str) : VM.name s = (decide (s ∉ VM.keys) && s.all zav && decide (0 < s.length) && decide (s.length < 9)) := rfl
theorem zvs (s : Str) (hs : s.length ≤ maxLen) : QC Tryd.prog 14 [.str s] (.bool (VM.name s)) := by
  refine QC.of' fun H nx => ?_
  suffices main : ∀ Q : QT, (∀ H' n', Keep nx H' H → Q (.bool (VM.name s)) H' n') → za Tryd.prog 14 [.str s] H nx Q from
    main _ fun H' n' hk => ⟨by simp, hk⟩
  intro Q hq
  refine zmg _ H nx _ ?_
  simp only [maxLen] at hs
  have hkeys : AObj.row 1 (VM.keys.map AV.str) = AObj.row 1 [AV.str [108, 101, 116], AV.str [115, 101, 116], AV.str [105, 102], AV.str [119, 104, 105, 108, 101], AV.str [115, 97, 121], AV.str [114, 101, 116, 117, 114, 110], AV.str [112, 117, 116, 108], AV.str [112, 117, 116, 114], AV.str [100, 111], AV.str [99, 101, 108, 108], AV.str [108, 101, 102, 116], AV.str [114, 105, 103, 104, 116], AV.str [97, 115, 107], AV.str [104, 101, 114, 101], AV.str [103, 111]] := rfl
  simp only [zjl, ← hkeys, puth]
  have hk : Keep nx (H.put nx (some (.row 1 (VM.keys.map AV.str)))) H := by simp
  have hH : (H.put nx (some (.row 1 (VM.keys.map AV.str)))) nx = some (.row 1 (VM.keys.map AV.str)) := Heap.put_at _ _ _
  generalize H.put nx (some (.row 1 (VM.keys.map AV.str))) = HX at *
  simp
  have hl : VM.keys.length = 15 := rfl
  refine LP.mk (fun m xs H' n' => ∃ i : Nat, i ≤ 15 ∧ m = 15 - i ∧ xs = [.str s, .slc nx 0 15, .int .i64 15, .int .i64 i] ∧ H' = HX ∧ n' = nx + 1 ∧ s ∉ VM.keys.take i) 15 ⟨0, by omega, by omega, rfl, rfl, rfl, by simp⟩ ?_
  rintro m xs H' n' ⟨i, hi, rfl, rfl, rfl, rfl, hno⟩
  by_cases h : i < 15
  · have hx : (VM.keys.map AV.str)[i]? = some (.str (VM.keys[i]'(by omega))) := by rw [List.getElem?_map, List.getElem?_eq_getElem (by omega)]; rfl
    have hi' : (i : Int) < 15 := by omega
    have hi0 : (0 : Int) ≤ i := by omega
    by_cases e : s = VM.keys[i]'(by omega)
    · have hn : VM.name s = false := by
        have : s ∈ VM.keys := e ▸ List.getElem_mem _
        rw [zgb]; simp [this]
      have hq' := hq H' (nx + 1) hk
      rw [hn] at hq'
      simp [zdg, hi', hH, hx, ← e, hq']
    · have hw : IntKind.i64.wrap ((i : Int) + 1) = (i : Int) + 1 := i64w (by omega)
      simp [zdg, hi', hH, hx, e, hw]
      refine ⟨15 - (i + 1), by omega, i + 1, by omega, rfl, by simp, ?_⟩
      have hts : VM.keys.take (i + 1) = VM.keys.take i ++ [VM.keys[i]'(by omega)] := List.take_succ_eq_append_getElem _
      intro hm
      rw [hts, List.mem_append, List.mem_singleton] at hm
      exact hm.elim hno e
  · have hi' : ¬ (i : Int) < 15 := by omega
    have e15 : i = 15 := by omega
    subst e15
    have hno' : s ∉ VM.keys := by rw [List.take_of_length_le (by omega)] at hno; exact hno
    simp [zdg]
    refine LP.mk (fun m xs H'' n'' => ∃ i : Nat, i ≤ s.length ∧ m = s.length - i ∧ xs = [.str s, .int .i64 s.length, .int .i64 i] ∧ H'' = H' ∧ n'' = nx + 1 ∧ s.all zav = (s.drop i).all zav) s.length ⟨0, by omega, by omega, rfl, rfl, rfl, rfl⟩ ?_
    rintro m xs H'' n'' ⟨j, hj, rfl, rfl, rfl, rfl, hall⟩
    rw [zqe] at hall
    have hqf : VM.name s = false → Q (.bool false) H'' (nx + 1) := fun e => e ▸ hq H'' (nx + 1) hk
    by_cases hlt : j < s.length
    · rw [dif_pos hlt] at hall
      have hb : zav s[j] = false → VM.name s = false := fun hb => by rw [zgb]; simp [hall, hb]
      simp [zdh, hlt]
      refine ⟨fun h1 => hqf (hb (by simp [zav]; omega)), fun h1 => ⟨fun h2 => hqf (hb (by simp [zav]; omega)), fun h2 => ?_⟩⟩
      rw [i64w (by omega)]
      refine ⟨s.length - (j + 1), by omega, j + 1, by omega, rfl, by simp, ?_⟩
      have : zav s[j] = true := by simp [zav]; omega
      rw [hall, this]; rfl
    · rw [dif_neg hlt] at hall
      have hn : VM.name s = (decide (0 < s.length) && decide (s.length < 9)) := by rw [zgb]; simp [hno', hall]
      have hji : ¬ (j : Int) < s.length := by omega
      have hq' := hq H'' (nx + 1) hk
      rw [hn] at hq'
      by_cases h0 : 0 < s.length
      · have e9 : decide ((s.length : Int) < 9) = decide (s.length < 9) := by rw [decide_eq_decide]; omega
        simp [h0, ← e9] at hq'
        simp [zdh, hlt, h0, hq']
      · simp [h0] at hq'
        simp [zdh, hlt, h0, hq']
end Go.Proofs.YtpllgpgdcbgalaaDoor
set_option maxRecDepth 8000
namespace Go.Proofs.YtpllgpgdcbgalaaDoor
open Go Go.RowKit
namespace VM
theorem trim_trim (b : Str) : trim (trim b) = trim b := by
  induction b with
  | nil => rfl
  | cons c r ih =>
    rw [zbj]
    by_cases h : blank c = true
    · rw [if_pos h]; exact ih
    · rw [if_neg h, zbj, if_neg h]
theorem nxt_trim (b : Str) : nxt (trim b) = nxt b := by unfold nxt; rw [trim_trim]
theorem must_trim (c : Int) (b : Str) (e : Int) : mustF c (trim b, e) = mustF c (b, e) := by
  unfold mustF; simp only [nxt_trim, trim_trim]
theorem must_le (c : Int) (st : St) : (mustF c st).1.length ≤ st.1.length := by
  have := trim_le st.1
  unfold mustF
  split
  · show ((trim st.1).drop 1).length ≤ _; rw [List.length_drop]; omega
  · exact this
theorem must_err (c : Int) (st : St) (h : st.2 ≠ 0) : (mustF c st).2 = st.2 := (goes_must c st).stuck h
end VM
section
variable {g : Nat} {st : VM.St} {H : Heap} {n : Nat} {Q : QT}
theorem zir (st : VM.St) : (VM.wF st).1.length ≤ st.1.length ∧ (VM.wF st).2.1.length ≤ st.1.length := by
  have h := VM.trim_le st.1
  have h1 : ((VM.trim st.1).takeWhile VM.wordC).length ≤ (VM.trim st.1).length := (List.takeWhile_sublist _).length_le
  have h2 : ((VM.trim st.1).dropWhile VM.wordC).length ≤ (VM.trim st.1).length := (List.dropWhile_sublist _).length_le
  unfold VM.wF
  refine ⟨by show ((VM.trim st.1).takeWhile VM.wordC).length ≤ _; omega, ?_⟩
  dsimp only
  split
  · exact h
  · exact Nat.le_trans h2 h
theorem zvh (st : VM.St) : (VM.nF st).1.length ≤ st.1.length ∧ (VM.nF st).2.1.length ≤ st.1.length := by
  have h := zir st
  unfold VM.nF
  refine ⟨h.1, ?_⟩
  dsimp only
  split
  · exact h.2
  · exact h.2
theorem zvt {s : Str} {K : QT} (hs : s.length ≤ 1500) (hk : K (.bool (VM.name s)) H n) : za Tryd.prog 14 [.str s] H n K := (zvs s (by unfold maxLen; omega)).call hk
theorem zwu (hs : st.1.length ≤ 1500) (hg : H g = some (PR st)) (hq : Q (.str (VM.nF st).1) (H.put g (some (PR (VM.nF st).2))) n) : za Tryd.prog 29 [.ptr g 0] H n Q := by
  refine zmo _ _ _ _ ?_
  have hl := zir st
  refine w_ac (by omega) hg ?_
  refine zvt (by omega) ?_
  have hP : ∀ o, (H.put g (some (PR (VM.wF st).2))).put g o = H.put g o := fun o => Heap.put_put ..
  have hg2 : (H.put g (some (PR (VM.wF st).2))) g = some (PR (VM.wF st).2) := Heap.put_at _ _ _
  unfold VM.nF at hq
  by_cases h : VM.name (VM.wF st).1 = true
  · simp only [h, if_true] at hq
    simp [zgs, h, hq]
  · simp only [h] at hq
    have h' : VM.name (VM.wF st).1 = false := by simpa using h
    simp [zgs, h']
    refine ztm hg2 ?_
    rw [hP]
    exact hq
end
end Go.Proofs.YtpllgpgdcbgalaaDoor
set_option maxRecDepth 8000
namespace Go.Proofs.YtpllgpgdcbgalaaDoor
open Go Go.RowKit
namespace VM
def untilF {α : Type} (m : St → α × St) : Nat → St → List α × St
  | 0, st => ([], st)
  | k + 1, st => if st.2 = 0 ∧ nxt st.1 ≠ 41 then ((m (trim st.1, 0)).1 :: (untilF m k (m (trim st.1, 0)).2).1, (untilF m k (m (trim st.1, 0)).2).2) else ([], mustF 41 st)
def manyF {α : Type} (m : St → α × St) (st : St) : List α × St := untilF m (st.1.length + 2) st
def quotedF (t : Str) (e : Int) : Ex × St :=
  if 39 ∈ t.drop 1 then (.mk 2 0 ((t.drop 1).takeWhile (· != 39)) [], if word ((t.drop 1).takeWhile (· != 39)) then (((t.drop 1).dropWhile (· != 39)).drop 1, e) else badF 2 (((t.drop 1).dropWhile (· != 39)).drop 1, e)) else (.mk 2 0 [] [], badF 8 (t.drop 1, e))
def plainF (st : St) : Ex × St := match numOf (wF st).1 with
  | some n => (.mk 1 n [] [], if n < -1073741824 ∨ 1073741824 < n then badF 3 (wF st).2 else (wF st).2)
  | none => (.mk 3 0 (wF st).1 [], if name (wF st).1 then (wF st).2 else badF 7 (wF st).2)
def formF (m : St → Ex × St) (w : Str) (s1 : St) : Ex × St := match headOf w with
  | some (k, n, want) => (.mk k n [] (manyF m s1).1, if (manyF m s1).1.length = want then (manyF m s1).2 else badF 5 (manyF m s1).2)
  | none => (.mk 11 0 w (manyF m (if name w then s1 else badF 7 s1)).1, if (manyF m (if name w then s1 else badF 7 s1)).1.length ≤ 4 then (manyF m (if name w then s1 else badF 7 s1)).2 else badF 5 (manyF m (if name w then s1 else badF 7 s1)).2)
def exprF : Nat → St → Ex × St
  | 0, st => (ex0, badF 9 st)
  | d + 1, st => if st.2 ≠ 0 then (ex0, st)
    else if nxt st.1 = 39 then quotedF (trim st.1) st.2
    else if nxt st.1 ≠ 40 then plainF (trim st.1, st.2)
    else formF (exprF d) (wF ((trim st.1).drop 1, st.2)).1 (wF ((trim st.1).drop 1, st.2)).2
def timesF {α : Type} (m : St → α × St) : Nat → St → List α × St
  | 0, st => ([], st)
  | k + 1, st => ((m st).1 :: (timesF m k (m st).2).1, (timesF m k (m st).2).2)
def argsOf (k : Int) : Nat := if k = 0 then 0 else if k = 7 ∨ k = 8 then 2 else 1
def nmF (k : Int) (st : St) : Str × St := if k = 1 ∨ k = 2 then nF st else ([], st)
def stmtF : Nat → St → Sm × St
  | 0, st => (sm0, badF 9 st)
  | d + 1, st => if st.2 ≠ 0 then (sm0, st)
    else
      let w := wF (mustF 40 st)
      let k := stKind w.1
      let nm := nmF k (if k = 0 then badF 1 w.2 else w.2)
      let a := timesF (exprF d) (argsOf k) nm.2
      if k = 3 then
        let t := manyF (stmtF d) (mustF 40 a.2)
        let e := manyF (stmtF d) (mustF 40 t.2)
        (.mk k nm.1 a.1 t.1 e.1, mustF 41 e.2)
      else if k = 4 then
        let t := manyF (stmtF d) a.2
        (.mk k nm.1 a.1 t.1 [], t.2)
      else (.mk k nm.1 a.1 [] [], mustF 41 a.2)
def fnF (st : St) : Fnc × St :=
  let nm := nF (mustF 40 st)
  let ps := manyF nF (mustF 40 nm.2)
  let b := manyF (stmtF 11) ps.2
  (⟨nm.1, ps.1, b.1⟩, b.2)
def fnsF : Nat → St → List Fnc × St
  | 0, st => ([], st)
  | k + 1, st => if st.2 = 0 ∧ nxt st.1 ≠ 0 then ((fnF (trim st.1, 0)).1 :: (fnsF k (fnF (trim st.1, 0)).2).1, (fnsF k (fnF (trim st.1, 0)).2).2) else ([], (if st.2 = 0 then trim st.1 else st.1, st.2))
def parseF (s : Str) : List Fnc × Int := if 1500 < s.length then ([], 4) else if (fnsF (s.length + 2) (s, 0)).2.2 ≠ 0 then ([], (fnsF (s.length + 2) (s, 0)).2.2) else ((fnsF (s.length + 2) (s, 0)).1, 0)
structure Nice {α : Type} (m : St → α × St) : Prop where
  le : ∀ st, (m st).2.1.length ≤ st.1.length
  stuck : ∀ st, st.2 ≠ 0 → (m st).2.2 ≠ 0
  eats : ∀ st, st.2 = 0 → (m st).2.2 = 0 → (m st).2.1.length < st.1.length
theorem bad_err {e : Int} {st : St} (h : e ≠ 0) : (badF e st).2 ≠ 0 := by
  unfold badF
  by_cases h2 : st.2 = 0 <;> simp [h2, h]
theorem bad_stuck {e : Int} {st : St} (h : st.2 ≠ 0) : (badF e st).2 ≠ 0 := by
  unfold badF; simp [h]
theorem must_stuck {c : Int} {st : St} (h : st.2 ≠ 0) : (mustF c st).2 ≠ 0 := by rw [must_err c st h]; exact h
theorem must_eats {c : Int} {st : St} (hc : c ≠ 0) (h : (mustF c st).2 = 0) : (mustF c st).1.length < st.1.length := by
  unfold mustF at *
  by_cases hn : nxt st.1 = c
  · rw [if_pos hn]
    obtain ⟨x, r, hx⟩ := zhn (by rw [hn]; exact hc)
    have := trim_le st.1
    simp only [hx, List.drop_succ_cons, List.drop_zero, List.length_cons] at *
    omega
  · rw [if_neg hn] at h
    refine absurd h (bad_err ?_)
    split <;> decide
theorem w_stuck {st : St} (h : st.2 ≠ 0) : (wF st).2.2 ≠ 0 := by
  unfold wF
  dsimp only
  split
  · exact bad_stuck h
  · exact h
theorem w_eats {st : St} (h : (wF st).2.2 = 0) : (wF st).2.1.length < st.1.length := by
  have ht := trim_le st.1
  unfold wF at *
  dsimp only at *
  split at h
  · refine absurd h (bad_err ?_)
    split <;> decide
  · rename_i hne
    rw [if_neg hne]
    have e : (trim st.1).takeWhile wordC ++ (trim st.1).dropWhile wordC = trim st.1 := List.takeWhile_append_dropWhile
    have e2 := congrArg List.length e
    rw [List.length_append] at e2
    have := List.length_pos_iff.2 hne
    simp only
    omega
theorem n_stuck {st : St} (h : st.2 ≠ 0) : (nF st).2.2 ≠ 0 := by
  unfold nF
  dsimp only
  split
  · exact w_stuck h
  · exact bad_stuck (w_stuck h)
theorem nice_n : Nice nF where
  le st := (zvh st).2
  stuck _ h := n_stuck h
  eats st _ h := by
    unfold nF at *
    dsimp only at *
    split at h
    · rename_i hn
      rw [if_pos hn]; exact w_eats h
    · exact absurd h (bad_err (by decide))
def left (st : St) : Nat := if st.2 = 0 then st.1.length + 1 else 0
theorem left_lt {α : Type} {m : St → α × St} (hm : Nice m) {st : St} (h : st.2 = 0) : left (m (trim st.1, 0)).2 < left st := by
  unfold left
  rw [if_pos h]
  have := trim_le st.1
  split
  · rename_i h2
    have := hm.eats (trim st.1, 0) rfl h2
    simp only at this; omega
  · omega
theorem left_le (st : St) : left st < st.1.length + 2 := by unfold left; split <;> omega
theorem until_le {α : Type} {m : St → α × St} (hm : Nice m) : ∀ (k : Nat) (st : St), (untilF m k st).2.1.length ≤ st.1.length
  | 0, st => Nat.le_refl _
  | k + 1, st => by
    unfold untilF
    split
    · have := until_le hm k (m (trim st.1, 0)).2
      have h2 := hm.le (trim st.1, 0)
      have h3 := trim_le st.1
      simp only at *; omega
    · exact must_le 41 st
theorem until_end {α : Type} {m : St → α × St} (hm : Nice m) : ∀ (k : Nat) (st : St), left st < k → ((untilF m k st).2.2 = 0 → st.2 = 0 ∧ (untilF m k st).2.1.length < st.1.length)
  | 0, st, h, _ => absurd h (by omega)
  | k + 1, st, h, h2 => by
    unfold untilF at *
    split
    · rename_i hc
      rw [if_pos hc] at h2
      have hl := left_lt hm (st := st) hc.1
      obtain ⟨a, b⟩ := until_end hm k _ (by omega) h2
      have h3 := hm.le (trim st.1, 0)
      have h4 := trim_le st.1
      refine ⟨hc.1, ?_⟩
      simp only at *; omega
    · rename_i hc
      rw [if_neg hc] at h2
      refine ⟨Classical.byContradiction fun h0 => must_stuck h0 h2, must_eats (by decide) h2⟩
theorem many_le {α : Type} {m : St → α × St} (hm : Nice m) (st : St) : (manyF m st).2.1.length ≤ st.1.length := until_le hm _ st
theorem nice_many {α : Type} {m : St → α × St} (hm : Nice m) : Nice (manyF m) where
  le st := many_le hm st
  stuck st h h2 := h (until_end hm _ st (left_le st) h2).1
  eats st _ h2 := (until_end hm _ st (left_le st) h2).2
theorem quoted_le (t : Str) (e : Int) : (quotedF t e).2.1.length ≤ t.length - 1 := by
  have h1 : (t.drop 1).length = t.length - 1 := List.length_drop
  have h2 : ((t.drop 1).dropWhile (· != 39)).length ≤ (t.drop 1).length := (List.dropWhile_sublist _).length_le
  have h3 : (((t.drop 1).dropWhile (· != 39)).drop 1).length ≤ ((t.drop 1).dropWhile (· != 39)).length := by rw [List.length_drop]; omega
  unfold quotedF
  split
  · dsimp only
    split
    · show (((t.drop 1).dropWhile (· != 39)).drop 1).length ≤ _; omega
    · show (((t.drop 1).dropWhile (· != 39)).drop 1).length ≤ _; omega
  · show (t.drop 1).length ≤ _; omega
theorem plain_le (st : St) : (plainF st).2.1.length ≤ st.1.length := by
  have h := (zir st).2
  unfold plainF
  split <;> dsimp only <;> split <;> exact h
theorem plain_eats {st : St} (h : (plainF st).2.2 = 0) : (plainF st).2.1.length < st.1.length := by
  unfold plainF at *
  split at h <;> dsimp only at * <;> split at h
  · exact absurd h (bad_err (by decide))
  · rename_i h2; rw [if_neg h2]; exact w_eats h
  · rename_i h2; rw [if_pos h2]; exact w_eats h
  · exact absurd h (bad_err (by decide))
theorem form_le {m : St → Ex × St} (hm : Nice m) (w : Str) (st : St) : (formF m w st).2.1.length ≤ st.1.length := by
  unfold formF
  split <;> dsimp only
  · split <;> exact many_le hm st
  · have : ∀ s : St, s.1.length = st.1.length → (manyF m s).2.1.length ≤ st.1.length := fun s hs => hs ▸ many_le hm s
    have h1 := this (if name w then st else badF 7 st) (by split <;> rfl)
    generalize (if name w = true then st else badF 7 st) = s at h1 ⊢
    split <;> exact h1
theorem form_zero {m : St → Ex × St} (hm : Nice m) {w : Str} {st : St} (h : (formF m w st).2.2 = 0) : st.2 = 0 := by
  have key : ∀ s : St, (manyF m s).2.2 = 0 → s.2 = 0 := fun s h => Classical.byContradiction fun h0 => (nice_many hm).stuck s h0 h
  have key2 : (if name w then st else badF 7 st).2 = 0 → st.2 = 0 := fun h => by
    split at h
    · exact h
    · exact absurd h (bad_err (by decide))
  unfold formF at h
  cases hw : headOf w with
  | some p =>
    obtain ⟨k, n, want⟩ := p
    rw [hw] at h
    dsimp only at h
    split at h
    · exact key _ h
    · exact absurd h (bad_err (by decide))
  | none =>
    rw [hw] at h
    dsimp only at h
    generalize (if name w = true then st else badF 7 st) = s at h key2
    split at h
    · exact key2 (key _ h)
    · exact absurd h (bad_err (by decide))
theorem nice_expr : ∀ d, Nice (exprF d)
  | 0 => ⟨fun st => Nat.le_refl _, fun st h => bad_stuck h, fun st _ h => absurd h (bad_err (by decide))⟩
  | d + 1 => by
    have ih := nice_expr d
    have step : ∀ st : St, st.2 = 0 → nxt st.1 = 40 ∨ nxt st.1 = 39 → ∃ c r, trim st.1 = c :: r := fun st _ h => zhn (by rcases h with h | h <;> rw [h] <;> decide)
    refine ⟨fun st => ?_, fun st h => ?_, fun st h h2 => ?_⟩
    · have ht := trim_le st.1
      unfold exprF
      split
      · exact Nat.le_refl _
      · split
        · have := quoted_le (trim st.1) st.2; omega
        · split
          · have := plain_le (trim st.1, st.2); simp only at this; omega
          · have h1 := form_le ih (wF ((trim st.1).drop 1, st.2)).1 (wF ((trim st.1).drop 1, st.2)).2
            have h2 := (zir ((trim st.1).drop 1, st.2)).2
            simp only [List.length_drop] at h2; omega
    · unfold exprF; rw [if_pos h]; exact h
    · have ht := trim_le st.1
      unfold exprF at *
      rw [if_neg (by simpa using h)] at *
      by_cases h39 : nxt st.1 = 39
      · rw [if_pos h39] at *
        obtain ⟨c, r, hc⟩ := step st h (.inr h39)
        have := quoted_le (trim st.1) st.2
        have hl : (trim st.1).length = r.length + 1 := by rw [hc]; rfl
        omega
      · rw [if_neg h39] at *
        by_cases h40 : nxt st.1 ≠ 40
        · rw [if_pos h40] at *
          have := plain_eats h2
          simp only at this; omega
        · rw [if_neg h40] at *
          have h1 := form_le ih (wF ((trim st.1).drop 1, st.2)).1 (wF ((trim st.1).drop 1, st.2)).2
          have h3 := w_eats (form_zero ih h2)
          simp only [List.length_drop] at h3; omega
end VM
end Go.Proofs.YtpllgpgdcbgalaaDoor
set_option maxRecDepth 8000
namespace Go.Proofs.YtpllgpgdcbgalaaDoor
open Go Go.RowKit
namespace VM
def Flow (a b : St) : Prop := b.1.length ≤ a.1.length ∧ (b.2 = 0 → a.2 = 0)
theorem Flow.refl (a : St) : Flow a a := ⟨Nat.le_refl _, id⟩
theorem Flow.trans {a b c : St} (h : Flow a b) (k : Flow b c) : Flow a c := ⟨Nat.le_trans k.1 h.1, fun e => h.2 (k.2 e)⟩
theorem not_zero {a b : Int} (h : a ≠ 0 → b ≠ 0) : b = 0 → a = 0 := fun e => Classical.byContradiction fun h0 => h h0 e
theorem flow_must (c : Int) (st : St) : Flow st (mustF c st) := ⟨must_le c st, not_zero must_stuck⟩
theorem flow_w (st : St) : Flow st (wF st).2 := ⟨(zir st).2, not_zero w_stuck⟩
theorem flow_bad (e : Int) (st : St) : Flow st (badF e st) := ⟨Nat.le_refl _, not_zero bad_stuck⟩
theorem Nice.flow {α : Type} {m : St → α × St} (h : Nice m) (st : St) : Flow st (m st).2 := ⟨h.le st, not_zero (h.stuck st)⟩
theorem flow_times {α : Type} {m : St → α × St} (h : Nice m) : ∀ (k : Nat) (st : St), Flow st (timesF m k st).2
  | 0, st => .refl _
  | k + 1, st => by unfold timesF; exact (h.flow st).trans (flow_times h k _)
theorem flow_nm (k : Int) (st : St) : Flow st (nmF k st).2 := by
  unfold nmF
  split
  · exact nice_n.flow st
  · exact .refl _
theorem nice_stmt : ∀ d, Nice (stmtF d)
  | 0 => ⟨fun st => Nat.le_refl _, fun st h => bad_stuck h, fun st _ h => absurd h (bad_err (by decide))⟩
  | d + 1 => by
    have ih := nice_stmt d
    have key : ∀ st : St, ¬ st.2 ≠ 0 → Flow (mustF 40 st) (stmtF (d + 1) st).2 := by
      intro st h
      simp only [stmtF]
      rw [if_neg h]
      have f1 := flow_w (mustF 40 st)
      generalize wF (mustF 40 st) = w at f1 ⊢
      have f2 : Flow w.2 (if stKind w.1 = 0 then badF 1 w.2 else w.2) := by
        split
        · exact flow_bad 1 _
        · exact .refl _
      generalize (if stKind w.1 = 0 then badF 1 w.2 else w.2) = s1 at f2 ⊢
      have f3 := flow_nm (stKind w.1) s1
      generalize nmF (stKind w.1) s1 = nm at f3 ⊢
      have f4 := flow_times (nice_expr d) (argsOf (stKind w.1)) nm.2
      generalize timesF (exprF d) (argsOf (stKind w.1)) nm.2 = a at f4 ⊢
      have f5 := ((f1.trans f2).trans f3).trans f4
      split
      · exact ((((f5.trans (flow_must 40 _)).trans ((nice_many ih).flow _)).trans (flow_must 40 _)).trans ((nice_many ih).flow _)).trans (flow_must 41 _)
      · split
        · exact f5.trans ((nice_many ih).flow _)
        · exact f5.trans (flow_must 41 _)
    refine ⟨fun st => ?_, fun st h => ?_, fun st h h2 => ?_⟩
    · by_cases h : st.2 ≠ 0
      · unfold stmtF; rw [if_pos h]; exact Nat.le_refl _
      · exact Nat.le_trans (key st h).1 (must_le 40 st)
    · unfold stmtF; rw [if_pos h]; exact h
    · have k := key st (by simpa using h)
      exact Nat.lt_of_le_of_lt k.1 (must_eats (by decide) (k.2 h2))
theorem nice_fn : Nice fnF := by
  have key : ∀ st : St, Flow (mustF 40 st) (fnF st).2 := fun st => by
    unfold fnF
    exact (((nice_n.flow _).trans (flow_must 40 _)).trans ((nice_many nice_n).flow _)).trans ((nice_many (nice_stmt 11)).flow _)
  refine ⟨fun st => Nat.le_trans (key st).1 (must_le 40 st), fun st h h2 => h ((flow_must 40 st).2 ((key st).2 h2)), fun st h h2 => Nat.lt_of_le_of_lt (key st).1 (must_eats (by decide) ((key st).2 h2))⟩
theorem many_cons {α : Type} {m : St → α × St} (hm : Nice m) : ∀ (k j : Nat) (st : St), left st < k → left st < j → untilF m k st = untilF m j st
  | 0, _, _, h, _ => absurd h (by omega)
  | _, 0, _, _, h => absurd h (by omega)
  | k + 1, j + 1, st, h1, h2 => by
    simp only [untilF]
    split
    · rename_i h
      have hl := left_lt hm (st := st) h.1
      rw [many_cons hm k j _ (by omega) (by omega)]
    · rfl
end VM
section
variable {g : Nat} {st : VM.St} {H : Heap} {n : Nat} {Q : QT}
end
end Go.Proofs.YtpllgpgdcbgalaaDoor
namespace Go.Proofs.YtpllgpgdcbgalaaDoor
open Go Go.RowKit
inductive Rn (R : Nat → Prop) (gn g0 : Nat) : AV → AV → Prop
  | same (v : AV) : Bel R v → Rn R gn g0 v v
  | slc (off len : Nat) : Rn R gn g0 (.slc gn off len) (.slc g0 off len)
  | ptr (off : Nat) : Rn R gn g0 (.ptr gn off) (.ptr g0 off)
  | amap : Rn R gn g0 (.amap gn) (.amap g0)
  | agg (xs ys : List AV) : ys.length = xs.length → (∀ (j : Nat) (v u : AV), xs[j]? = some v → ys[j]? = some u → Rn R gn g0 v u) → Rn R gn g0 (.agg xs) (.agg ys)
theorem zlt {D : zn} : ∀ {H : Heap} {g : Nat}, g ∉ domD D → (H.apply D) g = H g := by
  induction D with
  | nil => intros; rfl
  | cons d r ih =>
    obtain ⟨g', o⟩ := d
    intro H g hg
    simp only [domD, List.map_cons, List.mem_cons, not_or] at hg
    show ((H.put g' o).apply r) g = H g
    rw [ih (by simpa [domD] using hg.2), Heap.put_ne _ _ hg.1]
end Go.Proofs.YtpllgpgdcbgalaaDoor
namespace Go.Proofs.YtpllgpgdcbgalaaDoor
open Go Go.RowKit
theorem zto {D : zn} : ∀ {H H' : Heap} {g : Nat}, g ∈ domD D → (H.apply D) g = (H'.apply D) g := by
  induction D with
  | nil => intro H H' g hg; simp at hg
  | cons d r ih =>
    obtain ⟨g', o⟩ := d
    intro H H' g hg
    show ((H.put g' o).apply r) g = ((H'.put g' o).apply r) g
    by_cases hr : g ∈ domD r
    · exact ih hr
    · rw [zlt hr, zlt hr]
      have : g = g' := by simpa [hr] using hg
      subst this
      rw [Heap.put_at, Heap.put_at]
theorem LC.of_calls {P : Program} {f : FuncId} {args : List AV} {r : AV} {H0 : Heap} {rd : List Nat} {D : zn} (hrd : ∀ g ∈ rd, (H0 g).isSome = true) (hdom : ∀ g ∈ domD D, g ∈ rd) (hr : ∀ A : Nat → Prop, (∀ g ∈ rd, A g) → (∀ g ∈ rd, ∀ o, H0 g = some o → BelO A o) → Bel A r)
    (hb : ∀ A : Nat → Prop, (∀ g ∈ rd, A g) → (∀ g ∈ rd, ∀ o, H0 g = some o → BelO A o) → ∀ g o, g ∈ domD D → (H0.apply D) g = some o → BelO A o)
    (h : ∀ H nx, (∀ g ∈ rd, H g = H0 g ∧ g < nx) → za P f args H nx fun v H' nx' => v = r ∧ nx ≤ nx' ∧ (∀ g, g < nx → g ∉ domD D → H' g = H g) ∧ (∀ g o, g ∈ domD D → (H0.apply D) g = some o → H' g = some o)) : LC P f args H0 rd [] D r := by
  intro A ρ H w cargs ⟨N, hN⟩ s ha hag _
  have sN : Sim (· < N) ρ H w := ⟨fun g o ho => hN g (s.live g o ho), fun g o ho => (s.obj g o ho).mono rfl (fun _ _ h => h) (fun g hg => ⟨rfl, hN g hg⟩), s.inj, s.lay⟩
  have aN : LRel (Kof ρ H w) ρ (· < N) args cargs.toList := ⟨ha.1, fun j v c hv hc => (ha.2 j v c hv hc).mono (fun _ _ h => h) (fun g hg => ⟨rfl, hN g hg⟩)⟩
  have hrdA : ∀ g ∈ rd, A g := fun g hg => by
    obtain ⟨o, ho⟩ := Option.isSome_iff_exists.1 (hrd g hg)
    exact s.live g o ((hag g hg).trans ho)
  have hrdB : ∀ g ∈ rd, ∀ o, H0 g = some o → BelO A o := fun g hg o ho => (s.obj g o ((hag g hg).trans ho)).bel
  refine zax (h H N (fun g hg => ⟨hag g hg, hN g (hrdA g hg)⟩) ρ w cargs sN aN) fun cv w' ⟨v, H', nx', ρ', ⟨hv, hnx, hsame, hchg⟩, q3, q4, q5⟩ => ?_
  subst hv
  have hρ : ∀ g, g < N → ρ' g = ρ g := fun g hg => (q5.agree g hg).1
  have hAe : (fun x => A x ∨ x ∈ ([] : List Nat)) = A := by funext x; simp
  have lv : ∀ g o, (H.apply D) g = some o → A g ∧ H' g = some o ∧ BelO A o := fun g o ho => by
    by_cases hg : g ∈ domD D
    · rw [zto (H' := H0) hg] at ho
      exact ⟨hrdA g (hdom g hg), hchg g o hg ho, hb A hrdA hrdB g o hg ho⟩
    · rw [zlt hg] at ho
      have hA := s.live g o ho
      exact ⟨hA, by rw [hsame g (hN g hA) hg]; exact ho, (s.obj g o ho).bel⟩
  have hK : ∀ b o, Kof ρ' H' w' b = some o → Kof ρ' (H.apply D) w' b = some o := fun b o hb => by
    obtain ⟨h1, h2⟩ := zk.1 hb
    refine zk.2 ⟨fun g hg => ?_, h2⟩
    obtain ⟨o1, ho1⟩ := Option.isSome_iff_exists.1 hg
    exact h1 g (by rw [(lv g o1 ho1).2.1]; rfl)
  refine ⟨ρ', ?_, ?_, ?_⟩
  · rw [hAe]
    refine ⟨fun g o ho => (lv g o ho).1, fun g o ho => ?_, fun x y hx hy hxy => ?_, q3.lay.mono hK⟩
    · obtain ⟨_, h1, h2⟩ := lv g o ho
      exact ((q3.obj g o h1).restrict h2).mono rfl hK (fun _ h => ⟨rfl, h⟩)
    · obtain ⟨o1, ho1⟩ := Option.isSome_iff_exists.1 hx
      obtain ⟨o2, ho2⟩ := Option.isSome_iff_exists.1 hy
      exact q3.inj x y (by rw [(lv x o1 ho1).2.1]; rfl) (by rw [(lv y o2 ho2).2.1]; rfl) hxy
  · rw [hAe]
    exact (q4.restrict (hr A hrdA hrdB)).mono hK (fun g hg => ⟨rfl, hg⟩)
  · rw [hAe]
    exact ⟨fun g hg => ⟨hρ g (hN g hg), hg⟩, fun b o hb => hK b o (q5.k b o hb), q5.os, q5.tape, q5.output, q5.size⟩
end Go.Proofs.YtpllgpgdcbgalaaDoor
