/- Structures that are compared by their cells. The program's types, as its own table has them. What is to be shown of each function, written out. DERIVED: THE SHELF's CONTRACTS AT THIS DUMP, IN PLAIN WORDS (tools/lay-plain.mjs out of 'YtpllgpgdcbgalaaDoorShelf0.lean', which tools/lay-shelf.mjs wrote): THE SAME DECLARATIONS UNDER THE SAME NAMES: 'import', 'namespace', 'open', 'def', 'theorem' AND NOTHING ELSE: no command of the shelf's: FOR A HAND-IN. Each laying: the table of numbers ('.._ren') and one theorem, a field a fact of the dump's own or the kernel's comparison; each contract: ONE APPLICATION. strconv.Itoa: a number's digits. strconv.Atoi: a word's number, and whether it is one. -/
import Derived.Test.YtpllgpgdcbgalaaDoorG3
import Derived.Laws.StructEq
import Derived.Test.YtpllgpgdcbgalaaDoorChecked
import Derived.Test.YtpllgpgdcbgalaaDoorG4
import Derived.KernelRfl
import Derived.Test.YtpllgpgdcbgalaaDoorG5
import Derived.Shelf.Small.Strs
import Derived.Shelf.Strconv.Atoi
import Derived.Shelf.Strconv.Itoa0
import Derived.Shelf.Strconv.Itoa1
import Derived.Shelf.LaysM
import Derived.Shelf.Strconv.Itoa2
import Derived.Shelf.Strconv.Itoa3
import Derived.Shelf.Strconv.AtoiErrFast
import Derived.Shelf.Strconv.ParseIntEmpty
import Derived.Shelf.Strconv.AtoiFail
import Derived.Shelf.Strconv.Clone
import Derived.Shelf.Strconv.SyntaxError
import Derived.Shelf.LaysC
import Derived.Shelf.Strconv.ToError
import Derived.Shelf.Strconv.Lower
import Derived.Shelf.Strconv.ParseUint10
import Derived.Shelf.Strconv.ParseUint10Empty
import Derived.Shelf.Strconv.ParseUint10Any
import Derived.Shelf.Strconv.ParseInt10
import Derived.Shelf.Strconv.AtoiLong
import Derived.Shelf.Strconv.AtoiInnerAll
import Derived.Shelf.Strconv.RangeError
import Derived.Shelf.Strconv.ToErrorRange
import Derived.Shelf.Strconv.AtoiAll
import Derived.Shelf.Strconv.ErrVarAll
import Derived.Shelf.Strings.Search1
import Derived.Shelf.Strings.Search2
import Derived.Shelf.Strings.Search3
import Derived.Shelf.Strings.Shaped
import Derived.Ground.Names2Prog
import Derived.Test.YtpllgpgdcbgalaaDoorProg
import Derived.Lib.ItoaLen
set_option linter.unusedSimpArgs false
set_option linter.unusedVariables false
namespace Go.Proofs.YtpllgpgdcbgalaaDoor
open Go Go.RowKit
section
variable (P : Program)
def szAt (t : TypeId) : Nat := match atOf P t with | some a => a.size | none => 0
def zku (t : TypeId) : Bool := match atOf P t with | some a => !a.kind.isAgg && Nat.beq a.size 1 | none => false
def zgn (ok : TypeId → Option (List AV)) : List Field → Nat → Option (List AV)
  | [], _ => some []
  | f :: r, off => if f.name ≠ "_" ∧ f.offset = off then match ok f.type with
      | some z => match zgn ok r (off + z.length) with
        | some zr => some (z ++ zr)
        | none => none
      | none => none
    else none
def zif : Nat → TypeId → Option (List AV)
  | 0, _ => none
  | d + 1, t => match P.underlying t with
    | some (.int k) => if zku P t = true then some [.int k 0] else none
    | some .string => if zku P t = true then some [.str []] else none
    | some .bool => if zku P t = true then some [.bool false] else none
    | some (.struct fs) => if P.stoodInHeld t = false ∧ (match atOf P t with | some a => a.kind.isAgg | none => false) = true then match zgn (zif d) fs.toList 0 with
        | some zs => if zs.length = szAt P t then some zs else none
        | none => none
      else none
    | _ => none
def zwb (t : TypeId) : Bool := match atOf P t with
  | some a => a.kind.isAgg && (match zif P 4 t with | some zs => (zc zs a.zero).isSome | none => false) && !(P.eqGuardType P.depth t)
  | none => false
end
theorem zmf : ∀ {xs ys : List AV} {r : Bool}, zc xs ys = some r → xs.length = ys.length
  | [], [], _, _ => rfl
  | [], _ :: _, _, h => by simp [zc] at h
  | x :: xs, [], _, h => by cases x <;> simp [zc] at h
  | x :: xs, y :: ys, r, h => by
    have : ∃ r', zc xs ys = some r' := by
      cases x <;> cases y <;> simp only [zc] at h <;> first
        | (cases h; done)
        | (split at h
           · obtain ⟨r', h', _⟩ := Option.map_eq_some_iff.1 h; exact ⟨r', h'⟩
           · cases h)
        | (obtain ⟨r', h', _⟩ := Option.map_eq_some_iff.1 h; exact ⟨r', h'⟩)
    obtain ⟨r', h'⟩ := this
    simp [zmf h']
theorem ztn {x y : AV} {xs ys : List AV} {r : Bool} (h : zc (x :: xs) (y :: ys) = some r) : ∃ r1 r2, zc [x] [y] = some r1 ∧ zc xs ys = some r2 ∧ r = (r1 && r2) := by
  cases x <;> cases y <;> simp only [zc] at h ⊢ <;> first
    | (cases h; done)
    | (split at h
       · rename_i hk
         obtain ⟨r', h', rfl⟩ := Option.map_eq_some_iff.1 h
         exact ⟨_, r', by rw [if_pos hk]; rfl, h', by simp⟩
       · cases h)
    | (obtain ⟨r', h', rfl⟩ := Option.map_eq_some_iff.1 h
       exact ⟨_, r', rfl, h', by simp⟩)
theorem zig : ∀ {xs ys : List AV} {r1 r2 : Bool} {us vs : List AV}, zc xs ys = some r1 → zc us vs = some r2 → zc (xs ++ us) (ys ++ vs) = some (r1 && r2)
  | [], [], r1, r2, us, vs, h, k => by simp [zc] at h; subst h; simpa using k
  | [], _ :: _, _, _, _, _, h, _ => by simp [zc] at h
  | x :: xs, [], _, _, _, _, h, _ => by cases x <;> simp [zc] at h
  | x :: xs, y :: ys, r1, r2, us, vs, h, k => by
    cases x <;> cases y <;> simp only [zc, List.cons_append] at h ⊢ <;> first
      | (cases h; done)
      | (split at h
         · rename_i hk
           obtain ⟨r', h', rfl⟩ := Option.map_eq_some_iff.1 h
           rw [if_pos hk, zig h' k]; simp [Bool.and_assoc]
         · cases h)
      | (obtain ⟨r', h', rfl⟩ := Option.map_eq_some_iff.1 h
         rw [zig h' k]; simp [Bool.and_assoc])
theorem zjj : ∀ (n : Nat) {xs ys : List AV} {r : Bool}, zc xs ys = some r → ∃ r1 r2, zc (xs.take n) (ys.take n) = some r1 ∧ zc (xs.drop n) (ys.drop n) = some r2 ∧ r = (r1 && r2)
  | 0, xs, ys, r, h => ⟨true, r, by simp [zc], by simpa using h, by simp⟩
  | n + 1, [], [], r, h => ⟨true, r, by simp [zc], by simpa using h, by simp⟩
  | n + 1, [], _ :: _, r, h => by simp [zc] at h
  | n + 1, x :: xs, [], r, h => by cases x <;> simp [zc] at h
  | n + 1, x :: xs, y :: ys, r, h => by
    obtain ⟨r1, r2, h1, h2, rfl⟩ := ztn h
    obtain ⟨q1, q2, g1, g2, rfl⟩ := zjj n h2
    refine ⟨r1 && q1, q2, ?_, by simpa using g2, by simp [Bool.and_assoc]⟩
    simpa using zig h1 g1
theorem zfj : ∀ {a b c : List AV}, (zc a b).isSome = true → (zc b c).isSome = true → (zc a c).isSome = true
  | [], [], c, _, h => h
  | [], _ :: _, _, h, _ => by simp [zc] at h
  | x :: a, [], _, h, _ => by cases x <;> simp [zc] at h
  | x :: a, y :: b, [], _, h => by cases y <;> simp [zc] at h
  | x :: a, y :: b, z :: c, h, k => by
    cases x <;> cases y <;> simp only [zc] at h <;> try (cases h; done)
    all_goals
      cases z <;> simp only [zc] at k <;> try (cases k; done)
    · split at h
      · rename_i h1
        split at k
        · rename_i h2
          simp only [zc]
          rw [if_pos (h1.trans h2)]
          have := zfj (a := a) (b := b) (c := c) (by simpa using h) (by simpa using k)
          simpa using this
        · cases k
      · cases h
    · have := zfj (a := a) (b := b) (c := c) (by simpa using h) (by simpa using k)
      simpa [zc] using this
    · have := zfj (a := a) (b := b) (c := c) (by simpa using h) (by simpa using k)
      simpa [zc] using this
theorem zrn (n : Nat) {xs ys : List AV} (h : (zc xs ys).isSome = true) : (zc (xs.take n) (ys.take n)).isSome = true ∧ (zc (xs.drop n) (ys.drop n)).isSome = true := by
  obtain ⟨r, hr⟩ := Option.isSome_iff_exists.1 h
  obtain ⟨r1, r2, h1, h2, _⟩ := zjj n hr
  exact ⟨by rw [h1]; rfl, by rw [h2]; rfl⟩
section
variable {P : Program}
def ztv (P : Program) (t : TypeId) (z : AV) : Prop := match z with
  | .int k _ => P.underlying t = some (.int k)
  | .str _ => P.underlying t = some .string
  | .bool _ => P.underlying t = some .bool
  | _ => False
theorem zsm {t : TypeId} {k : Nat} {w : World} {K : zf} {ρ : Nat → Loc} {A : Nat → Prop} {z v u : AV} {a b : Value} {r : Bool} (hu : ztv P t z) (hz : (zc [z] [v]).isSome = true)
    (hv : VRel K ρ A v a) (hw : VRel K ρ A u b) (he : zc [v] [u] = some r) : (Op.equalIn (k + 1) t a b).run P w = .ok r w := by
  cases z <;> simp only [ztv] at hu <;> cases v <;> simp only [zc] at hz <;> (try (cases hz; done)) <;> cases u <;> simp only [zc] at he <;> (try (cases he; done)) <;> cases hv <;> cases hw
  · split at he
    · rename_i hk
      subst hk
      rw [run_equalIn_int w k t _ _ _ _ hu]
      simpa using he
    · cases he
  · rw [run_equalIn_bool' w k t _ _ hu]; simpa using he
  · rw [run_equalIn_string w k t _ _ hu]; simpa [ByteArray.toList_eq] using he
def zzw (P : Program) (d : Nat) (t : TypeId) (zs : List AV) : Prop := ∃ a, atOf P t = some a ∧ zs.length = a.size ∧ (a.kind.isAgg = false → a.size = 1) ∧ ∀ (k : Nat), d ≤ k → ∀ (w : World) (K : zf) (ρ : Nat → Loc) (A : Nat → Prop) (cells cells' : List AV) (off : Nat) (v u : AV) (r : Bool) (x y : Value),
    ldv a.kind.isAgg a.size cells off = some v → ldv a.kind.isAgg a.size cells' off = some u → (zc zs ((cells.drop off).take a.size)).isSome = true → zc ((cells.drop off).take a.size) ((cells'.drop off).take a.size) = some r → VRel K ρ A v x → VRel K ρ A u y →
    (Op.equalIn k t x y).run P w = .ok r w
theorem zla {d : Nat} {t : TypeId} {z : AV} (hu : ztv P t z) (hs : zku P t = true) : zzw P (d + 1) t [z] := by
  unfold zku at hs
  cases ha : atOf P t with
  | none => rw [ha] at hs; cases hs
  | some a =>
    rw [ha] at hs
    simp only [Bool.and_eq_true] at hs
    have hag : a.kind.isAgg = false := by simpa using hs.1
    have hsz : a.size = 1 := Nat.eq_of_beq_eq_true hs.2
    refine ⟨a, ha, by rw [hsz]; rfl, fun _ => hsz, fun k hk w K ρ A cells cells' off v u r x y e1 e2 e0 e3 r1 r2 => ?_⟩
    simp only [ldv, hag, cond_false] at e1 e2
    have t1 : ∀ {l : List AV} {q : AV}, l[off]? = some q → (l.drop off).take 1 = [q] := by
      intro l q hl
      obtain ⟨hlt, rfl⟩ := List.getElem?_eq_some_iff.1 hl
      rw [List.drop_eq_getElem_cons hlt]; rfl
    rw [hsz, t1 e1] at e0
    rw [hsz, t1 e1, t1 e2] at e3
    obtain ⟨k', rfl⟩ : ∃ k', k = k' + 1 := ⟨k - 1, by omega⟩
    exact zsm hu e0 r1 r2 e3
theorem ztm : ∀ (d : Nat) (t : TypeId) (zs : List AV), zif P d t = some zs → zzw P d t zs
  | 0, t, zs, h => by cases h
  | d + 1, t, zs, h => by
    unfold zif at h
    split at h
    · rename_i ki hu
      split at h
      · rename_i hs; cases h; exact zla hu hs
      · cases h
    · rename_i hu
      split at h
      · rename_i hs; cases h; exact zla hu hs
      · cases h
    · rename_i hu
      split at h
      · rename_i hs; cases h; exact zla hu hs
      · cases h
    · rename_i fs hu
      by_cases hc : P.stoodInHeld t = false ∧ (match atOf P t with | some a => a.kind.isAgg | none => false) = true
      case neg => rw [if_neg hc] at h; cases h
      rw [if_pos hc] at h
      obtain ⟨hst, h3⟩ := hc
      split at h
      case h_2 => cases h
      rename_i zs' hf
      split at h
      case isFalse => cases h
      rename_i hlen
      obtain rfl := Option.some.inj h
      cases ha : atOf P t with
      | none => rw [ha] at h3; cases h3
      | some a =>
        rw [ha] at h3
        simp only at h3
        have hl : zs'.length = a.size := by rw [hlen]; unfold szAt; rw [ha]
        refine ⟨a, ha, hl, fun e => (by rw [h3] at e; cases e), fun k hk w K ρ A cells cells' off v u r x y e1 e2 e0 e3 r1 r2 => ?_⟩
        simp only [ldv, h3, cond_true] at e1 e2
        split at e1
        case isFalse => cases e1
        rename_i l1
        split at e2
        case isFalse => cases e2
        rename_i l2
        cases e1
        cases e2
        cases r1 with
        | agg _ cs g1 g2 =>
        cases r2 with
        | agg _ ds g3 g4 =>
        obtain ⟨k', rfl⟩ : ∃ k', k = k' + 1 := ⟨k - 1, by omega⟩
        have hfo : P.fieldsOf t = fs := by simp [Program.fieldsOf, hu]
        rw [run_equalIn_struct w k' t cs ds (by rw [hfo]; exact hu) hst, hfo]
        have loop : ∀ (fl : List Field) (o : Nat) (zs xs ys : List AV) (r : Bool), zgn (zif P d) fl o = some zs → LRel K ρ A xs cs.toList → LRel K ρ A ys ds.toList → xs.length = o + zs.length → ys.length = o + zs.length →
            (zc zs (xs.drop o)).isSome = true → zc (xs.drop o) (ys.drop o) = some r → (Op.eqFields k' cs ds fl).run P w = .ok r w := by
          intro fl
          induction fl with
          | nil =>
            intro o zs xs ys r hf q1 q2 n1 n2 hz he
            simp only [zgn, Option.some.injEq] at hf
            subst hf
            simp only [List.length_nil] at n1 n2
            rw [List.drop_of_length_le (by omega), List.drop_of_length_le (by omega)] at he
            simp only [zc, Option.some.injEq] at he
            simp [Op.eqFields, Sem.run_pure, he]
          | cons f fl ih =>
            intro o zs xs ys r hf q1 q2 n1 n2 hz he
            unfold zgn at hf
            split at hf
            case isFalse => cases hf
            rename_i hc
            obtain ⟨c1, c2⟩ := hc
            split at hf
            case h_2 => cases hf
            rename_i z hzk
            split at hf
            case h_2 => cases hf
            rename_i zr hzr
            obtain rfl := Option.some.inj hf
            obtain ⟨b, hb, hzl, hb1, hrun⟩ := ztm d f.type z hzk
            rw [List.length_append] at n1 n2
            obtain ⟨s1, s2, t1, t2, rfl⟩ := zjj z.length he
            obtain ⟨z1, z2⟩ := zrn z.length hz
            rw [List.take_left] at z1
            rw [List.drop_left, List.drop_drop] at z2
            rw [List.drop_drop, List.drop_drop] at t2
            obtain ⟨i, dd, zv, hb'⟩ := (show TOk P (atOf P) from fun _ _ h => h).at hb
            have ld : ∀ l : List AV, l.length = o + (z.length + zr.length) → ∃ q, ldv b.kind.isAgg b.size l o = some q := by
              intro l hl
              unfold ldv
              cases hag : b.kind.isAgg with
              | true => rw [cond_true, if_pos (by omega)]; exact ⟨_, rfl⟩
              | false =>
                rw [cond_false]
                have := hb1 hag
                exact ⟨_, List.getElem?_eq_getElem (by omega)⟩
            obtain ⟨p, hp⟩ := ld xs n1
            obtain ⟨q, hq⟩ := ld ys n2
            obtain ⟨pv, hpv, hpr⟩ := zik (P := P) (w := w) hb' q1 hp
            obtain ⟨qv, hqv, hqr⟩ := zik (P := P) (w := w) hb' q2 hq
            have hone := hrun k' (by omega) w K ρ A xs ys o p q s1 pv qv hp hq (by rw [← hzl]; exact z1) (by rw [← hzl]; exact t1) hpr hqr
            have hrest := ih (o + z.length) zr xs ys s2 hzr q1 q2 (by omega) (by omega) z2 t2
            simp only [Op.eqFields, c1, ne_eq, not_false_eq_true, if_true, Sem.run_bind, c2, hpv, hqv, hone, Result.andThen_ok]
            cases s1
            · simp [Sem.run_pure]
            · simpa using hrest
        refine loop fs.toList 0 zs' _ _ r hf ⟨by simpa using g1, fun j v c h1 h2 => g2 j v c h1 (by simpa using h2)⟩ ⟨by simpa using g3, fun j v c h1 h2 => g4 j v c h1 (by simpa using h2)⟩ (by simp; omega) (by simp; omega) ?_ ?_
        · simpa using e0
        · simpa using e3
    · cases h
theorem zaap {d : Nat} {t : TypeId} {a : AT} {zs : List AV} (hd : d ≤ 10000) (h : zif P d t = some zs) (hz : (zc zs a.zero).isSome = true) (hg : P.eqGuardType P.depth t = false) (ha : atOf P t = some a) (hag : a.kind.isAgg = true) : EqTy P t a.zero := by
  intro w K ρ A xs ys cs ds r x y op q1 q2 hl he
  obtain ⟨a', ha', hzl, _, hrun⟩ := ztm d t zs h
  obtain rfl : a = a' := Option.some.inj (ha.symm.trans ha')
  have hlen := zmf he
  have hzx := zfj hz hl
  have hxl : zs.length = xs.length := by obtain ⟨r0, h0⟩ := Option.isSome_iff_exists.1 hzx; exact zmf h0
  refine ⟨?_, run_eqGuard_agg w op t x y cs ds hg⟩
  unfold Op.equal Op.maxDepth
  have full : ∀ l : List AV, l.length = a.size → (l.drop 0).take a.size = l := fun l hl => by rw [List.drop_zero, List.take_of_length_le (by omega)]
  refine hrun 10000 hd w K ρ A xs ys 0 (.agg xs) (.agg ys) r _ _ ?_ ?_ ?_ ?_ (LRel.agg q1) (LRel.agg q2)
  · simp only [ldv, hag, cond_true]; rw [if_pos (by omega), full xs (by omega)]
  · simp only [ldv, hag, cond_true]; rw [if_pos (by omega), full ys (by omega)]
  · rw [full xs (by omega)]; exact hzx
  · rw [full xs (by omega), full ys (by omega)]; exact he
theorem zyw {T : Nat → Option AT} (hT : TOk P T) : EOk P T (zwb P) := by
  intro t a h ht
  have ha := hT t a ht
  unfold zwb at h
  rw [ha] at h
  simp only [Bool.and_eq_true] at h
  obtain ⟨⟨h1, h2⟩, h3⟩ := h
  cases hk : zif P 4 t with
  | none => rw [hk] at h2; cases h2
  | some zs =>
    rw [hk] at h2
    exact zaap (by omega) hk h2 (by simpa using h3) ha h1
end
end Go.Proofs.YtpllgpgdcbgalaaDoor
namespace Go.Proofs.YtpllgpgdcbgalaaDoor
open Go Go.RowKit
theorem mixed : Tryd.prog.follows .mixedOrders = true := by kernel_rfl
noncomputable def tab : Nat → Option AT := atOf Tryd.prog
theorem zq : TOk Tryd.prog tab := fun _ _ h => h
def zsr (t : Nat) : Bool := Nat.blt t 1000000
noncomputable def eqsT (t : Nat) : Bool := bif zsr t then zwb Tryd.prog t else false
theorem zu : EOk Tryd.prog tab eqsT := by
  intro t a h ht
  unfold eqsT at h
  generalize zsr t = b at h
  cases b with
  | true => rw [cond_true] at h; exact zyw zq t a h ht
  | false => rw [cond_false] at h; cases h
end Go.Proofs.YtpllgpgdcbgalaaDoor
set_option maxRecDepth 8000
namespace Go.Proofs.YtpllgpgdcbgalaaDoor
open Go Go.RowKit
@[simp] theorem zafc : zb tab 2 = 1 := by kernel_rfl
@[simp] theorem zafb : zb tab 3 = 1 := by kernel_rfl
@[simp] theorem zafa : zb tab 4 = 1 := by kernel_rfl
@[simp] theorem zaez : zb tab 5 = 1 := by kernel_rfl
@[simp] theorem zaey : zb tab 6 = 1 := by kernel_rfl
@[simp] theorem zaex : zb tab 9 = 1 := by kernel_rfl
@[simp] theorem zadz : zb tab 12 = 1 := by kernel_rfl
@[simp] theorem zady : zb tab 17 = 1 := by kernel_rfl
@[simp] theorem zadx : zb tab 22 = 1 := by kernel_rfl
@[simp] theorem zadw : zb tab 23 = 1 := by kernel_rfl
@[simp] theorem zadv : zb tab 31 = 1 := by kernel_rfl
@[simp] theorem zadu : zb tab 32 = 1 := by kernel_rfl
@[simp] theorem zadt : zb tab 38 = 1 := by kernel_rfl
@[simp] theorem zads : zb tab 41 = 1 := by kernel_rfl
@[simp] theorem zadr : zb tab 57 = 1 := by kernel_rfl
@[simp] theorem zadq : zb tab 64 = 1 := by kernel_rfl
@[simp] theorem zadp : zb tab 71 = 1 := by kernel_rfl
@[simp] theorem zado : zb tab 88 = 1 := by kernel_rfl
@[simp] theorem zacm : zb tab 120 = 1 := by kernel_rfl
@[simp] theorem zacl : zb tab 135 = 1 := by kernel_rfl
@[simp] theorem zack : zb tab 159 = 1 := by kernel_rfl
@[simp] theorem zacj : zb tab 172 = 0 := by kernel_rfl
@[simp] theorem zaci : zb tab 176 = 1 := by kernel_rfl
@[simp] theorem zach : zb tab 177 = 1 := by kernel_rfl
@[simp] theorem zacg : zb tab 178 = 1 := by kernel_rfl
@[simp] theorem zacf : zb tab 179 = 1 := by kernel_rfl
@[simp] theorem zace : zb tab 180 = 1 := by kernel_rfl
def zau (Q : QT) (K1 : J3) (xs2 : List AV) (H3 : Heap) (nx4 : Nat) : Prop :=
 NC (nth xs2 0) fun v5 =>
 FA 0 v5 fun v6 =>
 LD false 1 v6 H3 fun v7 =>
 LNS v7 fun v8 =>
 BI BinOp.gtr v8 (AV.int IntKind.i64 0) fun v9 =>
 CND v9
 (NC (nth xs2 0) fun v10 =>
 FA 0 v10 fun v11 =>
 LD false 1 v11 H3 fun v12 =>
 IX v12 (AV.int IntKind.i64 0) fun v13 =>
 BI BinOp.eql v13 (AV.int IntKind.u8 32) fun v14 =>
 CND v14
 (NC (nth xs2 0) fun v15 =>
 FA 0 v15 fun v16 =>
 LD false 1 v16 H3 fun v17 =>
 SLS v17 (some (AV.int IntKind.i64 1)) none fun v18 =>
 NC (nth xs2 0) fun v19 =>
 FA 0 v19 fun v20 =>
 ST 1 v20 v18 H3 fun H21 =>
 K1 [nth xs2 0] H21 nx4)
 (NC (nth xs2 0) fun v22 =>
 FA 0 v22 fun v23 =>
 LD false 1 v23 H3 fun v24 =>
 IX v24 (AV.int IntKind.i64 0) fun v25 =>
 BI BinOp.eql v25 (AV.int IntKind.u8 10) fun v26 =>
 CNDC v26
 (NC (nth xs2 0) fun v27 =>
 FA 0 v27 fun v28 =>
 LD false 1 v28 H3 fun v29 =>
 SLS v29 (some (AV.int IntKind.i64 1)) none fun v30 =>
 NC (nth xs2 0) fun v31 =>
 FA 0 v31 fun v32 =>
 ST 1 v32 v30 H3 fun H33 =>
 K1 [nth xs2 0] H33 nx4)
 (NC (nth xs2 0) fun v34 =>
 FA 0 v34 fun v35 =>
 LD false 1 v35 H3 fun v36 =>
 LNS v36 fun v37 =>
 BI BinOp.eql v37 (AV.int IntKind.i64 0) fun v38 =>
 CNDC v38
 (Q (AV.int IntKind.u8 0) H3 nx4)
 (NC (nth xs2 0) fun v39 =>
 FA 0 v39 fun v40 =>
 LD false 1 v40 H3 fun v41 =>
 IX v41 (AV.int IntKind.i64 0) fun v42 =>
 BI BinOp.eql v42 (AV.int IntKind.u8 0) fun v43 =>
 CNDC v43
 (Q (AV.int IntKind.u8 1) H3 nx4)
 (NC (nth xs2 0) fun v44 =>
 FA 0 v44 fun v45 =>
 LD false 1 v45 H3 fun v46 =>
 IX v46 (AV.int IntKind.i64 0) fun v47 =>
 Q v47 H3 nx4)))))
 (NC (nth xs2 0) fun v48 =>
 FA 0 v48 fun v49 =>
 LD false 1 v49 H3 fun v50 =>
 LNS v50 fun v51 =>
 BI BinOp.eql v51 (AV.int IntKind.i64 0) fun v52 =>
 CNDC v52
 (Q (AV.int IntKind.u8 0) H3 nx4)
 (NC (nth xs2 0) fun v53 =>
 FA 0 v53 fun v54 =>
 LD false 1 v54 H3 fun v55 =>
 IX v55 (AV.int IntKind.i64 0) fun v56 =>
 BI BinOp.eql v56 (AV.int IntKind.u8 0) fun v57 =>
 CNDC v57
 (Q (AV.int IntKind.u8 1) H3 nx4)
 (NC (nth xs2 0) fun v58 =>
 FA 0 v58 fun v59 =>
 LD false 1 v59 H3 fun v60 =>
 IX v60 (AV.int IntKind.i64 0) fun v61 =>
 Q v61 H3 nx4)))
def zki (a0 : AV) (H : Heap) (nx : Nat) (Q : QT) : Prop :=
 LP (zau Q) [a0] H nx
theorem zoc (a0 : AV) (H : Heap) (nx : Nat) (Q : QT) : zki a0 H nx Q → za Tryd.prog 27 [a0] H nx Q :=
  ze (lv := lvOf [(2, 1, [0])]) (c := zh Tryd.f27) zq zu mixed Tryd.func27 (by kernel_rfl) (by kernel_rfl) (by kernel_rfl) (by kernel_rfl) (by kernel_rfl)
def zfz (a0 a1 : AV) (H : Heap) (nx : Nat) (Q : QT) : Prop :=
 NC a0 fun v1 =>
 FA 1 v1 fun v2 =>
 LD false 1 v2 H fun v3 =>
 BI BinOp.eql v3 (AV.int IntKind.i64 0) fun v4 =>
 CNDC v4
 (NC a0 fun v5 =>
 FA 1 v5 fun v6 =>
 ST 1 v6 a1 H fun H7 =>
 Q (AV.tup []) H7 nx)
 (Q (AV.tup []) H nx)
theorem zof (a0 a1 : AV) (H : Heap) (nx : Nat) (Q : QT) : zfz a0 a1 H nx Q → za Tryd.prog 48 [a0, a1] H nx Q :=
  ze (lv := lvOf []) (c := zh Tryd.f48) zq zu mixed Tryd.func48 (by kernel_rfl) (by kernel_rfl) (by kernel_rfl) (by kernel_rfl) (by kernel_rfl)
def zkj (Q : QT) (v13 : AV) (H14 : Heap) (nx15 : Nat) : Prop :=
 Q (AV.tup []) H14 nx15
def zcy (a1 : AV) (a0 : AV) (Q : QT) (v1 : AV) (H2 : Heap) (nx3 : Nat) : Prop :=
 BI BinOp.eql v1 a1 fun v4 =>
 CNDC v4
 (NC a0 fun v5 =>
 FA 0 v5 fun v6 =>
 LD false 1 v6 H2 fun v7 =>
 SLS v7 (some (AV.int IntKind.i64 1)) none fun v8 =>
 NC a0 fun v9 =>
 FA 0 v9 fun v10 =>
 ST 1 v10 v8 H2 fun H11 =>
 Q (AV.tup []) H11 nx3)
 (BI BinOp.eql v1 (AV.int IntKind.u8 0) fun v12 =>
 CNDC v12
 (za Tryd.prog 48 [a0, AV.int IntKind.i64 8] H2 nx3 (zkj Q))
 (za Tryd.prog 48 [a0, AV.int IntKind.i64 2] H2 nx3 (zkj Q)))
def zpy (a0 a1 : AV) (H : Heap) (nx : Nat) (Q : QT) : Prop :=
 za Tryd.prog 27 [a0] H nx (zcy a1 a0 Q)
theorem zod (a0 a1 : AV) (H : Heap) (nx : Nat) (Q : QT) : zpy a0 a1 H nx Q → za Tryd.prog 28 [a0, a1] H nx Q :=
  ze (lv := lvOf []) (c := zh Tryd.f28) zq zu mixed Tryd.func28 (by kernel_rfl) (by kernel_rfl) (by kernel_rfl) (by kernel_rfl) (by kernel_rfl)
def zel (Q : QT) (K13 : J3) (xs14 : List AV) (H15 : Heap) (nx16 : Nat) : Prop :=
 BI BinOp.lss (nth xs14 2) (nth xs14 1) fun v17 =>
 CNDC v17
 (IX (nth xs14 0) (nth xs14 2) fun v18 =>
 BI BinOp.lss v18 (AV.int IntKind.u8 97) fun v19 =>
 CND v19
 (Q (AV.bool false) H15 nx16)
 (IX (nth xs14 0) (nth xs14 2) fun v20 =>
 BI BinOp.gtr v20 (AV.int IntKind.u8 122) fun v21 =>
 CNDC v21
 (Q (AV.bool false) H15 nx16)
 (BI BinOp.add (nth xs14 2) (AV.int IntKind.i64 1) fun v22 =>
 K13 [nth xs14 0, nth xs14 1, v22] H15 nx16)))
 (LNS (nth xs14 0) fun v23 =>
 BI BinOp.gtr v23 (AV.int IntKind.i64 0) fun v24 =>
 CND v24
 (LNS (nth xs14 0) fun v25 =>
 BI BinOp.lss v25 (AV.int IntKind.i64 9) fun v26 =>
 Q v26 H15 nx16)
 (Q (AV.bool false) H15 nx16))
def zek (Q : QT) (K3 : J3) (xs4 : List AV) (H5 : Heap) (nx6 : Nat) : Prop :=
 BI BinOp.lss (nth xs4 3) (nth xs4 2) fun v7 =>
 CNDC v7
 (IA 1 (nth xs4 1) (nth xs4 3) fun v8 =>
 LD false 1 v8 H5 fun v9 =>
 BS BinOp.eql (nth xs4 0) v9 fun v10 =>
 CNDC v10
 (Q (AV.bool false) H5 nx6)
 (BI BinOp.add (nth xs4 3) (AV.int IntKind.i64 1) fun v11 =>
 K3 [nth xs4 0, nth xs4 1, nth xs4 2, v11] H5 nx6))
 (LNS (nth xs4 0) fun v12 =>
 LP (zel Q) [nth xs4 0, v12, AV.int IntKind.i64 0] H5 nx6)
def zml (a0 : AV) (H : Heap) (nx : Nat) (Q : QT) : Prop :=
 PUTH H nx (AObj.row 1 [AV.str [108, 101, 116], AV.str [115, 101, 116], AV.str [105, 102], AV.str [119, 104, 105, 108, 101], AV.str [115, 97, 121], AV.str [114, 101, 116, 117, 114, 110], AV.str [112, 117, 116, 108], AV.str [112, 117, 116, 114], AV.str [100, 111], AV.str [99, 101, 108, 108], AV.str [108, 101, 102, 116], AV.str [114, 105, 103, 104, 116], AV.str [97, 115, 107], AV.str [104, 101, 114, 101], AV.str [103, 111]]) fun H1 =>
 LNL (AV.slc nx 0 15) fun v2 =>
 LP (zek Q) [a0, AV.slc nx 0 15, v2, AV.int IntKind.i64 0] H1 (nx + 1)
theorem zpo (a0 : AV) (H : Heap) (nx : Nat) (Q : QT) : zml a0 H nx Q → za Tryd.prog 14 [a0] H nx Q :=
  ze (lv := lvOf [(2, 2, [0, 6, 7, 8]), (2, 8, [0, 17, 18])]) (c := zh Tryd.f14) zq zu mixed Tryd.func14 (by kernel_rfl) (by kernel_rfl) (by kernel_rfl) (by kernel_rfl) (by kernel_rfl)
def zi (xs5 : List AV) (Q : QT) (_ : AV) (H46 : Heap) (nx47 : Nat) : Prop :=
 NC (nth xs5 0) fun v48 =>
 FA 0 v48 fun v49 =>
 LD false 1 v49 H46 fun v50 =>
 SLS v50 none (some (nth xs5 1)) fun v51 =>
 NC (nth xs5 0) fun v52 =>
 FA 0 v52 fun v53 =>
 LD false 1 v53 H46 fun v54 =>
 SLS v54 (some (nth xs5 1)) none fun v55 =>
 NC (nth xs5 0) fun v56 =>
 FA 0 v56 fun v57 =>
 ST 1 v57 v55 H46 fun H58 =>
 Q v51 H58 nx47
def zci (Q : QT) (K4 : J3) (xs5 : List AV) (H6 : Heap) (nx7 : Nat) : Prop :=
 NC (nth xs5 0) fun v8 =>
 FA 0 v8 fun v9 =>
 LD false 1 v9 H6 fun v10 =>
 LNS v10 fun v11 =>
 BI BinOp.lss (nth xs5 1) v11 fun v12 =>
 CND v12
 (NC (nth xs5 0) fun v13 =>
 FA 0 v13 fun v14 =>
 LD false 1 v14 H6 fun v15 =>
 IX v15 (nth xs5 1) fun v16 =>
 BI BinOp.neq v16 (AV.int IntKind.u8 32) fun v17 =>
 CND v17
 (NC (nth xs5 0) fun v18 =>
 FA 0 v18 fun v19 =>
 LD false 1 v19 H6 fun v20 =>
 IX v20 (nth xs5 1) fun v21 =>
 BI BinOp.neq v21 (AV.int IntKind.u8 10) fun v22 =>
 CND v22
 (NC (nth xs5 0) fun v23 =>
 FA 0 v23 fun v24 =>
 LD false 1 v24 H6 fun v25 =>
 IX v25 (nth xs5 1) fun v26 =>
 BI BinOp.neq v26 (AV.int IntKind.u8 40) fun v27 =>
 CND v27
 (NC (nth xs5 0) fun v28 =>
 FA 0 v28 fun v29 =>
 LD false 1 v29 H6 fun v30 =>
 IX v30 (nth xs5 1) fun v31 =>
 BI BinOp.neq v31 (AV.int IntKind.u8 41) fun v32 =>
 CND v32
 (NC (nth xs5 0) fun v33 =>
 FA 0 v33 fun v34 =>
 LD false 1 v34 H6 fun v35 =>
 IX v35 (nth xs5 1) fun v36 =>
 BI BinOp.neq v36 (AV.int IntKind.u8 39) fun v37 =>
 CNDC v37
 (BI BinOp.add (nth xs5 1) (AV.int IntKind.i64 1) fun v38 =>
 K4 [nth xs5 0, v38] H6 nx7)
 (BI BinOp.eql (nth xs5 1) (AV.int IntKind.i64 0) fun v39 =>
 CND v39
 (NC (nth xs5 0) fun v40 =>
 FA 0 v40 fun v41 =>
 LD false 1 v41 H6 fun v42 =>
 LNS v42 fun v43 =>
 BI BinOp.eql v43 (AV.int IntKind.i64 0) fun v44 =>
 CNDC v44
 (za Tryd.prog 48 [nth xs5 0, AV.int IntKind.i64 8] H6 nx7 (zi xs5 Q))
 (BI BinOp.eql (nth xs5 1) (AV.int IntKind.i64 0) fun v59 =>
 CNDC v59
 (za Tryd.prog 48 [nth xs5 0, AV.int IntKind.i64 2] H6 nx7 (zi xs5 Q))
 (NC (nth xs5 0) fun v74 =>
 FA 0 v74 fun v75 =>
 LD false 1 v75 H6 fun v76 =>
 SLS v76 none (some (nth xs5 1)) fun v77 =>
 NC (nth xs5 0) fun v78 =>
 FA 0 v78 fun v79 =>
 LD false 1 v79 H6 fun v80 =>
 SLS v80 (some (nth xs5 1)) none fun v81 =>
 NC (nth xs5 0) fun v82 =>
 FA 0 v82 fun v83 =>
 ST 1 v83 v81 H6 fun H84 =>
 Q v77 H84 nx7)))
 (BI BinOp.eql (nth xs5 1) (AV.int IntKind.i64 0) fun v85 =>
 CNDC v85
 (za Tryd.prog 48 [nth xs5 0, AV.int IntKind.i64 2] H6 nx7 (zi xs5 Q))
 (NC (nth xs5 0) fun v100 =>
 FA 0 v100 fun v101 =>
 LD false 1 v101 H6 fun v102 =>
 SLS v102 none (some (nth xs5 1)) fun v103 =>
 NC (nth xs5 0) fun v104 =>
 FA 0 v104 fun v105 =>
 LD false 1 v105 H6 fun v106 =>
 SLS v106 (some (nth xs5 1)) none fun v107 =>
 NC (nth xs5 0) fun v108 =>
 FA 0 v108 fun v109 =>
 ST 1 v109 v107 H6 fun H110 =>
 Q v103 H110 nx7))))
 (BI BinOp.eql (nth xs5 1) (AV.int IntKind.i64 0) fun v111 =>
 CND v111
 (NC (nth xs5 0) fun v112 =>
 FA 0 v112 fun v113 =>
 LD false 1 v113 H6 fun v114 =>
 LNS v114 fun v115 =>
 BI BinOp.eql v115 (AV.int IntKind.i64 0) fun v116 =>
 CNDC v116
 (za Tryd.prog 48 [nth xs5 0, AV.int IntKind.i64 8] H6 nx7 (zi xs5 Q))
 (BI BinOp.eql (nth xs5 1) (AV.int IntKind.i64 0) fun v131 =>
 CNDC v131
 (za Tryd.prog 48 [nth xs5 0, AV.int IntKind.i64 2] H6 nx7 (zi xs5 Q))
 (NC (nth xs5 0) fun v146 =>
 FA 0 v146 fun v147 =>
 LD false 1 v147 H6 fun v148 =>
 SLS v148 none (some (nth xs5 1)) fun v149 =>
 NC (nth xs5 0) fun v150 =>
 FA 0 v150 fun v151 =>
 LD false 1 v151 H6 fun v152 =>
 SLS v152 (some (nth xs5 1)) none fun v153 =>
 NC (nth xs5 0) fun v154 =>
 FA 0 v154 fun v155 =>
 ST 1 v155 v153 H6 fun H156 =>
 Q v149 H156 nx7)))
 (BI BinOp.eql (nth xs5 1) (AV.int IntKind.i64 0) fun v157 =>
 CNDC v157
 (za Tryd.prog 48 [nth xs5 0, AV.int IntKind.i64 2] H6 nx7 (zi xs5 Q))
 (NC (nth xs5 0) fun v172 =>
 FA 0 v172 fun v173 =>
 LD false 1 v173 H6 fun v174 =>
 SLS v174 none (some (nth xs5 1)) fun v175 =>
 NC (nth xs5 0) fun v176 =>
 FA 0 v176 fun v177 =>
 LD false 1 v177 H6 fun v178 =>
 SLS v178 (some (nth xs5 1)) none fun v179 =>
 NC (nth xs5 0) fun v180 =>
 FA 0 v180 fun v181 =>
 ST 1 v181 v179 H6 fun H182 =>
 Q v175 H182 nx7))))
 (BI BinOp.eql (nth xs5 1) (AV.int IntKind.i64 0) fun v183 =>
 CND v183
 (NC (nth xs5 0) fun v184 =>
 FA 0 v184 fun v185 =>
 LD false 1 v185 H6 fun v186 =>
 LNS v186 fun v187 =>
 BI BinOp.eql v187 (AV.int IntKind.i64 0) fun v188 =>
 CNDC v188
 (za Tryd.prog 48 [nth xs5 0, AV.int IntKind.i64 8] H6 nx7 (zi xs5 Q))
 (BI BinOp.eql (nth xs5 1) (AV.int IntKind.i64 0) fun v203 =>
 CNDC v203
 (za Tryd.prog 48 [nth xs5 0, AV.int IntKind.i64 2] H6 nx7 (zi xs5 Q))
 (NC (nth xs5 0) fun v218 =>
 FA 0 v218 fun v219 =>
 LD false 1 v219 H6 fun v220 =>
 SLS v220 none (some (nth xs5 1)) fun v221 =>
 NC (nth xs5 0) fun v222 =>
 FA 0 v222 fun v223 =>
 LD false 1 v223 H6 fun v224 =>
 SLS v224 (some (nth xs5 1)) none fun v225 =>
 NC (nth xs5 0) fun v226 =>
 FA 0 v226 fun v227 =>
 ST 1 v227 v225 H6 fun H228 =>
 Q v221 H228 nx7)))
 (BI BinOp.eql (nth xs5 1) (AV.int IntKind.i64 0) fun v229 =>
 CNDC v229
 (za Tryd.prog 48 [nth xs5 0, AV.int IntKind.i64 2] H6 nx7 (zi xs5 Q))
 (NC (nth xs5 0) fun v244 =>
 FA 0 v244 fun v245 =>
 LD false 1 v245 H6 fun v246 =>
 SLS v246 none (some (nth xs5 1)) fun v247 =>
 NC (nth xs5 0) fun v248 =>
 FA 0 v248 fun v249 =>
 LD false 1 v249 H6 fun v250 =>
 SLS v250 (some (nth xs5 1)) none fun v251 =>
 NC (nth xs5 0) fun v252 =>
 FA 0 v252 fun v253 =>
 ST 1 v253 v251 H6 fun H254 =>
 Q v247 H254 nx7))))
 (BI BinOp.eql (nth xs5 1) (AV.int IntKind.i64 0) fun v255 =>
 CND v255
 (NC (nth xs5 0) fun v256 =>
 FA 0 v256 fun v257 =>
 LD false 1 v257 H6 fun v258 =>
 LNS v258 fun v259 =>
 BI BinOp.eql v259 (AV.int IntKind.i64 0) fun v260 =>
 CNDC v260
 (za Tryd.prog 48 [nth xs5 0, AV.int IntKind.i64 8] H6 nx7 (zi xs5 Q))
 (BI BinOp.eql (nth xs5 1) (AV.int IntKind.i64 0) fun v275 =>
 CNDC v275
 (za Tryd.prog 48 [nth xs5 0, AV.int IntKind.i64 2] H6 nx7 (zi xs5 Q))
 (NC (nth xs5 0) fun v290 =>
 FA 0 v290 fun v291 =>
 LD false 1 v291 H6 fun v292 =>
 SLS v292 none (some (nth xs5 1)) fun v293 =>
 NC (nth xs5 0) fun v294 =>
 FA 0 v294 fun v295 =>
 LD false 1 v295 H6 fun v296 =>
 SLS v296 (some (nth xs5 1)) none fun v297 =>
 NC (nth xs5 0) fun v298 =>
 FA 0 v298 fun v299 =>
 ST 1 v299 v297 H6 fun H300 =>
 Q v293 H300 nx7)))
 (BI BinOp.eql (nth xs5 1) (AV.int IntKind.i64 0) fun v301 =>
 CNDC v301
 (za Tryd.prog 48 [nth xs5 0, AV.int IntKind.i64 2] H6 nx7 (zi xs5 Q))
 (NC (nth xs5 0) fun v316 =>
 FA 0 v316 fun v317 =>
 LD false 1 v317 H6 fun v318 =>
 SLS v318 none (some (nth xs5 1)) fun v319 =>
 NC (nth xs5 0) fun v320 =>
 FA 0 v320 fun v321 =>
 LD false 1 v321 H6 fun v322 =>
 SLS v322 (some (nth xs5 1)) none fun v323 =>
 NC (nth xs5 0) fun v324 =>
 FA 0 v324 fun v325 =>
 ST 1 v325 v323 H6 fun H326 =>
 Q v319 H326 nx7))))
 (BI BinOp.eql (nth xs5 1) (AV.int IntKind.i64 0) fun v327 =>
 CND v327
 (NC (nth xs5 0) fun v328 =>
 FA 0 v328 fun v329 =>
 LD false 1 v329 H6 fun v330 =>
 LNS v330 fun v331 =>
 BI BinOp.eql v331 (AV.int IntKind.i64 0) fun v332 =>
 CNDC v332
 (za Tryd.prog 48 [nth xs5 0, AV.int IntKind.i64 8] H6 nx7 (zi xs5 Q))
 (BI BinOp.eql (nth xs5 1) (AV.int IntKind.i64 0) fun v347 =>
 CNDC v347
 (za Tryd.prog 48 [nth xs5 0, AV.int IntKind.i64 2] H6 nx7 (zi xs5 Q))
 (NC (nth xs5 0) fun v362 =>
 FA 0 v362 fun v363 =>
 LD false 1 v363 H6 fun v364 =>
 SLS v364 none (some (nth xs5 1)) fun v365 =>
 NC (nth xs5 0) fun v366 =>
 FA 0 v366 fun v367 =>
 LD false 1 v367 H6 fun v368 =>
 SLS v368 (some (nth xs5 1)) none fun v369 =>
 NC (nth xs5 0) fun v370 =>
 FA 0 v370 fun v371 =>
 ST 1 v371 v369 H6 fun H372 =>
 Q v365 H372 nx7)))
 (BI BinOp.eql (nth xs5 1) (AV.int IntKind.i64 0) fun v373 =>
 CNDC v373
 (za Tryd.prog 48 [nth xs5 0, AV.int IntKind.i64 2] H6 nx7 (zi xs5 Q))
 (NC (nth xs5 0) fun v388 =>
 FA 0 v388 fun v389 =>
 LD false 1 v389 H6 fun v390 =>
 SLS v390 none (some (nth xs5 1)) fun v391 =>
 NC (nth xs5 0) fun v392 =>
 FA 0 v392 fun v393 =>
 LD false 1 v393 H6 fun v394 =>
 SLS v394 (some (nth xs5 1)) none fun v395 =>
 NC (nth xs5 0) fun v396 =>
 FA 0 v396 fun v397 =>
 ST 1 v397 v395 H6 fun H398 =>
 Q v391 H398 nx7))))
 (BI BinOp.eql (nth xs5 1) (AV.int IntKind.i64 0) fun v399 =>
 CND v399
 (NC (nth xs5 0) fun v400 =>
 FA 0 v400 fun v401 =>
 LD false 1 v401 H6 fun v402 =>
 LNS v402 fun v403 =>
 BI BinOp.eql v403 (AV.int IntKind.i64 0) fun v404 =>
 CNDC v404
 (za Tryd.prog 48 [nth xs5 0, AV.int IntKind.i64 8] H6 nx7 (zi xs5 Q))
 (BI BinOp.eql (nth xs5 1) (AV.int IntKind.i64 0) fun v419 =>
 CNDC v419
 (za Tryd.prog 48 [nth xs5 0, AV.int IntKind.i64 2] H6 nx7 (zi xs5 Q))
 (NC (nth xs5 0) fun v434 =>
 FA 0 v434 fun v435 =>
 LD false 1 v435 H6 fun v436 =>
 SLS v436 none (some (nth xs5 1)) fun v437 =>
 NC (nth xs5 0) fun v438 =>
 FA 0 v438 fun v439 =>
 LD false 1 v439 H6 fun v440 =>
 SLS v440 (some (nth xs5 1)) none fun v441 =>
 NC (nth xs5 0) fun v442 =>
 FA 0 v442 fun v443 =>
 ST 1 v443 v441 H6 fun H444 =>
 Q v437 H444 nx7)))
 (BI BinOp.eql (nth xs5 1) (AV.int IntKind.i64 0) fun v445 =>
 CNDC v445
 (za Tryd.prog 48 [nth xs5 0, AV.int IntKind.i64 2] H6 nx7 (zi xs5 Q))
 (NC (nth xs5 0) fun v460 =>
 FA 0 v460 fun v461 =>
 LD false 1 v461 H6 fun v462 =>
 SLS v462 none (some (nth xs5 1)) fun v463 =>
 NC (nth xs5 0) fun v464 =>
 FA 0 v464 fun v465 =>
 LD false 1 v465 H6 fun v466 =>
 SLS v466 (some (nth xs5 1)) none fun v467 =>
 NC (nth xs5 0) fun v468 =>
 FA 0 v468 fun v469 =>
 ST 1 v469 v467 H6 fun H470 =>
 Q v463 H470 nx7)))
def znx (Q : QT) (a0 : AV) (v1 : AV) (H2 : Heap) (nx3 : Nat) : Prop :=
 LP (zci Q) [a0, AV.int IntKind.i64 0] H2 nx3
def zsi (a0 : AV) (H : Heap) (nx : Nat) (Q : QT) : Prop :=
 za Tryd.prog 27 [a0] H nx (znx Q a0)
theorem zpw (a0 : AV) (H : Heap) (nx : Nat) (Q : QT) : zsi a0 H nx Q → za Tryd.prog 49 [a0] H nx Q :=
  ze (lv := lvOf [(2, 3, [0, 3])]) (c := zh Tryd.f49) zq zu mixed Tryd.func49 (by kernel_rfl) (by kernel_rfl) (by kernel_rfl) (by kernel_rfl) (by kernel_rfl)
def zsl (Q : QT) (v1 : AV) (v8 : AV) (H9 : Heap) (nx10 : Nat) : Prop :=
 Q v1 H9 nx10
def ziy (a0 : AV) (Q : QT) (v1 : AV) (v4 : AV) (H5 : Heap) (nx6 : Nat) : Prop :=
 UO UnOp.not v4 fun v7 =>
 CNDC v7
 (za Tryd.prog 48 [a0, AV.int IntKind.i64 7] H5 nx6 (zsl Q v1))
 (Q v1 H5 nx6)
def zsk (a0 : AV) (Q : QT) (v1 : AV) (H2 : Heap) (nx3 : Nat) : Prop :=
 za Tryd.prog 14 [v1] H2 nx3 (ziy a0 Q v1)
def zsj (a0 : AV) (H : Heap) (nx : Nat) (Q : QT) : Prop :=
 za Tryd.prog 49 [a0] H nx (zsk a0 Q)
theorem zpx (a0 : AV) (H : Heap) (nx : Nat) (Q : QT) : zsj a0 H nx Q → za Tryd.prog 29 [a0] H nx Q :=
  ze (lv := lvOf []) (c := zh Tryd.f29) zq zu mixed Tryd.func29 (by kernel_rfl) (by kernel_rfl) (by kernel_rfl) (by kernel_rfl) (by kernel_rfl)
def zpn (K1 : J3) (xs2 : List AV) (v13 : AV) (H14 : Heap) (nx15 : Nat) : Prop :=
 K1 [nth xs2 0, nth xs2 1] H14 nx15
def zjn (Q : QT) (v16 : AV) (H17 : Heap) (nx18 : Nat) : Prop :=
 Q (AV.tup []) H17 nx18
def zeu (xs2 : List AV) (K1 : J3) (Q : QT) (v9 : AV) (H10 : Heap) (nx11 : Nat) : Prop :=
 BI BinOp.neq v9 (AV.int IntKind.u8 41) fun v12 =>
 CNDC v12
 (CALL Tryd.prog (nth xs2 1) [] H10 nx11 (zpn K1 xs2))
 (za Tryd.prog 28 [nth xs2 0, AV.int IntKind.u8 41] H10 nx11 (zjn Q))
def zet (Q : QT) (K1 : J3) (xs2 : List AV) (H3 : Heap) (nx4 : Nat) : Prop :=
 NC (nth xs2 0) fun v5 =>
 FA 1 v5 fun v6 =>
 LD false 1 v6 H3 fun v7 =>
 BI BinOp.eql v7 (AV.int IntKind.i64 0) fun v8 =>
 CND v8
 (za Tryd.prog 27 [nth xs2 0] H3 nx4 (zeu xs2 K1 Q))
 (za Tryd.prog 28 [nth xs2 0, AV.int IntKind.u8 41] H3 nx4 (zjn Q))
def zjm (a0 a1 : AV) (H : Heap) (nx : Nat) (Q : QT) : Prop :=
 LP (zet Q) [a0, a1] H nx
theorem zmz (a0 a1 : AV) (H : Heap) (nx : Nat) (Q : QT) : zjm a0 a1 H nx Q → za Tryd.prog 30 [a0, a1] H nx Q :=
  ze (lv := lvOf [(2, 0, [0, 1])]) (c := zh Tryd.f30) zq zu mixed Tryd.func30 (by kernel_rfl) (by kernel_rfl) (by kernel_rfl) (by kernel_rfl) (by kernel_rfl)
def zjp (nx : Nat) (Q : QT) (_ : AV) (H6 : Heap) (nx7 : Nat) : Prop :=
 LD false 1 (AV.ptr (nx + 2) 0) H6 fun v8 =>
 Q v8 H6 nx7
def zjo (a0 a1 : AV) (H : Heap) (nx : Nat) (Q : QT) : Prop :=
 a0.sure = true ∧
 PUTH H nx (AObj.row a0.cells.length a0.cells) fun H1 =>
 a1.sure = true ∧
 PUTH H1 (nx + 1) (AObj.row a1.cells.length a1.cells) fun H2 =>
 PUTH H2 (nx + 2) (AObj.row 1 [AV.nils]) fun H3 =>
 LD false 1 (AV.ptr nx 0) H3 fun v4 =>
 za Tryd.prog 30 [v4, AV.clo 50 [AV.ptr (nx + 2) 0, AV.ptr nx 0, AV.ptr (nx + 1) 0]] H3 (nx + 3) (zjp nx Q)
theorem zna (a0 a1 : AV) (H : Heap) (nx : Nat) (Q : QT) : zjo a0 a1 H nx Q → za Tryd.prog 32 [a0, a1] H nx Q :=
  ze (lv := lvOf []) (c := zh Tryd.f32) zq zu mixed Tryd.func32 (by kernel_rfl) (by kernel_rfl) (by kernel_rfl) (by kernel_rfl) (by kernel_rfl)
def zfy (nx28 : Nat) (xs8 : List AV) (K7 : J3) (v41 : AV) (H42 : Heap) (nx43 : Nat) : Prop :=
 ST 1 (AV.ptr nx28 2) v41 H42 fun H44 =>
 LD true 3 (AV.ptr nx28 0) H44 fun v45 =>
 BSL 1 3 [AV.str [], AV.nils, AV.nils] [(0, v45)] fun cells46 =>
 PUTH H44 nx43 (AObj.row 3 cells46) fun H47 =>
 APP 3 64 (nth xs8 1) (AV.slc nx43 0 1) H47 (nx43 + 1) fun v48 H49 nx50 =>
 K7 [nth xs8 0, v48] H49 nx50
def zln (xs8 : List AV) (nx28 : Nat) (K7 : J3) (_ : AV) (H38 : Heap) (nx39 : Nat) : Prop :=
 LD false 1 (nth xs8 0) H38 fun v40 =>
 za Tryd.prog 32 [v40, AV.int IntKind.i64 0] H38 nx39 (zfy nx28 xs8 K7)
def zlm (xs8 : List AV) (nx28 : Nat) (K7 : J3) (_ : AV) (H34 : Heap) (nx35 : Nat) : Prop :=
 LD false 1 (nth xs8 0) H34 fun v36 =>
 za Tryd.prog 30 [v36, AV.clo 31 [AV.ptr nx28 0, nth xs8 0]] H34 nx35 (zln xs8 nx28 K7)
def zll (xs8 : List AV) (K7 : J3) (v26 : AV) (H27 : Heap) (nx28 : Nat) : Prop :=
 BD (zl tab [(9, 0), (32, 1), (41, 2)]) [AV.str [], AV.nils, AV.nils] [(0, v26)] fun v29 =>
 PUTH H27 nx28 (AObj.row 3 [AV.str [], AV.nils, AV.nils]) fun H30 =>
 ST 3 (AV.ptr nx28 0) v29 H30 fun H31 =>
 LD false 1 (nth xs8 0) H31 fun v32 =>
 za Tryd.prog 28 [v32, AV.int IntKind.u8 40] H31 (nx28 + 1) (zlm xs8 nx28 K7)
def zfx (xs8 : List AV) (K7 : J3) (_ : AV) (H23 : Heap) (nx24 : Nat) : Prop :=
 LD false 1 (nth xs8 0) H23 fun v25 =>
 za Tryd.prog 29 [v25] H23 nx24 (zll xs8 K7)
def zfw (xs8 : List AV) (K7 : J3) (Q : QT) (v17 : AV) (H18 : Heap) (nx19 : Nat) : Prop :=
 BI BinOp.neq v17 (AV.int IntKind.u8 0) fun v20 =>
 CNDC v20
 (LD false 1 (nth xs8 0) H18 fun v21 =>
 za Tryd.prog 28 [v21, AV.int IntKind.u8 40] H18 nx19 (zfx xs8 K7))
 (LD false 1 (nth xs8 0) H18 fun v51 =>
 NC v51 fun v52 =>
 FA 1 v52 fun v53 =>
 LD false 1 v53 H18 fun v54 =>
 BI BinOp.neq v54 (AV.int IntKind.i64 0) fun v55 =>
 CNDC v55
 (LDR false 1 (nth xs8 0) H18 fun v56 _ =>
 NC v56 fun v58 =>
 FA 1 v58 fun v59 =>
 LDR false 1 v59 H18 fun v60 _ =>
 Q (AV.tup [AV.nils, v60]) H18 nx19)
 (Q (AV.tup [nth xs8 1, AV.int IntKind.i64 0]) H18 nx19))
def zfv (Q : QT) (K7 : J3) (xs8 : List AV) (H9 : Heap) (nx10 : Nat) : Prop :=
 LD false 1 (nth xs8 0) H9 fun v11 =>
 NC v11 fun v12 =>
 FA 1 v12 fun v13 =>
 LD false 1 v13 H9 fun v14 =>
 BI BinOp.eql v14 (AV.int IntKind.i64 0) fun v15 =>
 CND v15
 (LD false 1 (nth xs8 0) H9 fun v16 =>
 za Tryd.prog 27 [v16] H9 nx10 (zfw xs8 K7 Q))
 (LD false 1 (nth xs8 0) H9 fun v62 =>
 NC v62 fun v63 =>
 FA 1 v63 fun v64 =>
 LD false 1 v64 H9 fun v65 =>
 BI BinOp.neq v65 (AV.int IntKind.i64 0) fun v66 =>
 CNDC v66
 (LDR false 1 (nth xs8 0) H9 fun v67 _ =>
 NC v67 fun v69 =>
 FA 1 v69 fun v70 =>
 LDR false 1 v70 H9 fun v71 _ =>
 Q (AV.tup [AV.nils, v71]) H9 nx10)
 (Q (AV.tup [nth xs8 1, AV.int IntKind.i64 0]) H9 nx10))
def zfu (a0 : AV) (H : Heap) (nx : Nat) (Q : QT) : Prop :=
 LNS a0 fun v1 =>
 BI BinOp.gtr v1 (AV.int IntKind.i64 1500) fun v2 =>
 CNDC v2
 (Q (AV.tup [AV.nils, AV.int IntKind.i64 4]) H nx)
 (BD (zl tab [(9, 0), (23, 1)]) [AV.str [], AV.int IntKind.i64 0] [(0, a0)] fun v3 =>
 v3.sure = true ∧
 PUTH H nx (AObj.row v3.cells.length v3.cells) fun H4 =>
 PUTH H4 (nx + 1) (AObj.row 1 [AV.nilp]) fun H5 =>
 ST 1 (AV.ptr (nx + 1) 0) (AV.ptr nx 0) H5 fun H6 =>
 LP (zfv Q) [AV.ptr (nx + 1) 0, AV.nils] H6 (nx + 2))
theorem zoe (a0 : AV) (H : Heap) (nx : Nat) (Q : QT) : zfu a0 H nx Q → za Tryd.prog 10 [a0] H nx Q :=
  ze (lv := lvOf [(2, 5, [4, 5])]) (c := zh Tryd.f10) zq zu mixed Tryd.func10 (by kernel_rfl) (by kernel_rfl) (by kernel_rfl) (by kernel_rfl) (by kernel_rfl)
def zkb (a0 : AV) (Q : QT) (_ : AV) (H3 : Heap) (nx4 : Nat) : Prop :=
 NC a0 fun v5 =>
 FA 1 v5 fun v6 =>
 LD false 1 v6 H3 fun v7 =>
 BI BinOp.eql v7 (AV.int IntKind.i64 0) fun v8 =>
 Q v8 H3 nx4
def zfm (a0 a1 : AV) (H : Heap) (nx : Nat) (Q : QT) : Prop :=
 BI BinOp.gtr a1 (AV.int IntKind.i64 10) fun v1 =>
 CNDC v1
 (za Tryd.prog 48 [a0, AV.int IntKind.i64 9] H nx (zkb a0 Q))
 (NC a0 fun v9 =>
 FA 1 v9 fun v10 =>
 LD false 1 v10 H fun v11 =>
 BI BinOp.eql v11 (AV.int IntKind.i64 0) fun v12 =>
 Q v12 H nx)
theorem zob (a0 a1 : AV) (H : Heap) (nx : Nat) (Q : QT) : zfm a0 a1 H nx Q → za Tryd.prog 68 [a0, a1] H nx Q :=
  ze (lv := lvOf []) (c := zh Tryd.f68) zq zu mixed Tryd.func68 (by kernel_rfl) (by kernel_rfl) (by kernel_rfl) (by kernel_rfl) (by kernel_rfl)
def zmi (Q : QT) (K2 : J3) (xs3 : List AV) (H4 : Heap) (nx5 : Nat) : Prop :=
 BI BinOp.lss (nth xs3 2) (nth xs3 1) fun v6 =>
 CNDC v6
 (IX (nth xs3 0) (nth xs3 2) fun v7 =>
 BI BinOp.lss v7 (AV.int IntKind.u8 32) fun v8 =>
 CND v8
 (Q (AV.bool false) H4 nx5)
 (IX (nth xs3 0) (nth xs3 2) fun v9 =>
 BI BinOp.gtr v9 (AV.int IntKind.u8 126) fun v10 =>
 CND v10
 (Q (AV.bool false) H4 nx5)
 (IX (nth xs3 0) (nth xs3 2) fun v11 =>
 BI BinOp.eql v11 (AV.int IntKind.u8 39) fun v12 =>
 CNDC v12
 (Q (AV.bool false) H4 nx5)
 (BI BinOp.add (nth xs3 2) (AV.int IntKind.i64 1) fun v13 =>
 K2 [nth xs3 0, nth xs3 1, v13] H4 nx5))))
 (LNS (nth xs3 0) fun v14 =>
 BI BinOp.lss v14 (AV.int IntKind.i64 13) fun v15 =>
 Q v15 H4 nx5)
def zmh (a0 : AV) (H : Heap) (nx : Nat) (Q : QT) : Prop :=
 LNS a0 fun v1 =>
 LP (zmi Q) [a0, v1, AV.int IntKind.i64 0] H nx
theorem zpm (a0 : AV) (H : Heap) (nx : Nat) (Q : QT) : zmh a0 H nx Q → za Tryd.prog 25 [a0] H nx Q :=
  ze (lv := lvOf [(2, 2, [0, 5, 6])]) (c := zh Tryd.f25) zq zu mixed Tryd.func25 (by kernel_rfl) (by kernel_rfl) (by kernel_rfl) (by kernel_rfl) (by kernel_rfl)
def zkn (xs21 : List AV) (Q : QT) (_ : AV) (H49 : Heap) (nx50 : Nat) : Prop :=
 ST 4 (nth xs21 1) (AV.agg [AV.int IntKind.i64 2, AV.int IntKind.i64 0, AV.str [], AV.nils]) H49 fun H51 =>
 LD true 4 (nth xs21 1) H51 fun v52 =>
 Q v52 H51 nx50
def zkm (v57 : AV) (xs21 : List AV) (Q : QT) (_ : AV) (H80 : Heap) (nx81 : Nat) : Prop :=
 BD (zl tab [(3, 0), (3, 1), (9, 2), (88, 3)]) [AV.int IntKind.i64 0, AV.int IntKind.i64 0, AV.str [], AV.nils] [(0, AV.int IntKind.i64 2), (2, v57)] fun v82 =>
 ST 4 (nth xs21 1) v82 H80 fun H83 =>
 LD true 4 (nth xs21 1) H83 fun v84 =>
 Q v84 H83 nx81
def zfq (xs21 : List AV) (v57 : AV) (Q : QT) (v74 : AV) (H75 : Heap) (nx76 : Nat) : Prop :=
 UO UnOp.not v74 fun v77 =>
 CNDC v77
 (LD false 1 (nth xs21 0) H75 fun v78 =>
 za Tryd.prog 48 [v78, AV.int IntKind.i64 2] H75 nx76 (zkm v57 xs21 Q))
 (BD (zl tab [(3, 0), (3, 1), (9, 2), (88, 3)]) [AV.int IntKind.i64 0, AV.int IntKind.i64 0, AV.str [], AV.nils] [(0, AV.int IntKind.i64 2), (2, v57)] fun v85 =>
 ST 4 (nth xs21 1) v85 H75 fun H86 =>
 LD true 4 (nth xs21 1) H86 fun v87 =>
 Q v87 H86 nx76)
def zdc (K17 : J3) (Q : QT) (xs21 : List AV) (H22 : Heap) (nx23 : Nat) : Prop :=
 CNDC (nth xs21 3)
 (BI BinOp.add (nth xs21 2) (AV.int IntKind.i64 1) fun v25 =>
 K17 [nth xs21 0, nth xs21 1, v25] H22 nx23)
 (LD false 1 (nth xs21 0) H22 fun v26 =>
 NC v26 fun v27 =>
 FA 0 v27 fun v28 =>
 LD false 1 v28 H22 fun v29 =>
 LNS v29 fun v30 =>
 BI BinOp.eql (nth xs21 2) v30 fun v31 =>
 CNDC v31
 (LDR false 1 (nth xs21 0) H22 fun v32 _ =>
 LDR false 1 (nth xs21 0) H22 fun v34 _ =>
 NC v34 fun v36 =>
 FA 0 v36 fun v37 =>
 LDR false 1 v37 H22 fun v38 _ =>
 SLS v38 (some (AV.int IntKind.i64 1)) none fun v40 =>
 NC v32 fun v41 =>
 FA 0 v41 fun v42 =>
 zab 1 v42 v40 H22 fun _ _ fr45 D46 =>
 LD false 1 (nth xs21 0) (H22.apply D46) fun v47 =>
 za Tryd.prog 48 [v47, AV.int IntKind.i64 8] (H22.apply D46) (nx23 + fr45.length) (zkn xs21 Q))
 (LD false 1 (nth xs21 0) H22 fun v53 =>
 NC v53 fun v54 =>
 FA 0 v54 fun v55 =>
 LD false 1 v55 H22 fun v56 =>
 SLS v56 (some (AV.int IntKind.i64 1)) (some (nth xs21 2)) fun v57 =>
 LDR false 1 (nth xs21 0) H22 fun v58 _ =>
 LDR false 1 (nth xs21 0) H22 fun v60 _ =>
 NC v60 fun v62 =>
 FA 0 v62 fun v63 =>
 LDR false 1 v63 H22 fun v64 _ =>
 BI BinOp.add (nth xs21 2) (AV.int IntKind.i64 1) fun v66 =>
 SLS v64 (some v66) none fun v67 =>
 NC v58 fun v68 =>
 FA 0 v68 fun v69 =>
 zab 1 v69 v67 H22 fun _ _ fr72 D73 =>
 za Tryd.prog 25 [v57] (H22.apply D73) (nx23 + fr72.length) (zfq xs21 v57 Q)))
def zde (xs18 : List AV) (H19 : Heap) (nx20 : Nat) (j24 : J3) : Prop :=
 LD false 1 (nth xs18 0) H19 fun v88 =>
 NC v88 fun v89 =>
 FA 0 v89 fun v90 =>
 LD false 1 v90 H19 fun v91 =>
 LNS v91 fun v92 =>
 BI BinOp.lss (nth xs18 2) v92 fun v93 =>
 CND v93
 (LD false 1 (nth xs18 0) H19 fun v94 =>
 NC v94 fun v95 =>
 FA 0 v95 fun v96 =>
 LD false 1 v96 H19 fun v97 =>
 IX v97 (nth xs18 2) fun v98 =>
 BI BinOp.neq v98 (AV.int IntKind.u8 39) fun v99 =>
 j24 [nth xs18 0, nth xs18 1, nth xs18 2, v99] H19 nx20)
 (j24 [nth xs18 0, nth xs18 1, nth xs18 2, AV.bool false] H19 nx20)
def zbw (Q : QT) (K17 : J3) (xs18 : List AV) (H19 : Heap) (nx20 : Nat) : Prop :=
 JN (zdc K17 Q) (zde xs18 H19 nx20)
def zda (v108 : AV) (nx : Nat) (Q : QT) (_ : AV) (H118 : Heap) (nx119 : Nat) : Prop :=
 BD (zl tab [(3, 0), (3, 1), (9, 2), (88, 3)]) [AV.int IntKind.i64 0, AV.int IntKind.i64 0, AV.str [], AV.nils] [(0, AV.int IntKind.i64 1), (1, v108)] fun v120 =>
 ST 4 (AV.ptr (nx + 2) 0) v120 H118 fun H121 =>
 LD true 4 (AV.ptr (nx + 2) 0) H121 fun v122 =>
 Q v122 H121 nx119
def zkl (v102 : AV) (nx : Nat) (Q : QT) (_ : AV) (H140 : Heap) (nx141 : Nat) : Prop :=
 BD (zl tab [(3, 0), (3, 1), (9, 2), (88, 3)]) [AV.int IntKind.i64 0, AV.int IntKind.i64 0, AV.str [], AV.nils] [(0, AV.int IntKind.i64 3), (2, v102)] fun v142 =>
 ST 4 (AV.ptr (nx + 2) 0) v142 H140 fun H143 =>
 LD true 4 (AV.ptr (nx + 2) 0) H143 fun v144 =>
 Q v144 H143 nx141
def zbx (nx : Nat) (v102 : AV) (Q : QT) (v134 : AV) (H135 : Heap) (nx136 : Nat) : Prop :=
 UO UnOp.not v134 fun v137 =>
 CNDC v137
 (LD false 1 (AV.ptr nx 0) H135 fun v138 =>
 za Tryd.prog 48 [v138, AV.int IntKind.i64 7] H135 nx136 (zkl v102 nx Q))
 (BD (zl tab [(3, 0), (3, 1), (9, 2), (88, 3)]) [AV.int IntKind.i64 0, AV.int IntKind.i64 0, AV.str [], AV.nils] [(0, AV.int IntKind.i64 3), (2, v102)] fun v145 =>
 ST 4 (AV.ptr (nx + 2) 0) v145 H135 fun H146 =>
 LD true 4 (AV.ptr (nx + 2) 0) H146 fun v147 =>
 Q v147 H146 nx136)
def zav (v102 : AV) (v108 : AV) (nx : Nat) (Q : QT) (v111 : AV) (H112 : Heap) (nx113 : Nat) : Prop :=
 BS BinOp.eql v111 v102 fun v114 =>
 CNDC v114
 (BI BinOp.gtr v108 (AV.int IntKind.i64 1073741824) fun v115 =>
 CND v115
 (LD false 1 (AV.ptr nx 0) H112 fun v116 =>
 za Tryd.prog 48 [v116, AV.int IntKind.i64 3] H112 nx113 (zda v108 nx Q))
 (BI BinOp.lss v108 (AV.int IntKind.i64 (-1073741824)) fun v123 =>
 CNDC v123
 (LD false 1 (AV.ptr nx 0) H112 fun v124 =>
 za Tryd.prog 48 [v124, AV.int IntKind.i64 3] H112 nx113 (zda v108 nx Q))
 (BD (zl tab [(3, 0), (3, 1), (9, 2), (88, 3)]) [AV.int IntKind.i64 0, AV.int IntKind.i64 0, AV.str [], AV.nils] [(0, AV.int IntKind.i64 1), (1, v108)] fun v131 =>
 ST 4 (AV.ptr (nx + 2) 0) v131 H112 fun H132 =>
 LD true 4 (AV.ptr (nx + 2) 0) H132 fun v133 =>
 Q v133 H132 nx113)))
 (za Tryd.prog 14 [v102] H112 nx113 (zbx nx v102 Q))
def zcz (v102 : AV) (nx : Nat) (Q : QT) (v105 : AV) (H106 : Heap) (nx107 : Nat) : Prop :=
 EX v105 0 fun v108 =>
 EX v105 1 fun v109 =>
 BF BinOp.eql v109 AV.inil fun v110 =>
 CND v110
 (za Tryd.prog 80 [v108] H106 nx107 (zav v102 v108 nx Q))
 (za Tryd.prog 14 [v102] H106 nx107 (zbx nx v102 Q))
def zkk (nx : Nat) (Q : QT) (v102 : AV) (H103 : Heap) (nx104 : Nat) : Prop :=
 za Tryd.prog 79 [v102] H103 nx104 (zcz v102 nx Q)
def zbf (xs221 : List AV) (Q : QT) (_ : AV) (H236 : Heap) (nx237 : Nat) : Prop :=
 LD true 4 (nth xs221 3) H236 fun v238 =>
 ST 4 (nth xs221 2) v238 H236 fun H239 =>
 LD true 4 (nth xs221 2) H239 fun v240 =>
 Q v240 H239 nx237
def zao (xs221 : List AV) (Q : QT) (_ : AV) (H227 : Heap) (nx228 : Nat) : Prop :=
 BI BinOp.geq (nth xs221 4) (AV.int IntKind.i64 0) fun v229 =>
 CND v229
 (FA 3 (nth xs221 3) fun v230 =>
 LD false 1 v230 H227 fun v231 =>
 LNL v231 fun v232 =>
 BI BinOp.neq v232 (nth xs221 4) fun v233 =>
 CND v233
 (LD false 1 (nth xs221 0) H227 fun v234 =>
 za Tryd.prog 48 [v234, AV.int IntKind.i64 5] H227 nx228 (zbf xs221 Q))
 (BI BinOp.lss (nth xs221 4) (AV.int IntKind.i64 0) fun v241 =>
 CND v241
 (FA 3 (nth xs221 3) fun v242 =>
 LD false 1 v242 H227 fun v243 =>
 LNL v243 fun v244 =>
 BI BinOp.gtr v244 (AV.int IntKind.i64 4) fun v245 =>
 CNDC v245
 (LD false 1 (nth xs221 0) H227 fun v246 =>
 za Tryd.prog 48 [v246, AV.int IntKind.i64 5] H227 nx228 (zbf xs221 Q))
 (LD true 4 (nth xs221 3) H227 fun v253 =>
 ST 4 (nth xs221 2) v253 H227 fun H254 =>
 LD true 4 (nth xs221 2) H254 fun v255 =>
 Q v255 H254 nx228))
 (LD true 4 (nth xs221 3) H227 fun v256 =>
 ST 4 (nth xs221 2) v256 H227 fun H257 =>
 LD true 4 (nth xs221 2) H257 fun v258 =>
 Q v258 H257 nx228)))
 (BI BinOp.lss (nth xs221 4) (AV.int IntKind.i64 0) fun v259 =>
 CND v259
 (FA 3 (nth xs221 3) fun v260 =>
 LD false 1 v260 H227 fun v261 =>
 LNL v261 fun v262 =>
 BI BinOp.gtr v262 (AV.int IntKind.i64 4) fun v263 =>
 CNDC v263
 (LD false 1 (nth xs221 0) H227 fun v264 =>
 za Tryd.prog 48 [v264, AV.int IntKind.i64 5] H227 nx228 (zbf xs221 Q))
 (LD true 4 (nth xs221 3) H227 fun v271 =>
 ST 4 (nth xs221 2) v271 H227 fun H272 =>
 LD true 4 (nth xs221 2) H272 fun v273 =>
 Q v273 H272 nx228))
 (LD true 4 (nth xs221 3) H227 fun v274 =>
 ST 4 (nth xs221 2) v274 H227 fun H275 =>
 LD true 4 (nth xs221 2) H275 fun v276 =>
 Q v276 H275 nx228))
def zjs (j224 : J3) (xs202 : List AV) (v283 : AV) (H284 : Heap) (nx285 : Nat) : Prop :=
 j224 [nth xs202 0, nth xs202 1, nth xs202 2, nth xs202 4, nth xs202 5] H284 nx285
def zew (xs202 : List AV) (j224 : J3) (v278 : AV) (H279 : Heap) (nx280 : Nat) : Prop :=
 UO UnOp.not v278 fun v281 =>
 CNDC v281
 (LD false 1 (nth xs202 0) H279 fun v282 =>
 za Tryd.prog 48 [v282, AV.int IntKind.i64 7] H279 nx280 (zjs j224 xs202))
 (j224 [nth xs202 0, nth xs202 1, nth xs202 2, nth xs202 4, nth xs202 5] H279 nx280)
def zdb (Q : QT) (xs221 : List AV) (H222 : Heap) (nx223 : Nat) : Prop :=
 LD false 1 (nth xs221 0) H222 fun v225 =>
 za Tryd.prog 30 [v225, AV.clo 81 [nth xs221 3, nth xs221 0, nth xs221 1]] H222 nx223 (zao xs221 Q)
def zdd (xs202 : List AV) (H203 : Heap) (nx204 : Nat) (j224 : J3) : Prop :=
 BI BinOp.lss (nth xs202 5) (AV.int IntKind.i64 0) fun v277 =>
 CND v277
 (za Tryd.prog 14 [nth xs202 3] H203 nx204 (zew xs202 j224))
 (j224 [nth xs202 0, nth xs202 1, nth xs202 2, nth xs202 4, nth xs202 5] H203 nx204)
def zbv (Q : QT) (K201 : J3) (xs202 : List AV) (H203 : Heap) (nx204 : Nat) : Prop :=
 BI BinOp.lss (nth xs202 8) (nth xs202 7) fun v205 =>
 CNDC v205
 (IA 1 (nth xs202 6) (nth xs202 8) fun v206 =>
 LD false 1 v206 H203 fun v207 =>
 BS BinOp.eql v207 (nth xs202 3) fun v208 =>
 CNDC v208
 (BI BinOp.add (AV.int IntKind.i64 5) (nth xs202 8) fun v209 =>
 BD (zl tab [(3, 0), (3, 1), (9, 2), (88, 3)]) [AV.int IntKind.i64 0, AV.int IntKind.i64 0, AV.str [], AV.nils] [(0, v209)] fun v210 =>
 PUTH H203 nx204 (AObj.row 1 [AV.int IntKind.i64 2, AV.int IntKind.i64 1, AV.int IntKind.i64 1, AV.int IntKind.i64 1, AV.int IntKind.i64 0, AV.int IntKind.i64 1]) fun H211 =>
 IA 1 (AV.slc nx204 0 6) (nth xs202 8) fun v212 =>
 LDR false 1 v212 H211 fun v213 rd214 =>
 zab 4 (nth xs202 4) v210 H211 fun _ rd216 fr217 D218 =>
 nx204 ∉ [] ∧
 nx204 ∉ [] ∧
 nx204 ∉ [] ∧
 nx204 ∉ [] ∧
 nx204 ∉ [] ∧
 nx204 ∉ rd216 ∧
 nx204 ∉ (domD D218) ∧
 zg (domD D218) [] (
 zg (domD D218) [] (
 zg (domD D218) [] (
 zg (domD D218) rd214 (
 BI BinOp.add (nth xs202 8) (AV.int IntKind.i64 1) fun v219 =>
 K201 [nth xs202 0, nth xs202 1, nth xs202 2, nth xs202 3, nth xs202 4, v213, nth xs202 6, nth xs202 7, v219] (H211.apply D218) ((nx204 + 1) + fr217.length))))))
 (BI BinOp.add (nth xs202 8) (AV.int IntKind.i64 1) fun v220 =>
 K201 [nth xs202 0, nth xs202 1, nth xs202 2, nth xs202 3, nth xs202 4, nth xs202 5, nth xs202 6, nth xs202 7, v220] H203 nx204))
 (JN (zdb Q) (zdd xs202 H203 nx204))
def zbu (Q : QT) (K186 : J3) (xs187 : List AV) (H188 : Heap) (nx189 : Nat) : Prop :=
 BI BinOp.lss (nth xs187 8) (nth xs187 7) fun v190 =>
 CNDC v190
 (IA 1 (nth xs187 6) (nth xs187 8) fun v191 =>
 LD false 1 v191 H188 fun v192 =>
 BS BinOp.eql v192 (nth xs187 3) fun v193 =>
 CNDC v193
 (BI BinOp.add (nth xs187 8) (AV.int IntKind.i64 1) fun v194 =>
 BD (zl tab [(3, 0), (3, 1), (9, 2), (88, 3)]) [AV.int IntKind.i64 0, AV.int IntKind.i64 0, AV.str [], AV.nils] [(0, AV.int IntKind.i64 4), (1, v194)] fun v195 =>
 ST 4 (nth xs187 4) v195 H188 fun H196 =>
 BI BinOp.add (nth xs187 8) (AV.int IntKind.i64 1) fun v197 =>
 K186 [nth xs187 0, nth xs187 1, nth xs187 2, nth xs187 3, nth xs187 4, AV.int IntKind.i64 2, nth xs187 6, nth xs187 7, v197] H196 nx189)
 (BI BinOp.add (nth xs187 8) (AV.int IntKind.i64 1) fun v198 =>
 K186 [nth xs187 0, nth xs187 1, nth xs187 2, nth xs187 3, nth xs187 4, nth xs187 5, nth xs187 6, nth xs187 7, v198] H188 nx189))
 (PUTH H188 nx189 (AObj.row 1 [AV.str [99, 101, 108, 108], AV.str [108, 101, 102, 116], AV.str [114, 105, 103, 104, 116], AV.str [97, 115, 107], AV.str [104, 101, 114, 101], AV.str [103, 111]]) fun H199 =>
 LNL (AV.slc nx189 0 6) fun v200 =>
 LP (zbv Q) [nth xs187 0, nth xs187 1, nth xs187 2, nth xs187 3, nth xs187 4, nth xs187 5, AV.slc nx189 0 6, v200, AV.int IntKind.i64 0] H199 (nx189 + 1))
def zjr (Q : QT) (nx : Nat) (v178 : AV) (H179 : Heap) (nx180 : Nat) : Prop :=
 BD (zl tab [(3, 0), (3, 1), (9, 2), (88, 3)]) [AV.int IntKind.i64 0, AV.int IntKind.i64 0, AV.str [], AV.nils] [(0, AV.int IntKind.i64 11), (2, v178)] fun v181 =>
 PUTH H179 nx180 (AObj.row 4 [AV.int IntKind.i64 0, AV.int IntKind.i64 0, AV.str [], AV.nils]) fun H182 =>
 ST 4 (AV.ptr nx180 0) v181 H182 fun H183 =>
 PUTH H183 (nx180 + 1) (AObj.row 1 [AV.str [43], AV.str [45], AV.str [42], AV.str [60], AV.str [61]]) fun H184 =>
 LNL (AV.slc (nx180 + 1) 0 5) fun v185 =>
 LP (zbu Q) [AV.ptr nx 0, AV.ptr (nx + 1) 0, AV.ptr (nx + 2) 0, v178, AV.ptr nx180 0, AV.int IntKind.i64 (-1), AV.slc (nx180 + 1) 0 5, v185, AV.int IntKind.i64 0] H184 (nx180 + 2)
def zan (Q : QT) (nx : Nat) (v13 : AV) (H14 : Heap) (nx15 : Nat) : Prop :=
 BI BinOp.eql v13 (AV.int IntKind.u8 39) fun v16 =>
 CNDC v16
 (LP (zbw Q) [AV.ptr nx 0, AV.ptr (nx + 2) 0, AV.int IntKind.i64 1] H14 nx15)
 (BI BinOp.neq v13 (AV.int IntKind.u8 40) fun v100 =>
 CNDC v100
 (LD false 1 (AV.ptr nx 0) H14 fun v101 =>
 za Tryd.prog 49 [v101] H14 nx15 (zkk nx Q))
 (LDR false 1 (AV.ptr nx 0) H14 fun v162 _ =>
 LDR false 1 (AV.ptr nx 0) H14 fun v164 _ =>
 NC v164 fun v166 =>
 FA 0 v166 fun v167 =>
 LDR false 1 v167 H14 fun v168 _ =>
 SLS v168 (some (AV.int IntKind.i64 1)) none fun v170 =>
 NC v162 fun v171 =>
 FA 0 v171 fun v172 =>
 zab 1 v172 v170 H14 fun _ _ fr175 D176 =>
 LD false 1 (AV.ptr nx 0) (H14.apply D176) fun v177 =>
 za Tryd.prog 49 [v177] (H14.apply D176) (nx15 + fr175.length) (zjr Q nx)))
def zcl (nx : Nat) (Q : QT) (v6 : AV) (H7 : Heap) (nx8 : Nat) : Prop :=
 UO UnOp.not v6 fun v9 =>
 CNDC v9
 (ST 4 (AV.ptr (nx + 2) 0) (AV.agg [AV.int IntKind.i64 0, AV.int IntKind.i64 0, AV.str [], AV.nils]) H7 fun H10 =>
 LD true 4 (AV.ptr (nx + 2) 0) H10 fun v11 =>
 Q v11 H10 nx8)
 (LD false 1 (AV.ptr nx 0) H7 fun v12 =>
 za Tryd.prog 27 [v12] H7 nx8 (zan Q nx))
def zfp (a0 a1 : AV) (H : Heap) (nx : Nat) (Q : QT) : Prop :=
 a0.sure = true ∧
 PUTH H nx (AObj.row a0.cells.length a0.cells) fun H1 =>
 a1.sure = true ∧
 PUTH H1 (nx + 1) (AObj.row a1.cells.length a1.cells) fun H2 =>
 PUTH H2 (nx + 2) (AObj.row 4 [AV.int IntKind.i64 0, AV.int IntKind.i64 0, AV.str [], AV.nils]) fun H3 =>
 LD false 1 (AV.ptr nx 0) H3 fun v4 =>
 LD false 1 (AV.ptr (nx + 1) 0) H3 fun v5 =>
 za Tryd.prog 68 [v4, v5] H3 (nx + 3) (zcl nx Q)
theorem zgy (a0 a1 : AV) (H : Heap) (nx : Nat) (Q : QT) : zfp a0 a1 H nx Q → za Tryd.prog 69 [a0, a1] H nx Q :=
  ze (lv := lvOf [(0, 6, [2, 4, 6, 42]), (2, 6, [2, 4, 6]), (2, 32, [2, 3, 4, 11, 12, 13, 132, 133, 134]), (2, 38, [2, 3, 4, 11, 12, 13, 146, 147, 148]), (3, 45, [2, 3, 4, 12, 13])]) (c := zh Tryd.f69) zq zu mixed Tryd.func69 (by kernel_rfl) (by kernel_rfl) (by kernel_rfl) (by kernel_rfl) (by kernel_rfl)
def zfo (H41 : Heap) (nx42 : Nat) (v45 : AV) (xs40 : List AV) (v44 : AV) (rd46 : List Nat) (K39 : J3) (v48 : AV) (_ : List Nat) (fr50 : List Nat) (D51 : zt) : Prop :=
 BSL 1 4 [AV.int IntKind.i64 0, AV.int IntKind.i64 0, AV.str [], AV.nils] [(0, v48)] fun cells52 =>
 PUTH (H41.apply D51) (nx42 + fr50.length) (AObj.row 4 cells52) fun H53 =>
 zam 4 56 v45 (AV.slc (nx42 + fr50.length) 0 1) H53 ((nx42 + fr50.length) + 1) fun v54 _ fr56 D57 =>
 FA 2 (nth xs40 4) fun v58 =>
 zab 1 v58 v54 (H53.apply D57) fun _ _ fr61 D62 =>
 zg (domD D51) [] (
 SOFT v44 v45 D51 rd46 (
 (nx42 + fr50.length) ∉ [] ∧
 (nx42 + fr50.length) ∉ rd46 ∧
 BI BinOp.add (nth xs40 6) (AV.int IntKind.i64 1) fun v63 =>
 K39 [nth xs40 0, nth xs40 1, nth xs40 2, nth xs40 3, nth xs40 4, nth xs40 5, v63] ((H53.apply D57).apply D62) ((((nx42 + fr50.length) + 1) + fr56.length) + fr61.length)))
def zcv (xs40 : List AV) (Q : QT) (_ : AV) (H84 : Heap) (nx85 : Nat) : Prop :=
 LD true 5 (nth xs40 4) H84 fun v86 =>
 ST 5 (nth xs40 2) v86 H84 fun H87 =>
 LD true 5 (nth xs40 2) H87 fun v88 =>
 Q v88 H87 nx85
def zkh (xs40 : List AV) (Q : QT) (v78 : AV) (H79 : Heap) (nx80 : Nat) : Prop :=
 FA 4 (nth xs40 4) fun v81 =>
 ST 1 v81 v78 H79 fun H82 =>
 za Tryd.prog 28 [nth xs40 0, AV.int IntKind.u8 41] H82 nx80 (zcv xs40 Q)
def zkg (xs40 : List AV) (Q : QT) (_ : AV) (H75 : Heap) (nx76 : Nat) : Prop :=
 BI BinOp.add (nth xs40 1) (AV.int IntKind.i64 1) fun v77 =>
 za Tryd.prog 32 [nth xs40 0, v77] H75 nx76 (zkh xs40 Q)
def zkf (xs40 : List AV) (Q : QT) (v69 : AV) (H70 : Heap) (nx71 : Nat) : Prop :=
 FA 3 (nth xs40 4) fun v72 =>
 ST 1 v72 v69 H70 fun H73 =>
 za Tryd.prog 28 [nth xs40 0, AV.int IntKind.u8 40] H73 nx71 (zkg xs40 Q)
def zke (xs40 : List AV) (Q : QT) (_ : AV) (H66 : Heap) (nx67 : Nat) : Prop :=
 BI BinOp.add (nth xs40 1) (AV.int IntKind.i64 1) fun v68 =>
 za Tryd.prog 32 [nth xs40 0, v68] H66 nx67 (zkf xs40 Q)
def zkd (xs40 : List AV) (Q : QT) (v91 : AV) (H92 : Heap) (nx93 : Nat) : Prop :=
 FA 3 (nth xs40 4) fun v94 =>
 ST 1 v94 v91 H92 fun H95 =>
 LD true 5 (nth xs40 4) H95 fun v96 =>
 ST 5 (nth xs40 2) v96 H95 fun H97 =>
 LD true 5 (nth xs40 2) H97 fun v98 =>
 Q v98 H97 nx93
def zy (Q : QT) (K39 : J3) (xs40 : List AV) (H41 : Heap) (nx42 : Nat) : Prop :=
 BI BinOp.lss (nth xs40 6) (nth xs40 5) fun v43 =>
 CNDC v43
 (FA 2 (nth xs40 4) fun v44 =>
 LDR false 1 v44 H41 fun v45 rd46 =>
 BI BinOp.add (nth xs40 1) (AV.int IntKind.i64 1) fun v47 =>
 zj Tryd.prog (AV.clo 69 []) [nth xs40 0, v47] H41 nx42 (zfo H41 nx42 v45 xs40 v44 rd46 K39))
 (BI BinOp.eql (nth xs40 3) (AV.int IntKind.i64 3) fun v64 =>
 CNDC v64
 (za Tryd.prog 28 [nth xs40 0, AV.int IntKind.u8 40] H41 nx42 (zke xs40 Q))
 (BI BinOp.eql (nth xs40 3) (AV.int IntKind.i64 4) fun v89 =>
 CNDC v89
 (BI BinOp.add (nth xs40 1) (AV.int IntKind.i64 1) fun v90 =>
 za Tryd.prog 32 [nth xs40 0, v90] H41 nx42 (zkd xs40 Q))
 (za Tryd.prog 28 [nth xs40 0, AV.int IntKind.u8 41] H41 nx42 (zcv xs40 Q))))
def zcu (xs28 : List AV) (j35 : J3) (v106 : AV) (H107 : Heap) (nx108 : Nat) : Prop :=
 FA 1 (nth xs28 4) fun v109 =>
 ST 1 v109 v106 H107 fun H110 =>
 j35 [nth xs28 0, nth xs28 1, nth xs28 2, nth xs28 3, nth xs28 4] H110 nx108
def zcw (Q : QT) (xs32 : List AV) (H33 : Heap) (nx34 : Nat) : Prop :=
 PUTH H33 nx34 (AObj.row 1 [AV.int IntKind.i64 0, AV.int IntKind.i64 1, AV.int IntKind.i64 1, AV.int IntKind.i64 1, AV.int IntKind.i64 1, AV.int IntKind.i64 1, AV.int IntKind.i64 1, AV.int IntKind.i64 2, AV.int IntKind.i64 2, AV.int IntKind.i64 1]) fun H36 =>
 IA 1 (AV.slc nx34 0 10) (nth xs32 3) fun v37 =>
 LD false 1 v37 H36 fun v38 =>
 LP (zy Q) [nth xs32 0, nth xs32 1, nth xs32 2, nth xs32 3, nth xs32 4, v38, AV.int IntKind.i64 0] H36 (nx34 + 1)
def zcx (xs28 : List AV) (H29 : Heap) (nx30 : Nat) (j35 : J3) : Prop :=
 BI BinOp.eql (nth xs28 3) (AV.int IntKind.i64 1) fun v105 =>
 CND v105
 (za Tryd.prog 29 [nth xs28 0] H29 nx30 (zcu xs28 j35))
 (BI BinOp.eql (nth xs28 3) (AV.int IntKind.i64 2) fun v111 =>
 CNDC v111
 (za Tryd.prog 29 [nth xs28 0] H29 nx30 (zcu xs28 j35))
 (j35 [nth xs28 0, nth xs28 1, nth xs28 2, nth xs28 3, nth xs28 4] H29 nx30))
def zkc (j31 : J3) (a0 : AV) (a1 : AV) (nx : Nat) (v24 : AV) (nx13 : Nat) (v118 : AV) (H119 : Heap) (nx120 : Nat) : Prop :=
 j31 [a0, a1, AV.ptr nx 0, v24, AV.ptr (nx13 + 1) 0] H119 nx120
def zbs (Q : QT) (xs28 : List AV) (H29 : Heap) (nx30 : Nat) : Prop :=
 JN (zcw Q) (zcx xs28 H29 nx30)
def zbt (v24 : AV) (a0 : AV) (H27 : Heap) (nx13 : Nat) (a1 : AV) (nx : Nat) (j31 : J3) : Prop :=
 BI BinOp.eql v24 (AV.int IntKind.i64 0) fun v117 =>
 CNDC v117
 (za Tryd.prog 48 [a0, AV.int IntKind.i64 1] H27 (nx13 + 2) (zkc j31 a0 a1 nx v24 nx13))
 (j31 [a0, a1, AV.ptr nx 0, v24, AV.ptr (nx13 + 1) 0] H27 (nx13 + 2))
def zev (Q : QT) (a0 : AV) (a1 : AV) (nx : Nat) (v11 : AV) (H12 : Heap) (nx13 : Nat) : Prop :=
 PUTH H12 nx13 (AObj.mp []) fun H14 =>
 zo (AK.str) (AV.str [108, 101, 116]) = true ∧
 MU (AV.amap nx13) (AV.str [108, 101, 116]) (AV.int IntKind.i64 1) H14 fun H15 =>
 zo (AK.str) (AV.str [115, 101, 116]) = true ∧
 MU (AV.amap nx13) (AV.str [115, 101, 116]) (AV.int IntKind.i64 2) H15 fun H16 =>
 zo (AK.str) (AV.str [105, 102]) = true ∧
 MU (AV.amap nx13) (AV.str [105, 102]) (AV.int IntKind.i64 3) H16 fun H17 =>
 zo (AK.str) (AV.str [119, 104, 105, 108, 101]) = true ∧
 MU (AV.amap nx13) (AV.str [119, 104, 105, 108, 101]) (AV.int IntKind.i64 4) H17 fun H18 =>
 zo (AK.str) (AV.str [115, 97, 121]) = true ∧
 MU (AV.amap nx13) (AV.str [115, 97, 121]) (AV.int IntKind.i64 5) H18 fun H19 =>
 zo (AK.str) (AV.str [114, 101, 116, 117, 114, 110]) = true ∧
 MU (AV.amap nx13) (AV.str [114, 101, 116, 117, 114, 110]) (AV.int IntKind.i64 6) H19 fun H20 =>
 zo (AK.str) (AV.str [112, 117, 116, 108]) = true ∧
 MU (AV.amap nx13) (AV.str [112, 117, 116, 108]) (AV.int IntKind.i64 7) H20 fun H21 =>
 zo (AK.str) (AV.str [112, 117, 116, 114]) = true ∧
 MU (AV.amap nx13) (AV.str [112, 117, 116, 114]) (AV.int IntKind.i64 8) H21 fun H22 =>
 zo (AK.str) (AV.str [100, 111]) = true ∧
 MU (AV.amap nx13) (AV.str [100, 111]) (AV.int IntKind.i64 9) H22 fun H23 =>
 zo (AK.str) v11 = true ∧
 LK [AV.int IntKind.i64 0] false (AV.amap nx13) v11 false H23 fun v24 =>
 BD (zl tab [(3, 0), (9, 1), (88, 2), (41, 3), (41, 4)]) [AV.int IntKind.i64 0, AV.str [], AV.nils, AV.nils, AV.nils] [(0, v24)] fun v25 =>
 PUTH H23 (nx13 + 1) (AObj.row 5 [AV.int IntKind.i64 0, AV.str [], AV.nils, AV.nils, AV.nils]) fun H26 =>
 ST 5 (AV.ptr (nx13 + 1) 0) v25 H26 fun H27 =>
 JN (zbs Q) (zbt v24 a0 H27 nx13 a1 nx)
def zjq (a0 : AV) (Q : QT) (a1 : AV) (nx : Nat) (v8 : AV) (H9 : Heap) (nx10 : Nat) : Prop :=
 za Tryd.prog 49 [a0] H9 nx10 (zev Q a0 a1 nx)
def zck (nx : Nat) (Q : QT) (a0 : AV) (a1 : AV) (v2 : AV) (H3 : Heap) (nx4 : Nat) : Prop :=
 UO UnOp.not v2 fun v5 =>
 CNDC v5
 (ST 5 (AV.ptr nx 0) (AV.agg [AV.int IntKind.i64 0, AV.str [], AV.nils, AV.nils, AV.nils]) H3 fun H6 =>
 LD true 5 (AV.ptr nx 0) H6 fun v7 =>
 Q v7 H6 nx4)
 (za Tryd.prog 28 [a0, AV.int IntKind.u8 40] H3 nx4 (zjq a0 Q a1 nx))
def zfn (a0 a1 : AV) (H : Heap) (nx : Nat) (Q : QT) : Prop :=
 PUTH H nx (AObj.row 5 [AV.int IntKind.i64 0, AV.str [], AV.nils, AV.nils, AV.nils]) fun H1 =>
 za Tryd.prog 68 [a0, a1] H1 (nx + 1) (zck nx Q a0 a1)
theorem zgx (a0 a1 : AV) (H : Heap) (nx : Nat) (Q : QT) : zfn a0 a1 H nx Q → za Tryd.prog 51 [a0, a1] H nx Q :=
  ze (lv := lvOf [(2, 12, [0, 1, 4, 6, 7, 39, 40]), (3, 9, [0, 1, 4, 6, 7]), (3, 11, [0, 1, 4, 6, 7])]) (c := zh Tryd.f51) zq zu mixed Tryd.func51 (by kernel_rfl) (by kernel_rfl) (by kernel_rfl) (by kernel_rfl) (by kernel_rfl)
def zdq (v1 : AV) (H : Heap) (nx : Nat) (a0 : AV) (rd2 : List Nat) (rd4 : List Nat) (rd6 : List Nat) (Q : QT) (v7 : AV) (rd8 : List Nat) (fr9 : List Nat) (D10 : zt) : Prop :=
 LNL v1 fun v11 =>
 PUTH (H.apply D10) (nx + fr9.length) (AObj.row 5 [AV.int IntKind.i64 0, AV.str [], AV.nils, AV.nils, AV.nils]) fun H12 =>
 zam 5 96 v1 (AV.slc (nx + fr9.length) 0 1) H12 ((nx + fr9.length) + 1) fun v13 _ fr15 D16 =>
 IA 5 v13 v11 fun v17 =>
 zab 5 v17 v7 (H12.apply D16) fun _ rd19 fr20 D21 =>
 zab 1 a0 v13 ((H12.apply D16).apply D21) fun _ rd23 fr24 D25 =>
 SOFT a0 v1 D10 rd2 (
 zg (domD D10) [] (
 zg (domD D10) [] (
 (nx + fr9.length) ∉ rd2 ∧
 (nx + fr9.length) ∉ rd4 ∧
 (nx + fr9.length) ∉ rd6 ∧
 zg (domD D10) [] (
 zg (domD D10) [(nx + fr9.length)] (
 (nx + fr9.length) ∉ rd8 ∧
 (nx + fr9.length) ∉ [] ∧
 zg (domD D25) [] (
 zg (domD D21) rd23 (
 zg (domD D21) (domD D25) (
 zg (domD D25) rd19 (
 Q (AV.tup []) (((H12.apply D16).apply D21).apply D25) (((((nx + fr9.length) + 1) + fr15.length) + fr20.length) + fr24.length))))))))))
def zdp (a0 a1 a2 : AV) (H : Heap) (nx : Nat) (Q : QT) : Prop :=
 LDR false 1 a0 H fun v1 rd2 =>
 LDR false 1 a1 H fun v3 rd4 =>
 LDR false 1 a2 H fun v5 rd6 =>
 zj Tryd.prog (AV.clo 51 []) [v3, v5] H nx (zdq v1 H nx a0 rd2 rd4 rd6 Q)
theorem zlu (a0 a1 a2 : AV) (H : Heap) (nx : Nat) (Q : QT) : zdp a0 a1 a2 H nx Q → za Tryd.prog 50 [a0, a1, a2] H nx Q :=
  ze (lv := lvOf []) (c := zh Tryd.f50) zq zu mixed Tryd.func50 (by kernel_rfl) (by kernel_rfl) (by kernel_rfl) (by kernel_rfl) (by kernel_rfl)
def zeb (v2 : AV) (H : Heap) (nx : Nat) (a0 : AV) (v1 : AV) (rd3 : List Nat) (rd5 : List Nat) (rd7 : List Nat) (Q : QT) (v9 : AV) (rd10 : List Nat) (fr11 : List Nat) (D12 : zt) : Prop :=
 LNL v2 fun v13 =>
 PUTH (H.apply D12) (nx + fr11.length) (AObj.row 4 [AV.int IntKind.i64 0, AV.int IntKind.i64 0, AV.str [], AV.nils]) fun H14 =>
 zam 4 56 v2 (AV.slc (nx + fr11.length) 0 1) H14 ((nx + fr11.length) + 1) fun v15 _ fr17 D18 =>
 IA 4 v15 v13 fun v19 =>
 zab 4 v19 v9 (H14.apply D18) fun _ rd21 fr22 D23 =>
 FA 3 a0 fun v24 =>
 zab 1 v24 v15 ((H14.apply D18).apply D23) fun _ rd26 fr27 D28 =>
 zg (domD D12) [] (
 SOFT v1 v2 D12 rd3 (
 zg (domD D12) [] (
 zg (domD D12) [] (
 (nx + fr11.length) ∉ [] ∧
 (nx + fr11.length) ∉ rd3 ∧
 (nx + fr11.length) ∉ rd5 ∧
 (nx + fr11.length) ∉ rd7 ∧
 (nx + fr11.length) ∉ [] ∧
 zg (domD D12) [] (
 zg (domD D12) [(nx + fr11.length)] (
 (nx + fr11.length) ∉ rd10 ∧
 (nx + fr11.length) ∉ [] ∧
 zg (domD D23) [] (
 zg (domD D23) [] (
 zg (domD D28) [] (
 zg (domD D23) rd26 (
 zg (domD D23) (domD D28) (
 zg (domD D28) rd21 (
 Q (AV.tup []) (((H14.apply D18).apply D23).apply D28) (((((nx + fr11.length) + 1) + fr17.length) + fr22.length) + fr27.length)))))))))))))
def zea (a0 a1 a2 : AV) (H : Heap) (nx : Nat) (Q : QT) : Prop :=
 FA 3 a0 fun v1 =>
 LDR false 1 v1 H fun v2 rd3 =>
 LDR false 1 a1 H fun v4 rd5 =>
 LDR false 1 a2 H fun v6 rd7 =>
 BI BinOp.add v6 (AV.int IntKind.i64 1) fun v8 =>
 zj Tryd.prog (AV.clo 69 []) [v4, v8] H nx (zeb v2 H nx a0 v1 rd3 rd5 rd7 Q)
theorem zmk (a0 a1 a2 : AV) (H : Heap) (nx : Nat) (Q : QT) : zea a0 a1 a2 H nx Q → za Tryd.prog 81 [a0, a1, a2] H nx Q :=
  ze (lv := lvOf []) (c := zh Tryd.f81) zq zu mixed Tryd.func81 (by kernel_rfl) (by kernel_rfl) (by kernel_rfl) (by kernel_rfl) (by kernel_rfl)
def zes (H : Heap) (nx : Nat) (v2 : AV) (a0 : AV) (v1 : AV) (rd3 : List Nat) (Q : QT) (v6 : AV) (_ : List Nat) (fr8 : List Nat) (D9 : zt) : Prop :=
 BSL 1 1 [AV.str []] [(0, v6)] fun cells10 =>
 PUTH (H.apply D9) (nx + fr8.length) (AObj.row 1 cells10) fun H11 =>
 zam 1 16 v2 (AV.slc (nx + fr8.length) 0 1) H11 ((nx + fr8.length) + 1) fun v12 _ fr14 D15 =>
 FA 1 a0 fun v16 =>
 zab 1 v16 v12 (H11.apply D15) fun _ _ fr19 D20 =>
 zg (domD D9) [] (
 SOFT v1 v2 D9 rd3 (
 (nx + fr8.length) ∉ [] ∧
 (nx + fr8.length) ∉ rd3 ∧
 Q (AV.tup []) ((H11.apply D15).apply D20) ((((nx + fr8.length) + 1) + fr14.length) + fr19.length)))
def zer (a0 a1 : AV) (H : Heap) (nx : Nat) (Q : QT) : Prop :=
 FA 1 a0 fun v1 =>
 LDR false 1 v1 H fun v2 rd3 =>
 LDR false 1 a1 H fun v4 _ =>
 zj Tryd.prog (AV.clo 29 []) [v4] H nx (zes H nx v2 a0 v1 rd3 Q)
theorem zmy (a0 a1 : AV) (H : Heap) (nx : Nat) (Q : QT) : zer a0 a1 H nx Q → za Tryd.prog 31 [a0, a1] H nx Q :=
  ze (lv := lvOf []) (c := zh Tryd.f31) zq zu mixed Tryd.func31 (by kernel_rfl) (by kernel_rfl) (by kernel_rfl) (by kernel_rfl) (by kernel_rfl)
end Go.Proofs.YtpllgpgdcbgalaaDoor
namespace Go.Proofs
open Go.Shelf
def Tryd.lays137_ren : Go.Shelf.Ren := ⟨fun | 137 => 96 | 217 => 89 | 266 => 97 | n => n, fun | 9 => 9 | 5 => 5 | 3 => 3 | n => n, fun | n => n⟩
theorem Tryd.lays137 : Go.Proofs.Lays.n137 Tryd.prog Tryd.lays137_ren := {
  mixed := by kernel_rfl
  f137 := Tryd.func96.trans (congrArg some (by kernel_rfl))
  f217 := Tryd.func89.trans (congrArg some (by kernel_rfl))
  f266 := Tryd.func97.trans (congrArg some (by kernel_rfl))
  t3 := Tryd.underlying3
  a3 := Tryd.isAgg3
  z3 := Tryd.sizeOf3
  v3 := Tryd.zeroValue3
  t5 := Tryd.underlying5
  a5 := Tryd.isAgg5
  z5 := Tryd.sizeOf5
  v5 := Tryd.zeroValue5
  t9 := Tryd.underlying9
  a9 := Tryd.isAgg9
  z9 := Tryd.sizeOf9
  v9 := Tryd.zeroValue9 }
open Go.RowKit in
theorem Tryd.strings_IndexByte (s : ByteArray) (c : Int) (w : World) :
    Calls Tryd.prog 96 #[.string s, .int .u8 c] w fun e w' => e = .returned (.int .i64 (Lib.indexByte s.data.toList c.toNat.toUInt8)) ∧ w' = w := Any.strings_IndexByte Tryd.lays137 s c w
def Tryd.laysM171_ren : Go.Shelf.Ren := ⟨fun | 171 => 80 | 243 => 95 | 246 => 104 | 283 => 108 | 284 => 109 | 285 => 110 | 286 => 111 | 129 => 115 | 317 => 114 | 318 => 116 | 319 => 117 | 320 => 118 | 337 => 119 | 338 => 120 | n => n, fun | 3 => 3 | 9 => 9 | 2 => 2 | 4 => 4 | 171 => 153 | 0 => 0 | 53 => 146 | 37 => 139 | 5 => 5 | 173 => 156 | 212 => 164 | 51 => 135 | 20 => 20 | 213 => 165 | 46 => 133 | 232 => 168 | 233 => 169 | n => n, fun | 17 => 3 | 18 => 4 | 19 => 5 | n => n⟩
theorem Tryd.laysM171 : Go.Proofs.LaysM.n171 Tryd.prog Tryd.laysM171_ren := {
  mixed := by kernel_rfl
  f129 := Tryd.func115.trans (congrArg some (by kernel_rfl))
  f171 := Tryd.func80.trans (congrArg some (by kernel_rfl))
  f243 := Tryd.func95.trans (congrArg some (by kernel_rfl))
  f246 := Tryd.func104.trans (congrArg some (by kernel_rfl))
  f283 := Tryd.func108.trans (congrArg some (by kernel_rfl))
  f284 := Tryd.func109.trans (congrArg some (by kernel_rfl))
  f285 := Tryd.func110.trans (congrArg some (by kernel_rfl))
  f286 := Tryd.func111.trans (congrArg some (by kernel_rfl))
  f317 := Tryd.func114.trans (congrArg some (by kernel_rfl))
  f318 := Tryd.func116.trans (congrArg some (by kernel_rfl))
  f319 := Tryd.func117.trans (congrArg some (by kernel_rfl))
  f320 := Tryd.func118.trans (congrArg some (by kernel_rfl))
  f337 := Tryd.func119.trans (congrArg some (by kernel_rfl))
  f338 := Tryd.func120.trans (congrArg some (by kernel_rfl))
  t0 := Tryd.underlying0
  a0 := Tryd.isAgg0
  z0 := Tryd.sizeOf0
  v0 := Tryd.zeroValue0
  t2 := Tryd.underlying2
  a2 := Tryd.isAgg2
  z2 := Tryd.sizeOf2
  v2 := Tryd.zeroValue2
  t3 := Tryd.underlying3
  a3 := Tryd.isAgg3
  z3 := Tryd.sizeOf3
  v3 := Tryd.zeroValue3
  t4 := Tryd.underlying4
  a4 := Tryd.isAgg4
  z4 := Tryd.sizeOf4
  v4 := Tryd.zeroValue4
  t5 := Tryd.underlying5
  a5 := Tryd.isAgg5
  z5 := Tryd.sizeOf5
  v5 := Tryd.zeroValue5
  t9 := Tryd.underlying9
  a9 := Tryd.isAgg9
  z9 := Tryd.sizeOf9
  v9 := Tryd.zeroValue9
  t20 := Tryd.underlying20
  a20 := Tryd.isAgg20
  z20 := Tryd.sizeOf20
  v20 := Tryd.zeroValue20
  t37 := Tryd.underlying139
  a37 := Tryd.isAgg139
  z37 := Tryd.sizeOf139
  v37 := Tryd.zeroValue139
  t46 := Tryd.underlying133
  a46 := Tryd.isAgg133
  z46 := Tryd.sizeOf133
  v46 := Tryd.zeroValue133
  t51 := Tryd.underlying135
  a51 := Tryd.isAgg135
  z51 := Tryd.sizeOf135
  v51 := Tryd.zeroValue135
  t53 := Tryd.underlying146
  a53 := Tryd.isAgg146
  z53 := Tryd.sizeOf146
  v53 := Tryd.zeroValue146
  t171 := Tryd.underlying153
  a171 := Tryd.isAgg153
  z171 := Tryd.sizeOf153
  v171 := Tryd.zeroValue153
  t173 := Tryd.underlying156
  a173 := Tryd.isAgg156
  z173 := Tryd.sizeOf156
  v173 := Tryd.zeroValue156
  t212 := Tryd.underlying164
  a212 := Tryd.isAgg164
  z212 := Tryd.sizeOf164
  v212 := Tryd.zeroValue164
  t213 := Tryd.underlying165
  a213 := Tryd.isAgg165
  z213 := Tryd.sizeOf165
  t232 := Tryd.underlying168
  a232 := Tryd.isAgg168
  z232 := Tryd.sizeOf168
  v232 := Tryd.zeroValue168
  t233 := Tryd.underlying169
  a233 := Tryd.isAgg169
  z233 := Tryd.sizeOf169
  v233 := Tryd.zeroValue169
  g17 := by kernel_rfl
  g18 := by kernel_rfl
  g19 := by kernel_rfl
  i0 := by kernel_rfl
  i2 := by kernel_rfl
  i3 := by kernel_rfl
  i4 := by kernel_rfl
  i5 := by kernel_rfl
  i9 := by kernel_rfl
  i20 := by kernel_rfl
  i37 := by kernel_rfl
  i46 := by kernel_rfl
  i51 := by kernel_rfl
  i53 := by kernel_rfl
  i171 := by kernel_rfl
  i173 := by kernel_rfl
  i212 := by kernel_rfl
  i232 := by kernel_rfl
  i233 := by kernel_rfl
  m17 := by kernel_rfl
  m18 := by kernel_rfl
  m19 := by kernel_rfl }
open Go.RowKit Go.Sort Go.Lib in
theorem Tryd.strconv_Itoa (n : Int) (h0 : -9223372036854775808 ≤ n) (h1 : n ≤ 9223372036854775807) (w : World) (htab : Lib.TabIs Tryd.prog w "internal/strconv.uint64pow10" .u64 Lib.pow10Tab) :
    Calls Tryd.prog 80 #[.int .i64 n] w fun e w' => e = .returned (.string ⟨(Lib.itoa n).toArray⟩) ∧ ∃ k os, w' = grow (w.drewN k) os := Any.strconv_Itoa Tryd.laysM171 n h0 h1 w htab
def Tryd.laysC172_ren : Go.Shelf.Ren := ⟨fun | 172 => 79 | 244 => 93 | 245 => 94 | 247 => 99 | 279 => 100 | 280 => 101 | 281 => 102 | 282 => 103 | 287 => 105 | 316 => 106 | 171 => 80 | 205 => 107 | 321 => 112 | 322 => 113 | 243 => 95 | 246 => 104 | 283 => 108 | 284 => 109 | 285 => 110 | 286 => 111 | 129 => 115 | 317 => 114 | 318 => 116 | 319 => 117 | 320 => 118 | 337 => 119 | 338 => 120 | n => n, fun | 9 => 9 | 3 => 3 | 75 => 120 | 76 => 121 | 4 => 4 | 5 => 5 | 167 => 138 | 37 => 139 | 0 => 0 | 85 => 140 | 2 => 2 | 168 => 142 | 53 => 146 | 175 => 147 | 46 => 133 | 210 => 151 | 127 => 159 | 145 => 162 | 143 => 160 | 21 => 21 | 171 => 153 | 173 => 156 | 212 => 164 | 51 => 135 | 20 => 20 | 213 => 165 | 232 => 168 | 233 => 169 | 80 => 53 | n => n, fun | 15 => 1 | 16 => 2 | 17 => 3 | 18 => 4 | 19 => 5 | n => n⟩
theorem Tryd.laysC172 : Go.Proofs.LaysC.n172 Tryd.prog Tryd.laysC172_ren := {
  mixed := by kernel_rfl
  f129 := Tryd.func115.trans (congrArg some (by kernel_rfl))
  f171 := Tryd.func80.trans (congrArg some (by kernel_rfl))
  f172 := Tryd.func79.trans (congrArg some (by kernel_rfl))
  f205 := Tryd.func107.trans (congrArg some (by kernel_rfl))
  f243 := Tryd.func95.trans (congrArg some (by kernel_rfl))
  f244 := Tryd.func93.trans (congrArg some (by kernel_rfl))
  f245 := Tryd.func94.trans (congrArg some (by kernel_rfl))
  f246 := Tryd.func104.trans (congrArg some (by kernel_rfl))
  f247 := Tryd.func99.trans (congrArg some (by kernel_rfl))
  f279 := Tryd.func100.trans (congrArg some (by kernel_rfl))
  f280 := Tryd.func101.trans (congrArg some (by kernel_rfl))
  f281 := Tryd.func102.trans (congrArg some (by kernel_rfl))
  f282 := Tryd.func103.trans (congrArg some (by kernel_rfl))
  f283 := Tryd.func108.trans (congrArg some (by kernel_rfl))
  f284 := Tryd.func109.trans (congrArg some (by kernel_rfl))
  f285 := Tryd.func110.trans (congrArg some (by kernel_rfl))
  f286 := Tryd.func111.trans (congrArg some (by kernel_rfl))
  f287 := Tryd.func105.trans (congrArg some (by kernel_rfl))
  f316 := Tryd.func106.trans (congrArg some (by kernel_rfl))
  f317 := Tryd.func114.trans (congrArg some (by kernel_rfl))
  f318 := Tryd.func116.trans (congrArg some (by kernel_rfl))
  f319 := Tryd.func117.trans (congrArg some (by kernel_rfl))
  f320 := Tryd.func118.trans (congrArg some (by kernel_rfl))
  f321 := Tryd.func112.trans (congrArg some (by kernel_rfl))
  f322 := Tryd.func113.trans (congrArg some (by kernel_rfl))
  f337 := Tryd.func119.trans (congrArg some (by kernel_rfl))
  f338 := Tryd.func120.trans (congrArg some (by kernel_rfl))
  t0 := Tryd.underlying0
  a0 := Tryd.isAgg0
  z0 := Tryd.sizeOf0
  v0 := Tryd.zeroValue0
  t2 := Tryd.underlying2
  a2 := Tryd.isAgg2
  z2 := Tryd.sizeOf2
  v2 := Tryd.zeroValue2
  t3 := Tryd.underlying3
  a3 := Tryd.isAgg3
  z3 := Tryd.sizeOf3
  v3 := Tryd.zeroValue3
  t4 := Tryd.underlying4
  a4 := Tryd.isAgg4
  z4 := Tryd.sizeOf4
  v4 := Tryd.zeroValue4
  t5 := Tryd.underlying5
  a5 := Tryd.isAgg5
  z5 := Tryd.sizeOf5
  v5 := Tryd.zeroValue5
  t9 := Tryd.underlying9
  a9 := Tryd.isAgg9
  z9 := Tryd.sizeOf9
  v9 := Tryd.zeroValue9
  t20 := Tryd.underlying20
  a20 := Tryd.isAgg20
  z20 := Tryd.sizeOf20
  v20 := Tryd.zeroValue20
  t21 := Tryd.underlying21
  a21 := Tryd.isAgg21
  z21 := Tryd.sizeOf21
  v21 := Tryd.zeroValue21
  t37 := Tryd.underlying139
  a37 := Tryd.isAgg139
  z37 := Tryd.sizeOf139
  v37 := Tryd.zeroValue139
  t46 := Tryd.underlying133
  a46 := Tryd.isAgg133
  z46 := Tryd.sizeOf133
  v46 := Tryd.zeroValue133
  t51 := Tryd.underlying135
  a51 := Tryd.isAgg135
  z51 := Tryd.sizeOf135
  v51 := Tryd.zeroValue135
  t53 := Tryd.underlying146
  a53 := Tryd.isAgg146
  z53 := Tryd.sizeOf146
  v53 := Tryd.zeroValue146
  t75 := Tryd.underlying120
  a75 := Tryd.isAgg120
  z75 := Tryd.sizeOf120
  v75 := Tryd.zeroValue120
  t76 := Tryd.underlying121
  a76 := Tryd.isAgg121
  z76 := Tryd.sizeOf121
  v76 := Tryd.zeroValue121
  t85 := Tryd.underlying140
  a85 := Tryd.isAgg140
  z85 := Tryd.sizeOf140
  v85 := Tryd.zeroValue140
  t127 := Tryd.underlying159
  a127 := Tryd.isAgg159
  z127 := Tryd.sizeOf159
  v127 := Tryd.zeroValue159
  t143 := Tryd.underlying160
  a143 := Tryd.isAgg160
  z143 := Tryd.sizeOf160
  v143 := Tryd.zeroValue160
  t145 := Tryd.underlying162
  a145 := Tryd.isAgg162
  z145 := Tryd.sizeOf162
  v145 := Tryd.zeroValue162
  t167 := Tryd.underlying138
  a167 := Tryd.isAgg138
  z167 := Tryd.sizeOf138
  v167 := Tryd.zeroValue138
  t168 := Tryd.underlying142
  a168 := Tryd.isAgg142
  z168 := Tryd.sizeOf142
  v168 := Tryd.zeroValue142
  t171 := Tryd.underlying153
  a171 := Tryd.isAgg153
  z171 := Tryd.sizeOf153
  v171 := Tryd.zeroValue153
  t173 := Tryd.underlying156
  a173 := Tryd.isAgg156
  z173 := Tryd.sizeOf156
  v173 := Tryd.zeroValue156
  t175 := Tryd.underlying147
  a175 := Tryd.isAgg147
  z175 := Tryd.sizeOf147
  v175 := Tryd.zeroValue147
  t210 := Tryd.underlying151
  a210 := Tryd.isAgg151
  z210 := Tryd.sizeOf151
  v210 := Tryd.zeroValue151
  t212 := Tryd.underlying164
  a212 := Tryd.isAgg164
  z212 := Tryd.sizeOf164
  v212 := Tryd.zeroValue164
  t213 := Tryd.underlying165
  a213 := Tryd.isAgg165
  z213 := Tryd.sizeOf165
  t232 := Tryd.underlying168
  a232 := Tryd.isAgg168
  z232 := Tryd.sizeOf168
  v232 := Tryd.zeroValue168
  t233 := Tryd.underlying169
  a233 := Tryd.isAgg169
  z233 := Tryd.sizeOf169
  v233 := Tryd.zeroValue169
  g15 := by kernel_rfl
  g16 := by kernel_rfl
  g17 := by kernel_rfl
  g18 := by kernel_rfl
  g19 := by kernel_rfl
  t80 := Tryd.underlying53
  a80 := Tryd.isAgg53
  z80 := Tryd.sizeOf53
  v80 := Tryd.zeroValue53
  i0 := by kernel_rfl
  i2 := by kernel_rfl
  i3 := by kernel_rfl
  i4 := by kernel_rfl
  i5 := by kernel_rfl
  i9 := by kernel_rfl
  i20 := by kernel_rfl
  i21 := by kernel_rfl
  i37 := by kernel_rfl
  i46 := by kernel_rfl
  i51 := by kernel_rfl
  i53 := by kernel_rfl
  i75 := by kernel_rfl
  i76 := by kernel_rfl
  i80 := by kernel_rfl
  i85 := by kernel_rfl
  i127 := by kernel_rfl
  i143 := by kernel_rfl
  i145 := by kernel_rfl
  i167 := by kernel_rfl
  i168 := by kernel_rfl
  i171 := by kernel_rfl
  i173 := by kernel_rfl
  i175 := by kernel_rfl
  i210 := by kernel_rfl
  i212 := by kernel_rfl
  i232 := by kernel_rfl
  i233 := by kernel_rfl
  m15 := by kernel_rfl
  m16 := by kernel_rfl
  m17 := by kernel_rfl
  m18 := by kernel_rfl
  m19 := by kernel_rfl
  c0 := by kernel_rfl
  c2 := by kernel_rfl
  c3 := by kernel_rfl
  c4 := by kernel_rfl
  c5 := by kernel_rfl
  c9 := by kernel_rfl
  c20 := by kernel_rfl
  c21 := by kernel_rfl
  c37 := by kernel_rfl
  c46 := by kernel_rfl
  c51 := by kernel_rfl
  c53 := by kernel_rfl
  c75 := by kernel_rfl
  c76 := by kernel_rfl
  c80 := by kernel_rfl
  c85 := by kernel_rfl
  c127 := by kernel_rfl
  c143 := by kernel_rfl
  c145 := by kernel_rfl
  c167 := by kernel_rfl
  c168 := by kernel_rfl
  c171 := by kernel_rfl
  c173 := by kernel_rfl
  c175 := by kernel_rfl
  c210 := by kernel_rfl
  c212 := by kernel_rfl
  c213 := by kernel_rfl
  c232 := by kernel_rfl
  c233 := by kernel_rfl }
open Go.RowKit in
theorem Tryd.strconv_Atoi_ok (s : ByteArray) (hmax : s.size ≤ 9223372036854775806) (v : Int) (h : Lib.atoiAll s.data.toList = .ok v) (w : World) :
    Calls Tryd.prog 79 #[.string s] w fun e w' => e = .returned (.tuple #[.int .i64 v, .nilIface]) ∧ (w' = w ∨ ∃ t, w' = Lib.bytesWorld w 5 t) := Any.strconv_Atoi_ok Tryd.laysC172 s hmax v h w
open Go.RowKit in
theorem Tryd.strconv_Atoi_syntax_var (s : ByteArray) (hlim : s.size ≤ 281474976710656) (h : Lib.atoiAll s.data.toList = Lib.atoiAll []) (tp : TypeId) (p : Value) (w : World) (hvar : w.var? Tryd.prog "strconv.ErrSyntax" = some #[.iface tp p]) :
    Calls Tryd.prog 79 #[.string s] w fun e w' => ∃ N, e = .returned (.tuple #[.int .i64 0, .iface 142 (.pointer (some ⟨N, 0, none⟩))]) ∧ w.heap.size ≤ N ∧ w'.heap[N]? = some (.cells #[.string ⟨#[65, 116, 111, 105]⟩, .string s, .iface tp p] 151 (0, 0)) ∧ Below w.heap.size w w' := Any.strconv_Atoi_syntax_var Tryd.laysC172 s hlim h tp p w hvar
open Go.RowKit in
theorem Tryd.strconv_Atoi_range_var (s : ByteArray) (hlim : s.size ≤ 281474976710656) (h : Lib.atoiAll s.data.toList = .range) (tp : TypeId) (p : Value) (w : World) (hvar : w.var? Tryd.prog "strconv.ErrRange" = some #[.iface tp p]) :
    Calls Tryd.prog 79 #[.string s] w fun e w' => ∃ N, e = .returned (.tuple #[.int .i64 (Lib.atoiSat s.data.toList), .iface 142 (.pointer (some ⟨N, 0, none⟩))]) ∧ w.heap.size ≤ N ∧ w'.heap[N]? = some (.cells #[.string ⟨#[65, 116, 111, 105]⟩, .string s, .iface tp p] 151 (0, 0)) ∧ Below w.heap.size w w' := Any.strconv_Atoi_range_var Tryd.laysC172 s hlim h tp p w hvar
def Tryd.lays144_ren : Go.Shelf.Ren := ⟨fun | 144 => 47 | 143 => 67 | 219 => 78 | 217 => 89 | 225 => 90 | 224 => 91 | 267 => 92 | 266 => 97 | 314 => 98 | n => n, fun | 9 => 9 | 4 => 4 | 3 => 3 | 5 => 5 | 46 => 133 | 146 => 136 | 51 => 135 | n => n, fun | 1 => 0 | n => n⟩
theorem Tryd.lays144 : Go.Proofs.Lays.n144 Tryd.prog Tryd.lays144_ren := {
  mixed := by kernel_rfl
  f143 := Tryd.func67.trans (congrArg some (by kernel_rfl))
  f144 := Tryd.func47.trans (congrArg some (by kernel_rfl))
  f217 := Tryd.func89.trans (congrArg some (by kernel_rfl))
  f219 := Tryd.func78.trans (congrArg some (by kernel_rfl))
  f224 := Tryd.func91.trans (congrArg some (by kernel_rfl))
  f225 := Tryd.func90.trans (congrArg some (by kernel_rfl))
  f266 := Tryd.func97.trans (congrArg some (by kernel_rfl))
  f267 := Tryd.func92.trans (congrArg some (by kernel_rfl))
  f314 := Tryd.func98.trans (congrArg some (by kernel_rfl))
  t3 := Tryd.underlying3
  a3 := Tryd.isAgg3
  z3 := Tryd.sizeOf3
  v3 := Tryd.zeroValue3
  t4 := Tryd.underlying4
  a4 := Tryd.isAgg4
  z4 := Tryd.sizeOf4
  v4 := Tryd.zeroValue4
  t5 := Tryd.underlying5
  a5 := Tryd.isAgg5
  z5 := Tryd.sizeOf5
  v5 := Tryd.zeroValue5
  t9 := Tryd.underlying9
  a9 := Tryd.isAgg9
  z9 := Tryd.sizeOf9
  v9 := Tryd.zeroValue9
  t46 := Tryd.underlying133
  a46 := Tryd.isAgg133
  z46 := Tryd.sizeOf133
  v46 := Tryd.zeroValue133
  t51 := Tryd.underlying135
  a51 := Tryd.isAgg135
  z51 := Tryd.sizeOf135
  v51 := Tryd.zeroValue135
  t146 := Tryd.underlying136
  a146 := Tryd.isAgg136
  z146 := Tryd.sizeOf136
  v146 := Tryd.zeroValue136
  g1 := by kernel_rfl }
open Go.RowKit Go.Lib in
theorem Tryd.strings_Contains_one (s : ByteArray) (c : UInt8) (w : World) :
    Calls Tryd.prog 47 #[.string s, .string ⟨#[c]⟩] w fun e w' => e = .returned (.bool (decide (0 ≤ Lib.indexByte s.data.toList c))) ∧ w' = w := Any.strings_Contains_one Tryd.lays144 s c w
open Go.RowKit Go.Lib in
theorem Tryd.strings_Contains (s sub : ByteArray) (m : Int) (w : World) (hs : s.size < 4294967281) (hm : w.cell? ⟨0, 0, none⟩ = some (.int .i64 m)) :
    Calls Tryd.prog 47 #[.string s, .string sub] w fun e w' => e = .returned (.bool (Lib.contains s.data.toList sub.data.toList)) ∧ w' = w := Any.strings_Contains Tryd.lays144 s sub m w hs hm
end Go.Proofs
namespace Go.Proofs.YtpllgpgdcbgalaaDoor
open Go Go.RowKit
theorem Sim.below {A : Nat → Prop} {ρ : Nat → Loc} {H : Heap} {w w' : World} (s : Sim A ρ H w) (b : Below w.heap.size w w') : Sim A ρ H w' ∧ Fr A ρ H w A ρ H w' := by
  have hK : ∀ b' o, Kof ρ H w b' = some o → Kof ρ H w' b' = some o := fun b' o hb => by
    obtain ⟨h1, h2⟩ := zn.1 hb
    exact zn.2 ⟨h1, by rw [b.block b' (Array.getElem?_eq_some_iff.1 h2).1]; exact h2⟩
  refine ⟨⟨s.live, fun g o ho => ?_, s.inj, s.lay.mono hK⟩, ⟨fun _ h => ⟨rfl, h⟩, hK, b.os, b.tape, b.output, b.size⟩⟩
  exact (s.obj g o ho).mono (b.block _ (s.obj g o ho).block_lt) hK (fun _ h => ⟨rfl, h⟩)
theorem QC.of_calls {P : Program} {f : FuncId} {fn : Func} {c : Code} {args : List AV} {r : AV} (hf : P.funcs[f]? = some fn) (hb : fn.body = some c) (hname : (fn.name == "runtime.NumGoroutine") = false)
    (h : ∀ (K : zf) (ρ : Nat → Loc) (A : Nat → Prop) (w : World) (cargs : Array Value), LayK (fun b => w.heap[b]?) → LRel K ρ A args cargs.toList → Calls P f cargs w fun e w' => (∃ v, e = .returned v ∧ ∀ (K : zf) (ρ : Nat → Loc) (A : Nat → Prop), VRel K ρ A r v) ∧ Below w.heap.size w w') : QC P f args r := by
  intro H nx ρ w cargs s ha
  have hcall : (callFunc f cargs).run P w = .ok (.enter f cargs) w := by
    have hname' : ¬ fn.name = "runtime.NumGoroutine" := by simpa using hname
    simp [callFunc, program, Sem.run_bind, Sem.run, hf, hname', hb, pure]
  rw [hcall]
  simp only [zw]
  refine (h _ _ _ w cargs (s.lay.mono fun b o hb => (zn.1 hb).2) ha).mono fun e w' ⟨⟨v, he, hv⟩, hw⟩ => ?_
  obtain ⟨s', f'⟩ := s.below hw
  exact ⟨v, he, r, H, nx, ρ, ⟨rfl, rfl, rfl⟩, s', hv _ _ _, f'⟩
theorem zyb : (Tryd.prog.globalNamed "internal/strconv.uint64pow10").isSome = true := by kernel_rfl
theorem LayK.tab {w : World} (h : LayK (fun b => w.heap[b]?)) : Lib.TabIs Tryd.prog w "internal/strconv.uint64pow10" .u64 Lib.pow10Tab := by
  obtain ⟨g, hg⟩ := Option.isSome_iff_exists.1 zyb
  obtain ⟨e, m, hc⟩ := h.1 g hg
  unfold Lib.TabIs World.var?
  have hc' : w.heap[g]? = _ := hc
  rw [hg, Option.bind_some, hc']
set_option maxRecDepth 8000 in
theorem zva (n : Int) (h0 : -9223372036854775808 ≤ n) (h1 : n ≤ 9223372036854775807) : QC Tryd.prog 80 [.int .i64 n] (.str (Lib.itoa n)) := by
  refine QC.of_calls (c := zh Tryd.f80) Tryd.func80 (by kernel_rfl) (by kernel_rfl) fun K ρ A w cargs hl ha => ?_
  have hc : cargs = #[.int .i64 n] := by
    obtain ⟨hlen, hg⟩ := ha
    have hlen' : cargs.toList.length = 1 := hlen
    match he : cargs.toList, hlen' with
    | [v], _ =>
      have := hg 0 (.int .i64 n) v rfl (by rw [he]; rfl)
      cases this
      exact Array.ext' (by rw [he])
  subst hc
  refine (Tryd.strconv_Itoa n h0 h1 w hl.tab).mono fun e w' ⟨he, k, os, hw⟩ => ?_
  subst he hw
  refine ⟨⟨_, rfl, fun K ρ A => .str _⟩, ⟨rfl, rfl, rfl, ?_, fun b hb => ?_⟩⟩
  · simp [Sort.grow, World.drewN]
  · simp only [Sort.grow, World.drewN]
    rw [Array.getElem?_append_left (by simpa using hb)]
end Go.Proofs.YtpllgpgdcbgalaaDoor
namespace Go.Proofs.YtpllgpgdcbgalaaDoor
open Go Go.RowKit
theorem zud : (Tryd.prog.globalNamed "strconv.ErrSyntax").isSome = true := by kernel_rfl
theorem zvr : (Tryd.prog.globalNamed "strconv.ErrRange").isSome = true := by kernel_rfl
theorem LayE.var {n : String} {w : World} (h : LayE n (fun b => w.heap[b]?)) (hn : (Tryd.prog.globalNamed n).isSome = true) : ∃ t p, w.var? Tryd.prog n = some #[.iface t p] := by
  obtain ⟨g, hg⟩ := Option.isSome_iff_exists.1 hn
  obtain ⟨t, p, e, m, hc⟩ := h g hg
  have hc' : w.heap[g]? = _ := hc
  exact ⟨t, p, by unfold World.var?; rw [hg, Option.bind_some, hc']⟩
theorem zun (w : World) (e : TypeId) (s : ByteArray) : Below w.heap.size w (Lib.bytesWorld w e s) := ⟨rfl, rfl, rfl, by rw [Lib.bytesWorld_size]; omega, fun k hk => Lib.bytesWorld_at_old w e s k hk⟩
def zss (s : List UInt8) : AV := match Lib.atoiAll s with
  | .ok v => .tup [.int .i64 v, .inil]
  | .range => .tup [.int .i64 (Lib.atoiSat s), .ifc]
  | _ => .tup [.int .i64 0, .ifc]
theorem tup2 {n : Int} {x : AV} {c : Value} (h : ∀ K ρ A, VRel K ρ A x c) (K : zf) (ρ : Nat → Loc) (A : Nat → Prop) : VRel K ρ A (.tup [.int .i64 n, x]) (.tuple #[.int .i64 n, c]) :=
  .tup _ _ rfl fun j v c' hv hc => by
    match j with
    | 0 => cases hv; cases hc; exact .int _ _
    | 1 => cases hv; cases hc; exact h K ρ A
set_option maxRecDepth 8000 in
theorem zvi (s : List UInt8) (h : s.length ≤ 281474976710656) : QC Tryd.prog 79 [.str s] (zss s) := by
  refine QC.of_calls (c := zh Tryd.f79) Tryd.func79 (by kernel_rfl) (by kernel_rfl) fun K ρ A w cargs hl ha => ?_
  have hc : cargs = #[.string ⟨s.toArray⟩] := by
    obtain ⟨hlen, hg⟩ := ha
    have hlen' : cargs.toList.length = 1 := hlen
    match he : cargs.toList, hlen' with
    | [v], _ =>
      have := hg 0 (.str s) v rfl (by rw [he]; rfl)
      cases this
      exact Array.ext' (by rw [he])
  subst hc
  have hs : (ByteArray.mk s.toArray).size = s.length := by show s.toArray.size = _; simp
  have hd : (ByteArray.mk s.toArray).data.toList = s := by simp
  unfold zss
  cases hv : Lib.atoiAll s with
  | ok v =>
    refine (Tryd.strconv_Atoi_ok ⟨s.toArray⟩ (by omega) v (by rw [hd]; exact hv) w).mono fun e w' ⟨he, hw⟩ => ⟨⟨_, he, tup2 fun _ _ _ => .inil⟩, ?_⟩
    rcases hw with rfl | ⟨t, rfl⟩
    · exact .refl _ _
    · exact zun w _ t
  | range =>
    obtain ⟨t, p, hvar⟩ := hl.2.2.1.var zvr
    have hx : Lib.atoiSat (ByteArray.mk s.toArray).data.toList = Lib.atoiSat s := by rw [hd]
    exact (Tryd.strconv_Atoi_range_var ⟨s.toArray⟩ (by omega) (by rw [hd]; exact hv) t p w hvar).mono fun e w' ⟨N, he, _, _, hw⟩ => ⟨⟨_, hx ▸ he, tup2 fun _ _ _ => .ifc _ ⟨_, _, rfl⟩⟩, hw⟩
  | _ =>
    obtain ⟨t, p, hvar⟩ := hl.2.1.var zud
    exact (Tryd.strconv_Atoi_syntax_var ⟨s.toArray⟩ (by omega) (by rw [hd]; exact hv) t p w hvar).mono fun e w' ⟨N, he, _, _, hw⟩ => ⟨⟨_, he, tup2 fun _ _ _ => .ifc _ ⟨_, _, rfl⟩⟩, hw⟩
end Go.Proofs.YtpllgpgdcbgalaaDoor
