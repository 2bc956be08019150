/- Structures that are compared by their cells. The program's types, as its own table has them. What is to be shown of each function, written out. What a call made may be forgotten, or is never written again: then it is read by value. How what is to be shown is taken apart. -/
import Derived.Test.YtdmibdjokofclaaDoorG3
import Derived.Laws.StructEq
import Derived.Test.YtdmibdjokofclaaDoorChecked
import Derived.Test.YtdmibdjokofclaaDoorG4
import Derived.KernelRfl
import Derived.IntWalk
set_option linter.unusedSimpArgs false
set_option linter.unusedVariables false
set_option maxRecDepth 8000
namespace Go.Proofs.YtdmibdjokofclaaDoor
open Go Go.RowKit
section
variable (P:Program)
def szAt (t:TypeId):Nat:=match atOf P t with | some a=>a.size | none=>0
def zne (t:TypeId):Bool:=match atOf P t with | some a=>!a.kind.isAgg && Nat.beq a.size 1 | none=>false
def zjd (ok:TypeId→Option (List AV)):List Field→Nat→Option (List AV)
  | [],_=>some []
  | f :: r,off=>if f.name ≠ "_" ∧ f.offset=off then match ok f.type with
      | some z=>match zjd ok r (off+z.length) with
        | some zr=>some (z ++ zr)
        | none=>none
      | none=>none
    else none
def zjv : Nat→TypeId→Option (List AV)
  | 0,_=>none
  | d + 1,t=>match P.underlying t with
    | some (.int k)=>if zne P t=true then some [.int k 0] else none
    | some .string=>if zne P t=true then some [.str []] else none
    | some .bool=>if zne P t=true then some [.bool false] else none
    | some (.struct fs)=>if P.stoodInHeld t=false∧(match atOf P t with | some a=>a.kind.isAgg | none=>false)=true then match zjd (zjv d) fs.toList 0 with
        | some zs=>if zs.length=szAt P t then some zs else none
        | none=>none
      else none
    | _=>none
def zaih (t:TypeId):Bool:=match atOf P t with
  | some a=>a.kind.isAgg && (match zjv P 4 t with | some zs=>(zj zs a.zero).isSome | none=>false) && !(P.eqGuardType P.depth t)
  | none=>false
end
theorem zpt : ∀ {xs ys:List AV} {r:Bool},zj xs ys=some r→xs.length=ys.length
  | [],[],_,_=>rfl
  | [],_ :: _,_,h=>by simp [zj] at h
  | x :: xs,[],_,h=>by cases x <;> simp [zj] at h
  | x :: xs, y :: ys,r,h=>by
    have : ∃ r',zj xs ys=some r':=by
      cases x <;> cases y <;> simp only [zj] at h <;> first
        | (cases h; done)
        | (split at h
           · obtain ⟨r',h',_⟩:=Option.map_eq_some_iff.1 h; exact ⟨r',h'⟩
           · cases h)
        | (obtain ⟨r',h',_⟩:=Option.map_eq_some_iff.1 h; exact ⟨r',h'⟩)
    obtain ⟨r',h'⟩:=this
    simp [zpt h']
theorem zaey {x y:AV} {xs ys:List AV} {r:Bool} (h:zj (x :: xs) (y :: ys)=some r):∃ r1 r2,zj [x] [y]=some r1∧zj xs ys=some r2∧r=(r1 && r2):=by
  cases x <;> cases y <;> simp only [zj] at h ⊢ <;> first
    | (cases h; done)
    | (split at h
       · rename_i hk
         obtain ⟨r',h',rfl⟩:=Option.map_eq_some_iff.1 h
         exact ⟨_,r',by rw [if_pos hk]; rfl,h',by simp⟩
       · cases h)
    | (obtain ⟨r',h',rfl⟩:=Option.map_eq_some_iff.1 h
       exact ⟨_,r',rfl,h',by simp⟩)
theorem zjw : ∀ {xs ys:List AV} {r1 r2:Bool} {us vs:List AV},zj xs ys=some r1→zj us vs=some r2→zj (xs ++ us) (ys ++ vs)=some (r1 && r2)
  | [],[],r1,r2,us,vs,h,k=>by simp [zj] at h; subst h; simpa using k
  | [],_ :: _,_,_,_,_,h,_=>by simp [zj] at h
  | x :: xs,[],_,_,_,_,h,_=>by cases x <;> simp [zj] at h
  | x :: xs, y :: ys,r1,r2,us,vs,h,k=>by
    cases x <;> cases y <;> simp only [zj,List.cons_append] at h ⊢ <;> first
      | (cases h; done)
      | (split at h
         · rename_i hk
           obtain ⟨r',h',rfl⟩:=Option.map_eq_some_iff.1 h
           rw [if_pos hk,zjw h' k]; simp [Bool.and_assoc]
         · cases h)
      | (obtain ⟨r',h',rfl⟩:=Option.map_eq_some_iff.1 h
         rw [zjw h' k]; simp [Bool.and_assoc])
theorem zle:∀ (n:Nat) {xs ys:List AV} {r:Bool},zj xs ys=some r→∃ r1 r2,zj (xs.take n) (ys.take n)=some r1∧zj (xs.drop n) (ys.drop n)=some r2∧r=(r1 && r2)
  | 0,xs,ys,r,h=>⟨true,r,by simp [zj],by simpa using h,by simp⟩
  | n+1,[],[],r,h=>⟨true,r,by simp [zj],by simpa using h,by simp⟩
  | n+1,[],_ :: _,r,h=>by simp [zj] at h
  | n+1,x :: xs,[],r,h=>by cases x <;> simp [zj] at h
  | n+1,x :: xs,y :: ys,r,h=>by
    obtain ⟨r1,r2,h1,h2,rfl⟩:=zaey h
    obtain ⟨q1,q2,g1,g2,rfl⟩:=zle n h2
    refine ⟨r1 && q1,q2,?_,by simpa using g2,by simp [Bool.and_assoc]⟩
    simpa using zjw h1 g1
theorem zhh:∀ {a b c:List AV},(zj a b).isSome=true→(zj b c).isSome=true→(zj a c).isSome=true
  | [],[],c,_,h=>h
  | [],_ :: _,_,h,_=>by simp [zj] at h
  | x :: a,[],_,h,_=>by cases x <;> simp [zj] at h
  | x :: a,y :: b,[],_,h=>by cases y <;> simp [zj] at h
  | x :: a, y :: b,z :: c,h,k=>by
    cases x <;> cases y <;> simp only [zj] at h <;> try (cases h; done)
    all_goals
      cases z <;> simp only [zj] at k <;> try (cases k; done)
    · split at h
      · rename_i h1
        split at k
        · rename_i h2
          simp only [zj]
          rw [if_pos (h1.trans h2)]
          have:=zhh (a:=a) (b:=b) (c:=c) (by simpa using h) (by simpa using k)
          simpa using this
        · cases k
      · cases h
    · have:=zhh (a:=a) (b:=b) (c:=c) (by simpa using h) (by simpa using k)
      simpa [zj] using this
    · have:=zhh (a:=a) (b:=b) (c:=c) (by simpa using h) (by simpa using k)
      simpa [zj] using this
theorem zabn (n:Nat) {xs ys:List AV} (h:(zj xs ys).isSome=true):(zj (xs.take n) (ys.take n)).isSome=true∧(zj (xs.drop n) (ys.drop n)).isSome=true:=by
  obtain ⟨r,hr⟩:=Option.isSome_iff_exists.1 h
  obtain ⟨r1,r2,h1,h2,_⟩:=zle n hr
  exact ⟨by rw [h1]; rfl,by rw [h2]; rfl⟩
section
variable {P:Program}
def zafr (P:Program) (t:TypeId) (z:AV):Prop:=match z with
  | .int k _=>P.underlying t=some (.int k)
  | .str _=>P.underlying t=some .string
  | .bool _=>P.underlying t=some .bool
  | _=>False
theorem zadh {t:TypeId} {k:Nat} {w:World} {K:zab} {ρ:Nat→Loc} {A:Nat→Prop} {z v u:AV} {a b:Value} {r:Bool} (hu:zafr P t z) (hz:(zj [z] [v]).isSome=true)
    (hv:VRel K ρ A v a) (hw:VRel K ρ A u b) (he:zj [v] [u]=some r):(Op.equalIn (k+1) t a b).run P w=.ok r w:=by
  cases z <;> simp only [zafr] at hu <;> cases v <;> simp only [zj] at hz <;> (try (cases hz; done)) <;> cases u <;> simp only [zj] at he <;> (try (cases he; done)) <;> cases hv <;> cases hw
  · split at he
    · rename_i hk
      subst hk
      rw [run_equalIn_int w k t _ _ _ _ hu]
      simpa using he
    · cases he
  · rw [run_equalIn_bool' w k t _ _ hu]; simpa using he
  · rw [run_equalIn_string w k t _ _ hu]; simpa [ByteArray.toList_eq] using he
def zaoe (P:Program) (d:Nat) (t:TypeId) (zs:List AV):Prop:=∃ a,atOf P t=some a∧zs.length=a.size∧(a.kind.isAgg=false→a.size=1)∧∀ (k:Nat),d≤k→∀ (w:World) (K:zab) (ρ:Nat→Loc) (A:Nat→Prop) (cells cells':List AV) (off:Nat) (v u:AV) (r:Bool) (x y:Value),
    ldv a.kind.isAgg a.size cells off=some v→ldv a.kind.isAgg a.size cells' off=some u→(zj zs ((cells.drop off).take a.size)).isSome=true→zj ((cells.drop off).take a.size) ((cells'.drop off).take a.size)=some r→VRel K ρ A v x→VRel K ρ A u y →
    (Op.equalIn k t x y).run P w=.ok r w
theorem znm {d:Nat} {t:TypeId} {z:AV} (hu:zafr P t z) (hs:zne P t=true):zaoe P (d+1) t [z]:=by
  unfold zne at hs
  cases ha:atOf P t with
  | none=>rw [ha] at hs; cases hs
  | some a =>
    rw [ha] at hs
    simp only [Bool.and_eq_true] at hs
    have hag:a.kind.isAgg=false:=by simpa using hs.1
    have hsz:a.size=1:=Nat.eq_of_beq_eq_true hs.2
    refine ⟨a,ha,by rw [hsz]; rfl,fun _=>hsz,fun k hk w K ρ A cells cells' off v u r x y e1 e2 e0 e3 r1 r2 => ?_⟩
    simp only [ldv,hag,cond_false] at e1 e2
    have t1:∀ {l:List AV} {q:AV},l[off]? = some q→(l.drop off).take 1=[q]:=by
      intro l q hl
      obtain ⟨hlt,rfl⟩:=List.getElem?_eq_some_iff.1 hl
      rw [List.drop_eq_getElem_cons hlt]; rfl
    rw [hsz,t1 e1] at e0
    rw [hsz,t1 e1,t1 e2] at e3
    obtain ⟨k',rfl⟩:∃ k',k=k'+1:=⟨k - 1,by omega⟩
    exact zadh hu e0 r1 r2 e3
theorem zaex : ∀ (d:Nat) (t:TypeId) (zs:List AV),zjv P d t=some zs→zaoe P d t zs
  | 0,t,zs,h=>by cases h
  | d + 1, t, zs, h=>by
    unfold zjv at h
    split at h
    · rename_i ki hu
      split at h
      · rename_i hs; cases h; exact znm hu hs
      · cases h
    · rename_i hu
      split at h
      · rename_i hs; cases h; exact znm hu hs
      · cases h
    · rename_i hu
      split at h
      · rename_i hs; cases h; exact znm hu hs
      · cases h
    · rename_i fs hu
      by_cases hc:P.stoodInHeld t=false∧(match atOf P t with | some a=>a.kind.isAgg | none=>false)=true
      case neg=>rw [if_neg hc] at h; cases h
      rw [if_pos hc] at h
      obtain ⟨hst,h3⟩:=hc
      split at h
      case h_2=>cases h
      rename_i zs' hf
      split at h
      case isFalse=>cases h
      rename_i hlen
      obtain rfl:=Option.some.inj h
      cases ha:atOf P t with
      | none=>rw [ha] at h3; cases h3
      | some a =>
        rw [ha] at h3
        simp only at h3
        have hl:zs'.length=a.size:=by rw [hlen]; unfold szAt; rw [ha]
        refine ⟨a,ha,hl,fun e=>(by rw [h3] at e; cases e),fun k hk w K ρ A cells cells' off v u r x y e1 e2 e0 e3 r1 r2 => ?_⟩
        simp only [ldv,h3,cond_true] at e1 e2
        split at e1
        case isFalse=>cases e1
        rename_i l1
        split at e2
        case isFalse=>cases e2
        rename_i l2
        cases e1
        cases e2
        cases r1 with
        | agg _ cs g1 g2 =>
        cases r2 with
        | agg _ ds g3 g4 =>
        obtain ⟨k',rfl⟩:∃ k',k=k'+1:=⟨k - 1,by omega⟩
        have hfo:P.fieldsOf t=fs:=by simp [Program.fieldsOf,hu]
        rw [run_equalIn_struct w k' t cs ds (by rw [hfo]; exact hu) hst,hfo]
        have loop:∀ (fl:List Field) (o:Nat) (zs xs ys:List AV) (r:Bool),zjd (zjv P d) fl o=some zs→LRel K ρ A xs cs.toList→LRel K ρ A ys ds.toList→xs.length=o+zs.length→ys.length=o+zs.length →
            (zj zs (xs.drop o)).isSome=true→zj (xs.drop o) (ys.drop o)=some r→(Op.eqFields k' cs ds fl).run P w=.ok r w:=by
          intro fl
          induction fl with
          | nil =>
            intro o zs xs ys r hf q1 q2 n1 n2 hz he
            simp only [zjd,Option.some.injEq] at hf
            subst hf
            simp only [List.length_nil] at n1 n2
            rw [List.drop_of_length_le (by omega),List.drop_of_length_le (by omega)] at he
            simp only [zj,Option.some.injEq] at he
            simp [Op.eqFields,Sem.run_pure,he]
          | cons f fl ih =>
            intro o zs xs ys r hf q1 q2 n1 n2 hz he
            unfold zjd at hf
            split at hf
            case isFalse=>cases hf
            rename_i hc
            obtain ⟨c1,c2⟩:=hc
            split at hf
            case h_2=>cases hf
            rename_i z hzk
            split at hf
            case h_2=>cases hf
            rename_i zr hzr
            obtain rfl:=Option.some.inj hf
            obtain ⟨b,hb,hzl,hb1,hrun⟩:=zaex d f.type z hzk
            rw [List.length_append] at n1 n2
            obtain ⟨s1,s2,t1,t2,rfl⟩:=zle z.length he
            obtain ⟨z1,z2⟩:=zabn z.length hz
            rw [List.take_left] at z1
            rw [List.drop_left,List.drop_drop] at z2
            rw [List.drop_drop,List.drop_drop] at t2
            obtain ⟨i,dd,zv,hb'⟩:=(show TOk P (atOf P) from fun _ _ h=>h).at hb
            have ld:∀ l:List AV,l.length=o+(z.length+zr.length)→∃ q,ldv b.kind.isAgg b.size l o=some q:=by
              intro l hl
              unfold ldv
              cases hag:b.kind.isAgg with
              | true=>rw [cond_true,if_pos (by omega)]; exact ⟨_,rfl⟩
              | false =>
                rw [cond_false]
                have:=hb1 hag
                exact ⟨_,List.getElem?_eq_getElem (by omega)⟩
            obtain ⟨p,hp⟩:=ld xs n1
            obtain ⟨q,hq⟩:=ld ys n2
            obtain ⟨pv,hpv,hpr⟩:=zkc (P:=P) (w:=w) hb' q1 hp
            obtain ⟨qv,hqv,hqr⟩:=zkc (P:=P) (w:=w) hb' q2 hq
            have hone:=hrun k' (by omega) w K ρ A xs ys o p q s1 pv qv hp hq (by rw [← hzl]; exact z1) (by rw [← hzl]; exact t1) hpr hqr
            have hrest:=ih (o+z.length) zr xs ys s2 hzr q1 q2 (by omega) (by omega) z2 t2
            simp only [Op.eqFields,c1,ne_eq,not_false_eq_true,if_true,Sem.run_bind,c2,hpv,hqv,hone,Result.andThen_ok]
            cases s1
            · simp [Sem.run_pure]
            · simpa using hrest
        refine loop fs.toList 0 zs' _ _ r hf ⟨by simpa using g1,fun j v c h1 h2=>g2 j v c h1 (by simpa using h2)⟩ ⟨by simpa using g3,fun j v c h1 h2=>g4 j v c h1 (by simpa using h2)⟩ (by simp; omega) (by simp; omega) ?_ ?_
        · simpa using e0
        · simpa using e3
    · cases h
theorem zapn {d:Nat} {t:TypeId} {a:AT} {zs:List AV} (hd:d≤10000) (h:zjv P d t=some zs) (hz:(zj zs a.zero).isSome=true) (hg:P.eqGuardType P.depth t=false) (ha:atOf P t=some a) (hag:a.kind.isAgg=true):EqTy P t a.zero:=by
  intro w K ρ A xs ys cs ds r x y op q1 q2 hl he
  obtain ⟨a',ha',hzl,_,hrun⟩:=zaex d t zs h
  obtain rfl:a=a':=Option.some.inj (ha.symm.trans ha')
  have hlen:=zpt he
  have hzx:=zhh hz hl
  have hxl:zs.length=xs.length:=by obtain ⟨r0,h0⟩:=Option.isSome_iff_exists.1 hzx; exact zpt h0
  refine ⟨?_,run_eqGuard_agg w op t x y cs ds hg⟩
  unfold Op.equal Op.maxDepth
  have full:∀ l:List AV,l.length=a.size→(l.drop 0).take a.size=l:=fun l hl=>by rw [List.drop_zero,List.take_of_length_le (by omega)]
  refine hrun 10000 hd w K ρ A xs ys 0 (.agg xs) (.agg ys) r _ _ ?_ ?_ ?_ ?_ (LRel.agg q1) (LRel.agg q2)
  · simp only [ldv,hag,cond_true]; rw [if_pos (by omega),full xs (by omega)]
  · simp only [ldv,hag,cond_true]; rw [if_pos (by omega),full ys (by omega)]
  · rw [full xs (by omega)]; exact hzx
  · rw [full xs (by omega),full ys (by omega)]; exact he
theorem zamv {T:Nat→Option AT} (hT:TOk P T):EOk P T (zaih P):=by
  intro t a h ht
  have ha:=hT t a ht
  unfold zaih at h
  rw [ha] at h
  simp only [Bool.and_eq_true] at h
  obtain ⟨⟨h1,h2⟩,h3⟩:=h
  cases hk:zjv P 4 t with
  | none=>rw [hk] at h2; cases h2
  | some zs =>
    rw [hk] at h2
    exact zapn (by omega) hk h2 (by simpa using h3) ha h1
end
end Go.Proofs.YtdmibdjokofclaaDoor
set_option maxRecDepth 8000
namespace Go.Proofs.YtdmibdjokofclaaDoor
open Go Go.RowKit
theorem mixed:Tryd.prog.follows .mixedOrders=true:=by kernel_rfl
noncomputable def tab:Nat→Option AT:=atOf Tryd.prog
theorem zw:TOk Tryd.prog tab:=fun _ _ h=>h
def zfy (t:Nat):Bool:=Nat.blt t 1000000
noncomputable def eqsT (t:Nat):Bool:=bif zfy t then zaih Tryd.prog t else false
theorem zx:EOk Tryd.prog tab eqsT:=by
  intro t a h ht
  unfold eqsT at h
  generalize zfy t=b at h
  cases b with
  | true=>rw [cond_true] at h; exact zamv zw t a h ht
  | false=>rw [cond_false] at h; cases h
noncomputable def tabZ (t:Nat):Option AT:=bif zfy t then tab t else none
theorem zaqf:TOk Tryd.prog tabZ:=by
  intro t a h
  unfold tabZ at h
  generalize zfy t=b at h
  cases b with
  | true=>rw [cond_true] at h; exact h
  | false=>rw [cond_false] at h; cases h
def eqsZ (t:Nat):Bool:=!zfy t
theorem zaqo:EOk Tryd.prog tabZ eqsZ:=by
  intro t a h ht
  unfold tabZ at ht
  unfold eqsZ at h
  generalize zfy t=b at h ht
  cases b with
  | true=>cases h
  | false=>rw [cond_false] at ht; cases ht
end Go.Proofs.YtdmibdjokofclaaDoor
set_option maxRecDepth 8000
namespace Go.Proofs.YtdmibdjokofclaaDoor
open Go Go.RowKit
@[simp] theorem zave:ze tab 2=1:=by kernel_rfl
@[simp] theorem zavd:ze tab 3=1:=by kernel_rfl
@[simp] theorem zavc:ze tab 4=1:=by kernel_rfl
@[simp] theorem zavb:ze tab 5=1:=by kernel_rfl
@[simp] theorem zava:ze tab 6=1:=by kernel_rfl
@[simp] theorem zauz:ze tab 9=1:=by kernel_rfl
@[simp] theorem zatw:ze tab 12=1:=by kernel_rfl
@[simp] theorem zatv:ze tab 17=1:=by kernel_rfl
@[simp] theorem zatu:ze tab 23=1:=by kernel_rfl
@[simp] theorem zatt:ze tab 24=1:=by kernel_rfl
@[simp] theorem zats:ze tab 26=2:=by kernel_rfl
@[simp] theorem zatr:ze tab 28=3:=by kernel_rfl
@[simp] theorem zatq:ze tab 29=1:=by kernel_rfl
@[simp] theorem zatp:ze tab 30=1:=by kernel_rfl
@[simp] theorem zato:ze tab 32=9:=by kernel_rfl
@[simp] theorem zatn:ze tab 33=1:=by kernel_rfl
@[simp] theorem zatm:ze tab 47=1:=by kernel_rfl
@[simp] theorem zatl:ze tab 55=3:=by kernel_rfl
@[simp] theorem zatk:ze tab 61=1:=by kernel_rfl
@[simp] theorem zatj:ze tab 71=3:=by kernel_rfl
@[simp] theorem zati:ze tab 78=1:=by kernel_rfl
@[simp] theorem zath:ze tab 90=1:=by kernel_rfl
@[simp] theorem zasl:ze tab 135=1:=by kernel_rfl
@[simp] theorem zask:ze tab 146=0:=by kernel_rfl
@[simp] theorem zasj:ze tab 150=1:=by kernel_rfl
@[simp] theorem zasi:ze tab 151=1:=by kernel_rfl
@[simp] theorem zash:ze tab 152=1:=by kernel_rfl
@[simp] theorem zasg:ze tab 153=1:=by kernel_rfl
@[simp] theorem zasf:ze tab 154=1:=by kernel_rfl
@[simp] theorem zase:ze tab 155=1:=by kernel_rfl
def zxv (a0:AV) (H:Heap) (nx:Nat) (Q:QT):Prop :=
 BI .rem a0 (.int .i64 1073741825) fun v1 =>
 BD (zaa tab [(3,0),(3,1),(9,2)]) [.int .i64 0,.int .i64 0,.str []] [(1,v1)] fun v2 =>
 ST 3 (.ptr nx 0) v2 (H.put nx (some (.row 3 [.int .i64 0,.int .i64 0,.str []]))) fun H3 =>
 LD true 3 (.ptr nx 0) H3 fun v4 =>
 Q v4 H3 (nx+1)
theorem zabq (a0:AV) (H:Heap) (nx:Nat) (Q:QT):zxv a0 H nx Q→za Tryd.prog 76 [a0] H nx Q :=
  zd (lv:=lvOf []) (c:=zn Tryd.f76) zw zx mixed Tryd.func76 (by kernel_rfl) (by kernel_rfl) (by kernel_rfl) (by kernel_rfl) (by kernel_rfl)
def zvb (a0:AV) (H:Heap) (nx:Nat) (Q:QT):Prop :=
 LNS a0 fun v1 =>
 MM true v1 (.int .i64 60) fun v2 =>
 SLS a0 none (some v2) fun v3 =>
 BD (zaa tab [(3,0),(3,1),(9,2)]) [.int .i64 0,.int .i64 0,.str []] [(0,.int .i64 1),(2,v3)] fun v4 =>
 ST 3 (.ptr nx 0) v4 (H.put nx (some (.row 3 [.int .i64 0,.int .i64 0,.str []]))) fun H5 =>
 LD true 3 (.ptr nx 0) H5 fun v6 =>
 Q v6 H5 (nx+1)
theorem zaal (a0:AV) (H:Heap) (nx:Nat) (Q:QT):zvb a0 H nx Q→za Tryd.prog 55 [a0] H nx Q :=
  zd (lv:=lvOf []) (c:=zn Tryd.f55) zw zx mixed Tryd.func55 (by kernel_rfl) (by kernel_rfl) (by kernel_rfl) (by kernel_rfl) (by kernel_rfl)
def zss (Q:QT) (xs13:List AV) (H14:Heap) (nx15:Nat):Prop :=
 CNDC (nth xs13 1)
 (Q (.int .i64 6) H14 nx15)
 (FA 0 (nth xs13 0) fun v17 =>
 LD false 1 v17 H14 fun v18 =>
 BI .eql v18 (.int .i64 1) fun v19 =>
 CND v19
 (FA 1 (nth xs13 0) fun v20 =>
 LD false 1 v20 H14 fun v21 =>
 BI .neq v21 (.int .i64 0) fun v22 =>
 CND v22
 (Q (.int .i64 2) H14 nx15)
 (FA 0 (nth xs13 0) fun v23 =>
 LD false 1 v23 H14 fun v24 =>
 BI .neq v24 (.int .i64 1) fun v25 =>
 CND v25
 (FA 2 (nth xs13 0) fun v26 =>
 LD false 1 v26 H14 fun v27 =>
 BS .neq v27 (.str []) fun v28 =>
 CNDC v28
 (Q (.int .i64 2) H14 nx15)
 (Q (.int .i64 0) H14 nx15))
 (Q (.int .i64 0) H14 nx15)))
 (FA 0 (nth xs13 0) fun v29 =>
 LD false 1 v29 H14 fun v30 =>
 BI .neq v30 (.int .i64 1) fun v31 =>
 CND v31
 (FA 2 (nth xs13 0) fun v32 =>
 LD false 1 v32 H14 fun v33 =>
 BS .neq v33 (.str []) fun v34 =>
 CNDC v34
 (Q (.int .i64 2) H14 nx15)
 (Q (.int .i64 0) H14 nx15))
 (Q (.int .i64 0) H14 nx15)))
def zsw (xs9:List AV) (H10:Heap) (nx11:Nat) (j16:J3):Prop :=
 FA 0 (nth xs9 1) fun v35 =>
 LD false 1 v35 H10 fun v36 =>
 BI .eql v36 (.int .i64 2) fun v37 =>
 CND v37
 (FA 1 (nth xs9 1) fun v38 =>
 LD false 1 v38 H10 fun v39 =>
 BI .lss v39 (.int .i64 0) fun v40 =>
 CND v40
 (j16 [nth xs9 1,.bool true] H10 nx11)
 (FA 1 (nth xs9 1) fun v41 =>
 LD false 1 v41 H10 fun v42 =>
 BI .geq v42 (nth xs9 0) fun v43 =>
 j16 [nth xs9 1,v43] H10 nx11))
 (j16 [nth xs9 1,.bool false] H10 nx11)
def zsr (Q:QT) (xs9:List AV) (H10:Heap) (nx11:Nat):Prop :=
 CNDC (nth xs9 2)
 (Q (AV.int IntKind.i64 4) H10 nx11)
 (JN (zss Q) (zsw xs9 H10 nx11))
def zsv (xs5:List AV) (H6:Heap) (nx7:Nat) (j12:J3):Prop :=
 FA 0 (nth xs5 1) fun v44 =>
 LD false 1 v44 H6 fun v45 =>
 BI .eql v45 (.int .i64 1) fun v46 =>
 CND v46
 (FA 2 (nth xs5 1) fun v47 =>
 LD false 1 v47 H6 fun v48 =>
 LNS v48 fun v49 =>
 BI .gtr v49 (.int .i64 60) fun v50 =>
 j12 [nth xs5 0,nth xs5 1,v50] H6 nx7)
 (j12 [nth xs5 0,nth xs5 1,.bool false] H6 nx7)
def zsq (Q:QT) (xs5:List AV) (H6:Heap) (nx7:Nat):Prop :=
 CNDC (nth xs5 2)
 (Q (AV.int IntKind.i64 3) H6 nx7)
 (JN (zsr Q) (zsv xs5 H6 nx7))
def zst (nx:Nat) (H:Heap) (a0:AV) (a1:AV) (j8:J3):Prop :=
 LD false 1 (.ptr nx 0) (H.put nx (some (.row a0.cells.length a0.cells))) fun v51 =>
 BI .eql v51 (.int .i64 0) fun v52 =>
 CND v52
 (LD false 1 (.ptr nx 1) (H.put nx (some (.row a0.cells.length a0.cells))) fun v53 =>
 BI .lss v53 (.int .i64 (-1073741824)) fun v54 =>
 CND v54
 (j8 [a1,.ptr nx 0,.bool true] (H.put nx (some (.row a0.cells.length a0.cells))) (nx+1))
 (LD false 1 (.ptr nx 1) (H.put nx (some (.row a0.cells.length a0.cells))) fun v55 =>
 BI .gtr v55 (.int .i64 1073741824) fun v56 =>
 j8 [a1,.ptr nx 0,v56] (H.put nx (some (.row a0.cells.length a0.cells))) (nx+1)))
 (j8 [a1,.ptr nx 0,.bool false] (H.put nx (some (.row a0.cells.length a0.cells))) (nx+1))
def zsp (a0 a1:AV) (H:Heap) (nx:Nat) (Q:QT):Prop :=
 a0.sure=true ∧
 LD false 1 (.ptr nx 0) (H.put nx (some (.row a0.cells.length a0.cells))) fun v1 =>
 BI .lss v1 (.int .i64 0) fun v2 =>
 CND v2
 (Q (.int .i64 1) (H.put nx (some (.row a0.cells.length a0.cells))) (nx+1))
 (LD false 1 (.ptr nx 0) (H.put nx (some (.row a0.cells.length a0.cells))) fun v3 =>
 BI .gtr v3 (.int .i64 2) fun v4 =>
 CNDC v4
 (Q (.int .i64 1) (H.put nx (some (.row a0.cells.length a0.cells))) (nx+1))
 (JN (zsq Q) (zst nx H a0 a1)))
theorem zyo (a0 a1:AV) (H:Heap) (nx:Nat) (Q:QT):zsp a0 a1 H nx Q→za Tryd.prog 20 [a0,a1] H nx Q :=
  zd (lv:=lvOf [(0,3,[1,2,14]),(0,5,[1,2,28]),(0,7,[2,38])]) (c:=zn Tryd.f20) zw zx mixed Tryd.func20 (by kernel_rfl) (by kernel_rfl) (by kernel_rfl) (by kernel_rfl) (by kernel_rfl)
def zsx (a0:AV) (H:Heap) (nx:Nat) (Q:QT):Prop :=
 CNDC a0
 (ST 3 (.ptr nx 0) (.agg [.int .i64 0,.int .i64 1,.str []]) (H.put nx (some (.row 3 [.int .i64 0,.int .i64 0,.str []]))) fun H1 =>
 LD true 3 (.ptr nx 0) H1 fun v2 =>
 Q (.tup [v2,.int .i64 0]) H1 (nx+1))
 (ST 3 (.ptr nx 0) (.agg [.int .i64 0,.int .i64 0,.str []]) (H.put nx (some (.row 3 [.int .i64 0,.int .i64 0,.str []]))) fun H3 =>
 LD true 3 (.ptr nx 0) H3 fun v4 =>
 Q (.tup [v4,.int .i64 0]) H3 (nx+1))
theorem zyp (a0:AV) (H:Heap) (nx:Nat) (Q:QT):zsx a0 H nx Q→za Tryd.prog 75 [a0] H nx Q :=
  zd (lv:=lvOf []) (c:=zn Tryd.f75) zw zx mixed Tryd.func75 (by kernel_rfl) (by kernel_rfl) (by kernel_rfl) (by kernel_rfl) (by kernel_rfl)
def zxu (xs1:List AV) (Q:QT) (v11:AV) (H12:Heap) (nx13:Nat):Prop :=
 EX v11 0 fun v14 =>
 EX v11 1 fun v15 =>
 ST 3 (nth xs1 3) v14 H12 fun H16 =>
 LD true 3 (nth xs1 3) H16 fun v17 =>
 Q (.tup [v17,v15]) H16 nx13
def zxt (xs18:List AV) (Q:QT) (v27:AV) (H28:Heap) (nx29:Nat):Prop :=
 ST 3 (nth xs18 3) v27 H28 fun H30 =>
 LD true 3 (nth xs18 3) H30 fun v31 =>
 Q (.tup [v31,.int .i64 0]) H30 nx29
def zxs (xs32:List AV) (Q:QT) (v41:AV) (H42:Heap) (nx43:Nat):Prop :=
 EX v41 0 fun v44 =>
 EX v41 1 fun v45 =>
 ST 3 (nth xs32 3) v44 H42 fun H46 =>
 LD true 3 (nth xs32 3) H46 fun v47 =>
 Q (.tup [v47,v45]) H46 nx43
def zxr (xs32:List AV) (Q:QT) (v64:AV) (H65:Heap) (nx66:Nat):Prop :=
 ST 3 (nth xs32 3) v64 H65 fun H67 =>
 LD true 3 (nth xs32 3) H67 fun v68 =>
 Q (.tup [v68,.int .i64 0]) H67 nx66
def zxq (xs32:List AV) (Q:QT) (v75:AV) (H76:Heap) (nx77:Nat):Prop :=
 ST 3 (nth xs32 3) v75 H76 fun H78 =>
 LD true 3 (nth xs32 3) H78 fun v79 =>
 Q (.tup [v79,.int .i64 0]) H78 nx77
def zxp (xs32:List AV) (Q:QT) (v86:AV) (H87:Heap) (nx88:Nat):Prop :=
 ST 3 (nth xs32 3) v86 H87 fun H89 =>
 LD true 3 (nth xs32 3) H89 fun v90 =>
 Q (.tup [v90,.int .i64 0]) H89 nx88
def zxo (xs32:List AV) (Q:QT) (v96:AV) (H97:Heap) (nx98:Nat):Prop :=
 EX v96 0 fun v99 =>
 EX v96 1 fun v100 =>
 ST 3 (nth xs32 3) v99 H97 fun H101 =>
 LD true 3 (nth xs32 3) H101 fun v102 =>
 Q (.tup [v102,v100]) H101 nx98
def zfa (Q:QT) (xs32:List AV) (H33:Heap) (nx34:Nat):Prop :=
 CNDC (nth xs32 5)
 (FA 2 (nth xs32 1) fun v36 =>
 LD false 1 v36 H33 fun v37 =>
 FA 2 (nth xs32 2) fun v38 =>
 LD false 1 v38 H33 fun v39 =>
 BS .lss v37 v39 fun v40 =>
 CALL Tryd.prog (nth xs32 4) [v40] H33 nx34 (zxs xs32 Q))
 (FA 0 (nth xs32 1) fun v48 =>
 LD false 1 v48 H33 fun v49 =>
 BI .neq v49 (.int .i64 0) fun v50 =>
 CND v50
 (ST 3 (nth xs32 3) (.agg [.int .i64 0,.int .i64 0,.str []]) H33 fun H51 =>
 LD true 3 (nth xs32 3) H51 fun v52 =>
 Q (.tup [v52,.int .i64 11]) H51 nx34)
 (FA 0 (nth xs32 2) fun v53 =>
 LD false 1 v53 H33 fun v54 =>
 BI .neq v54 (.int .i64 0) fun v55 =>
 CNDC v55
 (ST 3 (nth xs32 3) (.agg [.int .i64 0,.int .i64 0,.str []]) H33 fun H56 =>
 LD true 3 (nth xs32 3) H56 fun v57 =>
 Q (.tup [v57,.int .i64 11]) H56 nx34)
 (BI .eql (nth xs32 0) (.int .i64 1) fun v58 =>
 CNDC v58
 (FA 1 (nth xs32 1) fun v59 =>
 LD false 1 v59 H33 fun v60 =>
 FA 1 (nth xs32 2) fun v61 =>
 LD false 1 v61 H33 fun v62 =>
 BI .add v60 v62 fun v63 =>
 za Tryd.prog 76 [v63] H33 nx34 (zxr xs32 Q))
 (BI .eql (nth xs32 0) (.int .i64 2) fun v69 =>
 CNDC v69
 (FA 1 (nth xs32 1) fun v70 =>
 LD false 1 v70 H33 fun v71 =>
 FA 1 (nth xs32 2) fun v72 =>
 LD false 1 v72 H33 fun v73 =>
 BI .sub v71 v73 fun v74 =>
 za Tryd.prog 76 [v74] H33 nx34 (zxq xs32 Q))
 (BI .eql (nth xs32 0) (.int .i64 3) fun v80 =>
 CNDC v80
 (FA 1 (nth xs32 1) fun v81 =>
 LD false 1 v81 H33 fun v82 =>
 FA 1 (nth xs32 2) fun v83 =>
 LD false 1 v83 H33 fun v84 =>
 BI .mul v82 v84 fun v85 =>
 za Tryd.prog 76 [v85] H33 nx34 (zxp xs32 Q))
 (FA 1 (nth xs32 1) fun v91 =>
 LD false 1 v91 H33 fun v92 =>
 FA 1 (nth xs32 2) fun v93 =>
 LD false 1 v93 H33 fun v94 =>
 BI .lss v92 v94 fun v95 =>
 CALL Tryd.prog (nth xs32 4) [v95] H33 nx34 (zxo xs32 Q)))))))
def zki (xs18:List AV) (H19:Heap) (nx20:Nat) (j35:J3):Prop :=
 FA 0 (nth xs18 1) fun v103 =>
 LD false 1 v103 H19 fun v104 =>
 BI .eql v104 (.int .i64 1) fun v105 =>
 CND v105
 (FA 0 (nth xs18 2) fun v106 =>
 LD false 1 v106 H19 fun v107 =>
 BI .eql v107 (.int .i64 1) fun v108 =>
 CND v108
 (BI .eql (nth xs18 0) (.int .i64 4) fun v109 =>
 j35 [nth xs18 0,nth xs18 1,nth xs18 2,nth xs18 3,nth xs18 4,v109] H19 nx20)
 (j35 [nth xs18 0,nth xs18 1,nth xs18 2,nth xs18 3,nth xs18 4,.bool false] H19 nx20))
 (j35 [nth xs18 0,nth xs18 1,nth xs18 2,nth xs18 3,nth xs18 4,.bool false] H19 nx20)
def zkf (Q:QT) (xs18:List AV) (H19:Heap) (nx20:Nat):Prop :=
 CNDC (nth xs18 5)
 (FA 2 (nth xs18 1) fun v22 =>
 LD false 1 v22 H19 fun v23 =>
 FA 2 (nth xs18 2) fun v24 =>
 LD false 1 v24 H19 fun v25 =>
 BS .add v23 v25 fun v26 =>
 za Tryd.prog 55 [v26] H19 nx20 (zxt xs18 Q))
 (JN (zfa Q) (zki xs18 H19 nx20))
def zkh (xs1:List AV) (H2:Heap) (nx3:Nat) (j21:J3):Prop :=
 FA 0 (nth xs1 1) fun v110 =>
 LD false 1 v110 H2 fun v111 =>
 BI .eql v111 (.int .i64 1) fun v112 =>
 CND v112
 (FA 0 (nth xs1 2) fun v113 =>
 LD false 1 v113 H2 fun v114 =>
 BI .eql v114 (.int .i64 1) fun v115 =>
 CND v115
 (BI .eql (nth xs1 0) (.int .i64 1) fun v116 =>
 j21 [nth xs1 0,nth xs1 1,nth xs1 2,nth xs1 3,.clo 75 [],v116] H2 nx3)
 (j21 [nth xs1 0,nth xs1 1,nth xs1 2,nth xs1 3,.clo 75 [],.bool false] H2 nx3))
 (j21 [nth xs1 0,nth xs1 1,nth xs1 2,nth xs1 3,.clo 75 [],.bool false] H2 nx3)
def zke (Q:QT) (xs1:List AV) (H2:Heap) (nx3:Nat):Prop :=
 CNDC (nth xs1 4)
 (ST 3 (nth xs1 3) (.agg [.int .i64 0,.int .i64 0,.str []]) H2 fun H5 =>
 LD true 3 (nth xs1 3) H5 fun v6 =>
 Q (.tup [v6,.int .i64 1]) H5 nx3)
 (BI .eql (nth xs1 0) (.int .i64 5) fun v7 =>
 CNDC v7
 (LD true 3 (nth xs1 1) H2 fun v8 =>
 LD true 3 (nth xs1 2) H2 fun v9 =>
 gd (eqsT 55) (
 BA [.int .i64 0,.int .i64 0,.str []] .eql v8 v9 fun v10 =>
 za Tryd.prog 75 [v10] H2 nx3 (zxu xs1 Q)))
 (JN (zkf Q) (zkh xs1 H2 nx3)))
def zkg (a0:AV) (nx:Nat) (H:Heap) (a1:AV) (a2:AV) (j4:J3):Prop :=
 BI .lss a0 (.int .i64 1) fun v117 =>
 CND v117
 (j4 [a0,.ptr nx 0,.ptr (nx+1) 0,.ptr (nx+2) 0,.bool true] (((H.put nx (some (.row a1.cells.length a1.cells))).put ((nx+1)) (some (.row a2.cells.length a2.cells))).put ((nx+2)) (some (.row 3 [.int .i64 0,.int .i64 0,.str []]))) (nx+3))
 (BI .gtr a0 (.int .i64 5) fun v118 =>
 j4 [a0,.ptr nx 0,.ptr (nx+1) 0,.ptr (nx+2) 0,v118] (((H.put nx (some (.row a1.cells.length a1.cells))).put ((nx+1)) (some (.row a2.cells.length a2.cells))).put ((nx+2)) (some (.row 3 [.int .i64 0,.int .i64 0,.str []]))) (nx+3))
def zkd (a0 a1 a2:AV) (H:Heap) (nx:Nat) (Q:QT):Prop :=
 a1.sure=true ∧
 a2.sure=true ∧
 JN (zke Q) (zkg a0 nx H a1 a2)
theorem zabp (a0 a1 a2:AV) (H:Heap) (nx:Nat) (Q:QT):zkd a0 a1 a2 H nx Q→za Tryd.prog 72 [a0,a1,a2] H nx Q :=
  zd (lv:=lvOf [(0,1,[0,4,5,6,14]),(0,6,[0,4,5,6,8,26]),(0,8,[0,4,5,6,8,45])]) (c:=zn Tryd.f72) zw zx mixed Tryd.func72 (by kernel_rfl) (by kernel_rfl) (by kernel_rfl) (by kernel_rfl) (by kernel_rfl)
def zve (Q:QT) (v4:AV) (H5:Heap) (nx6:Nat):Prop :=
 Q v4 H5 nx6
def zvd (v28:AV) (D26:zq) (rd30:List Nat) (rd34:List Nat) (Q:QT) (H:Heap) (nx:Nat) (a1:AV) (fr25:List Nat) (v36:AV) (_:List Nat) (fr38:List Nat) (D39:zq):Prop :=
 BS .add v28 v36 fun v40 =>
 BS .add v40 (.str [41]) fun v41 =>
 zb (domD D26) [] (
 zb (domD D26) [] (
 zb (domD D26) [] (
 zb (domD D26) [] (
 zb (domD D26) [] (
 zb (domD D26) [] (
 zb (domD D26) rd30 (
 zb (domD D26) [] (
 zb (domD D26) [] (
 zb (domD D26) [] (
 zb (domD D26) [] (
 zb (domD D26) [] (
 zb (domD D26) rd34 (
 zb (domD D26) [] (
 zb (domD D26) [] (
 zb (domD D26) [] (
 zb (domD D26) [] (
 zb (domD D26) [] (
 zb (domD D39) [] (
 zb (domD D39) [] (
 Q v41 (((H.put nx (some (.row a1.cells.length a1.cells))).apply D26).apply D39) (((nx+1)+fr25.length)+fr38.length)))))))))))))))))))))
def zvc (nx:Nat) (H:Heap) (a1:AV) (a0:AV) (a2:AV) (Q:QT) (v23:AV) (_:List Nat) (fr25:List Nat) (D26:zq):Prop :=
 BS .add (.str [40]) v23 fun v27 =>
 BS .add v27 (.str [32]) fun v28 =>
 LDR false 1 (.ptr nx 1) ((H.put nx (some (.row a1.cells.length a1.cells))).apply D26) fun v29 rd30 =>
 IA 6 a0 v29 fun v31 =>
 FA 3 v31 fun v32 =>
 LDR true 3 v32 ((H.put nx (some (.row a1.cells.length a1.cells))).apply D26) fun v33 rd34 =>
 BI .sub a2 (.int .i64 1) fun v35 =>
 zo Tryd.prog (.clo 63 []) [a0,v33,v35] ((H.put nx (some (.row a1.cells.length a1.cells))).apply D26) ((nx+1)+fr25.length) (zvd v28 D26 rd30 rd34 Q H nx a1 fr25)
def zft (a0 a1 a2:AV) (H:Heap) (nx:Nat) (Q:QT):Prop :=
 a1.sure=true ∧
 LD false 1 (.ptr nx 0) (H.put nx (some (.row a1.cells.length a1.cells))) fun v1 =>
 BI .eql v1 (.int .i64 0) fun v2 =>
 CNDC v2
 (LD false 1 (.ptr nx 1) (H.put nx (some (.row a1.cells.length a1.cells))) fun v3 =>
 za Tryd.prog 68 [v3] (H.put nx (some (.row a1.cells.length a1.cells))) (nx+1) (zve Q))
 (LD false 1 (.ptr nx 0) (H.put nx (some (.row a1.cells.length a1.cells))) fun v7 =>
 BI .eql v7 (.int .i64 1) fun v8 =>
 CNDC v8
 (LD false 1 (.ptr nx 2) (H.put nx (some (.row a1.cells.length a1.cells))) fun v9 =>
 Q v9 (H.put nx (some (.row a1.cells.length a1.cells))) (nx+1))
 (BI .leq a2 (.int .i64 0) fun v10 =>
 CND v10
 (Q (.str [46,46]) (H.put nx (some (.row a1.cells.length a1.cells))) (nx+1))
 (LD false 1 (.ptr nx 1) (H.put nx (some (.row a1.cells.length a1.cells))) fun v11 =>
 BI .lss v11 (.int .i64 0) fun v12 =>
 CND v12
 (Q (.str [46,46]) (H.put nx (some (.row a1.cells.length a1.cells))) (nx+1))
 (LD false 1 (.ptr nx 1) (H.put nx (some (.row a1.cells.length a1.cells))) fun v13 =>
 LNL a0 fun v14 =>
 BI .geq v13 v14 fun v15 =>
 CNDC v15
 (Q (.str [46,46]) (H.put nx (some (.row a1.cells.length a1.cells))) (nx+1))
 (LDR false 1 (.ptr nx 1) (H.put nx (some (.row a1.cells.length a1.cells))) fun v16 _ =>
 IA 6 a0 v16 fun v18 =>
 FA 0 v18 fun v19 =>
 LDR true 3 v19 (H.put nx (some (.row a1.cells.length a1.cells))) fun v20 _ =>
 BI .sub a2 (.int .i64 1) fun v22 =>
 zo Tryd.prog (.clo 63 []) [a0,v20,v22] (H.put nx (some (.row a1.cells.length a1.cells))) (nx+1) (zvc nx H a1 a0 a2 Q))))))
theorem zaam (a0 a1 a2:AV) (H:Heap) (nx:Nat) (Q:QT):zft a0 a1 a2 H nx Q→za Tryd.prog 63 [a0,a1,a2] H nx Q :=
  zd (lv:=lvOf []) (c:=zn Tryd.f63) zw zx mixed Tryd.func63 (by kernel_rfl) (by kernel_rfl) (by kernel_rfl) (by kernel_rfl) (by kernel_rfl)
def zec (a0:AV) (H:Heap) (nx:Nat) (Q:QT):Prop :=
 BL .eql a0 .nils fun v1 =>
 CNDC v1
 (Q .nils H nx)
 (APP 3 32 (.slc nx 0 0) a0 (H.put nx (some (.row 3 []))) (nx+1) fun v2 H3 nx4 =>
 Q v2 H3 nx4)
theorem znc (a0:AV) (H:Heap) (nx:Nat) (Q:QT):zec a0 H nx Q→za Tryd.prog 51 [a0] H nx Q :=
  zd (lv:=lvOf []) (c:=zn Tryd.f51) zw zx mixed Tryd.func51 (by kernel_rfl) (by kernel_rfl) (by kernel_rfl) (by kernel_rfl) (by kernel_rfl)
def zhj (v38:AV) (xs19:List AV) (nx36:Nat) (H37:Heap) (rd39:List Nat) (K18:J3) (v42:AV) (_:List Nat) (fr44:List Nat) (D45:zq):Prop :=
 BD (zaa tab [(55,0),(55,3)]) [.int .i64 0,.int .i64 0,.str [],.int .i64 0,.int .i64 0,.str []] [(0,v38),(1,v42)] fun v46 =>
 BSL 1 6 [.int .i64 0,.int .i64 0,.str [],.int .i64 0,.int .i64 0,.str []] [(0,v46)] fun cells47 =>
 zam 6 64 (nth xs19 2) (.slc ((nx36+1)+fr44.length) 0 1) ((H37.apply D45).put (((nx36+1)+fr44.length)) (some (.row 6 cells47))) (((nx36+1)+fr44.length)+1) fun v48 _ fr50 D51 =>
 zb (domD D45) [] (
 zb (domD D45) rd39 (
 ((nx36+1)+fr44.length)∉[] ∧
 K18 [nth xs19 0,nth xs19 1,v48,nth xs19 3,nth xs19 4,nth xs19 5,nth xs19 6] (((H37.apply D45).put (((nx36+1)+fr44.length)) (some (.row 6 cells47))).apply D51) ((((nx36+1)+fr44.length)+1)+fr50.length)))
def zta (nx21:Nat) (xs19:List AV) (K18:J3) (v34:AV) (H35:Heap) (nx36:Nat):Prop :=
 ST 3 (.ptr nx36 0) v34 (H35.put nx36 (some (.row 3 [.int .i64 0,.int .i64 0,.str []]))) fun H37 =>
 LDR true 3 (.ptr nx36 0) H37 fun v38 rd39 =>
 LDR true 3 (.ptr nx21 3) H37 fun v40 _ =>
 zo Tryd.prog (nth xs19 3) [v40] H37 (nx36+1) (zhj v38 xs19 nx36 H37 rd39 K18)
def zex (K6:J3) (K18:J3) (xs19:List AV) (H20:Heap) (nx21:Nat):Prop :=
 LNL (nth xs19 2) fun v22 =>
 LD false 1 (nth xs19 1) H20 fun v23 =>
 LNL v23 fun v24 =>
 BI .lss v22 v24 fun v25 =>
 CNDC v25
 (LD false 1 (nth xs19 1) H20 fun v26 =>
 LNL (nth xs19 2) fun v27 =>
 IA 1 v26 v27 fun v28 =>
 LD false 1 v28 H20 fun v29 =>
 IA 6 (nth xs19 0) v29 fun v30 =>
 LD true 6 v30 H20 fun v31 =>
 ST 6 (.ptr nx21 0) v31 (H20.put nx21 (some (.row 6 [.int .i64 0,.int .i64 0,.str [],.int .i64 0,.int .i64 0,.str []]))) fun H32 =>
 LD true 3 (.ptr nx21 0) H32 fun v33 =>
 CALL Tryd.prog (nth xs19 3) [v33] H32 (nx21+1) (zta nx21 xs19 K18))
 (BI .add (nth xs19 6) (.int .i64 1) fun v52 =>
 K6 [nth xs19 0,nth xs19 1,nth xs19 2,nth xs19 3,nth xs19 4,nth xs19 5,v52] H20 nx21)
def zsz (xs7:List AV) (K6:J3) (v13:AV) (H14:Heap) (nx15:Nat):Prop :=
 IA 3 (nth xs7 4) (nth xs7 6) fun v16 =>
 ST 3 v16 v13 H14 fun H17 =>
 LP (zex K6) [nth xs7 0,nth xs7 1,nth xs7 2,nth xs7 3,nth xs7 4,nth xs7 5,nth xs7 6] H17 nx15
def zhi (Q:QT) (K6:J3) (xs7:List AV) (H8:Heap) (nx9:Nat):Prop :=
 BI .lss (nth xs7 6) (nth xs7 5) fun v10 =>
 CNDC v10
 (IA 3 (nth xs7 4) (nth xs7 6) fun v11 =>
 LD true 3 v11 H8 fun v12 =>
 CALL Tryd.prog (nth xs7 3) [v12] H8 nx9 (zsz xs7 K6))
 (Q (.tup [nth xs7 4,nth xs7 2]) H8 nx9)
def zlf (Q:QT) (a0:AV) (nx:Nat) (v2:AV) (H3:Heap) (nx4:Nat):Prop :=
 LNL v2 fun v5 =>
 LP (zhi Q) [a0,.ptr (nx+2) 0,.nils,.clo 69 [.ptr (nx+1) 0,.ptr (nx+2) 0],v2,v5,.int .i64 0] H3 nx4
def zsy (a0 a1:AV) (H:Heap) (nx:Nat) (Q:QT):Prop :=
 ST 1 (.ptr (nx+1) 0) (.amap nx) ((H.put nx (some (.mp []))).put ((nx+1)) (some (.row 1 [.nilm]))) fun H1 =>
 za Tryd.prog 51 [a1] (H1.put ((nx+2)) (some (.row 1 [.nils]))) (nx+3) (zlf Q a0 nx)
theorem zyq (a0 a1:AV) (H:Heap) (nx:Nat) (Q:QT):zsy a0 a1 H nx Q→za Tryd.prog 47 [a0,a1] H nx Q :=
  zd (lv:=lvOf [(2,7,[0,7,8,9,10,19,20]),(2,10,[0,7,8,9,10,19,20])]) (c:=zn Tryd.f47) zw zx mixed Tryd.func47 (by kernel_rfl) (by kernel_rfl) (by kernel_rfl) (by kernel_rfl) (by kernel_rfl)
def zop (Q:QT) (K1:J3) (xs2:List AV) (H3:Heap) (nx4:Nat):Prop :=
 BI .geq (nth xs2 0) (nth xs2 1) fun v5 =>
 CND v5
 (BI .quo (nth xs2 0) (nth xs2 1) fun v6 =>
 BI .mul v6 (nth xs2 1) fun v7 =>
 BI .sub (nth xs2 0) v7 fun v8 =>
 K1 [v8,nth xs2 1] H3 nx4)
 (UO .neg (nth xs2 1) fun v9 =>
 BI .leq (nth xs2 0) v9 fun v10 =>
 CNDC v10
 (BI .quo (nth xs2 0) (nth xs2 1) fun v11 =>
 BI .mul v11 (nth xs2 1) fun v12 =>
 BI .sub (nth xs2 0) v12 fun v13 =>
 K1 [v13,nth xs2 1] H3 nx4)
 (Q (nth xs2 0) H3 nx4))
def zoo (a0:AV) (H:Heap) (nx:Nat) (Q:QT):Prop :=
 LP (zop Q) [a0,AV.int IntKind.i64 1073741825] H nx
theorem ztr (a0:AV) (H:Heap) (nx:Nat) (Q:QT):zoo a0 H nx Q→za Tryd.prog 73 [a0] H nx Q :=
  zd (lv:=lvOf [(2,2,[0,3])]) (c:=zn Tryd.f73) zw zx mixed Tryd.func73 (by kernel_rfl) (by kernel_rfl) (by kernel_rfl) (by kernel_rfl) (by kernel_rfl)
def zsm (nx:Nat) (Q:QT) (v1:AV) (H2:Heap) (nx3:Nat):Prop :=
 BD (zaa tab [(3,0),(3,1),(9,2)]) [.int .i64 0,.int .i64 0,.str []] [(1,v1)] fun v4 =>
 ST 3 (.ptr nx 0) v4 H2 fun H5 =>
 LD true 3 (.ptr nx 0) H5 fun v6 =>
 Q v6 H5 nx3
def zsl (a0:AV) (H:Heap) (nx:Nat) (Q:QT):Prop :=
 za Tryd.prog 73 [a0] (H.put nx (some (AObj.row 3 [AV.int IntKind.i64 0,AV.int IntKind.i64 0,AV.str []]))) (nx+1) (zsm nx Q)
theorem zxz (a0:AV) (H:Heap) (nx:Nat) (Q:QT):zsl a0 H nx Q→za Tryd.prog 67 [a0] H nx Q :=
  zd (lv:=lvOf []) (c:=zn Tryd.f67) zw zx mixed Tryd.func67 (by kernel_rfl) (by kernel_rfl) (by kernel_rfl) (by kernel_rfl) (by kernel_rfl)
def zqf (a0:AV) (H:Heap) (nx:Nat) (Q:QT):Prop :=
 LNS a0 fun v1 =>
 BI .gtr v1 (.int .i64 60) fun v2 =>
 CNDC v2
 (SLS a0 none (some (.int .i64 60)) fun v3 =>
 BD (zaa tab [(3,0),(3,1),(9,2)]) [.int .i64 0,.int .i64 0,.str []] [(0,.int .i64 1),(2,v3)] fun v4 =>
 ST 3 (.ptr nx 0) v4 (H.put nx (some (.row 3 [.int .i64 0,.int .i64 0,.str []]))) fun H5 =>
 LD true 3 (.ptr nx 0) H5 fun v6 =>
 Q v6 H5 (nx+1))
 (BD (zaa tab [(3,0),(3,1),(9,2)]) [.int .i64 0,.int .i64 0,.str []] [(0,.int .i64 1),(2,a0)] fun v7 =>
 ST 3 (.ptr nx 0) v7 (H.put nx (some (.row 3 [.int .i64 0,.int .i64 0,.str []]))) fun H8 =>
 LD true 3 (.ptr nx 0) H8 fun v9 =>
 Q v9 H8 (nx+1))
theorem zwo (a0:AV) (H:Heap) (nx:Nat) (Q:QT):zqf a0 H nx Q→za Tryd.prog 44 [a0] H nx Q :=
  zd (lv:=lvOf []) (c:=zn Tryd.f44) zw zx mixed Tryd.func44 (by kernel_rfl) (by kernel_rfl) (by kernel_rfl) (by kernel_rfl) (by kernel_rfl)
def zim (a0 a1:AV) (H:Heap) (nx:Nat) (Q:QT):Prop :=
 a0.sure=true ∧
 LD false 1 (.ptr nx 0) (H.put nx (some (.row a0.cells.length a0.cells))) fun v1 =>
 BI .eql v1 (.int .i64 0) fun v2 =>
 CNDC v2
 (LD false 1 (.ptr nx 1) (H.put nx (some (.row a0.cells.length a0.cells))) fun v3 =>
 BI .lss v3 (.int .i64 (-1073741824)) fun v4 =>
 CND v4
 (Q (.int .i64 3) (H.put nx (some (.row a0.cells.length a0.cells))) (nx+1))
 (LD false 1 (.ptr nx 1) (H.put nx (some (.row a0.cells.length a0.cells))) fun v5 =>
 BI .gtr v5 (.int .i64 1073741824) fun v6 =>
 CNDC v6
 (Q (.int .i64 3) (H.put nx (some (.row a0.cells.length a0.cells))) (nx+1))
 (LD false 1 (.ptr nx 2) (H.put nx (some (.row a0.cells.length a0.cells))) fun v7 =>
 BS .neq v7 (.str []) fun v8 =>
 CNDC v8
 (Q (.int .i64 2) (H.put nx (some (.row a0.cells.length a0.cells))) (nx+1))
 (Q (.int .i64 0) (H.put nx (some (.row a0.cells.length a0.cells))) (nx+1)))))
 (BI .eql v1 (.int .i64 1) fun v9 =>
 CNDC v9
 (LD false 1 (.ptr nx 2) (H.put nx (some (.row a0.cells.length a0.cells))) fun v10 =>
 LNS v10 fun v11 =>
 BI .gtr v11 (.int .i64 60) fun v12 =>
 CNDC v12
 (Q (.int .i64 4) (H.put nx (some (.row a0.cells.length a0.cells))) (nx+1))
 (LD false 1 (.ptr nx 1) (H.put nx (some (.row a0.cells.length a0.cells))) fun v13 =>
 BI .neq v13 (.int .i64 0) fun v14 =>
 CNDC v14
 (Q (.int .i64 2) (H.put nx (some (.row a0.cells.length a0.cells))) (nx+1))
 (Q (.int .i64 0) (H.put nx (some (.row a0.cells.length a0.cells))) (nx+1))))
 (BI .eql v1 (.int .i64 2) fun v15 =>
 CNDC v15
 (LD false 1 (.ptr nx 1) (H.put nx (some (.row a0.cells.length a0.cells))) fun v16 =>
 BI .lss v16 (.int .i64 0) fun v17 =>
 CND v17
 (Q (.int .i64 6) (H.put nx (some (.row a0.cells.length a0.cells))) (nx+1))
 (LD false 1 (.ptr nx 1) (H.put nx (some (.row a0.cells.length a0.cells))) fun v18 =>
 BI .geq v18 a1 fun v19 =>
 CNDC v19
 (Q (.int .i64 6) (H.put nx (some (.row a0.cells.length a0.cells))) (nx+1))
 (LD false 1 (.ptr nx 2) (H.put nx (some (.row a0.cells.length a0.cells))) fun v20 =>
 BS .neq v20 (.str []) fun v21 =>
 CNDC v21
 (Q (.int .i64 2) (H.put nx (some (.row a0.cells.length a0.cells))) (nx+1))
 (Q (.int .i64 0) (H.put nx (some (.row a0.cells.length a0.cells))) (nx+1)))))
 (Q (.int .i64 1) (H.put nx (some (.row a0.cells.length a0.cells))) (nx+1))))
theorem znt (a0 a1:AV) (H:Heap) (nx:Nat) (Q:QT):zim a0 a1 H nx Q→za Tryd.prog 21 [a0,a1] H nx Q :=
  zd (lv:=lvOf []) (c:=zn Tryd.f21) zw zx mixed Tryd.func21 (by kernel_rfl) (by kernel_rfl) (by kernel_rfl) (by kernel_rfl) (by kernel_rfl)
def zon (a0:AV) (H:Heap) (nx:Nat) (Q:QT):Prop :=
 zai (AK.bool) (.bool true)=true ∧
 MU (.amap (nx+1)) (.bool true) (.int .i64 1) ((H.put nx (some (.row 3 [.int .i64 0,.int .i64 0,.str []]))).put ((nx+1)) (some (.mp []))) fun H1 =>
 zai (AK.bool) (.bool false)=true ∧
 MU (.amap (nx+1)) (.bool false) (.int .i64 0) H1 fun H2 =>
 zai (AK.bool) a0=true ∧
 LK [.int .i64 0] false (.amap (nx+1)) a0 false H2 fun v3 =>
 BD (zaa tab [(3,0),(3,1),(9,2)]) [.int .i64 0,.int .i64 0,.str []] [(1,v3)] fun v4 =>
 ST 3 (.ptr nx 0) v4 H2 fun H5 =>
 LD true 3 (.ptr nx 0) H5 fun v6 =>
 Q (.tup [v6,.int .i64 0]) H5 (nx+2)
theorem ztq (a0:AV) (H:Heap) (nx:Nat) (Q:QT):zon a0 H nx Q→za Tryd.prog 66 [a0] H nx Q :=
  zd (lv:=lvOf []) (c:=zn Tryd.f66) zw zx mixed Tryd.func66 (by kernel_rfl) (by kernel_rfl) (by kernel_rfl) (by kernel_rfl) (by kernel_rfl)
def zsk (xs1:List AV) (Q:QT) (v23:AV) (H24:Heap) (nx25:Nat):Prop :=
 EX v23 0 fun v26 =>
 EX v23 1 fun v27 =>
 ST 3 (nth xs1 3) v26 H24 fun H28 =>
 LD true 3 (nth xs1 3) H28 fun v29 =>
 Q (.tup [v29,v27]) H28 nx25
def zsj (xs1:List AV) (Q:QT) (v30:AV) (H31:Heap) (nx32:Nat):Prop :=
 EX v30 0 fun v33 =>
 EX v30 1 fun v34 =>
 ST 3 (nth xs1 3) v33 H31 fun H35 =>
 LD true 3 (nth xs1 3) H35 fun v36 =>
 Q (.tup [v36,v34]) H35 nx32
def zsi (xs1:List AV) (Q:QT) (v37:AV) (H38:Heap) (nx39:Nat):Prop :=
 EX v37 0 fun v40 =>
 EX v37 1 fun v41 =>
 ST 3 (nth xs1 3) v40 H38 fun H42 =>
 LD true 3 (nth xs1 3) H42 fun v43 =>
 Q (.tup [v43,v41]) H42 nx39
def zsh (xs44:List AV) (Q:QT) (v67:AV) (H68:Heap) (nx69:Nat):Prop :=
 ST 3 (nth xs44 3) v67 H68 fun H70 =>
 LD true 3 (nth xs44 3) H70 fun v71 =>
 Q (.tup [v71,.int .i64 0]) H70 nx69
def zsg (xs44:List AV) (Q:QT) (v78:AV) (H79:Heap) (nx80:Nat):Prop :=
 ST 3 (nth xs44 3) v78 H79 fun H81 =>
 LD true 3 (nth xs44 3) H81 fun v82 =>
 Q (.tup [v82,.int .i64 0]) H81 nx80
def zsf (xs44:List AV) (Q:QT) (v89:AV) (H90:Heap) (nx91:Nat):Prop :=
 ST 3 (nth xs44 3) v89 H90 fun H92 =>
 LD true 3 (nth xs44 3) H92 fun v93 =>
 Q (.tup [v93,.int .i64 0]) H92 nx91
def zse (xs44:List AV) (Q:QT) (v99:AV) (H100:Heap) (nx101:Nat):Prop :=
 EX v99 0 fun v102 =>
 EX v99 1 fun v103 =>
 ST 3 (nth xs44 3) v102 H100 fun H104 =>
 LD true 3 (nth xs44 3) H104 fun v105 =>
 Q (.tup [v105,v103]) H104 nx101
def zsd (xs1:List AV) (Q:QT) (v118:AV) (H119:Heap) (nx120:Nat):Prop :=
 ST 3 (nth xs1 3) v118 H119 fun H121 =>
 LD true 3 (nth xs1 3) H121 fun v122 =>
 Q (.tup [v122,.int .i64 0]) H121 nx120
def zsc (xs1:List AV) (Q:QT) (v129:AV) (H130:Heap) (nx131:Nat):Prop :=
 EX v129 0 fun v132 =>
 EX v129 1 fun v133 =>
 ST 3 (nth xs1 3) v132 H130 fun H134 =>
 LD true 3 (nth xs1 3) H134 fun v135 =>
 Q (.tup [v135,v133]) H134 nx131
def zev (Q:QT) (xs44:List AV) (H45:Heap) (nx46:Nat):Prop :=
 FA 0 (nth xs44 1) fun v48 =>
 LD false 1 v48 H45 fun v49 =>
 FA 0 (nth xs44 2) fun v50 =>
 LD false 1 v50 H45 fun v51 =>
 BI .add v49 v51 fun v52 =>
 BI .neq v52 (.int .i64 0) fun v53 =>
 CND v53
 (ST 3 (nth xs44 3) (.agg [.int .i64 0,.int .i64 0,.str []]) H45 fun H54 =>
 LD true 3 (nth xs44 3) H54 fun v55 =>
 Q (.tup [v55,.int .i64 11]) H54 nx46)
 (FA 0 (nth xs44 1) fun v56 =>
 LD false 1 v56 H45 fun v57 =>
 BI .neq v57 (.int .i64 0) fun v58 =>
 CNDC v58
 (ST 3 (nth xs44 3) (.agg [.int .i64 0,.int .i64 0,.str []]) H45 fun H59 =>
 LD true 3 (nth xs44 3) H59 fun v60 =>
 Q (.tup [v60,.int .i64 11]) H59 nx46)
 (BI .eql (nth xs44 0) (.int .i64 1) fun v61 =>
 CNDC v61
 (FA 1 (nth xs44 1) fun v62 =>
 LD false 1 v62 H45 fun v63 =>
 FA 1 (nth xs44 2) fun v64 =>
 LD false 1 v64 H45 fun v65 =>
 BI .add v63 v65 fun v66 =>
 za Tryd.prog 67 [v66] H45 nx46 (zsh xs44 Q))
 (BI .eql (nth xs44 0) (.int .i64 2) fun v72 =>
 CNDC v72
 (FA 1 (nth xs44 1) fun v73 =>
 LD false 1 v73 H45 fun v74 =>
 FA 1 (nth xs44 2) fun v75 =>
 LD false 1 v75 H45 fun v76 =>
 BI .sub v74 v76 fun v77 =>
 za Tryd.prog 67 [v77] H45 nx46 (zsg xs44 Q))
 (BI .eql (nth xs44 0) (.int .i64 3) fun v83 =>
 CNDC v83
 (FA 1 (nth xs44 1) fun v84 =>
 LD false 1 v84 H45 fun v85 =>
 FA 1 (nth xs44 2) fun v86 =>
 LD false 1 v86 H45 fun v87 =>
 BI .mul v85 v87 fun v88 =>
 za Tryd.prog 67 [v88] H45 nx46 (zsf xs44 Q))
 (FA 1 (nth xs44 1) fun v94 =>
 LD false 1 v94 H45 fun v95 =>
 FA 1 (nth xs44 2) fun v96 =>
 LD false 1 v96 H45 fun v97 =>
 BI .lss v95 v97 fun v98 =>
 CALL Tryd.prog (nth xs44 4) [v98] H45 nx46 (zse xs44 Q))))))
def zhe (xs1:List AV) (H2:Heap) (nx3:Nat) (Q:QT) (j47:J3):Prop :=
 FA 0 (nth xs1 1) fun v106 =>
 LD false 1 v106 H2 fun v107 =>
 BI .eql v107 (.int .i64 1) fun v108 =>
 CND v108
 (FA 0 (nth xs1 2) fun v109 =>
 LD false 1 v109 H2 fun v110 =>
 BI .eql v110 (.int .i64 1) fun v111 =>
 CNDC v111
 (BI .eql (nth xs1 0) (.int .i64 1) fun v112 =>
 CNDC v112
 (FA 2 (nth xs1 1) fun v113 =>
 LD false 1 v113 H2 fun v114 =>
 FA 2 (nth xs1 2) fun v115 =>
 LD false 1 v115 H2 fun v116 =>
 BS .add v114 v116 fun v117 =>
 za Tryd.prog 44 [v117] H2 nx3 (zsd xs1 Q))
 (BI .eql (nth xs1 0) (.int .i64 4) fun v123 =>
 CNDC v123
 (FA 2 (nth xs1 1) fun v124 =>
 LD false 1 v124 H2 fun v125 =>
 FA 2 (nth xs1 2) fun v126 =>
 LD false 1 v126 H2 fun v127 =>
 BS .lss v125 v127 fun v128 =>
 CALL Tryd.prog (nth xs1 4) [v128] H2 nx3 (zsc xs1 Q))
 (j47 [nth xs1 0,nth xs1 1,nth xs1 2,nth xs1 3,nth xs1 4] H2 nx3)))
 (j47 [nth xs1 0,nth xs1 1,nth xs1 2,nth xs1 3,nth xs1 4] H2 nx3))
 (j47 [nth xs1 0,nth xs1 1,nth xs1 2,nth xs1 3,nth xs1 4] H2 nx3)
def zhc (Q:QT) (xs1:List AV) (H2:Heap) (nx3:Nat):Prop :=
 CNDC (nth xs1 5)
 (ST 3 (nth xs1 3) (.agg [.int .i64 0,.int .i64 0,.str []]) H2 fun H5 =>
 LD true 3 (nth xs1 3) H5 fun v6 =>
 Q (.tup [v6,.int .i64 1]) H5 nx3)
 (BI .eql (nth xs1 0) (.int .i64 5) fun v7 =>
 CNDC v7
 (FA 0 (nth xs1 1) fun v8 =>
 LD false 1 v8 H2 fun v9 =>
 FA 0 (nth xs1 2) fun v10 =>
 LD false 1 v10 H2 fun v11 =>
 BI .eql v9 v11 fun v12 =>
 CND v12
 (FA 1 (nth xs1 1) fun v13 =>
 LD false 1 v13 H2 fun v14 =>
 FA 1 (nth xs1 2) fun v15 =>
 LD false 1 v15 H2 fun v16 =>
 BI .eql v14 v16 fun v17 =>
 CND v17
 (FA 2 (nth xs1 1) fun v18 =>
 LD false 1 v18 H2 fun v19 =>
 FA 2 (nth xs1 2) fun v20 =>
 LD false 1 v20 H2 fun v21 =>
 BS .eql v19 v21 fun v22 =>
 CALL Tryd.prog (nth xs1 4) [v22] H2 nx3 (zsk xs1 Q))
 (CALL Tryd.prog (nth xs1 4) [.bool false] H2 nx3 (zsj xs1 Q)))
 (CALL Tryd.prog (nth xs1 4) [.bool false] H2 nx3 (zsi xs1 Q)))
 (JN (zev Q) (zhe xs1 H2 nx3 Q)))
def zhd (a0:AV) (nx:Nat) (H:Heap) (a1:AV) (a2:AV) (j4:J3):Prop :=
 BI .lss a0 (.int .i64 1) fun v136 =>
 CND v136
 (j4 [a0,.ptr nx 0,.ptr (nx+1) 0,.ptr (nx+2) 0,.clo 66 [],.bool true] (((H.put nx (some (.row a1.cells.length a1.cells))).put ((nx+1)) (some (.row a2.cells.length a2.cells))).put ((nx+2)) (some (.row 3 [.int .i64 0,.int .i64 0,.str []]))) (nx+3))
 (BI .gtr a0 (.int .i64 5) fun v137 =>
 j4 [a0,.ptr nx 0,.ptr (nx+1) 0,.ptr (nx+2) 0,.clo 66 [],v137] (((H.put nx (some (.row a1.cells.length a1.cells))).put ((nx+1)) (some (.row a2.cells.length a2.cells))).put ((nx+2)) (some (.row 3 [.int .i64 0,.int .i64 0,.str []]))) (nx+3))
def zhb (a0 a1 a2:AV) (H:Heap) (nx:Nat) (Q:QT):Prop :=
 a1.sure=true ∧
 a2.sure=true ∧
 JN (zhc Q) (zhd a0 nx H a1 a2)
theorem zxy (a0 a1 a2:AV) (H:Heap) (nx:Nat) (Q:QT):zhb a0 a1 a2 H nx Q→za Tryd.prog 45 [a0,a1,a2] H nx Q :=
  zd (lv:=lvOf [(0,2,[0,4,5,6,8,14]),(3,12,[0,4,5,6,8])]) (c:=zn Tryd.f45) zw zx mixed Tryd.func45 (by kernel_rfl) (by kernel_rfl) (by kernel_rfl) (by kernel_rfl) (by kernel_rfl)
def zqi (Q:QT) (v4:AV) (H5:Heap) (nx6:Nat):Prop :=
 Q v4 H5 nx6
def zqh (v28:AV) (D26:zq) (rd30:List Nat) (Q:QT) (H19:Heap) (nx:Nat) (fr25:List Nat) (v32:AV) (_:List Nat) (fr34:List Nat) (D35:zq):Prop :=
 BS .add v28 v32 fun v36 =>
 BS .add v36 (.str [41]) fun v37 =>
 zb (domD D26) [] (
 zb (domD D26) [] (
 zb (domD D26) [] (
 zb (domD D26) [] (
 zb (domD D26) rd30 (
 zb (domD D26) [] (
 zb (domD D26) [] (
 zb (domD D26) [] (
 zb (domD D26) [] (
 zb (domD D26) [] (
 zb (domD D35) [] (
 zb (domD D35) [] (
 Q v37 ((H19.apply D26).apply D35) (((nx+2)+fr25.length)+fr34.length)))))))))))))
def zqg (nx:Nat) (H19:Heap) (a2:AV) (a0:AV) (Q:QT) (v23:AV) (_:List Nat) (fr25:List Nat) (D26:zq):Prop :=
 BS .add (.str [40]) v23 fun v27 =>
 BS .add v27 (.str [32]) fun v28 =>
 LDR true 3 (.ptr (nx+1) 3) (H19.apply D26) fun v29 rd30 =>
 BI .sub a2 (.int .i64 1) fun v31 =>
 zo Tryd.prog (.clo 46 []) [a0,v29,v31] (H19.apply D26) ((nx+2)+fr25.length) (zqh v28 D26 rd30 Q H19 nx fr25)
def zdy (a0 a1 a2:AV) (H:Heap) (nx:Nat) (Q:QT):Prop :=
 a1.sure=true ∧
 LD false 1 (.ptr nx 0) (H.put nx (some (.row a1.cells.length a1.cells))) fun v1 =>
 BI .eql v1 (.int .i64 0) fun v2 =>
 CNDC v2
 (LD false 1 (.ptr nx 1) (H.put nx (some (.row a1.cells.length a1.cells))) fun v3 =>
 za Tryd.prog 68 [v3] (H.put nx (some (.row a1.cells.length a1.cells))) (nx+1) (zqi Q))
 (LD false 1 (.ptr nx 0) (H.put nx (some (.row a1.cells.length a1.cells))) fun v7 =>
 BI .eql v7 (.int .i64 1) fun v8 =>
 CNDC v8
 (LD false 1 (.ptr nx 2) (H.put nx (some (.row a1.cells.length a1.cells))) fun v9 =>
 Q v9 (H.put nx (some (.row a1.cells.length a1.cells))) (nx+1))
 (BI .lss a2 (.int .i64 1) fun v10 =>
 CND v10
 (Q (.str [46,46]) (H.put nx (some (.row a1.cells.length a1.cells))) (nx+1))
 (LD false 1 (.ptr nx 1) (H.put nx (some (.row a1.cells.length a1.cells))) fun v11 =>
 BI .lss v11 (.int .i64 0) fun v12 =>
 CND v12
 (Q (.str [46,46]) (H.put nx (some (.row a1.cells.length a1.cells))) (nx+1))
 (LD false 1 (.ptr nx 1) (H.put nx (some (.row a1.cells.length a1.cells))) fun v13 =>
 LNL a0 fun v14 =>
 BI .geq v13 v14 fun v15 =>
 CNDC v15
 (Q (.str [46,46]) (H.put nx (some (.row a1.cells.length a1.cells))) (nx+1))
 (LD false 1 (.ptr nx 1) (H.put nx (some (.row a1.cells.length a1.cells))) fun v16 =>
 IA 6 a0 v16 fun v17 =>
 LD true 6 v17 (H.put nx (some (.row a1.cells.length a1.cells))) fun v18 =>
 ST 6 (.ptr (nx+1) 0) v18 ((H.put nx (some (.row a1.cells.length a1.cells))).put ((nx+1)) (some (.row 6 [.int .i64 0,.int .i64 0,.str [],.int .i64 0,.int .i64 0,.str []]))) fun H19 =>
 LDR true 3 (.ptr (nx+1) 0) H19 fun v20 _ =>
 BI .sub a2 (.int .i64 1) fun v22 =>
 zo Tryd.prog (.clo 46 []) [a0,v20,v22] H19 (nx+2) (zqg nx H19 a2 a0 Q))))))
theorem zwp (a0 a1 a2:AV) (H:Heap) (nx:Nat) (Q:QT):zdy a0 a1 a2 H nx Q→za Tryd.prog 46 [a0,a1,a2] H nx Q :=
  zd (lv:=lvOf []) (c:=zn Tryd.f46) zw zx mixed Tryd.func46 (by kernel_rfl) (by kernel_rfl) (by kernel_rfl) (by kernel_rfl) (by kernel_rfl)
def zov (xs29:List AV) (K28:J3) (_:AV) (H51:Heap) (nx52:Nat):Prop :=
 BI .add (nth xs29 5) (.int .i64 1) fun v53 =>
 K28 [nth xs29 0,nth xs29 1,nth xs29 2,nth xs29 3,nth xs29 4,v53,nth xs29 6,nth xs29 7,nth xs29 8] H51 nx52
def zou (xs29:List AV) (K28:J3) (_:AV) (H42:Heap) (nx43:Nat):Prop :=
 LD false 1 (nth xs29 3) H42 fun v44 =>
 IA 1 v44 (nth xs29 5) fun v45 =>
 LD false 1 v45 H42 fun v46 =>
 IA 6 (nth xs29 0) v46 fun v47 =>
 FA 3 v47 fun v48 =>
 LD true 3 v48 H42 fun v49 =>
 CALL Tryd.prog (nth xs29 4) [v49] H42 nx43 (zov xs29 K28)
def zdk (K16:J3) (K28:J3) (xs29:List AV) (H30:Heap) (nx31:Nat):Prop :=
 LD false 1 (nth xs29 3) H30 fun v32 =>
 LNL v32 fun v33 =>
 BI .lss (nth xs29 5) v33 fun v34 =>
 CNDC v34
 (LD false 1 (nth xs29 3) H30 fun v35 =>
 IA 1 v35 (nth xs29 5) fun v36 =>
 LD false 1 v36 H30 fun v37 =>
 IA 6 (nth xs29 0) v37 fun v38 =>
 FA 0 v38 fun v39 =>
 LD true 3 v39 H30 fun v40 =>
 CALL Tryd.prog (nth xs29 4) [v40] H30 nx31 (zou xs29 K28))
 (BI .add (nth xs29 8) (.int .i64 1) fun v54 =>
 K16 [nth xs29 0,nth xs29 1,nth xs29 2,nth xs29 3,nth xs29 4,nth xs29 5,nth xs29 6,nth xs29 7,v54] H30 nx31)
def zot (K16:J3) (xs17:List AV) (v25:AV) (H26:Heap) (nx27:Nat):Prop :=
 LP (zdk K16) [nth xs17 0,nth xs17 1,nth xs17 2,nth xs17 3,nth xs17 4,nth xs17 5,nth xs17 6,nth xs17 7,nth xs17 8] H26 nx27
def zos (xs57:List AV) (K56:J3) (v65:AV) (H66:Heap) (nx67:Nat):Prop :=
 BSL 1 3 [.int .i64 0,.int .i64 0,.str []] [(0,v65)] fun cells68 =>
 APP 3 32 (nth xs57 3) (.slc nx67 0 1) (H66.put nx67 (some (.row 3 cells68))) (nx67+1) fun v69 H70 nx71 =>
 BI .add (nth xs57 6) (.int .i64 1) fun v72 =>
 K56 [nth xs57 0,nth xs57 1,nth xs57 2,v69,nth xs57 4,nth xs57 5,v72] H70 nx71
def zor (v86:AV) (xs76:List AV) (nx78:Nat) (fr88:List Nat) (H77:Heap) (D89:zq) (rd93:List Nat) (K75:J3) (v94:AV) (_:List Nat) (fr96:List Nat) (D97:zq):Prop :=
 BD (zaa tab [(55,0),(55,3)]) [.int .i64 0,.int .i64 0,.str [],.int .i64 0,.int .i64 0,.str []] [(0,v86),(1,v94)] fun v98 =>
 BSL 1 6 [.int .i64 0,.int .i64 0,.str [],.int .i64 0,.int .i64 0,.str []] [(0,v98)] fun cells99 =>
 zam 6 64 (nth xs76 3) (.slc ((nx78+fr88.length)+fr96.length) 0 1) (((H77.apply D89).apply D97).put (((nx78+fr88.length)+fr96.length)) (some (.row 6 cells99))) (((nx78+fr88.length)+fr96.length)+1) fun v100 _ fr102 D103 =>
 zb (domD D89) [] (
 zb (domD D89) [] (
 zb (domD D89) [] (
 zb (domD D89) [] (
 zb (domD D89) [] (
 zb (domD D89) [] (
 zb (domD D89) [] (
 zb (domD D89) [] (
 zb (domD D89) [] (
 zb (domD D89) [] (
 zb (domD D89) [] (
 zb (domD D89) rd93 (
 zb (domD D89) [] (
 zb (domD D97) [] (
 ((nx78+fr88.length)+fr96.length)∉[] ∧
 BI .add (nth xs76 6) (.int .i64 1) fun v104 =>
 K75 [nth xs76 0,nth xs76 1,nth xs76 2,v100,nth xs76 4,nth xs76 5,v104] ((((H77.apply D89).apply D97).put (((nx78+fr88.length)+fr96.length)) (some (.row 6 cells99))).apply D103) ((((nx78+fr88.length)+fr96.length)+1)+fr102.length)))))))))))))))
def zoq (xs76:List AV) (v81:AV) (H77:Heap) (nx78:Nat) (K75:J3) (v86:AV) (_:List Nat) (fr88:List Nat) (D89:zq):Prop :=
 IA 6 (nth xs76 0) v81 fun v90 =>
 FA 3 v90 fun v91 =>
 LDR true 3 v91 (H77.apply D89) fun v92 rd93 =>
 zo Tryd.prog (nth xs76 1) [v92] (H77.apply D89) (nx78+fr88.length) (zor v86 xs76 nx78 fr88 H77 D89 rd93 K75)
def zdj (Q:QT) (K75:J3) (xs76:List AV) (H77:Heap) (nx78:Nat):Prop :=
 BI .lss (nth xs76 6) (nth xs76 5) fun v79 =>
 CNDC v79
 (IA 1 (nth xs76 4) (nth xs76 6) fun v80 =>
 LD false 1 v80 H77 fun v81 =>
 IA 6 (nth xs76 0) v81 fun v82 =>
 FA 0 v82 fun v83 =>
 LDR true 3 v83 H77 fun v84 _ =>
 zo Tryd.prog (nth xs76 1) [v84] H77 nx78 (zoq xs76 v81 H77 nx78 K75))
 (Q (.tup [nth xs76 2,nth xs76 3]) H77 nx78)
def zdi (Q:QT) (K56:J3) (xs57:List AV) (H58:Heap) (nx59:Nat):Prop :=
 BI .lss (nth xs57 6) (nth xs57 5) fun v60 =>
 CNDC v60
 (IA 3 (nth xs57 4) (nth xs57 6) fun v61 =>
 LD true 3 v61 H58 fun v62 =>
 ST 3 (.ptr nx59 0) v62 (H58.put nx59 (some (.row 3 [.int .i64 0,.int .i64 0,.str []]))) fun H63 =>
 LD true 3 (.ptr nx59 0) H63 fun v64 =>
 CALL Tryd.prog (nth xs57 2) [v64] H63 (nx59+1) (zos xs57 K56))
 (LD false 1 (nth xs57 1) H58 fun v73 =>
 LNL v73 fun v74 =>
 LP (zdj Q) [nth xs57 0,nth xs57 2,nth xs57 3,.nils,v73,v74,.int .i64 0] H58 nx59)
def zdh (Q:QT) (K16:J3) (xs17:List AV) (H18:Heap) (nx19:Nat):Prop :=
 BI .lss (nth xs17 8) (nth xs17 7) fun v20 =>
 CNDC v20
 (IA 3 (nth xs17 6) (nth xs17 8) fun v21 =>
 LD true 3 v21 H18 fun v22 =>
 ST 3 (.ptr nx19 0) v22 (H18.put nx19 (some (.row 3 [.int .i64 0,.int .i64 0,.str []]))) fun H23 =>
 LD true 3 (.ptr nx19 0) H23 fun v24 =>
 CALL Tryd.prog (nth xs17 4) [v24] H23 (nx19+1) (zot K16 xs17))
 (LNL (nth xs17 1) fun v55 =>
 LP (zdi Q) [nth xs17 0,nth xs17 3,.clo 71 [nth xs17 2],.nils,nth xs17 1,v55,.int .i64 0] H18 nx19)
def zio (Q:QT) (K6:J3) (xs7:List AV) (H8:Heap) (nx9:Nat):Prop :=
 BI .lss (nth xs7 4) (nth xs7 3) fun v10 =>
 CNDC v10
 (LD false 1 (nth xs7 2) H8 fun v11 =>
 IA 1 v11 (nth xs7 4) fun v12 =>
 ST 1 v12 (.int .i64 (-1)) H8 fun H13 =>
 BI .add (nth xs7 4) (.int .i64 1) fun v14 =>
 K6 [nth xs7 0,nth xs7 1,nth xs7 2,nth xs7 3,v14] H13 nx9)
 (LNL (nth xs7 1) fun v15 =>
 LP (zdh Q) [nth xs7 0,nth xs7 1,nth xs7 2,.ptr nx9 0,.clo 70 [nth xs7 2,.ptr nx9 0],.int .i64 0,nth xs7 1,v15,.int .i64 0] (H8.put nx9 (some (.row 1 [.nils]))) (nx9+1))
def zin (a0 a1:AV) (H:Heap) (nx:Nat) (Q:QT):Prop :=
 LNL a0 fun v1 =>
 MK 8 v1 v1 fun n2 =>
 ST 1 (.ptr (nx+1) 0) (.slc nx 0 n2) ((H.put nx (some (.row 1 (List.replicate n2 [.int .i64 0]).flatten))).put ((nx+1)) (some (.row 1 [.nils]))) fun H3 =>
 LD false 1 (.ptr (nx+1) 0) H3 fun v4 =>
 LNL v4 fun v5 =>
 LP (zio Q) [a0,a1,.ptr (nx+1) 0,v5,.int .i64 0] H3 (nx+2)
theorem zts (a0 a1:AV) (H:Heap) (nx:Nat) (Q:QT):zin a0 a1 H nx Q→za Tryd.prog 48 [a0,a1] H nx Q :=
  zd (lv:=lvOf [(2,3,[0,1,6,24,25]),(2,11,[0,1,6,8,9,10,33,34,35]),(2,14,[0,1,6,8,9,10,33,34,35]),(2,22,[0,8,13,14,70,71,72]),(2,28,[0,13,14,17,83,84,85])]) (c:=zn Tryd.f48) zw zx mixed Tryd.func48 (by kernel_rfl) (by kernel_rfl) (by kernel_rfl) (by kernel_rfl) (by kernel_rfl)
def zep (Q:QT) (K5:J3) (xs6:List AV) (H7:Heap) (nx8:Nat):Prop :=
 BI .lss (nth xs6 3) (nth xs6 2) fun v9 =>
 CNDC v9
 (IA 3 (nth xs6 0) (nth xs6 3) fun v10 =>
 LDR true 3 v10 H7 fun v11 _ =>
 IA 3 (nth xs6 1) (nth xs6 3) fun v13 =>
 LDR true 3 v13 H7 fun v14 _ =>
 gd (eqsT 55) (
 BA [.int .i64 0,.int .i64 0,.str []] .neq v11 v14 fun v16 =>
 CNDC v16
 (Q (.bool false) H7 nx8)
 (BI .add (nth xs6 3) (.int .i64 1) fun v17 =>
 K5 [nth xs6 0,nth xs6 1,nth xs6 2,v17] H7 nx8)))
 (Q (.bool true) H7 nx8)
def zeo (a0 a1:AV) (H:Heap) (nx:Nat) (Q:QT):Prop :=
 LNL a0 fun v1 =>
 LNL a1 fun v2 =>
 BI .neq v1 v2 fun v3 =>
 CNDC v3
 (Q (.bool false) H nx)
 (LNL a0 fun v4 =>
 LP (zep Q) [a0,a1,v4,.int .i64 0] H nx)
theorem znu (a0 a1:AV) (H:Heap) (nx:Nat) (Q:QT):zeo a0 a1 H nx Q→za Tryd.prog 36 [a0,a1] H nx Q :=
  zd (lv:=lvOf [(2,4,[0,1,12,13])]) (c:=zn Tryd.f36) zw zx mixed Tryd.func36 (by kernel_rfl) (by kernel_rfl) (by kernel_rfl) (by kernel_rfl) (by kernel_rfl)
def zff (Q:QT) (K5:J3) (xs6:List AV) (H7:Heap) (nx8:Nat):Prop :=
 BI .lss (nth xs6 3) (nth xs6 2) fun v9 =>
 CNDC v9
 (IA 6 (nth xs6 0) (nth xs6 3) fun v10 =>
 LDR true 6 v10 H7 fun v11 _ =>
 IA 6 (nth xs6 1) (nth xs6 3) fun v13 =>
 LDR true 6 v13 H7 fun v14 _ =>
 gd (eqsT 82) (
 BA [.int .i64 0,.int .i64 0,.str [],.int .i64 0,.int .i64 0,.str []] .neq v11 v14 fun v16 =>
 CNDC v16
 (Q (.bool false) H7 nx8)
 (BI .add (nth xs6 3) (.int .i64 1) fun v17 =>
 K5 [nth xs6 0,nth xs6 1,nth xs6 2,v17] H7 nx8)))
 (Q (.bool true) H7 nx8)
def zfe (a0 a1:AV) (H:Heap) (nx:Nat) (Q:QT):Prop :=
 LNL a0 fun v1 =>
 LNL a1 fun v2 =>
 BI .neq v1 v2 fun v3 =>
 CNDC v3
 (Q (.bool false) H nx)
 (LNL a0 fun v4 =>
 LP (zff Q) [a0,a1,v4,.int .i64 0] H nx)
theorem zpo (a0 a1:AV) (H:Heap) (nx:Nat) (Q:QT):zfe a0 a1 H nx Q→za Tryd.prog 35 [a0,a1] H nx Q :=
  zd (lv:=lvOf [(2,4,[0,1,12,13])]) (c:=zn Tryd.f35) zw zx mixed Tryd.func35 (by kernel_rfl) (by kernel_rfl) (by kernel_rfl) (by kernel_rfl) (by kernel_rfl)
def zdp (a0 a1 a2:AV) (H:Heap) (nx:Nat) (Q:QT):Prop :=
 a0.sure=true ∧
 LD false 1 (.ptr nx 0) ((H.put nx (some (.row a0.cells.length a0.cells))).put ((nx+1)) (some (.row 3 [.int .i64 0,.int .i64 0,.str []]))) fun v1 =>
 BI .neq v1 (.int .i64 2) fun v2 =>
 CNDC v2
 (LD true 3 (.ptr nx 0) ((H.put nx (some (.row a0.cells.length a0.cells))).put ((nx+1)) (some (.row 3 [.int .i64 0,.int .i64 0,.str []]))) fun v3 =>
 ST 3 (.ptr (nx+1) 0) v3 ((H.put nx (some (.row a0.cells.length a0.cells))).put ((nx+1)) (some (.row 3 [.int .i64 0,.int .i64 0,.str []]))) fun H4 =>
 LD true 3 (.ptr (nx+1) 0) H4 fun v5 =>
 Q v5 H4 (nx+2))
 (LD false 1 a1 ((H.put nx (some (.row a0.cells.length a0.cells))).put ((nx+1)) (some (.row 3 [.int .i64 0,.int .i64 0,.str []]))) fun v6 =>
 LD false 1 (.ptr nx 1) ((H.put nx (some (.row a0.cells.length a0.cells))).put ((nx+1)) (some (.row 3 [.int .i64 0,.int .i64 0,.str []]))) fun v7 =>
 zai (AK.int .i64) v7=true ∧
 LK [.int .i64 0] false v6 v7 true ((H.put nx (some (.row a0.cells.length a0.cells))).put ((nx+1)) (some (.row 3 [.int .i64 0,.int .i64 0,.str []]))) fun v8 =>
 EX v8 0 fun v9 =>
 EX v8 1 fun v10 =>
 UO .not v10 fun v11 =>
 CNDC v11
 (LD false 1 a2 ((H.put nx (some (.row a0.cells.length a0.cells))).put ((nx+1)) (some (.row 3 [.int .i64 0,.int .i64 0,.str []]))) fun v12 =>
 LNL v12 fun v13 =>
 LD false 1 a1 ((H.put nx (some (.row a0.cells.length a0.cells))).put ((nx+1)) (some (.row 3 [.int .i64 0,.int .i64 0,.str []]))) fun v14 =>
 LD false 1 (.ptr nx 1) ((H.put nx (some (.row a0.cells.length a0.cells))).put ((nx+1)) (some (.row 3 [.int .i64 0,.int .i64 0,.str []]))) fun v15 =>
 zai (AK.int .i64) v15=true ∧
 MU v14 v15 v13 ((H.put nx (some (.row a0.cells.length a0.cells))).put ((nx+1)) (some (.row 3 [.int .i64 0,.int .i64 0,.str []]))) fun H16 =>
 LD false 1 a2 H16 fun v17 =>
 LD false 1 (.ptr nx 1) H16 fun v18 =>
 BSL 1 1 [.int .i64 0] [(0,v18)] fun cells19 =>
 APP 1 8 v17 (.slc (nx+2) 0 1) (H16.put ((nx+2)) (some (.row 1 cells19))) (nx+3) fun v20 H21 nx22 =>
 ST 1 a2 v20 H21 fun H23 =>
 ST 1 (.ptr nx 1) v13 H23 fun H24 =>
 LD true 3 (.ptr nx 0) H24 fun v25 =>
 ST 3 (.ptr (nx+1) 0) v25 H24 fun H26 =>
 LD true 3 (.ptr (nx+1) 0) H26 fun v27 =>
 Q v27 H26 nx22)
 (ST 1 (.ptr nx 1) v9 ((H.put nx (some (.row a0.cells.length a0.cells))).put ((nx+1)) (some (.row 3 [.int .i64 0,.int .i64 0,.str []]))) fun H28 =>
 LD true 3 (.ptr nx 0) H28 fun v29 =>
 ST 3 (.ptr (nx+1) 0) v29 H28 fun H30 =>
 LD true 3 (.ptr (nx+1) 0) H30 fun v31 =>
 Q v31 H30 (nx+2)))
theorem zvf (a0 a1 a2:AV) (H:Heap) (nx:Nat) (Q:QT):zdp a0 a1 a2 H nx Q→za Tryd.prog 69 [a0,a1,a2] H nx Q :=
  zd (lv:=lvOf []) (c:=zn Tryd.f69) zw zx mixed Tryd.func69 (by kernel_rfl) (by kernel_rfl) (by kernel_rfl) (by kernel_rfl) (by kernel_rfl)
def zcl (a0 a1 a2:AV) (H:Heap) (nx:Nat) (Q:QT):Prop :=
 a0.sure=true ∧
 LD false 1 (.ptr nx 0) (H.put nx (some (.row a0.cells.length a0.cells))) fun v1 =>
 BI .eql v1 (.int .i64 2) fun v2 =>
 CND v2
 (LD false 1 a1 (H.put nx (some (.row a0.cells.length a0.cells))) fun v3 =>
 LD false 1 (.ptr nx 1) (H.put nx (some (.row a0.cells.length a0.cells))) fun v4 =>
 IA 1 v3 v4 fun v5 =>
 LD false 1 v5 (H.put nx (some (.row a0.cells.length a0.cells))) fun v6 =>
 BI .lss v6 (.int .i64 0) fun v7 =>
 CNDC v7
 (LD false 1 a1 (H.put nx (some (.row a0.cells.length a0.cells))) fun v8 =>
 LD false 1 (.ptr nx 1) (H.put nx (some (.row a0.cells.length a0.cells))) fun v9 =>
 LD false 1 a2 (H.put nx (some (.row a0.cells.length a0.cells))) fun v10 =>
 LNL v10 fun v11 =>
 IA 1 v8 v9 fun v12 =>
 ST 1 v12 v11 (H.put nx (some (.row a0.cells.length a0.cells))) fun H13 =>
 LD false 1 a2 H13 fun v14 =>
 LD false 1 (.ptr nx 1) H13 fun v15 =>
 BSL 1 1 [.int .i64 0] [(0,v15)] fun cells16 =>
 APP 1 8 v14 (.slc (nx+1) 0 1) (H13.put ((nx+1)) (some (.row 1 cells16))) (nx+2) fun v17 H18 nx19 =>
 ST 1 a2 v17 H18 fun H20 =>
 Q (.tup []) H20 nx19)
 (Q (.tup []) (H.put nx (some (.row a0.cells.length a0.cells))) (nx+1)))
 (Q (.tup []) (H.put nx (some (.row a0.cells.length a0.cells))) (nx+1))
theorem zqv (a0 a1 a2:AV) (H:Heap) (nx:Nat) (Q:QT):zcl a0 a1 a2 H nx Q→za Tryd.prog 70 [a0,a1,a2] H nx Q :=
  zd (lv:=lvOf []) (c:=zn Tryd.f70) zw zx mixed Tryd.func70 (by kernel_rfl) (by kernel_rfl) (by kernel_rfl) (by kernel_rfl) (by kernel_rfl)
def zgj (a0 a1:AV) (H:Heap) (nx:Nat) (Q:QT):Prop :=
 a0.sure=true ∧
 LD false 1 (.ptr nx 0) ((H.put nx (some (.row a0.cells.length a0.cells))).put ((nx+1)) (some (.row 3 [.int .i64 0,.int .i64 0,.str []]))) fun v1 =>
 BI .eql v1 (.int .i64 2) fun v2 =>
 CNDC v2
 (LD false 1 a1 ((H.put nx (some (.row a0.cells.length a0.cells))).put ((nx+1)) (some (.row 3 [.int .i64 0,.int .i64 0,.str []]))) fun v3 =>
 LD false 1 (.ptr nx 1) ((H.put nx (some (.row a0.cells.length a0.cells))).put ((nx+1)) (some (.row 3 [.int .i64 0,.int .i64 0,.str []]))) fun v4 =>
 IA 1 v3 v4 fun v5 =>
 LD false 1 v5 ((H.put nx (some (.row a0.cells.length a0.cells))).put ((nx+1)) (some (.row 3 [.int .i64 0,.int .i64 0,.str []]))) fun v6 =>
 ST 1 (.ptr nx 1) v6 ((H.put nx (some (.row a0.cells.length a0.cells))).put ((nx+1)) (some (.row 3 [.int .i64 0,.int .i64 0,.str []]))) fun H7 =>
 LD true 3 (.ptr nx 0) H7 fun v8 =>
 ST 3 (.ptr (nx+1) 0) v8 H7 fun H9 =>
 LD true 3 (.ptr (nx+1) 0) H9 fun v10 =>
 Q v10 H9 (nx+2))
 (LD true 3 (.ptr nx 0) ((H.put nx (some (.row a0.cells.length a0.cells))).put ((nx+1)) (some (.row 3 [.int .i64 0,.int .i64 0,.str []]))) fun v11 =>
 ST 3 (.ptr (nx+1) 0) v11 ((H.put nx (some (.row a0.cells.length a0.cells))).put ((nx+1)) (some (.row 3 [.int .i64 0,.int .i64 0,.str []]))) fun H12 =>
 LD true 3 (.ptr (nx+1) 0) H12 fun v13 =>
 Q v13 H12 (nx+2))
theorem zqu (a0 a1:AV) (H:Heap) (nx:Nat) (Q:QT):zgj a0 a1 H nx Q→za Tryd.prog 71 [a0,a1] H nx Q :=
  zd (lv:=lvOf []) (c:=zn Tryd.f71) zw zx mixed Tryd.func71 (by kernel_rfl) (by kernel_rfl) (by kernel_rfl) (by kernel_rfl) (by kernel_rfl)
def zgs (a0:AV) (H:Heap) (nx:Nat) (Q:QT):Prop :=
 BL .eql a0 .nils fun v1 =>
 CNDC v1
 (Q .nils H nx)
 (APP 3 32 .zs a0 (H.put nx (some (.row 3 []))) (nx+1) fun v2 H3 nx4 =>
 Q v2 H3 nx4)
theorem zlz (a0:AV) (H:Heap) (nx:Nat) (Q:QT):zgs a0 H nx Q→za Tryd.prog 51 [a0] H nx Q :=
  zd (lv:=lvOf []) (c:=zn Tryd.f51) zaqf zaqo mixed Tryd.func51 (by kernel_rfl) (by kernel_rfl) (by kernel_rfl) (by kernel_rfl) (by kernel_rfl)
end Go.Proofs.YtdmibdjokofclaaDoor
set_option maxRecDepth 8000
namespace Go.Proofs.YtdmibdjokofclaaDoor
open Go Go.RowKit
inductive Bel (A:Nat→Prop):AV→Prop
  | junk:Bel A .junk
  | und:Bel A .und
  | int (k:IntKind) (n:Int):Bel A (.int k n)
  | bool (b:Bool):Bel A (.bool b)
  | bany:Bel A .bany
  | str (s:List UInt8):Bel A (.str s)
  | nilp:Bel A .nilp
  | nils:Bel A .nils
  | nilf:Bel A .nilf
  | nilm:Bel A .nilm
  | inil:Bel A .inil
  | ifc:Bel A .ifc
  | zs:Bel A .zs
  | ptr (g off:Nat):A g→Bel A (.ptr g off)
  | slc (g off len:Nat):A g→Bel A (.slc g off len)
  | amap (g:Nat):A g→Bel A (.amap g)
  | ro (xs:List (List AV)):(∀ (i:Nat) (x:List AV) (j:Nat) (v:AV),xs[i]? = some x→x[j]? = some v→Bel A v)→Bel A (.ro xs)
  | rop (cs:List AV) (o:Nat):(∀ (j:Nat) (v:AV),cs[j]? = some v→Bel A v)→Bel A (.rop cs o)
  | agg (xs:List AV):(∀ (j:Nat) (v:AV),xs[j]? = some v→Bel A v)→Bel A (.agg xs)
  | tup (xs:List AV):(∀ (j:Nat) (v:AV),xs[j]? = some v→Bel A v)→Bel A (.tup xs)
  | clo (f:FuncId) (xs:List AV):(∀ (j:Nat) (v:AV),xs[j]? = some v→Bel A v)→Bel A (.clo f xs)
def BelO (A:Nat→Prop):AObj→Prop
  | .row _ cells=>∀ (j:Nat) x,cells[j]? = some x→Bel A x
  | .mp es=>∀ (j:Nat) kv,es[j]? = some kv→Bel A kv.1∧Bel A kv.2
  | .it g _ _=>A g
theorem VRel.bel {K:zab} {ρ:Nat→Loc} {A:Nat→Prop} {v:AV} {c:Value} (h:VRel K ρ A v c):Bel A v:=by
  induction h with
  | junk v=>exact .junk
  | und=>exact .und
  | int k n=>exact .int k n
  | bool b=>exact .bool b
  | bany b=>exact .bany
  | str s=>exact .str s
  | nilp=>exact .nilp
  | nils=>exact .nils
  | nilf=>exact .nilf
  | nilm=>exact .nilm
  | inil=>exact .inil
  | ifc _ _=>exact .ifc
  | zs a=>exact .zs
  | ptr g off a hg ha=>exact .ptr g off hg
  | slc g off len cap a hg h1 h2=>exact .slc g off len hg
  | amap g r hg hr=>exact .amap g hg
  | ro xs a len cap sz b off C h1 h2 h3 h4 h5 _ ih=>exact .ro xs ih
  | rop cs o b p a C h1 h2 _ ih=>exact .rop cs o ih
  | agg xs cs h1 _ ih =>
    exact .agg xs fun j v hv=>by
      have hlt:=(List.getElem?_eq_some_iff.1 hv).1
      exact ih j v _ hv (Array.getElem?_eq_getElem (by omega))
  | tup xs cs h1 _ ih =>
    exact .tup xs fun j v hv=>by
      have hlt:=(List.getElem?_eq_some_iff.1 hv).1
      exact ih j v _ hv (Array.getElem?_eq_getElem (by omega))
  | clo f xs cs h1 _ ih =>
    exact .clo f xs fun j v hv=>by
      have hlt:=(List.getElem?_eq_some_iff.1 hv).1
      exact ih j v _ hv (Array.getElem?_eq_getElem (by omega))
theorem VRel.restrict {K:zab} {ρ:Nat→Loc} {A A':Nat→Prop} {v:AV} {c:Value} (h:VRel K ρ A v c):Bel A' v→VRel K ρ A' v c:=by
  induction h with
  | junk v=>exact fun _=>.junk v
  | und=>exact fun _=>.und
  | int k n=>exact fun _=>.int k n
  | bool b=>exact fun _=>.bool b
  | bany b=>exact fun _=>.bany b
  | str s=>exact fun _=>.str s
  | nilp=>exact fun _=>.nilp
  | nils=>exact fun _=>.nils
  | nilf=>exact fun _=>.nilf
  | nilm=>exact fun _=>.nilm
  | inil=>exact fun _=>.inil
  | ifc _ h=>exact fun _=>.ifc _ h
  | zs a=>exact fun _=>.zs a
  | ptr g off a hg ha=>intro hb; cases hb with | ptr _ _ h=>exact .ptr g off a h ha
  | slc g off len cap a hg h1 h2=>intro hb; cases hb with | slc _ _ _ h=>exact .slc g off len cap a h h1 h2
  | amap g r hg hr=>intro hb; cases hb with | amap _ h=>exact .amap g r h hr
  | ro xs a len cap sz b off C h1 h2 h3 h4 h5 _ ih=>intro hb; cases hb with | ro _ h=>exact .ro xs a len cap sz b off C h1 h2 h3 h4 h5 fun i x j v hx hv=>ih i x j v hx hv (h i x j v hx hv)
  | rop cs o b p a C h1 h2 _ ih=>intro hb; cases hb with | rop _ _ h=>exact .rop cs o b p a C h1 h2 fun j v hv=>ih j v hv (h j v hv)
  | agg xs cs h1 _ ih=>intro hb; cases hb with | agg _ h=>exact .agg xs cs h1 fun j v c hv hc=>ih j v c hv hc (h j v hv)
  | tup xs cs h1 _ ih=>intro hb; cases hb with | tup _ h=>exact .tup xs cs h1 fun j v c hv hc=>ih j v c hv hc (h j v hv)
  | clo f xs cs h1 _ ih=>intro hb; cases hb with | clo _ _ h=>exact .clo f xs cs h1 fun j v c hv hc=>ih j v c hv hc (h j v hv)
inductive Frz (H:Heap) (nx:Nat):AV→AV→Prop
  | same (v:AV):Bel (· < nx) v→Frz H nx v v
  | nils:Frz H nx .nils (.ro [])
  | zs:Frz H nx .zs (.ro [])
  | slc (g off len sz:Nat) (cells:List AV) (xs:List (List AV)):nx≤g→H g=some (.row sz cells)→off+len*sz≤cells.length→xs.length=len→(∀ x∈xs,x.length=sz) →
      (U:Nat→Nat→AV)→(∀ (i:Nat) (x:List AV) (j:Nat) (v:AV),xs[i]? = some x→x[j]? = some v→cells[off+i*sz+j]? = some (U i j)) →
      (∀ (i:Nat) (x:List AV) (j:Nat) (v:AV),xs[i]? = some x→x[j]? = some v→Frz H nx (U i j) v)→Frz H nx (.slc g off len) (.ro xs)
  | agg (xs ys:List AV):ys.length=xs.length→(∀ (j:Nat) (v u:AV),xs[j]? = some v→ys[j]? = some u→Frz H nx v u)→Frz H nx (.agg xs) (.agg ys)
  | tup (xs ys:List AV):ys.length=xs.length→(∀ (j:Nat) (v u:AV),xs[j]? = some v→ys[j]? = some u→Frz H nx v u)→Frz H nx (.tup xs) (.tup ys)
theorem Frz.rel {A:Nat→Prop} {ρ:Nat→Loc} {H H0:Heap} {w:World} {nx:Nat} (s:Sim A ρ H w) (h0:∀ g o,H0 g=some o→g < nx∧H g=some o) {v u:AV} (h:Frz H nx v u) :
    ∀ (c:Value),VRel (Kof ρ H w) ρ A v c→VRel (Kof ρ H0 w) ρ (· < nx) u c:=by
  have hK:∀ b o,Kof ρ H w b=some o→Kof ρ H0 w b=some o:=fun b o hb=>by
    obtain ⟨h1,h2⟩:=zag.1 hb
    refine zag.2 ⟨fun g hg => ?_,h2⟩
    obtain ⟨o',ho'⟩:=Option.isSome_iff_exists.1 hg
    exact h1 g (by rw [(h0 g o' ho').2]; rfl)
  induction h with
  | same v hb=>exact fun c hc=>(hc.restrict hb).mono hK (fun _ h=>⟨rfl,h⟩)
  | nils =>
    intro c hc
    cases hc
    exact .ro [] none 0 0 0 0 0 (fun _ _=>undef) rfl (Nat.le_refl _) (fun h=>absurd rfl h) (fun x hx=>by cases hx) (fun i x j v hx=>by simp at hx) (fun i x j v hx=>by simp at hx)
  | zs =>
    intro c hc
    cases hc with
    | zs a=>exact .ro [] a 0 0 0 0 0 (fun _ _=>undef) rfl (Nat.le_refl _) (fun h=>absurd rfl h) (fun x hx=>by cases hx) (fun i x j v hx=>by simp at hx) (fun i x j v hx=>by simp at hx)
  | slc g off len sz cells xs hg hH hle hl hsz U hU _ ih =>
    intro c hc
    cases hc with
    | slc _ _ _ cap a hA hcl hcap =>
      obtain ⟨cc,el,lo,hi,q1,q2,q3,q4,q5,q6⟩:=s.obj g _ hH
      have hKb:Kof ρ H0 w (ρ g).block=some (.cells cc el (lo,hi)):=by
        refine zag.2 ⟨fun x hx e => ?_,q1⟩
        obtain ⟨o',ho'⟩:=Option.isSome_iff_exists.1 hx
        obtain ⟨h1,h2⟩:=h0 x o' ho'
        have:=s.inj x g (by rw [h2]; rfl) (by rw [hH]; rfl) e
        omega
      have hex:∀ (i:Nat) (x:List AV) (j:Nat) (v:AV),xs[i]? = some x→x[j]? = some v→∃ cv,cc[(ρ g).base+(off+i*sz+j)]? = some cv∧VRel (Kof ρ H w) ρ A (U i j) cv:=fun i x j v hx hv=>q6 _ _ (hU i x j v hx hv)
      refine .ro xs a len cap sz (ρ g).block ((ρ g).base+off) (fun i j=>(cc[(ρ g).base+(off+i*sz+j)]?).getD undef) hl.symm hcl (fun hne => ?_) hsz (fun i x j v hx hv => ?_) (fun i x j v hx hv => ?_)
      · have hpos:0 < xs.length:=List.length_pos_iff.2 hne
        exact (hcap (by omega)).2
      · obtain ⟨cv,h1,h2⟩:=hex i x j v hx hv
        unfold zhg
        rw [hKb]
        simp only [h1,Option.getD_some]
        rw [← h1]; congr 1; omega
      · obtain ⟨cv,h1,h2⟩:=hex i x j v hx hv
        rw [h1]
        exact ih i x j v hx hv cv h2
  | agg xs ys hl _ ih =>
    intro c hc
    cases hc with
    | agg _ cs h1 h2 =>
    exact .agg ys cs (by omega) fun j v c hv hc=>by
        have hlt:=(List.getElem?_eq_some_iff.1 hv).1
        have hx:xs[j]? = some (xs[j]'(by omega)):=List.getElem?_eq_getElem (by omega)
        exact ih j _ v hx hv c (h2 j _ c hx hc)
  | tup xs ys hl _ ih =>
    intro c hc
    cases hc with
    | tup _ cs h1 h2 =>
    exact .tup ys cs (by omega) fun j v c hv hc=>by
        have hlt:=(List.getElem?_eq_some_iff.1 hv).1
        have hx:xs[j]? = some (xs[j]'(by omega)):=List.getElem?_eq_getElem (by omega)
        exact ih j _ v hx hv c (h2 j _ c hx hc)
theorem za.gc {P:Program} {f:FuncId} {args:List AV} {H:Heap} {nx:Nat} {Q:AV→Heap→Nat→Prop} {R:AV→Heap→Prop} (h:za P f args H nx Q)
    (hq:∀ v H' nx',Q v H' nx'→∃ r H0,R r H0∧Frz H' nx v r∧(∀ g o,H0 g=some o→g < nx∧H' g=some o∧(H g=some o∨BelO (· < nx) o))) :
    za P f args H nx fun v H' nx'=>R v H'∧nx'=nx:=by
  intro ρ w cargs s ha
  refine zan (h ρ w cargs s ha) fun cv w' ⟨v,H',nx',ρ',q1,q2,q3,q4⟩ => ?_
  obtain ⟨r,H0,hR,hF,h0⟩:=hq v H' nx' q1
  have h0':∀ g o,H0 g=some o→g < nx∧H' g=some o:=fun g o ho=>⟨(h0 g o ho).1,(h0 g o ho).2.1⟩
  have hK:∀ b o,Kof ρ' H' w' b=some o→Kof ρ' H0 w' b=some o:=fun b o hb=>by
    obtain ⟨h1,h2⟩:=zag.1 hb
    refine zag.2 ⟨fun g hg => ?_,h2⟩
    obtain ⟨o',ho'⟩:=Option.isSome_iff_exists.1 hg
    exact h1 g (by rw [(h0' g o' ho').2]; rfl)
  refine ⟨r,H0,nx,ρ',⟨hR,rfl⟩,⟨fun g o ho=>(h0 g o ho).1,fun g o ho => ?_,fun x y hx hy hb => ?_,q2.lay.mono hK⟩,hF.rel q2 h0' cv q3,⟨fun g hg=>⟨(q4.agree g hg).1,hg⟩,fun b o hb=>hK b o (q4.k b o hb),q4.os,q4.tape,q4.output,q4.size⟩⟩
  · obtain ⟨hg,hH',hbel⟩:=h0 g o ho
    have hobj:=q2.obj g o hH'
    have hcells:BelO (· < nx) o:=by
      rcases hbel with hs | hb
      · have:=s.obj g o hs
        cases o with
        | row sz cells =>
          obtain ⟨_,_,_,_,_,_,_,_,_,p6⟩:=this
          intro j x hx
          obtain ⟨cv,_,hv⟩:=p6 j x hx
          exact hv.bel
        | mp es =>
          obtain ⟨en,cl,p1,p2,p3,_⟩:=this
          intro j kv hkv
          have hlt:=(List.getElem?_eq_some_iff.1 hkv).1
          obtain ⟨a1,a2⟩:=p3 j kv _ hkv (Array.getElem?_eq_getElem (by omega))
          exact ⟨a1.bel,a2.bel⟩
        | it g c seen=>exact this.2.2
      · exact hb
    cases o with
    | row sz cells =>
      obtain ⟨c,el,lo,hi,p1,p2,p3,p4,p5,p6⟩:=hobj
      exact ⟨c,el,lo,hi,p1,p2,p3,p4,p5,fun j x hx=>let ⟨cv,a1,a2⟩:=p6 j x hx; ⟨cv,a1,(a2.restrict (hcells j x hx)).mono hK (fun _ h=>⟨rfl,h⟩)⟩⟩
    | mp es =>
      obtain ⟨en,cl,p1,p2,p3,p4⟩:=hobj
      exact ⟨en,cl,p1,p2,fun j kv x hkv hx=>let ⟨a1,a2⟩:=p3 j kv x hkv hx; ⟨(a1.restrict (hcells j kv hkv).1).mono hK (fun _ h=>⟨rfl,h⟩),(a2.restrict (hcells j kv hkv).2).mono hK (fun _ h=>⟨rfl,h⟩)⟩,p4⟩
    | it g c seen=>exact ⟨hobj.1,hobj.2.1,hcells⟩
  · obtain ⟨o1,ho1⟩:=Option.isSome_iff_exists.1 hx
    obtain ⟨o2,ho2⟩:=Option.isSome_iff_exists.1 hy
    exact q2.inj x y (by rw [(h0' x o1 ho1).2]; rfl) (by rw [(h0' y o2 ho2).2]; rfl) hb
def QC (P:Program) (f:FuncId) (args:List AV) (r:AV):Prop:=∀ H nx,za P f args H nx fun v H' nx'=>v=r∧H'=H∧nx'=nx
theorem za.tidy {P:Program} {f:FuncId} {args:List AV} {H:Heap} {nx:Nat} {Q:AV→Heap→Nat→Prop} (h:(∀ g o,H g=some o→g < nx)→za P f args H nx Q):za P f args H nx Q :=
  fun ρ w cargs s ha=>h (fun g o ho=>s.live g o ho) ρ w cargs s ha
theorem QC.of {P:Program} {f:FuncId} {args:List AV} {r:AV} (h:∀ H nx,za P f args H nx fun v H' _=>Frz H' nx v r∧∀ g,g < nx→H' g=H g):QC P f args r:=by
  intro H nx
  refine za.tidy fun hlive => ?_
  refine (za.gc (R:=fun v H'=>v=r∧H'=H) (h H nx) fun v H' nx' ⟨h1,h2⟩=>⟨r,H,⟨rfl,rfl⟩,h1,fun g o ho=>⟨hlive g o ho,by rw [h2 g (hlive g o ho)]; exact ho,.inl ho⟩⟩).mono fun v H' nx' ⟨⟨a,b⟩,c⟩=>⟨a,b,c⟩
theorem Bel.mono {A B:Nat→Prop} {v:AV} (h:Bel A v) (hAB:∀ g,A g→B g):Bel B v:=by
  induction h with
  | junk=>exact .junk
  | und=>exact .und
  | int k n=>exact .int k n
  | bool b=>exact .bool b
  | bany=>exact .bany
  | str s=>exact .str s
  | nilp=>exact .nilp
  | nils=>exact .nils
  | nilf=>exact .nilf
  | nilm=>exact .nilm
  | inil=>exact .inil
  | ifc=>exact .ifc
  | zs=>exact .zs
  | ptr g off h=>exact .ptr g off (hAB g h)
  | slc g off len h=>exact .slc g off len (hAB g h)
  | amap g h=>exact .amap g (hAB g h)
  | ro xs _ ih=>exact .ro xs ih
  | rop cs o _ ih=>exact .rop cs o ih
  | agg xs _ ih=>exact .agg xs ih
  | tup xs _ ih=>exact .tup xs ih
  | clo f xs _ ih=>exact .clo f xs ih
theorem zay.restrict {K:zab} {ρ:Nat→Loc} {A A':Nat→Prop} {w:World} {l:Loc} {o:AObj} (h:zay K ρ A w l o) (hb:BelO A' o):zay K ρ A' w l o:=by
  cases o with
  | row sz cells =>
    obtain ⟨c,el,lo,hi,p1,p2,p3,p4,p5,p6⟩:=h
    exact ⟨c,el,lo,hi,p1,p2,p3,p4,p5,fun j x hx=>let ⟨cv,a1,a2⟩:=p6 j x hx; ⟨cv,a1,a2.restrict (hb j x hx)⟩⟩
  | mp es =>
    obtain ⟨en,cl,p1,p2,p3,p4⟩:=h
    exact ⟨en,cl,p1,p2,fun j kv x hkv hx=>let ⟨a1,a2⟩:=p3 j kv x hkv hx; ⟨a1.restrict (hb j kv hkv).1,a2.restrict (hb j kv hkv).2⟩,p4⟩
  | it g c seen=>exact ⟨h.1,h.2.1,hb⟩
theorem zay.bel {K:zab} {ρ:Nat→Loc} {A:Nat→Prop} {w:World} {l:Loc} {o:AObj} (h:zay K ρ A w l o):BelO A o:=by
  cases o with
  | row sz cells =>
    obtain ⟨_,_,_,_,_,_,_,_,_,p6⟩:=h
    intro j x hx
    obtain ⟨cv,_,hv⟩:=p6 j x hx
    exact hv.bel
  | mp es =>
    obtain ⟨en,cl,p1,p2,p3,_⟩:=h
    intro j kv hkv
    have hlt:=(List.getElem?_eq_some_iff.1 hkv).1
    obtain ⟨a1,a2⟩:=p3 j kv _ hkv (Array.getElem?_eq_getElem (by omega))
    exact ⟨a1.bel,a2.bel⟩
  | it g c seen=>exact h.2.2
theorem LC.of_qc {P:Program} {f:FuncId} {args:List AV} {r:AV} (h:QC P f args r) (hr:Bel (fun _=>False) r) (H0:Heap):LC P f args H0 [] [] [] r:=by
  intro A ρ H w cargs ⟨N,hN⟩ s ha _ _
  have sN:Sim (· < N) ρ H w:=⟨fun g o ho=>hN g (s.live g o ho),fun g o ho=>(s.obj g o ho).mono rfl (fun _ _ h=>h) (fun g hg=>⟨rfl,hN g hg⟩),s.inj,s.lay⟩
  have aN:LRel (Kof ρ H w) ρ (· < N) args cargs.toList:=⟨ha.1,fun j v c hv hc=>(ha.2 j v c hv hc).mono (fun _ _ h=>h) (fun g hg=>⟨rfl,hN g hg⟩)⟩
  refine zan (h H N ρ w cargs sN aN) fun cv w' ⟨r',H',nx',ρ',⟨q0,q1,q2⟩,q3,q4,q5⟩ => ?_
  subst q0; subst q1; subst q2
  have hA:(fun x=>A x∨x∈([]:List Nat))=A:=by funext x; simp
  refine ⟨ρ',?_,?_,?_⟩
  · rw [hA]
    exact ⟨s.live,fun g o ho=>(q3.obj g o ho).restrict (s.obj g o ho).bel,q3.inj,q3.lay⟩
  · rw [hA]
    exact q4.restrict (hr.mono fun _ h=>h.elim)
  · rw [hA]
    exact ⟨fun g hg=>⟨(q5.agree g (hN g hg)).1,hg⟩,q5.k,q5.os,q5.tape,q5.output,q5.size⟩
theorem zo.of_qc {P:Program} {f:FuncId} {args cap:List AV} {r:AV} {H:Heap} {nx:Nat} {k:Kt} (h:QC P f (args ++ cap) r) (hr:Bel (fun _=>False) r) (hk:k r [] [] []):zo P (.clo f cap) args H nx k :=
  ⟨r,[],[],[],.inl rfl,LC.of_qc h hr H,hk⟩
end Go.Proofs.YtdmibdjokofclaaDoor
set_option maxRecDepth 8000
namespace Go.Proofs.YtdmibdjokofclaaDoor
open Go Go.RowKit
theorem JN.same {J:J3} {B:J3→Prop} (h:B J):JN J B:=⟨J,fun _ _ _ h=>h,h⟩
theorem JN.cut {J:J3} {B:J3→Prop} (I:J3) (h1:∀ xs H nx,I xs H nx→J xs H nx) (h2:B I):JN J B:=⟨I,h1,h2⟩
theorem LP.mk {F:J3→J3} {xs:List AV} {H:Heap} {nx:Nat} (I:Nat→J3) (n:Nat) (h0:I n xs H nx) (hs:∀ n xs H nx,I n xs H nx→F (fun xs H nx=>∃ m,m < n∧I m xs H nx) xs H nx):LP F xs H nx:=⟨I,n,h0,hs⟩
@[simp] theorem zazk (x:AV) (xs:List AV):nth (x :: xs) 0=x:=rfl
@[simp] theorem zazj (x y:AV) (xs:List AV):nth (x :: y :: xs) 1=y:=rfl
@[simp] theorem zazi (x y z:AV) (xs:List AV):nth (x :: y :: z :: xs) 2=z:=rfl
@[simp] theorem zazh (x y z a:AV) (xs:List AV):nth (x :: y :: z :: a :: xs) 3=a:=rfl
@[simp] theorem zazg (x y z a b:AV) (xs:List AV):nth (x :: y :: z :: a :: b :: xs) 4=b:=rfl
@[simp] theorem zazf (x y z a b c:AV) (xs:List AV):nth (x :: y :: z :: a :: b :: c :: xs) 5=c:=rfl
@[simp] theorem zaze (x y z a b c d:AV) (xs:List AV):nth (x :: y :: z :: a :: b :: c :: d :: xs) 6=d:=rfl
@[simp] theorem zazd (x y z a b c d e:AV) (xs:List AV):nth (x :: y :: z :: a :: b :: c :: d :: e :: xs) 7=e:=rfl
@[simp] theorem zazc (x y z a b c d e f:AV) (xs:List AV):nth (x :: y :: z :: a :: b :: c :: d :: e :: f :: xs) 8=f:=rfl
@[simp] theorem zazb (x y z a b c d e f g:AV) (xs:List AV):nth (x :: y :: z :: a :: b :: c :: d :: e :: f :: g :: xs) 9=g:=rfl
def OPTK {α:Type} (o:Option α) (k:α→Prop):Prop:=∃ v,o=some v∧k v
@[simp ↓] theorem optk {α:Type} {v:α} {k:α→Prop}:OPTK (some v) k=k v:=by simp [OPTK]
@[simp ↓] theorem zajr {α:Type} {k:α→Prop}:OPTK none k=False:=by simp [OPTK]
@[congr] theorem zawd {α:Type} {o o':Option α} {k:α→Prop} (h:o=o'):OPTK o k=OPTK o' k:=by rw [h]
def ROWK (o:Option AObj) (k:Nat→List AV→Prop):Prop:=∃ s cs,o=some (.row s cs)∧k s cs
@[simp ↓] theorem rowk {s:Nat} {cs:List AV} {k:Nat→List AV→Prop}:ROWK (some (.row s cs)) k=k s cs:=by
  apply propext; constructor
  · rintro ⟨s',cs',h,hk⟩; cases h; exact hk
  · exact fun h=>⟨s,cs,rfl,h⟩
@[congr] theorem zawc {o o':Option AObj} {k:Nat→List AV→Prop} (h:o=o'):ROWK o k=ROWK o' k:=by rw [h]
def MAPK (o:Option AObj) (k:List (AV×AV)→Prop):Prop:=∃ es,o=some (.mp es)∧k es
@[simp ↓] theorem mapk {es:List (AV×AV)} {k:List (AV×AV)→Prop}:MAPK (some (.mp es)) k=k es:=by
  apply propext; constructor
  · rintro ⟨es',h,hk⟩; cases h; exact hk
  · exact fun h=>⟨es,rfl,h⟩
@[congr] theorem zaxc {o o':Option AObj} {k:List (AV×AV)→Prop} (h:o=o'):MAPK o k=MAPK o' k:=by rw [h]
def PUTH (H:Heap) (g:Nat) (o:AObj) (k:Heap→Prop):Prop:=k (H.put g (some o))
@[simp ↓] theorem puth {H:Heap} {g:Nat} {o:AObj} {k:Heap→Prop}:PUTH H g o k=k (H.put g (some o)):=rfl
section
variable {x x' y y' z z':AV} {k:AV→Prop} {H H':Heap} {nx nx':Nat}
@[congr] theorem pk_c (h:x=x') (h2:y=y') (h3:z=z'):PK x y z k=PK x' y' z' k:=by rw [h,h2,h3]
@[congr] theorem bi_c {op:BinOp} (h:x=x') (h2:y=y'):BI op x y k=BI op x' y' k:=by rw [h,h2]
@[congr] theorem bs_c {op:BinOp} (h:x=x') (h2:y=y'):BS op x y k=BS op x' y' k:=by rw [h,h2]
@[congr] theorem bb_c {op:BinOp} (h:x=x') (h2:y=y'):BB op x y k=BB op x' y' k:=by rw [h,h2]
@[congr] theorem ba_c {s:List AV} {op:BinOp} (h:x=x') (h2:y=y'):BA s op x y k=BA s op x' y' k:=by rw [h,h2]
@[congr] theorem bf_c {op:BinOp} (h:x=x') (h2:y=y'):BF op x y k=BF op x' y' k:=by rw [h,h2]
@[congr] theorem bp_c {op:BinOp} (h:x=x') (h2:y=y'):BP op x y k=BP op x' y' k:=by rw [h,h2]
@[congr] theorem uo_c {op:UnOp} (h:x=x'):UO op x k=UO op x' k:=by rw [h]
@[congr] theorem cv_c {ki:IntKind} (h:x=x'):CV ki x k=CV ki x' k:=by rw [h]
@[congr] theorem ld_c {g:Bool} {s:Nat} (h:x=x') (h2:H=H'):LD g s x H k=LD g s x' H' k:=by rw [h,h2]
@[congr] theorem zazq {g:Bool} {s:Nat} {kr:AV→List Nat→Prop} (h:x=x') (h2:H=H'):LDR g s x H kr=LDR g s x' H' kr:=by rw [h,h2]
@[congr] theorem st_c {s:Nat} {kh:Heap→Prop} (h:x=x') (h3:y=y') (h2:H=H'):ST s x y H kh=ST s x' y' H' kh:=by rw [h,h2,h3]
@[congr] theorem zaus {s:Nat} {kt:Kt} (h:x=x') (h3:y=y') (h2:H=H'):zac s x y H kt=zac s x' y' H' kt:=by rw [h,h2,h3]
@[congr] theorem nc_c (h:x=x'):NC x k=NC x' k:=by rw [h]
@[congr] theorem fa_c {o:Nat} (h:x=x'):FA o x k=FA o x' k:=by rw [h]
@[congr] theorem fi_c {g:Bool} {s o:Nat} (h:x=x'):FI g s o x k=FI g s o x' k:=by rw [h]
@[congr] theorem ia_c {s:Nat} (h:x=x') (h2:y=y'):IA s x y k=IA s x' y' k:=by rw [h,h2]
@[congr] theorem aa_c {s l:Nat} (h:x=x') (h2:y=y'):AA s l x y k=AA s l x' y' k:=by rw [h,h2]
@[congr] theorem ix_c (h:x=x') (h2:y=y'):IX x y k=IX x' y' k:=by rw [h,h2]
@[congr] theorem ai_c {g:Bool} {s l:Nat} (h:x=x') (h2:y=y'):AI g s l x y k=AI g s l x' y' k:=by rw [h,h2]
@[congr] theorem zazm (h:x=x'):LNS x k=LNS x' k:=by rw [h]
@[congr] theorem zazo (h:x=x'):LNL x k=LNL x' k:=by rw [h]
@[congr] theorem zazn (h:x=x') (h2:H=H'):LNM x H k=LNM x' H' k:=by rw [h,h2]
@[congr] theorem ex_c {i:Nat} (h:x=x'):EX x i k=EX x' i k:=by rw [h]
@[congr] theorem bd_c {pl:Nat→Option (Nat×Nat)} {zs:List AV} {ps ps':List (Nat×AV)} (h:ps=ps'):BD pl zs ps k=BD pl zs ps' k:=by rw [h]
@[congr] theorem zazx {l s:Nat} {zs:List AV} {ps ps':List (Nat×AV)} {kc:List AV→Prop} (h:ps=ps'):BSL l s zs ps kc=BSL l s zs ps' kc:=by rw [h]
@[congr] theorem mk_c {b:Nat} {kn:Nat→Prop} (h:x=x') (h2:y=y'):MK b x y kn=MK b x' y' kn:=by rw [h,h2]
@[congr] theorem mm_c {b:Bool} (h:x=x') (h2:y=y'):MM b x y k=MM b x' y' k:=by rw [h,h2]
@[congr] theorem zazl {z z':AV} (h:x=x') (h2:y=y') (h3:z=z'):MX3 x y z k=MX3 x' y' z' k:=by rw [h,h2,h3]
@[congr] theorem zayx {s n:Nat} {lo lo' hi hi':Option AV} (h:x=x') (h2:lo=lo') (h3:hi=hi') (h4:H=H'):SLP s n x lo hi H k=SLP s n x' lo' hi' H' k:=by rw [h,h2,h3,h4]
@[congr] theorem zazw (h:x=x') (h2:H=H'):CBS x H k=CBS x' H' k:=by rw [h,h2]
@[congr] theorem zazu {ks:List UInt8→Prop} (h:x=x'):CSB x ks=CSB x' ks:=by rw [h]
@[congr] theorem zayw {lo lo' hi hi':Option AV} (h:x=x') (h2:lo=lo') (h3:hi=hi'):SLS x lo hi k=SLS x' lo' hi' k:=by rw [h,h2,h3]
@[congr] theorem sl_c {s:Nat} {lo lo' hi hi':Option AV} (h:x=x') (h2:lo=lo') (h3:hi=hi') (h4:H=H'):SL s x lo hi H k=SL s x' lo' hi' H' k:=by rw [h,h2,h3,h4]
@[congr] theorem zauv {s:Nat} {lo lo' hi hi':Option AV} {kt:Kt} (h:x=x') (h2:lo=lo') (h3:hi=hi') (h4:H=H'):zbc s x lo hi H kt=zbc s x' lo' hi' H' kt:=by rw [h,h2,h3,h4]
@[congr] theorem zaza {w w':AV} (h:x=x') (h2:y=y') (h3:z=z') (h4:w=w'):SL0 x y z w k=SL0 x' y' z' w' k:=by rw [h,h2,h3,h4]
@[congr] theorem lk_c {zs:List AV} {g o:Bool} (h:x=x') (h2:y=y') (h3:H=H'):LK zs g x y o H k=LK zs g x' y' o H' k:=by rw [h,h2,h3]
@[congr] theorem zaxe {zs:List AV} {g o:Bool} {kt:Kt} (h:x=x') (h2:y=y') (h3:H=H'):LOOK zs g x y o H kt=LOOK zs g x' y' o H' kt:=by rw [h,h2,h3]
@[congr] theorem mu_c {kh:Heap→Prop} (h:x=x') (h2:y=y') (h3:z=z') (h4:H=H'):MU x y z H kh=MU x' y' z' H' kh:=by rw [h,h2,h3,h4]
@[congr] theorem zawy {kt:Kt} (h:x=x') (h2:y=y') (h3:z=z') (h4:H=H'):MUPD x y z H kt=MUPD x' y' z' H' kt:=by rw [h,h2,h3,h4]
@[congr] theorem zbab {e b:Nat} {kk:AV→Heap→Nat→Prop} (h:x=x') (h2:y=y') (h3:H=H') (h4:nx=nx'):APP e b x y H nx kk=APP e b x' y' H' nx' kk:=by rw [h,h2,h3,h4]
@[congr] theorem zaun {e b:Nat} {kt:Kt} (h:x=x') (h2:y=y') (h3:H=H') (h4:nx=nx'):zam e b x y H nx kt=zam e b x' y' H' nx' kt:=by rw [h,h2,h3,h4]
@[congr] theorem cp_c {e:Nat} {kh:AV→Heap→Prop} (h:x=x') (h2:y=y') (h3:H=H'):CP e x y H kh=CP e x' y' H' kh:=by rw [h,h2,h3]
@[congr] theorem zaxo {e:Nat} {kt:Kt} (h:x=x') (h2:y=y') (h3:H=H'):COPY e x y H kt=COPY e x' y' H' kt:=by rw [h,h2,h3]
@[congr] theorem zazv {A B:Prop} (h:x=x'):CND x A B=CND x' A B:=by rw [h]
@[congr] theorem zaxp {A B:Prop} (h:x=x'):CNDC x A B=CNDC x' A B:=by rw [h]
@[congr] theorem bl_c {op:BinOp} (h:x=x') (h2:y=y'):BL op x y k=BL op x' y' k:=by rw [h,h2]
@[congr] theorem zaxq {P:Program} {bs bs':List AV} {kk:AV→Heap→Nat→Prop} (h:x=x') (h2:bs=bs') (h3:H=H') (h4:nx=nx'):CALL P x bs H nx kk=CALL P x' bs' H' nx' kk:=by rw [h,h2,h3,h4]
@[congr] theorem zavs {P:Program} {bs bs':List AV} {kt:Kt} (h:x=x') (h2:bs=bs') (h3:H=H') (h4:nx=nx'):zo P x bs H nx kt=zo P x' bs' H' nx' kt:=by rw [h,h2,h3,h4]
@[congr] theorem zauo {P:Program} {f:FuncId} {bs bs':List AV} {kk:AV→Heap→Nat→Prop} (h2:bs=bs') (h3:H=H') (h4:nx=nx'):za P f bs H nx kk=za P f bs' H' nx' kk:=by rw [h2,h3,h4]
@[congr] theorem jn_c {J:J3} {B:J3→Prop}:JN J B=JN J B:=rfl
@[congr] theorem lp_c {F:J3→J3} {xs xs':List AV} (h:xs=xs') (h3:H=H') (h4:nx=nx'):LP F xs H nx=LP F xs' H' nx':=by rw [h,h3,h4]
@[congr] theorem zavp {l l' m m':List Nat} {A:Prop} (h:l=l') (h2:m=m'):zb l m A=zb l' m' A:=by rw [h,h2]
@[congr] theorem zavx {p p' v v':AV} {D D':zq} {rd rd':List Nat} {A:Prop} (h:p=p') (h2:v=v') (h3:D=D') (h4:rd=rd'):SOFT p v D rd A=SOFT p' v' D' rd' A:=by rw [h,h2,h3,h4]
@[congr] theorem zavr {g g' q q':Nat} {v v':AV} {D D':zq} {A:Prop} (h:g=g') (h2:q=q') (h3:v=v') (h4:D=D'):zje g q v D A=zje g' q' v' D' A:=by rw [h,h2,h3,h4]
@[congr] theorem gd_c {b b':Bool} {A:Prop} (h:b=b'):gd b A=gd b' A:=by rw [h]
end
@[simp ↓] theorem zaoc (A B:Prop):CND (.bool true) A B=A:=rfl
@[simp ↓] theorem zadm (A B:Prop):CND (.bool false) A B=B:=rfl
@[simp ↓ low] theorem cnd (b:Bool) (A B:Prop):CND (.bool b) A B=((b=true→A)∧(b=false→B)):=propext zano
@[simp ↓] theorem zafe (A B:Prop):CNDC (.bool true) A B=A:=rfl
@[simp ↓] theorem zaak (A B:Prop):CNDC (.bool false) A B=B:=rfl
@[simp ↓] theorem zaff (A B:Prop):CNDC .bany A B=(A∧B):=rfl
@[simp ↓ low] theorem cndc (b:Bool) (A B:Prop):CNDC (.bool b) A B=((b=true→A)∧(b=false→B)):=by cases b <;> simp
@[simp ↓] theorem pk (b:Bool) (x y:AV) (k:AV→Prop):PK (.bool b) x y k=k (bif b then x else y):=rfl
variable {ki:IntKind} {a b:Int} {k:AV→Prop}
@[simp ↓] theorem zayi:BI .add (.int ki a) (.int ki b) k=k (.int ki (ki.wrap (a+b))):=by simp [BI,BINI,IBIN,zbk,PURE,qk]
@[simp ↓] theorem zaxy:BI .sub (.int ki a) (.int ki b) k=k (.int ki (ki.wrap (a - b))):=by simp [BI,BINI,IBIN,zbk,PURE,qk]
@[simp ↓] theorem zaye:BI .mul (.int ki a) (.int ki b) k=k (.int ki (ki.wrap (a*b))):=by simp [BI,BINI,IBIN,zbk,PURE,qk]
@[simp ↓] theorem zayc:BI .quo (.int ki a) (.int ki b) k=(b ≠ 0∧k (.int ki (ki.wrap (a.tdiv b)))):=by simp [BI,BINI,IBIN,zbk,PURE,qk]
@[simp ↓] theorem zayb:BI .rem (.int ki a) (.int ki b) k=(b ≠ 0∧k (.int ki (a.tmod b))):=by simp [BI,BINI,IBIN,zbk,PURE,qk]
@[simp ↓] theorem zaya {kj:IntKind}:BI .shl (.int ki a) (.int kj b) k=(0≤b∧k (.int ki (ki.wrap (a*2 ^ (min b.toNat ki.bits))))):=by simp [BI,BINI,IBIN,zbk,PURE,qk]
@[simp ↓] theorem zaxz {kj:IntKind}:BI .shr (.int ki a) (.int kj b) k=(0≤b∧k (.int ki (a.fdiv (2 ^ (min b.toNat ki.bits))))):=by simp [BI,BINI,IBIN,zbk,PURE,qk]
@[simp ↓] theorem zaao:BI .eql (.int ki a) (.int ki b) k=k (.bool (decide (a=b))):=by simp [BI,BINI,IBIN,icmp,zbk,PURE,qk]; rfl
@[simp ↓] theorem zayd:BI .neq (.int ki a) (.int ki b) k=k (.bool (!decide (a=b))):=by simp [BI,BINI,IBIN,icmp,zbk,PURE,qk]; rfl
@[simp ↓] theorem zafn:BI .lss (.int ki a) (.int ki b) k=k (.bool (decide (a < b))):=by simp [BI,BINI,IBIN,icmp,zbk,PURE,qk]
@[simp ↓] theorem zayf:BI .leq (.int ki a) (.int ki b) k=k (.bool (decide (a≤b))):=by simp [BI,BINI,IBIN,icmp,zbk,PURE,qk]
@[simp ↓] theorem zaan:BI .gtr (.int ki a) (.int ki b) k=k (.bool (decide (b < a))):=by simp [BI,BINI,IBIN,icmp,zbk,PURE,qk]
@[simp ↓] theorem zayg:BI .geq (.int ki a) (.int ki b) k=k (.bool (decide (b≤a))):=by simp [BI,BINI,IBIN,icmp,zbk,PURE,qk]
@[simp ↓] theorem zayh:BI .and (.int ki a) (.int ki b) k=k (.int ki (ki.wrap (BitVec.ofInt ki.bits a &&& BitVec.ofInt ki.bits b).toNat)):=by simp [BI,BINI,IBIN,zrm,zbk,PURE,qk]
@[simp ↓] theorem zazz:BI .or (.int ki a) (.int ki b) k=k (.int ki (ki.wrap (BitVec.ofInt ki.bits a ||| BitVec.ofInt ki.bits b).toNat)):=by simp [BI,BINI,IBIN,zrm,zbk,PURE,qk]
@[simp ↓] theorem zaxx:BI .xor (.int ki a) (.int ki b) k=k (.int ki (ki.wrap (BitVec.ofInt ki.bits a ^^^ BitVec.ofInt ki.bits b).toNat)):=by simp [BI,BINI,IBIN,zrm,zbk,PURE,qk]
@[simp ↓] theorem cv (kj:IntKind):CV kj (.int ki a) k=k (.int kj (kj.wrap a)):=rfl
@[simp ↓] theorem zavv (c:Bool):UO .not (.bool c) k=k (.bool (!c)):=rfl
@[simp ↓] theorem zavw:UO .neg (.int ki a) k=k (.int ki (ki.wrap (0 - a))):=rfl
@[simp ↓] theorem zaxu (s t:List UInt8):BS .eql (.str s) (.str t) k=k (.bool (decide (s=t))):=by
  have:(s == t)=decide (s=t):=by rw [Bool.eq_iff_iff]; simp
  rw [← this]; rfl
@[simp ↓] theorem zaxs (s t:List UInt8):BS .neq (.str s) (.str t) k=k (.bool (!decide (s=t))):=by
  have:(s == t)=decide (s=t):=by rw [Bool.eq_iff_iff]; simp
  rw [← this]; rfl
@[simp ↓] theorem zaxt (s t:List UInt8):BS .lss (.str s) (.str t) k=k (.bool (Op.bytesLess s t)):=rfl
@[simp ↓] theorem zaxv (s t:List UInt8):BS .add (.str s) (.str t) k=(s.length+t.length≤9223372036854775807∧k (.str (s ++ t))):=rfl
@[simp ↓] theorem zaym (c d:Bool):BB .eql (.bool c) (.bool d) k=k (.bool (c == d)):=by simp [BB,BINB,zbu,PURE,qk]
@[simp ↓] theorem zayl (c d:Bool):BB .neq (.bool c) (.bool d) k=k (.bool (c != d)):=by simp [BB,BINB,zbu,PURE,qk]; rfl
@[simp ↓] theorem zawz:MM true (.int ki a) (.int ki b) k=k (.int ki (min a b)):=by
  have:(if b < a then b else a)=min a b:=by split <;> omega
  simp [MM,zdq,PURE,qk,this]
@[simp ↓] theorem zaxa:MM false (.int ki a) (.int ki b) k=k (.int ki (max a b)):=by
  have:(if b > a then b else a)=max a b:=by split <;> omega
  simp only [MM,zdq,PURE,qk,cond_false,this,true_and]
@[simp ↓] theorem zavk {c:Int}:MX3 (.int ki a) (.int ki b) (.int ki c) k=k (.int ki (max (max a b) c)):=by
  have e:∀ a b:Int,(if b > a then b else a)=max a b:=by intro a b; split <;> omega
  simp only [MX3,MAX3,zdq,PURE,qk,cond_false,e,true_and]
@[simp ↓] theorem zavq (s:List UInt8) (ks:List UInt8→Prop):CSB (.str s) ks=ks s:=rfl
@[simp ↓] theorem zayo (zs xs ys:List AV):BA zs .eql (.agg xs) (.agg ys) k=((zj zs xs).isSome=true∧OPTK (zj xs ys) fun t=>k (.bool t)):=by
  simp only [BA,BINA,zbu,PURE,qk,OPTK]
  cases zj xs ys <;> simp
@[simp ↓] theorem zayn (zs xs ys:List AV):BA zs .neq (.agg xs) (.agg ys) k=((zj zs xs).isSome=true∧OPTK (zj xs ys) fun t=>k (.bool (!t))):=by
  simp only [BA,BINA,zbu,PURE,qk,OPTK]
  cases zj xs ys <;> simp
@[simp] theorem zaqy:zj [] []=some true:=rfl
@[simp] theorem zaqz {ki:IntKind} {a b:Int} {r s:List AV}:zj (.int ki a :: r) (.int ki b :: s)=(zj r s).map (fun t=>a == b && t):=by simp [zj]
@[simp] theorem zaqx {a b:List UInt8} {r s:List AV}:zj (.str a :: r) (.str b :: s)=(zj r s).map (fun t=>a == b && t):=rfl
@[simp] theorem zaqp {a b:Bool} {r s:List AV}:zj (.bool a :: r) (.bool b :: s)=(zj r s).map (fun t=>a == b && t):=rfl
@[simp ↓] theorem zarz (xs:List (List AV)):BL .eql (.ro xs) .nils k=((xs=[]→k .bany)∧(xs ≠ []→k (.bool false))):=by simp [BL,BINL,zbu,PURE,qk]
@[simp ↓] theorem zaqr (g o n:Nat):BL .eql (.slc g o n) .nils k=((n=0→k .bany)∧(n ≠ 0→k (.bool false))):=by simp [BL,BINL,zbu,PURE,qk]
@[simp ↓] theorem zazy:BL .eql .zs .nils k=k .bany:=by simp [BL,BINL,zbu,PURE,qk]
@[simp ↓] theorem zaqs:BL .eql .nils .nils k=k (.bool true):=by simp [BL,BINL,zbu,PURE,qk]
@[simp ↓] theorem zayj:BF .eql .inil .inil k=k (.bool true):=by simp [BF,BINF,zbu,PURE,qk]
@[simp ↓] theorem zavt:BF .neq .inil .inil k=k (.bool false):=by simp [BF,BINF,zbu,PURE,qk]
@[simp ↓] theorem zayk:BF .eql .ifc .inil k=k (.bool false):=by simp [BF,BINF,zbu,PURE,qk]
@[simp ↓] theorem zavu:BF .neq .ifc .inil k=k (.bool true):=by simp [BF,BINF,zbu,PURE,qk]
@[simp ↓] theorem lns (s:List UInt8):LNS (.str s) k=k (.int .i64 (s.length:Int)):=rfl
@[simp ↓] theorem zqm (xs:List (List AV)):LNL (.ro xs) k=k (.int .i64 (xs.length:Int)):=rfl
@[simp ↓] theorem zavl (g off len:Nat):LNL (.slc g off len) k=k (.int .i64 (len:Int)):=rfl
@[simp ↓] theorem zaud:LNL .nils k=k (.int .i64 0):=rfl
@[simp ↓] theorem zaxf:LNL .zs k=k (.int .i64 0):=rfl
@[simp ↓] theorem zaxh (s:List UInt8) (n:Int):IX (.str s) (.int ki n) k=(0≤n∧n < s.length∧k (.int .u8 ((s.getD n.toNat 0).toNat:Int))):=rfl
@[simp ↓] theorem zaob (esz:Nat) (xs:List (List AV)) (n:Int):IA esz (.ro xs) (.int ki n) k=(0≤n∧n < xs.length∧(xs.getD n.toNat []).length=esz∧k (.rop (xs.getD n.toNat []) 0)):=rfl
@[simp ↓] theorem zaqn (esz g off len:Nat) (n:Int):IA esz (.slc g off len) (.int ki n) k=(0≤n∧n < len∧k (.ptr g (off+n.toNat*esz))):=rfl
@[simp ↓] theorem zaxl (o:Nat) (cs:List AV) (q:Nat):FA o (.rop cs q) k=k (.rop cs (q+o)):=rfl
@[simp ↓] theorem zaxm (o g q:Nat):FA o (.ptr g q) k=k (.ptr g (q+o)):=rfl
@[simp ↓] theorem zawu (cs:List AV) (q:Nat):NC (.rop cs q) k=k (.rop cs q):=rfl
@[simp ↓] theorem zawv (g q:Nat):NC (.ptr g q) k=k (.ptr g q):=rfl
@[simp] theorem zasx:(AV.int ki a).cells=[AV.int ki a]:=rfl
@[simp] theorem zasu (s:List UInt8):(AV.str s).cells=[AV.str s]:=rfl
@[simp] theorem zaru (c:Bool):(AV.bool c).cells=[AV.bool c]:=rfl
@[simp] theorem zaks (xs:List AV):(AV.agg xs).cells=xs:=rfl
@[simp] theorem zasv (g o n:Nat):(AV.slc g o n).cells=[AV.slc g o n]:=rfl
@[simp] theorem zaum (xs:List (List AV)):(AV.ro xs).cells=[AV.ro xs]:=rfl
@[simp] theorem zatc:(AV.int ki a).sure=true:=rfl
@[simp] theorem zasz (s:List UInt8):(AV.str s).sure=true:=rfl
@[simp] theorem zarv:AV.bany.cells=[AV.bany]:=rfl
@[simp] theorem zasc (c:Bool):(AV.bool c).sure=true:=rfl
@[simp] theorem zalo (xs:List AV):(AV.agg xs).sure=true:=rfl
@[simp] theorem zata (g o n:Nat):(AV.slc g o n).sure=true:=rfl
@[simp] theorem zauq (xs:List (List AV)):(AV.ro xs).sure=true:=rfl
@[simp] theorem zavi:(AV.int ki a).one=true:=rfl
@[simp] theorem zavf (s:List UInt8):(AV.str s).one=true:=rfl
@[simp] theorem zaua (c:Bool):(AV.bool c).one=true:=rfl
@[simp] theorem zavg (g o n:Nat):(AV.slc g o n).one=true:=rfl
@[simp] theorem zawf (xs:List (List AV)):(AV.ro xs).one=true:=rfl
@[simp ↓] theorem zaxn (vs:List AV) (i:Nat):EX (.tup vs) i k=OPTK vs[i]? k:=by
  simp only [EX,EXTR,PURE,qk,OPTK]
  cases vs[i]? <;> simp
theorem i64w {n:Int} (h : -9223372036854775808≤n∧n≤9223372036854775807):IntKind.i64.wrap n=n:=IntWalk.i64_in n h
theorem zyl {H:Heap} {nx:Nat} {c:Bool}:Frz H nx (.bool c) (.bool c):=.same _ (.bool _)
end Go.Proofs.YtdmibdjokofclaaDoor
