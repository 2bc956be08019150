/- The operations' effects, on: structs, slices made, stores, numbers, texts. The operations' effects, on: numbers, texts, functions, maps, slices. The operations' effects, on: slices made and cut, maps. The operations' effects, on: maps' entries, append, copy. -/
import Derived.Test.YtpllgpgdcbgalaaDoorG1
import Derived.Laws.Strings
import Derived.IntWalk
set_option linter.unusedSimpArgs false
set_option linter.unusedVariables false
set_option maxRecDepth 8000
namespace Go.Proofs.YtpllgpgdcbgalaaDoor
open Go Go.RowKit
section
variable {P:Program} {T:Nat→Option AT} {o:Oper} {e:Operand→AV} {H0:Heap}
theorem zqv (hT:TOk P T) (w:World):∀ (fields:List Field) (acc:Array (Nat×Nat)),(∀ f∈fields,zc T f.type ≠ 0) →
    (Sem.run P (List.foldlM (fun (acc:Array (Nat×Nat)) (f:Field)=>acc.push <$> (do pure (f.offset,← sizeOf f.type):Sem (Nat×Nat))) acc fields) w)=.ok (acc ++ (fields.map fun f=>(f.offset,zc T f.type)).toArray) w
  | [],acc,_=>by simp [Sem.run,pure]
  | f :: r,acc,h=>by
    have hs:=zcx hT (h f (by simp)) w
    have ih:=zqv hT w r (acc.push (f.offset,zc T f.type)) fun x hx=>h x (by simp [hx])
    have hf:(acc.push <$> (do pure (f.offset,← sizeOf f.type):Sem (Nat×Nat)))=((do pure (f.offset,← sizeOf f.type):Sem (Nat×Nat)) >>= fun x=>pure (acc.push x)):=rfl
    simp only [List.foldlM_cons,hf,Sem.run_bind,hs,Result.andThen_ok,Sem.run_pure,ih]
    congr 1
    apply Array.ext'
    simp
theorem zuv (hT:TOk P T) (w:World) (fields:Array Field) (h:∀ f∈fields.toList,zc T f.type ≠ 0) :
    (Sem.run P (fields.mapM fun f=>do pure (f.offset,← sizeOf f.type)) w)=.ok (fields.map fun f=>(f.offset,zc T f.type)) w:=by
  rw [Array.mapM_eq_foldlM]
  have:=zqv hT w fields.toList #[] h
  rw [Array.foldlM_toList] at this
  rw [this]
  congr 1
  apply Array.ext'
  simp
theorem zql (hT:TOk P T) {t:Nat} {fs:List (Nat×Nat)} {ps:Array (Nat×Operand)} {s b:Nat} {z0:List AV} {i:TypeInfo} {d:TypeDesc} {z:Value} (h:AtOk P t ⟨.struct fs,s,b,z0⟩ i d z)
    (hsz:(fs.all fun p=>zc T p.1 != 0)=true) (ho:o.op=.build t ps) {k:Kt}
    (hk:zhi (zl T fs) z0 (ps.toList.map fun p=>(p.1,e p.2)) k):∃ v rd,Eff P o e H0 rd [] [] v∧k v rd [] []:=by
  obtain ⟨fields,hu,rfl⟩:=zmt h
  have hall:∀ f∈fields.toList,zc T f.type ≠ 0:=by
    intro f hf
    have:=List.all_eq_true.1 hsz (f.type,f.offset) (List.mem_map.2 ⟨f,hf,rfl⟩)
    simpa using this
  unfold zhi at hk
  split at hk
  · rename_i cells hf
    refine ze hk fun K ρ A w ev hr => ?_
    obtain ⟨p1,p2⟩:=zod (K:=K) (ρ:=ρ) (A:=A) (ev:=ev) (e:=e) (ps:=ps) (fun x hx=>hr x (by simpa [Op.operands,ho] using hx))
    obtain ⟨rc,hrc,hR⟩:=znf _ _ z0 z.cells cells p1 p2 (by have:=h.cells; simp only at this; rw [this]; exact LRel.scalars _) hf
    have hpl:zl T (fields.toList.map fun f=>(f.type,f.offset))=((fields.map fun f=>(f.offset,zc T f.type))[·]?):=by
      funext j
      unfold zl
      simp only [List.getElem?_map,Array.getElem?_map,Array.getElem?_toList]
      cases fields[j]? <;> rfl
    rw [hpl] at hrc
    refine ⟨.agg rc,?_,LRel.agg hR⟩
    have hp:=zuv hT w fields hall
    simp only [execOp,ho,Instr.build,Sem.run_bind,run_underlying hu,zbj h,Result.andThen_ok,hp]
    simp only [Array.toList_map] at hrc ⊢
    simp only [hrc,Sem.run_pure,Result.andThen_ok]
  · exact hk.elim
theorem zny (cs:Array Value) (n m:Nat) (h:cs.size=m) (hm:0 < m):((Array.range (n*m)).map (cs[· % cs.size]!)).toList=(List.replicate n cs.toList).flatten:=by
  apply List.ext_getElem?
  intro j
  simp only [Array.toList_map,Array.toList_range,List.getElem?_map]
  induction n generalizing j with
  | zero=>simp
  | succ n ih =>
    simp only [List.replicate_succ,List.flatten_cons]
    by_cases hj:j < m
    · rw [List.getElem?_append_left (by simpa [h] using hj)]
      have:j < (n+1)*m:=by rw [Nat.add_mul]; omega
      simp only [List.getElem?_range this,Option.map_some]
      rw [h,Nat.mod_eq_of_lt hj,Array.getElem?_toList,getElem!_def]
      have:cs[j]? = some (cs[j]'(by omega)):=Array.getElem?_eq_getElem (by omega)
      rw [this]
    · rw [List.getElem?_append_right (by simpa [h] using Nat.le_of_not_lt hj)]
      have ihj:=ih (j - m)
      simp only [Array.length_toList,h]
      rw [← ihj]
      by_cases hlt:j < (n+1)*m
      · have h2:j - m < n*m:=by rw [Nat.add_mul] at hlt; omega
        simp only [List.getElem?_range hlt,List.getElem?_range h2,Option.map_some,h]
        rw [show j % m=(j - m) % m by rw [Nat.mod_eq_sub_mod (by omega)]]
      · have h2:¬ j - m < n*m:=by rw [Nat.add_mul] at hlt; omega
        rw [List.getElem?_eq_none (by simpa using Nat.le_of_not_lt hlt),List.getElem?_eq_none (by simpa using Nat.le_of_not_lt h2)]
        rfl
theorem AtOk.zsize {t:Nat} {a:AT} {i:TypeInfo} {d:TypeDesc} {z:Value} (h:AtOk P t a i d z):z.cells.size=a.zero.length:=by rw [h.cells]; simp
theorem zhk {nx:Nat} {b n tot s:Nat} {c:Nat} (hc:c*s≤tot) (hn:n≤c) (K:zj) (ρ':Nat→Loc) (A':Nat→Prop) (h:ρ' nx=⟨b,0,tot,s⟩) (hA:A' nx):VRel K ρ' A' (.slc nx 0 n) (.slice (some ⟨b,0,none⟩) n c) :=
  .slc nx 0 n c _ hA hn fun _=>by rw [h]; exact ⟨by simpa using hc,rfl⟩
theorem zrw (xs:List AV) (n:Nat):(List.replicate n xs).flatten.length=n*xs.length:=by simp
theorem zoj {place:Nat→Option (Nat×Nat)}:∀ (ps:List (Nat×AV)) (cells res:List AV),zbt place cells ps=some res→res.length=cells.length
  | [],cells,res,h=>by simp only [zbt,Option.some.injEq] at h; rw [h]
  | (i, v) :: ps,cells,res,h=>by
    simp only [zbt] at h
    split at h
    · cases h
    · split at h
      · rename_i hc
        rw [zoj ps _ _ h,zik _ _ _ (by omega)]
      · cases h
theorem zxh {t el len:Nat} {a:AT} {ps:Array (Nat×Operand)} {s b:Nat} {z0:List AV} {i i':TypeInfo} {d d':TypeDesc} {z z':Value} (h:AtOk P t ⟨.slice el,s,b,z0⟩ i d z) (ha:AtOk P el a i' d' z')
    (hzl:a.zero.length=a.size) (hpos:0 < a.size) (h24:len*a.size≤16777216) (ho:o.op=.buildSlice t len ps) {nx:Nat} {eqs:Nat→Bool} {k:Kt}
    (hk:zuq len a.size a.zero (ps.toList.map fun p=>(p.1,e p.2)) (zv eqs t len nx) nx k):∃ v rd cells,Eff P o e H0 rd [nx] [(nx,some (.row a.size cells))] v∧k v rd [nx] [(nx,some (.row a.size cells))]:=by
  have hu:=zaw h
  unfold zuq at hk
  split at hk
  · rename_i cells hf
    have hlen:=zoj _ _ _ hf
    rw [zrw,hzl] at hlen
    obtain ⟨v,rd,h1,h2⟩:∃ v rd,Eff P o e H0 rd [nx] [(nx,some (.row a.size cells))] v∧k v rd [nx] [(nx,some (.row a.size cells))]:=by
      refine zpc hk fun A ρ H w ev s hr => ?_
      obtain ⟨p1,p2⟩:=zod (K:=Kof ρ H w) (ρ:=ρ) (A:=A) (ev:=ev) (e:=e) (ps:=ps) (fun x hx=>hr x (by simpa [Op.operands,ho] using hx))
      obtain ⟨rc,hrc,hR⟩:=znf _ _ _ ((Array.range (len*a.size)).map (z'.cells[· % z'.cells.size]!)) cells p1 p2 (by
        rw [zny z'.cells len a.size (by rw [ha.zsize,hzl]) hpos,ha.cells]
        exact (LRel.scalars _).replicate len) hf
      refine ⟨.slice (some ⟨w.heap.size,0,none⟩) len len,rc,el,?_,hR,fun K ρ' A' g1 g2 => ?_⟩
      rotate_left
      · unfold zv
        cases hz:Nat.beq len 0 && eqs (t+1000000) with
        | false=>exact zhk (by have:=hR.1; simp at this; omega) (Nat.le_refl _) K ρ' A' g1 g2
        | true =>
          simp only [Bool.and_eq_true,Nat.beq_eq] at hz
          obtain ⟨rfl,_⟩:=hz
          exact .zs _
      simp only [Array.toList_map] at hrc
      simp only [execOp,ho,Instr.buildSlice,Sem.run_bind,run_underlying hu,zak ha,Result.andThen_ok]
      rw [if_neg (by omega)]
      by_cases h0:len*a.size=0
      · have hr0:(Array.range (len*a.size)).map (fun x=>(#[]:Array Value)[x % (#[]:Array Value).size]!)=(Array.range (len*a.size)).map (z'.cells[· % z'.cells.size]!):=by simp [h0]
        simp only [Sem.run_pure,Result.andThen_ok,Sem.run_bind,if_pos h0,hr0,Array.toList_map,hrc,newRow,newObj]
        rfl
      · simp only [Sem.run_pure,Result.andThen_ok,Sem.run_bind,if_neg h0,zbj ha,Array.toList_map,hrc,newRow,newObj]
        rfl
    exact ⟨v,rd,cells,h1,h2⟩
  · exact hk.elim
theorem zha (b:Nat):∀ (vs:List Value) (q:Nat) (w:World) (c:Array Value) (el:TypeId) (fr:Nat×Nat),w.heap[b]? = some (.cells c el fr)→q+vs.length≤c.size →
    ∃ c',(w.setCells b q vs).heap[b]? = some (.cells c' el fr)∧c'.size=c.size∧∀ j,c'[j]? = if q≤j∧j < q+vs.length then vs[j - q]? else c[j]?
  | [],q,w,c,el,fr,h,_=>⟨c,h,rfl,fun j=>by rw [if_neg (by simp)]⟩
  | v :: r,q,w,c,el,fr,h,hl=>by
    simp only [List.length_cons] at hl
    have h1:(w.setCell ⟨b,q,none⟩ v).heap[b]? = some (.cells (c.setIfInBounds q v) el fr):=by
      simp [World.setCell,Array.getElem?_modify,h]
    obtain ⟨c',a1,a2,a3⟩:=zha b r (q+1) (w.setCell ⟨b,q,none⟩ v) (c.setIfInBounds q v) el fr h1 (by simp; omega)
    refine ⟨c',a1,by simpa using a2,fun j => ?_⟩
    rw [a3 j]
    simp only [List.length_cons]
    by_cases hj:j=q
    · subst hj
      rw [if_neg (by omega),if_pos (by omega)]
      have:j < c.size:=by omega
      simp [this]
    · rw [Array.getElem?_setIfInBounds_ne (Ne.symm hj)]
      by_cases hc:q+1≤j∧j < q+1+r.length
      · rw [if_pos hc,if_pos (by omega),show j - q=(j - (q+1))+1 by omega,List.getElem?_cons_succ]
      · rw [if_neg hc,if_neg (by omega)]
theorem zil (b:Nat):∀ (vs:List Value) (q:Nat) (w:World),(∀ k,k ≠ b→(w.setCells b q vs).heap[k]? = w.heap[k]?)∧(w.setCells b q vs).heap.size=w.heap.size∧(w.setCells b q vs).os=w.os∧(w.setCells b q vs).tape=w.tape∧(w.setCells b q vs).output=w.output
  | [],q,w=>⟨fun _ _=>rfl,rfl,rfl,rfl,rfl⟩
  | v :: r,q,w=>by
    obtain ⟨h1,h2,h3,h4,h5⟩:=zil b r (q+1) (w.setCell ⟨b,q,none⟩ v)
    refine ⟨fun k hk=>(h1 k hk).trans (Below.heap_setCell _ _ _ _ hk),h2.trans (by simp [World.setCell]),h3,h4,h5⟩
theorem zrz {A:Nat→Prop} {ρ:Nat→Loc} {H:Heap} {w:World} (s:Sim A ρ H w) {g:Nat} {sz:Nat} {cells:List AV} (hg:H g=some (.row sz cells)) {off:Nat} {vs:List AV} {us:List Value}
    (hv:LRel (Kof ρ H w) ρ A vs us) (h1:vs.all AV.one=true) (hl:off+vs.length≤cells.length) :
    ∃ w',(storeCells ⟨(ρ g).block,(ρ g).base+off,none⟩ us).run P w=.ok () w'∧Sim A ρ (H.put g (some (.row sz (zao cells off vs)))) w'∧Fr A ρ H w A ρ (H.put g (some (.row sz (zao cells off vs)))) w' ∧
      w'.heap.size=w.heap.size:=by
  obtain ⟨c,el,lo,hi,e1,e2,e3,e4,e5,e6⟩:=s.obj g _ hg
  have hul:us.length=vs.length:=hv.1
  have hrun:=run_storeCells_cells (P:=P) (ρ g).block ((ρ g).base+off) us 0 w (fun j hj=>by
      have:(ρ g).base+off+0+j < c.size:=by omega
      simp only [World.cell?, e1]
      simp
      omega)
    (fun j hj=>by
      simp only [World.frozen?, e1]
      have:=e2 ((ρ g).base+off+0+j) (by omega)
      simp; omega) (hv.ones h1)
  simp only [Nat.add_zero] at hrun
  obtain ⟨c',b1,b2,b3⟩:=zha (ρ g).block us ((ρ g).base+off) w c el (lo,hi) e1 (by omega)
  obtain ⟨r1,r2,r3,r4,r5⟩:=zil (ρ g).block us ((ρ g).base+off) w
  refine ⟨_,hrun,?_⟩
  obtain ⟨s',f'⟩:=s.write (w':=w.setCells (ρ g).block ((ρ g).base+off) us) (g:=g) (by rw [hg]; rfl) (.row sz (zao cells off vs)) (fun b hb=>r1 b hb) (by omega)
    ⟨c', el,lo,hi,b1,e2,by omega,e4,by rw [zik _ _ _ hl]; exact e5,fun j v hj=>by
      rw [zqt _ _ _ hl] at hj
      by_cases hin:off≤j∧j < off+vs.length
      · rw [if_pos hin] at hj
        obtain ⟨u,hu,hR⟩:=hv.get hj
        refine ⟨u,?_,hR⟩
        rw [b3,if_pos (by omega)]
        rw [show (ρ g).base+j - ((ρ g).base+off)=j - off by omega]; exact hu
      · rw [if_neg hin] at hj
        obtain ⟨cv,hc,hR⟩:=e6 j v hj
        exact ⟨cv,by rw [b3,if_neg (by omega)]; exact hc,hR⟩⟩ r3 r4 r5
  exact ⟨s',f',r2⟩
theorem zyy {t:Nat} {a:AT} {p x:Operand} {i:TypeInfo} {d:TypeDesc} {z:Value} (h:AtOk P t a i d z) (ho:o.op=.store t p x) {k:Kt} (hk:zag a.size (e p) (e x) H0 k) :
    ∃ v rd D,Eff P o e H0 rd [] D v∧k v rd [] D:=by
  unfold zag at hk
  split at hk
  · rename_i g off hp
    split at hk
    · rename_i es cells hg
      obtain ⟨h1,h2,h3,h4,hk⟩:=hk
      refine ⟨_,_,_,fun A ρ H w ev s hr hrd _ => ?_,hk⟩
      have hH:H g=some (.row es cells):=by rw [hrd g (by simp)]; exact hg
      have r1:=hr p (by simp [Op.operands,ho])
      have r2:=(hr x (by simp [Op.operands,ho])).cells h4
      rw [hp] at r1
      generalize hcv:ev p=cv at r1
      cases r1 with
      | ptr _ _ ad hA ha =>
        subst ha
        obtain ⟨w',q1,q2,q3,_⟩:=zrz (P:=P) (off:=off) s hH r2 h3 (by omega)
        have hsz:(ev x).cells.size=a.size:=by have:=r2.1; simp at this; omega
        have hrun:(storeVar t ⟨(ρ g).block,(ρ g).base+off,none⟩ (ev x)).run P w=.ok () w':=by
          simp [storeVar,Sem.run_bind,zak h,hsz,q1]
        have e0:execOp ev o=(do Instr.storeAt t (ev p) (ev x); pure Next.skip):=by simp only [execOp,ho]
        rw [e0]
        refine zsk (w':=w') (by simp [Instr.storeAt,hcv,Instr.sureAddr,Sem.run_bind,Sem.run_pure,hrun]) ⟨ρ,?_,?_,?_⟩
        · rw [zbr]; exact q2
        · exact .und
        · rw [zbr]; exact q3
    · exact hk.elim
  · exact hk.elim
end
end Go.Proofs.YtpllgpgdcbgalaaDoor
set_option maxRecDepth 8000
namespace Go.Proofs.YtpllgpgdcbgalaaDoor
open Go Go.RowKit
section
variable {P:Program} {T:Nat→Option AT} {o:Oper} {e:Operand→AV} {H0:Heap}
theorem zsq (l:List UInt8):(ByteArray.mk l.toArray).toList=l:=by
  rw [ByteArray.toList_eq]
def zach (op:BinOp) (k:IntKind) (a b:Int):AV:=match op with
  | .add=>.int k (k.wrap (a+b))
  | .sub=>.int k (k.wrap (a - b))
  | .mul=>.int k (k.wrap (a*b))
  | .quo=>.int k (k.wrap (a.tdiv b))
  | .rem=>.int k (a.tmod b)
  | .shl=>.int k (k.wrap (a*2 ^ (min b.toNat k.bits)))
  | .shr=>.int k (a.fdiv (2 ^ (min b.toNat k.bits)))
  | .and | .or | .xor | .andNot=>match znc op k a b with | some r=>.int k r | none=>.junk
  | .eql | .neq | .lss | .leq | .gtr | .geq=>match icmp op a b with | some r=>.bool r | none=>.junk
theorem zzy {op:BinOp} {k:IntKind} {a b:Int} {K:Kt} {yk:IntKind} (hyk:zau op=false→yk=k) (hk:IBIN op k a b K) :
    PURE (zach op k a b) K∧∀ (w:World) (t:TypeId),∃ cv,(binOp op t (.int k a) (.int yk b)).run P w=.ok cv w∧∀ K ρ A,VRel K ρ A (zach op k a b) cv:=by
  cases op <;> simp only [IBIN,icmp,znc] at hk
  case add=>have:=hyk rfl; subst this; exact ⟨hk,fun w t=>⟨_,by simp [binOp,Op.intArith,Sem.run_pure],fun _ _ _=>.int _ _⟩⟩
  case sub=>have:=hyk rfl; subst this; exact ⟨hk,fun w t=>⟨_,by simp [binOp,Op.intArith,Sem.run_pure],fun _ _ _=>.int _ _⟩⟩
  case mul=>have:=hyk rfl; subst this; exact ⟨hk,fun w t=>⟨_,by simp [binOp,Op.intArith,Sem.run_pure],fun _ _ _=>.int _ _⟩⟩
  case quo=>have:=hyk rfl; subst this; exact ⟨hk.2,fun w t=>⟨_,by simp [binOp,Op.intDiv,hk.1,Sem.run_pure],fun _ _ _=>.int _ _⟩⟩
  case rem=>have:=hyk rfl; subst this; exact ⟨hk.2,fun w t=>⟨_,by simp [binOp,Op.intDiv,hk.1,Sem.run_pure],fun _ _ _=>.int _ _⟩⟩
  case shl =>
    have h0:¬ b < 0:=by omega
    exact ⟨hk.2,fun w t=>⟨_,by simp [binOp,Op.shift,h0,Sem.run_pure],fun _ _ _=>.int _ _⟩⟩
  case shr =>
    have h0:¬ b < 0:=by omega
    exact ⟨hk.2,fun w t=>⟨_,by simp [binOp,Op.shift,h0,Sem.run_pure],fun _ _ _=>.int _ _⟩⟩
  case and=>have:=hyk rfl; subst this; exact ⟨hk,fun w t=>⟨_,by simp [binOp,Op.intBits,Sem.run_pure],fun _ _ _=>.int _ _⟩⟩
  case or=>have:=hyk rfl; subst this; exact ⟨hk,fun w t=>⟨_,by simp [binOp,Op.intBits,Sem.run_pure],fun _ _ _=>.int _ _⟩⟩
  case xor=>have:=hyk rfl; subst this; exact ⟨hk,fun w t=>⟨_,by simp [binOp,Op.intBits,Sem.run_pure],fun _ _ _=>.int _ _⟩⟩
  case andNot=>have:=hyk rfl; subst this; exact ⟨hk,fun w t=>⟨_,by simp [binOp,Op.intBits,Sem.run_pure],fun _ _ _=>.int _ _⟩⟩
  all_goals
    have:=hyk rfl
    subst this
    exact ⟨hk,fun w t=>⟨_,by simp [binOp,Op.intCmp,Sem.run_pure],fun _ _ _=>.bool _⟩⟩
def zaca (op:BinOp) (a b:List UInt8):AV:=match op with
  | .add=>.str (a ++ b)
  | .eql=>.bool (a == b)
  | .neq=>.bool (!(a == b))
  | .lss=>.bool (Op.bytesLess a b)
  | .leq=>.bool (Op.bytesLess a b || a == b)
  | .gtr=>.bool (!(Op.bytesLess a b || a == b))
  | .geq=>.bool (!Op.bytesLess a b)
  | _=>.junk
theorem zzx {op:BinOp} {a b:List UInt8} {K:Kt} (hk:SBIN op a b K) :
    PURE (zaca op a b) K∧∀ (w:World) (t:TypeId),∃ cv,(binOp op t (.string ⟨a.toArray⟩) (.string ⟨b.toArray⟩)).run P w=.ok cv w∧∀ K ρ A,VRel K ρ A (zaca op a b) cv:=by
  have ea:=zsq a
  have eb:=zsq b
  cases op <;> simp only [SBIN] at hk
  case add =>
    have hs:(⟨a.toArray⟩:ByteArray) ++ ⟨b.toArray⟩=⟨(a ++ b).toArray⟩:=by
      apply ByteArray.ext; simp
    have h1:(ByteArray.mk a.toArray).size=a.length:=by show a.toArray.size=_; simp
    have h2:(ByteArray.mk b.toArray).size=b.length:=by show b.toArray.size=_; simp
    have hmax:IntKind.i64.max=9223372036854775807:=by decide
    refine ⟨hk.2,fun w t=>⟨_,?_,fun _ _ _=>.str _⟩⟩
    simp only [binOp,Op.stringOp,h1,h2,hmax]
    rw [if_neg (by omega),hs]
    rfl
  all_goals first | exact hk.elim | exact ⟨hk,fun w t=>⟨_,by simp [binOp,Op.stringOp,ea,eb,Sem.run_pure],fun _ _ _=>.bool _⟩⟩
theorem zps {op:BinOp} {t:TypeId} {x y:Operand} {a b:Value} (h1:¬ (a=.nilIface∧b=.nilIface)) (h2:∀ xs ys,¬ (a=.agg xs∧b=.agg ys)) (w:World):(eqGuard op t x y a b).run P w=.ok () w:=by
  unfold eqGuard
  cases op <;> try rfl
  all_goals
    cases a <;> first
      | rfl
      | (cases b <;> first
        | rfl
        | exact absurd ⟨rfl,rfl⟩ h1
        | exact absurd ⟨rfl,rfl⟩ (h2 _ _))
def EqTy (P:Program) (t:TypeId) (zs:List AV):Prop:=∀ (w:World) (K:zj) (ρ:Nat→Loc) (A:Nat→Prop) (xs ys:List AV) (cs ds:Array Value) (r:Bool) (x y:Operand) (op:BinOp),LRel K ρ A xs cs.toList→LRel K ρ A ys ds.toList→(zd zs xs).isSome=true→zd xs ys=some r →
  (Op.equal t (.agg cs) (.agg ds)).run P w=.ok r w∧(eqGuard op t x y (.agg cs) (.agg ds)).run P w=.ok () w
theorem zpt {t:TypeId} (h:P.underlying t=some .bool) (a b:Bool) (w:World):(Op.equal t (.bool a) (.bool b)).run P w=.ok (a == b) w:=by
  unfold Op.equal Op.maxDepth
  rw [show (10000:Nat)=9999+1 from rfl,Op.equalIn]
  simp [Sem.run_bind,run_underlying h,Sem.run_pure]
theorem zkk {t yt:Nat} {op:BinOp} {x y:Operand} (ho:o.op=.binOp op t x y yt) {a b:Value} (h1:¬ (a=.nilIface∧b=.nilIface)) (h2:∀ xs ys,¬ (a=.agg xs∧b=.agg ys)) {w:World} {cv:Value}
    (hr:(binOp op t a b).run P w=.ok cv w) {ev:Operand→Value} (e1:ev x=a) (e2:ev y=b):(execOp ev o).run P w=.ok (.value cv) w:=by
  simp only [execOp,ho,e1,e2,Sem.run_bind,zps h1 h2,Result.andThen_ok,hr,Sem.run_pure]
theorem zabq {t yt:Nat} {op:BinOp} {x y:Operand} (ho:o.op=.binOp op t x y yt) {k:Kt} (hk:BINI op (e x) (e y) k):∃ v rd,Eff P o e H0 rd [] [] v∧k v rd [] []:=by
  unfold BINI at hk
  split at hk
  · rename_i ki a yk b hx hy
    obtain ⟨hs,hk⟩:=hk
    obtain ⟨hp,hrun⟩:=zzy (P:=P) hs hk
    refine ze hp fun K ρ A w ev hr => ?_
    have r1:=hr x (by simp [Op.operands,ho])
    have r2:=hr y (by simp [Op.operands,ho])
    rw [hx] at r1
    rw [hy] at r2
    generalize hcv:ev x=cx at r1
    generalize hcw:ev y=cy at r2
    cases r1
    cases r2
    obtain ⟨cv,h1,h2⟩:=hrun w t
    exact ⟨cv,zkk ho (by rintro ⟨h,_⟩; cases h) (by rintro _ _ ⟨h,_⟩; cases h) h1 hcv hcw,h2 _ _ _⟩
  · exact hk.elim
theorem zabn {t yt:Nat} {op:BinOp} {x y:Operand} (ho:o.op=.binOp op t x y yt) {k:Kt} (hk:BINS op (e x) (e y) k):∃ v rd,Eff P o e H0 rd [] [] v∧k v rd [] []:=by
  unfold BINS at hk
  split at hk
  · rename_i a b hx hy
    obtain ⟨hp,hrun⟩:=zzx (P:=P) hk
    refine ze hp fun K ρ A w ev hr => ?_
    have r1:=hr x (by simp [Op.operands,ho])
    have r2:=hr y (by simp [Op.operands,ho])
    rw [hx] at r1
    rw [hy] at r2
    generalize hcv:ev x=cx at r1
    generalize hcw:ev y=cy at r2
    cases r1
    cases r2
    obtain ⟨cv,h1,h2⟩:=hrun w t
    exact ⟨cv,zkk ho (by rintro ⟨h,_⟩; cases h) (by rintro _ _ ⟨h,_⟩; cases h) h1 hcv hcw,h2 _ _ _⟩
  · exact hk.elim
theorem zabs {t yt:Nat} {op:BinOp} {x y:Operand} (hu:P.underlying t=some .bool) (ho:o.op=.binOp op t x y yt) {k:Kt} (hk:BINB op (e x) (e y) k):∃ v rd,Eff P o e H0 rd [] [] v∧k v rd [] []:=by
  unfold BINB at hk
  split at hk
  · rename_i neg hop
    split at hk
    · rename_i a b hx hy
      refine ze hk fun K ρ A w ev hr => ?_
      have r1:=hr x (by simp [Op.operands,ho])
      have r2:=hr y (by simp [Op.operands,ho])
      rw [hx] at r1
      rw [hy] at r2
      generalize hcv:ev x=cx at r1
      generalize hcw:ev y=cy at r2
      cases r1
      cases r2
      refine ⟨.bool (neg ^^ (a == b)),zkk ho (by rintro ⟨h,_⟩; cases h) (by rintro _ _ ⟨h,_⟩; cases h) ?_ hcv hcw,.bool _⟩
      cases op <;> simp only [zaz] at hop <;> cases hop
      · simp [binOp,Sem.run_bind,zpt hu,Sem.run_pure]
      · simp [binOp,Sem.run_bind,zpt hu,Sem.run_pure]
    · exact hk.elim
  · exact hk.elim
theorem zud {t yt:Nat} {zs:List AV} {op:BinOp} {x y:Operand} (hE:EqTy P t zs) (ho:o.op=.binOp op t x y yt) {k:Kt} (hk:BINA zs op (e x) (e y) k):∃ v rd,Eff P o e H0 rd [] [] v∧k v rd [] []:=by
  unfold BINA at hk
  split at hk
  · rename_i neg hop
    split at hk
    · rename_i a b hx hy
      obtain ⟨hlen,hk⟩:=hk
      split at hk
      · rename_i r hcells
        refine ze hk fun K ρ A w ev hr => ?_
        have r1:=hr x (by simp [Op.operands,ho])
        have r2:=hr y (by simp [Op.operands,ho])
        rw [hx] at r1
        rw [hy] at r2
        generalize hcv:ev x=cx at r1
        generalize hcw:ev y=cy at r2
        cases r1 with
        | agg _ cs g1 g2 =>
        cases r2 with
        | agg _ ds g3 g4 =>
        obtain ⟨q1,q2⟩:=hE w K ρ A a b cs ds r x y op ⟨by simpa using g1,fun j v c h1 h2=>g2 j v c h1 (by simpa using h2)⟩ ⟨by simpa using g3,fun j v c h1 h2=>g4 j v c h1 (by simpa using h2)⟩ hlen hcells
        refine ⟨.bool (neg ^^ r),?_,.bool _⟩
        cases op <;> simp only [zaz] at hop <;> cases hop
        · simp only [execOp,ho,hcv,hcw,Sem.run_bind,q2,Result.andThen_ok,binOp,q1,Sem.run_pure]; simp
        · simp only [execOp,ho,hcv,hcw,Sem.run_bind,q2,Result.andThen_ok,binOp,q1,Sem.run_pure]; simp
      · exact hk.elim
    · exact hk.elim
  · exact hk.elim
theorem zwf {t el:TypeId} (h:P.underlying t=some (.pointer el)) {a b:Option Addr} (hab:a=none∨b=none) (w:World):(Op.equal t (.pointer a) (.pointer b)).run P w=.ok (a.isNone && b.isNone) w:=by
  unfold Op.equal Op.maxDepth
  rw [show (10000:Nat)=9999+1 from rfl,Op.equalIn]
  rcases hab with rfl | rfl
  · simp [Sem.run_bind,run_underlying h,Sem.run_pure]
  · cases a <;> simp [Sem.run_bind,run_underlying h,Sem.run_pure]
theorem ztr {K:zj} {ρ:Nat→Loc} {A:Nat→Prop} {v:AV} {c:Value} {r:Bool} (h:VRel K ρ A v c) (hn:nilP v=some r):∃ a,c=.pointer a∧a.isNone=r:=by
  cases h <;> simp only [nilP] at hn <;> cases hn
  · exact ⟨_,rfl,rfl⟩
  · exact ⟨_,rfl,rfl⟩
  · exact ⟨_,rfl,rfl⟩
theorem zabo {t yt el:Nat} {op:BinOp} {x y:Operand} (hu:P.underlying t=some (.pointer el)) (ho:o.op=.binOp op t x y yt) {k:Kt} (hk:BINP op (e x) (e y) k):∃ v rd,Eff P o e H0 rd [] [] v∧k v rd [] []:=by
  have key:∀ neg r r',zaz op=some neg→nilP (e x)=some r→nilP (e y)=some r'→(r=true∨r'=true)→PURE (.bool (neg ^^ (r && r'))) k→∃ v rd,Eff P o e H0 rd [] [] v∧k v rd [] []:=by
    intro neg r r' hop h1 h2 h3 hk
    refine ze hk fun K ρ A w ev hr => ?_
    obtain ⟨a,ha,har⟩:=ztr (hr x (by simp [Op.operands,ho])) h1
    obtain ⟨b,hb,hbr⟩:=ztr (hr y (by simp [Op.operands,ho])) h2
    have hab:a=none∨b=none:=by
      rcases h3 with h | h
      · left; rw [h] at har; simpa using har
      · right; rw [h] at hbr; simpa using hbr
    have heq:=zwf (P:=P) hu hab w
    rw [har,hbr] at heq
    refine ⟨.bool (neg ^^ (r && r')),zkk ho (by rintro ⟨h,_⟩; cases h) (by rintro _ _ ⟨h,_⟩; cases h) ?_ ha hb,.bool _⟩
    cases op <;> simp only [zaz] at hop <;> cases hop
    · simp [binOp,Sem.run_bind,heq,Sem.run_pure]
    · simp [binOp,Sem.run_bind,heq,Sem.run_pure]
  unfold BINP at hk
  split at hk
  · rename_i neg hop
    split at hk
    · rename_i hx
      split at hk
      · rename_i r hr
        exact key neg true r hop (by rw [hx]; rfl) hr (.inl rfl) (by simpa using hk)
      · exact hk.elim
    · have hy:e y=.nilp:=by assumption
      split at hk
      · rename_i r hr
        exact key neg r true hop hr (by rw [hy]; rfl) (.inr rfl) (by simpa using hk)
      · exact hk.elim
    · exact hk.elim
  · exact hk.elim
theorem znz {t el:TypeId} (h:P.underlying t=some (.slice el)) (a:Option Addr) (l c:Nat) (w:World):(Op.equal t (.slice a l c) (.slice none 0 0)).run P w=.ok a.isNone w:=by
  unfold Op.equal Op.maxDepth
  rw [show (10000:Nat)=9999+1 from rfl,Op.equalIn]
  cases a <;> simp [Sem.run_bind,run_underlying h,Sem.run_pure]
theorem zabp {t yt el:Nat} {op:BinOp} {x y:Operand} (hu:P.underlying t=some (.slice el)) (ho:o.op=.binOp op t x y yt) {k:Kt} (hk:BINL op (e x) (e y) k):∃ v rd,Eff P o e H0 rd [] [] v∧k v rd [] []:=by
  unfold BINL at hk
  split at hk
  case h_2=>exact hk.elim
  rename_i _ _ neg hop hy
  have run:∀ (a:Option Addr) (l c:Nat) (w:World) (ev:Operand→Value),ev x=.slice a l c→ev y=.slice none 0 0→(execOp ev o).run P w=.ok (.value (.bool (neg ^^ a.isNone))) w:=by
    intro a l c w ev h1 h2
    refine zkk ho (by rintro ⟨h,_⟩; cases h) (by rintro _ _ ⟨h,_⟩; cases h) ?_ h1 h2
    cases op <;> simp only [zaz] at hop <;> cases hop
    · simp [binOp,Sem.run_bind,znz (P:=P) hu,Sem.run_pure]
    · simp [binOp,Sem.run_bind,znz (P:=P) hu,Sem.run_pure]
  have main:∀ (v:AV),(∀ (K:zj) (ρ:Nat→Loc) (A:Nat→Prop) (c:Value),VRel K ρ A (e x) c→∃ a l q,c=.slice a l q∧VRel K ρ A v (.bool (neg ^^ a.isNone)))→PURE v k→∃ v rd,Eff P o e H0 rd [] [] v∧k v rd [] []:=by
    intro v hv hk
    refine ze hk fun K ρ A w ev hr => ?_
    obtain ⟨a,l,q,h1,h2⟩:=hv K ρ A _ (hr x (by simp [Op.operands,ho]))
    have r2:=hr y (by simp [Op.operands,ho])
    rw [hy] at r2
    generalize hcw:ev y=cw at r2
    cases r2
    exact ⟨_,run a l q w ev h1 hcw,h2⟩
  split at hk
  · rename_i hx
    refine main _ (fun K ρ A c h => ?_) hk
    rw [hx] at h; cases h
    exact ⟨_,_,_,rfl,.bool _⟩
  · rename_i hx
    refine main _ (fun K ρ A c h => ?_) hk
    rw [hx] at h; cases h
    exact ⟨_,_,_,rfl,.bany _⟩
  · rename_i xs hx
    by_cases h0:xs=[]
    · refine main _ (fun K ρ A c h => ?_) (hk.1 h0)
      rw [hx] at h; cases h
      exact ⟨_,_,_,rfl,.bany _⟩
    · refine main _ (fun K ρ A c h => ?_) (hk.2 h0)
      rw [hx] at h
      cases h with
      | ro _ a len cap sz b off C h1 h2 h3 =>
        rw [h3 h0]
        exact ⟨_,_,_,rfl,.bool _⟩
  · rename_i g off n hx
    by_cases h0:n=0
    · refine main _ (fun K ρ A c h => ?_) (hk.1 h0)
      rw [hx] at h; cases h
      exact ⟨_,_,_,rfl,.bany _⟩
    · refine main _ (fun K ρ A c h => ?_) (hk.2 h0)
      rw [hx] at h
      cases h with
      | slc _ _ _ cap a h1 h2 h3 =>
        rw [(h3 (by omega)).2]
        exact ⟨_,_,_,rfl,.bool _⟩
  · exact hk.elim
theorem zwg {t:TypeId} {ms:Array (String×TypeId)} (h:P.underlying t=some (.interface ms)) {c:Value} (hc:c=.nilIface∨zrl c) (w:World):∃ b,(Op.equal t c .nilIface).run P w=.ok b w∧(c=.nilIface→b=true)∧(zrl c→b=false):=by
  unfold Op.equal Op.maxDepth
  rw [show (10000:Nat)=9999+1 from rfl,Op.equalIn]
  rcases hc with rfl | ⟨t,x,rfl⟩
  · exact ⟨true,by simp [Sem.run_bind,run_underlying h,Sem.run_pure],fun _=>rfl,fun ⟨_,_,h⟩=>by cases h⟩
  · exact ⟨false,by simp [Sem.run_bind,run_underlying h,Sem.run_pure],fun h=>(by cases h),fun _=>rfl⟩
theorem zabr {t yt:Nat} {ms:Array (String×TypeId)} {op:BinOp} {x y:Operand} (hu:P.underlying t=some (.interface ms)) (hc:∃ c,y=.const c) (ho:o.op=.binOp op t x y yt) {k:Kt} (hk:BINF op (e x) (e y) k):∃ v rd,Eff P o e H0 rd [] [] v∧k v rd [] []:=by
  unfold BINF at hk
  split at hk
  case h_2=>exact hk.elim
  rename_i _ _ neg hop hy
  have main:∀ (v:AV),(∀ (K:zj) (ρ:Nat→Loc) (A:Nat→Prop) (c:Value),VRel K ρ A (e x) c→(c=.nilIface∨zrl c)∧∀ b,(c=.nilIface→b=true)→(zrl c→b=false)→VRel K ρ A v (.bool (neg ^^ b)))→PURE v k→∃ v rd,Eff P o e H0 rd [] [] v∧k v rd [] []:=by
    intro v hv hk
    refine ze hk fun K ρ A w ev hr => ?_
    obtain ⟨h1,h2⟩:=hv K ρ A _ (hr x (by simp [Op.operands,ho]))
    have r2:=hr y (by simp [Op.operands,ho])
    rw [hy] at r2
    generalize hcw:ev y=cw at r2
    cases r2
    generalize hcx:ev x=cx at *
    obtain ⟨b,hb,hbn,hbi⟩:=zwg (P:=P) hu h1 w
    obtain ⟨c,rfl⟩:=hc
    have hgd:(eqGuard op t x (.const c) cx .nilIface).run P w=.ok () w:=by
      rcases h1 with rfl | ⟨t',x',rfl⟩
      · cases op <;> simp [eqGuard,Sem.run_pure]
      · cases op <;> simp [eqGuard,Sem.run_pure]
    refine ⟨.bool (neg ^^ b),?_,h2 b hbn hbi⟩
    simp only [execOp,ho,hcx,hcw,Sem.run_bind,hgd,Result.andThen_ok]
    cases op <;> simp only [zaz] at hop <;> cases hop
    · simp [binOp,Sem.run_bind,hb,Sem.run_pure]
    · simp [binOp,Sem.run_bind,hb,Sem.run_pure]
  split at hk
  · rename_i hx
    refine main _ (fun K ρ A c h => ?_) hk
    rw [hx] at h; cases h
    exact ⟨.inl rfl,fun b hb _=>by rw [hb rfl]; exact .bool _⟩
  · rename_i hx
    refine main _ (fun K ρ A c h => ?_) hk
    rw [hx] at h
    cases h with
    | ifc v h=>exact ⟨.inr h,fun b _ hb=>by rw [hb h]; exact .bool _⟩
  · exact hk.elim
theorem zaep {t:Nat} {op:UnOp} {x:Operand} (ho:o.op=.unOp op t x) {k:Kt} (hk:UN op (e x) k):∃ v rd,Eff P o e H0 rd [] [] v∧k v rd [] []:=by
  unfold UN at hk
  split at hk
  · rename_i b hx
    refine ze hk fun K ρ A w ev hr => ?_
    have r1:=hr x (by simp [Op.operands,ho])
    rw [hx] at r1
    generalize hcv:ev x=cv at r1
    cases r1
    exact ⟨.bool (!b),by simp [execOp,ho,hcv,Op.unary,Sem.run_pure,Sem.run_bind],.bool _⟩
  · rename_i ki n hx
    refine ze hk fun K ρ A w ev hr => ?_
    have r1:=hr x (by simp [Op.operands,ho])
    rw [hx] at r1
    generalize hcv:ev x=cv at r1
    cases r1
    exact ⟨.int ki (ki.wrap (0 - n)),by simp [execOp,ho,hcv,Op.unary,Op.intArith,Sem.run_pure,Sem.run_bind],.int _ _⟩
  · rename_i ki n hx
    simp only [IBIN,znc] at hk
    refine ze hk fun K ρ A w ev hr => ?_
    have r1:=hr x (by simp [Op.operands,ho])
    rw [hx] at r1
    generalize hcv:ev x=cv at r1
    cases r1
    refine ⟨_,?_,.int _ _⟩
    simp only [execOp,ho,hcv,Op.unary,Op.intBits,Sem.run_pure,Sem.run_bind,Result.andThen_ok]
  · exact hk.elim
theorem zzf {ss d:Nat} {kd:IntKind} {x:Operand} {us:TypeDesc} (hs:P.underlying ss=some us) (hd:P.underlying d=some (.int kd)) (ho:o.op=.convert ss d x) {k:Kt} (hk:zpi kd (e x) k):∃ v rd,Eff P o e H0 rd [] [] v∧k v rd [] []:=by
  unfold zpi at hk
  split at hk
  · rename_i ki n hx
    refine ze hk fun K ρ A w ev hr => ?_
    have r1:=hr x (by simp [Op.operands,ho])
    rw [hx] at r1
    generalize hcv:ev x=cv at r1
    cases r1
    refine ⟨_,?_,.int _ _⟩
    simp [execOp,ho,hcv,convert,Conv.intToInt,Sem.run_pure,Sem.run_bind,run_underlying hs,run_underlying hd]
  · exact hk.elim
theorem zxe {f:FuncId} {cap:Array Operand} (ho:o.op=.makeFunc (.func f) #[] cap) {k:Kt} (hk:PURE (.clo f (cap.toList.map e)) k):∃ v rd,Eff P o e H0 rd [] [] v∧k v rd [] []:=by
  refine ze hk fun K ρ A w ev hr=>⟨.func (.func f) #[] (cap.map ev),by simp [execOp,ho,Instr.makeFunc,Sem.run_pure,Sem.run_bind],.clo f _ _ (by simp) fun j v c hv hc => ?_⟩
  simp only [List.getElem?_map,Option.map_eq_some_iff,Array.getElem?_map,Array.getElem?_toList] at hv hc
  obtain ⟨x,hx,rfl⟩:=hv
  obtain ⟨y,hy,rfl⟩:=hc
  rw [hx] at hy
  obtain rfl:=Option.some.inj hy
  exact hr x (by simp only [Op.operands,ho]; simp; exact Array.mem_of_getElem? hx)
theorem zza {t:Nat} (ho:o.op=.makeMap t none) {nx:Nat} {k:Kt} (hk:NEW nx (.mp []) (.amap nx) k):∃ v rd,Eff P o e H0 rd [nx] [(nx,some (.mp []))] v∧k v rd [nx] [(nx,some (.mp []))]:=by
  refine ⟨_,[],Eff.new fun A ρ H w ev s hx _=>⟨.map (some w.heap.size),.map #[] 0,⟨w.heap.size,0,0,0⟩,w.alloc (.map #[] 0),?_,rfl,rfl,rfl,rfl,rfl,fun w' hw=>⟨#[],0,hw,rfl,fun j kv en h=>by simp at h,by simp [zgl]⟩,fun K ρ' A' h1 h2=>.amap _ _ h2 (by rw [h1])⟩,hk⟩
  simp only [execOp,ho,Instr.makeMap,newObj,Option.map_none,Sem.run_bind,Sem.run_pure,Result.andThen_ok]
  rfl
end
end Go.Proofs.YtpllgpgdcbgalaaDoor
set_option maxRecDepth 8000
namespace Go.Proofs.YtpllgpgdcbgalaaDoor
open Go Go.RowKit
section
variable {P:Program} {T:Nat→Option AT} {o:Oper} {e:Operand→AV} {H0:Heap}
theorem zuw {n:Nat} (h:n≤140737488355328) (w:World):(askRoom n).run P w=.ok () w:=by
  unfold askRoom roomBytes
  rw [if_neg (by omega)]
  rfl
theorem zabg {t el:Nat} {a:AT} {l c:Operand} {s b:Nat} {z0:List AV} {i i':TypeInfo} {d d':TypeDesc} {z z':Value} (h:AtOk P t ⟨.slice el,s,b,z0⟩ i d z) (ha:AtOk P el a i' d' z')
    (hzl:a.zero.length=a.size) (hpos:0 < a.size) (ho:o.op=.makeSlice t l c) {nx:Nat} {k:Kt}
    (hk:MAKE a.size a.bytes a.zero (e l) (e c) nx k):∃ v rd cells,Eff P o e H0 rd [nx] [(nx,some (.row a.size cells))] v∧k v rd [nx] [(nx,some (.row a.size cells))]:=by
  have hu:=zaw h
  unfold MAKE at hk
  split at hk
  · rename_i k1 n k2 m hl hc
    obtain ⟨rfl,h0,hn47,hnb,hk⟩:=hk
    obtain ⟨v,rd,h1,h2⟩:∃ v rd,Eff P o e H0 rd [nx] [(nx,some (.row a.size (List.replicate m.toNat a.zero).flatten))] v∧k v rd [nx] [(nx,some (.row a.size (List.replicate m.toNat a.zero).flatten))]:=by
      refine zpc hk fun A ρ H w ev s hr => ?_
      have r1:=hr l (by simp [Op.operands,ho])
      have r2:=hr c (by simp [Op.operands,ho])
      rw [hl] at r1
      rw [hc] at r2
      generalize hcv:ev l=cl at r1
      generalize hcw:ev c=cc at r2
      cases r1
      cases r2
      have hw:IntKind.i64.wrap m=m:=IntWalk.i64_in _ (by omega)
      have hb:a.bytes*m≤140737488355328:=by
        have e1:(m.toNat*a.bytes:Nat)≤140737488355328:=hnb
        have e2:((m.toNat*a.bytes:Nat):Int)=a.bytes*m:=by
          rw [Int.natCast_mul,Int.toNat_of_nonneg h0,Int.mul_comm]
        omega
      refine ⟨.slice (some ⟨w.heap.size,0,none⟩) m.toNat m.toNat,(Array.range (m.toNat*a.size)).map (z'.cells[· % z'.cells.size]!),el,?_,?_,fun K ρ' A' g1 g2=>zhk (by simp) (Nat.le_refl _) K ρ' A' g1 g2⟩
      · have hinfo:∀ w:World,(typeInfo el).run P w=.ok i' w:=fun w=>by simp [typeInfo,program,Sem.run_bind,Sem.run,ha.info]
        have hcond:((decide (m < 0) || decide ((a.bytes:Int)*m > 2 ^ 48)) || decide (m < 0) || decide (m > m))=false:=by
          simp
          omega
        simp only [execOp,ho,Instr.makeSlice,hcv,hcw,Sem.run_bind,run_underlying hu,Result.andThen_ok,asInt,asIntOf,Sem.run_pure,hinfo,hw,ha.bytes]
        simp only [hcond,Bool.false_eq_true,if_false,Sem.run_bind,Result.andThen_ok,zuw hnb,zak ha]
        by_cases hz:m.toNat*a.size=0
        · have hr0:(Array.range (m.toNat*a.size)).map (fun x=>(#[]:Array Value)[x % (#[]:Array Value).size]!)=(Array.range (m.toNat*a.size)).map (z'.cells[· % z'.cells.size]!):=by simp [hz]
          simp only [if_pos hz,Sem.run_pure,Sem.run_bind,Result.andThen_ok,hr0,newRow,newObj]
          rfl
        · simp only [if_neg hz,Sem.run_pure,Sem.run_bind,Result.andThen_ok,zbj ha,newRow,newObj]
          rfl
      · rw [zny z'.cells m.toNat a.size (by rw [ha.zsize,hzl]) hpos,ha.cells]
        exact (LRel.scalars _).replicate _
    exact ⟨v,rd,_,h1,h2⟩
  · exact hk.elim
theorem zlz {k:IntKind} {n:Int} {y:Nat} {code:BoundsCode} (h0:0≤n) (h1:n≤y) (w:World):(Instr.sliceBound (.int k n) y code).run P w=.ok n.toNat w:=by
  simp [Instr.sliceBound,asIntOf,Sem.run_bind,Sem.run_pure,h0,h1]
theorem zmv {isS:Bool} {len cap:Nat} {lo hi:Option AV} {clo chi:Option Value} {K:zj} {ρ:Nat→Loc} {A:Nat→Prop} {a b:Int}
    (hlo:∀ x,lo=some x→∃ c,clo=some c∧VRel K ρ A x c) (hlo':lo=none→clo=none) (hhi:∀ x,hi=some x→∃ c,chi=some c∧VRel K ρ A x c) (hhi':hi=none→chi=none)
    (h:lohi lo hi len=some (a,b)) (h0:0≤a) (h1:a≤b) (h2:b≤len) (h3:len≤cap) (w:World) :
    (Instr.sliceBounds isS len cap clo chi none).run P w=.ok (a.toNat,b.toNat,cap) w:=by
  unfold lohi at h
  have hb:∀ (k:IntKind) (n:Int) (y:Nat) code,0≤n→n≤y→(Instr.sliceBound (.int k n) y code).run P w=.ok n.toNat w:=fun k n y code p q=>zlz p q w
  split at h
  · simp only [Option.some.injEq,Prod.mk.injEq] at h
    obtain ⟨rfl,rfl⟩:=h
    rw [hlo' rfl,hhi' rfl]
    simp [Instr.sliceBounds,Sem.run_bind,Sem.run_pure]
  · rename_i k n
    simp only [Option.some.injEq,Prod.mk.injEq] at h
    obtain ⟨rfl,rfl⟩:=h
    obtain ⟨c,rfl,hc⟩:=hlo _ rfl
    cases hc
    rw [hhi' rfl]
    simp [Instr.sliceBounds,Sem.run_bind,Sem.run_pure,hb,h0,h1]
  · rename_i k n
    simp only [Option.some.injEq,Prod.mk.injEq] at h
    obtain ⟨rfl,rfl⟩:=h
    obtain ⟨c,rfl,hc⟩:=hhi _ rfl
    cases hc
    rw [hlo' rfl]
    have:n≤cap:=by omega
    simp [Instr.sliceBounds,Sem.run_bind,Sem.run_pure,hb,h1,this]
  · rename_i k n k' n'
    simp only [Option.some.injEq,Prod.mk.injEq] at h
    obtain ⟨rfl,rfl⟩:=h
    obtain ⟨c,rfl,hc⟩:=hlo _ rfl
    cases hc
    obtain ⟨c,rfl,hc⟩:=hhi _ rfl
    cases hc
    have g1:n'≤cap:=by omega
    have g2:0≤n':=by omega
    have g3:n≤(n'.toNat:Nat):=by omega
    have g4:=hb k n n'.toNat .sliceB h0 g3
    simp [Instr.sliceBounds,Sem.run_bind,Sem.run_pure,hb,g1,g2,g4]
  · cases h
theorem zjl {lo:Option Operand} {K:zj} {ρ:Nat→Loc} {A:Nat→Prop} {ev:Operand→Value} (h:∀ x,lo=some x→VRel K ρ A (e x) (ev x)) :
    (∀ x,lo.map e=some x→∃ c,lo.map ev=some c∧VRel K ρ A x c)∧(lo.map e=none→lo.map ev=none):=by
  cases lo with
  | none=>exact ⟨fun x h=>by simp at h,fun _=>rfl⟩
  | some y=>exact ⟨fun x hx=>⟨ev y,rfl,by simp at hx; subst hx; exact h y rfl⟩,fun h=>by simp at h⟩
theorem zsz {t:Nat} {x:Operand} {lo hi:Option Operand} {s b:Nat} {z0:List AV} {i:TypeInfo} {d:TypeDesc} {z:Value} (h:AtOk P t ⟨.str,s,b,z0⟩ i d z) (ho:o.op=.slice t x lo hi none) {k:Kt}
    (hk:zgj (e x) (lo.map e) (hi.map e) k):∃ v rd,Eff P o e H0 rd [] [] v∧k v rd [] []:=by
  have hu:=zjj h
  unfold zgj at hk
  split at hk
  rotate_left
  · exact hk.elim
  rename_i l hx
  split at hk
  · rename_i a b' hl
    obtain ⟨h0,h1,h2,hk⟩:=hk
    refine ze hk fun K ρ A w ev hr => ?_
    have r1:=hr x (by simp [Op.operands,ho])
    rw [hx] at r1
    generalize hcv:ev x=cv at r1
    cases r1
    obtain ⟨q1,q2⟩:=zjl (e:=e) (K:=K) (ρ:=ρ) (A:=A) (ev:=ev) (lo:=lo) fun y hy=>hr y (by simp [Op.operands,ho,hy])
    obtain ⟨q3,q4⟩:=zjl (e:=e) (K:=K) (ρ:=ρ) (A:=A) (ev:=ev) (lo:=hi) fun y hy=>hr y (by simp [Op.operands,ho,hy])
    have hsz:(ByteArray.mk l.toArray).size=l.length:=by show l.toArray.size=_; simp
    have hrun:=zmv (P:=P) (isS:=false) q1 q2 q3 q4 hl h0 h1 h2 (Nat.le_refl _) w
    refine ⟨.string ⟨((l.take b'.toNat).drop a.toNat).toArray⟩,?_,.str _⟩
    have hext:(ByteArray.mk l.toArray).extract a.toNat b'.toNat=⟨((l.take b'.toNat).drop a.toNat).toArray⟩:=by
      apply ByteArray.ext
      simp [ByteArray.data_extract,List.extract_toArray,List.extract_eq_drop_take']
    simp [execOp,ho,hcv,Instr.sliceAt,Instr.slice,Sem.run_bind,Sem.run_pure,run_underlying hu,hsz,hrun,hext]
  · exact hk.elim
theorem zyz (hT:TOk P T) {t el:Nat} {x:Operand} {lo hi:Option Operand} {s b:Nat} {z0:List AV} {i:TypeInfo} {d:TypeDesc} {z:Value} (h:AtOk P t ⟨.slice el,s,b,z0⟩ i d z) (hsz:zc T el ≠ 0) (ho:o.op=.slice t x lo hi none) {k:Kt}
    (hk:zkz (zc T el) (e x) (lo.map e) (hi.map e) H0 k):∃ v rd,Eff P o e H0 rd [] [] v∧k v rd [] []:=by
  have hu:=zaw h
  have hso:=fun w=>zcx hT hsz w
  have key:∀ (K:zj) (ρ:Nat→Loc) (A:Nat→Prop) (w:World) (ev:Operand→Value) ad n c a b',(∀ y∈o.op.operands.toList,VRel K ρ A (e y) (ev y))→ev x=.slice ad n c→lohi (lo.map e) (hi.map e) n=some (a,b')→0≤a→a≤b'→b'≤n→n≤c →
      (execOp ev o).run P w=.ok (.value (.slice (if c=a.toNat then ad else ad.map (·.add (a.toNat*zc T el))) (b'.toNat - a.toNat) (c - a.toNat))) w:=by
    intro K ρ A w ev ad n c a b' hr hcv hl h0 h1 h2 h3
    obtain ⟨q1,q2⟩:=zjl (e:=e) (K:=K) (ρ:=ρ) (A:=A) (ev:=ev) (lo:=lo) fun y hy=>hr y (by simp [Op.operands,ho,hy])
    obtain ⟨q3,q4⟩:=zjl (e:=e) (K:=K) (ρ:=ρ) (A:=A) (ev:=ev) (lo:=hi) fun y hy=>hr y (by simp [Op.operands,ho,hy])
    have hrun:=zmv (P:=P) (isS:=true) q1 q2 q3 q4 hl h0 h1 h2 h3 w
    simp [execOp,ho,hcv,Instr.sliceAt,Instr.slice,Sem.run_bind,Sem.run_pure,run_underlying hu,hso,hrun]
  generalize hxe:e x=xv at hk
  cases xv <;> simp only [zkz] at hk
  all_goals first | exact hk.elim | skip
  case nils =>
    split at hk
    · rename_i a b' hl
      obtain ⟨rfl,rfl,hk⟩:=hk
      refine ze hk fun K ρ A w ev hr => ?_
      have r1:=hr x (by simp [Op.operands,ho])
      rw [hxe] at r1
      generalize hcv:ev x=cv at r1
      cases r1
      exact ⟨_,key K ρ A w ev _ _ _ _ _ hr hcv hl (by omega) (by omega) (by simp) (by simp),by simpa using VRel.nils⟩
    · exact hk.elim
  case zs =>
    split at hk
    · rename_i a b' hl
      obtain ⟨rfl,rfl,hk⟩:=hk
      refine ze hk fun K ρ A w ev hr => ?_
      have r1:=hr x (by simp [Op.operands,ho])
      rw [hxe] at r1
      generalize hcv:ev x=cv at r1
      cases r1
      exact ⟨_,key K ρ A w ev _ _ _ _ _ hr hcv hl (by omega) (by omega) (by simp) (by simp),by simpa using VRel.zs _⟩
    · exact hk.elim
  case ro xs =>
    split at hk
    · rename_i a b' hl
      obtain ⟨h0,h1,h2,hall,hk⟩:=hk
      refine ze hk fun K ρ A w ev hr => ?_
      have r1:=hr x (by simp [Op.operands,ho])
      rw [hxe] at r1
      generalize hcv:ev x=cv at r1
      cases r1 with
      | ro _ ad len cap sz b off C e1 e2 e3 e4 e5 e6 =>
        subst e1
        refine ⟨_,key K ρ A w ev _ _ _ _ _ hr hcv hl h0 h1 h2 e2,?_⟩
        have hlen:((xs.take b'.toNat).drop a.toNat).length=b'.toNat - a.toNat:=by simp; omega
        have hel:∀ (j:Nat) (y:List AV),((xs.take b'.toNat).drop a.toNat)[j]? = some y→xs[a.toNat+j]? = some y:=by
          intro j y hy
          rw [List.getElem?_drop,List.getElem?_take] at hy
          split at hy
          · exact hy
          · cases hy
        refine .ro _ _ _ _ sz b (off+a.toNat*sz) (fun i j=>C (a.toNat+i) j) hlen.symm (by omega) (fun hne => ?_) (fun y hy=>e4 y (List.mem_of_mem_take (List.mem_of_mem_drop hy))) (fun i y j v hy hv => ?_) (fun i y j v hy hv=>e6 _ _ j v (hel i y hy) hv)
        · have hpos:a.toNat < cap:=by
            have:0 < ((xs.take b'.toNat).drop a.toNat).length:=List.length_pos_iff.2 hne
            omega
          have hxne:xs ≠ []:=by
            intro h; subst h; simp at hne
          obtain rfl:=e3 hxne
          have hs:sz=zc T el:=by
            obtain ⟨y,hy⟩:=List.exists_mem_of_ne_nil _ hxne
            rw [← e4 y hy]; exact hall y hy
          rw [if_neg (by omega)]
          simp only [Option.map_some,zbk,hs]
        · have:=e5 _ _ j v (hel i y hy) hv
          rw [Nat.add_mul] at this
          rw [← this]; congr 1; omega
    · exact hk.elim
  case slc g off len =>
    split at hk
    · rename_i a b' hl
      split at hk
      · rename_i sz cells hg
        obtain ⟨rfl,h0,h1,h2,hk⟩:=hk
        refine ⟨_,_,Eff.read fun A ρ H w ev s hr hrd => ?_,hk⟩
        have hH:H g=some (.row (zc T el) cells):=by rw [hrd g (by simp)]; exact hg
        have r1:=hr x (by simp [Op.operands,ho])
        rw [hxe] at r1
        generalize hcv:ev x=cv at r1
        cases r1 with
        | slc _ _ _ cap ad hA hle hcap =>
          obtain ⟨c,el',lo',hi',_,_,_,hs,_,_⟩:=s.obj g _ hH
          refine ⟨_,key _ ρ A w ev _ _ _ _ _ hr hcv hl h0 h1 h2 hle,?_⟩
          have e1:b'.toNat - a.toNat=(b' - a).toNat:=by omega
          rw [e1]
          refine .slc g _ _ _ _ hA (by omega) fun hc => ?_
          obtain ⟨q1,rfl⟩:=hcap (by omega)
          rw [if_neg (by omega),← hs]
          rw [← hs] at q1
          refine ⟨?_,by simp only [Option.map_some,zbk,Nat.add_assoc]⟩
          have:cap*zc T el=a.toNat*zc T el+(cap - a.toNat)*zc T el:=by rw [← Nat.add_mul]; congr 1; omega
          omega
      · exact hk.elim
    · exact hk.elim
theorem zxd (hT:TOk P T) {t el:Nat} {x lo hi mx:Operand} {s b:Nat} {z0:List AV} {i:TypeInfo} {d:TypeDesc} {z:Value} (h:AtOk P t ⟨.slice el,s,b,z0⟩ i d z) (hsz:zc T el ≠ 0) (ho:o.op=.slice t x (some lo) (some hi) (some mx)) {k:Kt}
    (hk:zmk (e x) (e lo) (e hi) (e mx) k):∃ v rd,Eff P o e H0 rd [] [] v∧k v rd [] []:=by
  have hu:=zaw h
  have hso:=fun w=>zcx hT hsz w
  have key:∀ (w:World) (ev:Operand→Value) ad n c k1 k2 k3,ev x=.slice ad n c→ev lo=.int k1 0→ev hi=.int k2 0→ev mx=.int k3 0→∃ ad',(execOp ev o).run P w=.ok (.value (.slice ad' 0 0)) w∧(ad=none→ad'=none):=by
    intro w ev ad n c k1 k2 k3 hcv e1 e2 e3
    refine ⟨ad,?_,id⟩
    have hb:∀ (y:Nat) (kk:IntKind) code (w:World),(Instr.sliceBound (.int kk 0) y code).run P w=.ok 0 w:=fun y kk code w=>by have:=zlz (P:=P) (k:=kk) (n:=0) (y:=y) (code:=code) (by omega) (by omega) w; simpa using this
    simp only [execOp,ho,hcv,e1,e2,e3,Instr.sliceAt,Instr.slice,Option.map_some,Sem.run_bind,Sem.run_pure,run_underlying hu,hso,Result.andThen_ok,Instr.sliceBounds,hb]
    simp
  unfold zmk at hk
  split at hk
  · rename_i k1 n1 k2 n2 k3 n3 q1 q2 q3
    obtain ⟨rfl,rfl,rfl,hk⟩:=hk
    split at hk
    · rename_i hxe
      refine ze hk fun K ρ A w ev hr => ?_
      have r0:=hr x (by simp [Op.operands,ho])
      have r1:=hr lo (by simp [Op.operands,ho])
      have r2:=hr hi (by simp [Op.operands,ho])
      have r3:=hr mx (by simp [Op.operands,ho])
      rw [hxe] at r0; rw [q1] at r1; rw [q2] at r2; rw [q3] at r3
      generalize c0:ev x=v0 at r0
      generalize c1:ev lo=v1 at r1
      generalize c2:ev hi=v2 at r2
      generalize c3:ev mx=v3 at r3
      cases r1; cases r2; cases r3; cases r0
      obtain ⟨ad',hrun,hn⟩:=key w ev _ _ _ _ _ _ c0 c1 c2 c3
      rw [hn rfl] at hrun
      exact ⟨_,hrun,.nils⟩
    · rename_i hxe
      refine ze hk fun K ρ A w ev hr => ?_
      have r0:=hr x (by simp [Op.operands,ho])
      have r1:=hr lo (by simp [Op.operands,ho])
      have r2:=hr hi (by simp [Op.operands,ho])
      have r3:=hr mx (by simp [Op.operands,ho])
      rw [hxe] at r0; rw [q1] at r1; rw [q2] at r2; rw [q3] at r3
      generalize c0:ev x=v0 at r0
      generalize c1:ev lo=v1 at r1
      generalize c2:ev hi=v2 at r2
      generalize c3:ev mx=v3 at r3
      cases r1; cases r2; cases r3; cases r0
      obtain ⟨ad',hrun,hn⟩:=key w ev _ _ _ _ _ _ c0 c1 c2 c3
      exact ⟨_,hrun,.zs _⟩
    · rename_i xs hxe
      refine ze hk fun K ρ A w ev hr => ?_
      have r0:=hr x (by simp [Op.operands,ho])
      have r1:=hr lo (by simp [Op.operands,ho])
      have r2:=hr hi (by simp [Op.operands,ho])
      have r3:=hr mx (by simp [Op.operands,ho])
      rw [hxe] at r0; rw [q1] at r1; rw [q2] at r2; rw [q3] at r3
      generalize c0:ev x=v0 at r0
      generalize c1:ev lo=v1 at r1
      generalize c2:ev hi=v2 at r2
      generalize c3:ev mx=v3 at r3
      cases r1; cases r2; cases r3; cases r0
      obtain ⟨ad',hrun,hn⟩:=key w ev _ _ _ _ _ _ c0 c1 c2 c3
      exact ⟨_,hrun,.zs _⟩
    · rename_i g off len hxe
      refine ze hk fun K ρ A w ev hr => ?_
      have r0:=hr x (by simp [Op.operands,ho])
      have r1:=hr lo (by simp [Op.operands,ho])
      have r2:=hr hi (by simp [Op.operands,ho])
      have r3:=hr mx (by simp [Op.operands,ho])
      rw [hxe] at r0; rw [q1] at r1; rw [q2] at r2; rw [q3] at r3
      generalize c0:ev x=v0 at r0
      generalize c1:ev lo=v1 at r1
      generalize c2:ev hi=v2 at r2
      generalize c3:ev mx=v3 at r3
      cases r1; cases r2; cases r3; cases r0
      obtain ⟨ad',hrun,hn⟩:=key w ev _ _ _ _ _ _ c0 c1 c2 c3
      exact ⟨_,hrun,.zs _⟩
    · exact hk.elim
  · exact hk.elim
end
end Go.Proofs.YtpllgpgdcbgalaaDoor
set_option maxRecDepth 8000
namespace Go.Proofs.YtpllgpgdcbgalaaDoor
open Go Go.RowKit
section
variable {P:Program} {T:Nat→Option AT} {o:Oper} {e:Operand→AV} {H0:Heap}
theorem zzl (a b:List UInt8):((ByteArray.mk a.toArray) == (ByteArray.mk b.toArray))=(a == b):=by
  show (a.toArray == b.toArray)=_
  simp
def KeyD (d:TypeDesc):Prop:=(∃ k,d=.int k)∨d=.string∨d=.bool
theorem zpv {kt:Nat} {a:AT} {i:TypeInfo} {d:TypeDesc} {z:Value} (h:AtOk P kt a i d z) {v:AV} (hf:zn a.kind v=true) :
    KeyD d∧∀ (K:zj) (ρ:Nat→Loc) (A:Nat→Prop) (c:Value),VRel K ρ A v c→(∀ k n,c=.int k n→∃ k',d=.int k')∧(∀ s,c=.string s→d=.string)∧(∀ s,c=.bool s→d=.bool):=by
  have hk:=h.kind
  rw [← hk] at hf
  cases v <;> cases d <;> simp only [zn,zcd] at hf <;> first | cases hf | skip
  · exact ⟨.inl ⟨_,rfl⟩,fun K ρ A c hc=>by cases hc; exact ⟨fun _ _ _=>⟨_,rfl⟩,(fun _ h=>by cases h),(fun _ h=>by cases h)⟩⟩
  · exact ⟨.inr (.inr rfl),fun K ρ A c hc=>by cases hc; exact ⟨(fun _ _ h=>by cases h),(fun _ h=>by cases h),fun _ _=>rfl⟩⟩
  · exact ⟨.inr (.inl rfl),fun K ρ A c hc=>by cases hc; exact ⟨(fun _ _ h=>by cases h),(fun _ _=>rfl),(fun _ h=>by cases h)⟩⟩
theorem zdx {kt:Nat} {d:TypeDesc} (hu:P.underlying kt=some d) (hd:KeyD d) (b:Bool) (v:Value) (w:World):(Instr.checkKey b 10000 kt v).run P w=.ok () w:=by
  rw [show (10000:Nat)=9999+1 from rfl,Instr.checkKey]
  simp only [Sem.run_bind,run_underlying hu,Result.andThen_ok]
  rcases hd with ⟨k,rfl⟩ | rfl | rfl <;> rfl
theorem zlf {K:zj} {ρ:Nat→Loc} {A:Nat→Prop} {d:TypeDesc} (hd:KeyD d) {x y:AV} {a b:Value} {r:Bool} (hx:VRel K ρ A x a) (hy:VRel K ρ A y b) (h:zdu x y=some r)
    (hxd:∀ k n,a=.int k n→∃ k',d=.int k') (hxs:∀ s,a=.string s→d=.string) (hxb:∀ s,a=.bool s→d=.bool):Instr.sameNow d a b=some r:=by
  unfold zdu at h
  split at h
  · split at h
    · rename_i hk
      subst hk
      cases hx
      cases hy
      obtain ⟨k',rfl⟩:=hxd _ _ rfl
      simpa [Instr.sameNow] using h
    · cases h
  · cases hx
    cases hy
    rw [hxs _ rfl]
    simp only [Option.some.injEq] at h
    subst h
    simp only [Instr.sameNow,zzl]
  · cases hx
    cases hy
    rw [hxb _ rfl]
    simpa [Instr.sameNow] using h
  · cases h
theorem zlh {K:zj} {ρ:Nat→Loc} {A:Nat→Prop} {d:TypeDesc} (hd:KeyD d) {x:AV} {a:Value} (hx:VRel K ρ A x a)
    (hxd:∀ k n,a=.int k n→∃ k',d=.int k') (hxs:∀ s,a=.string s→d=.string) (hxb:∀ s,a=.bool s→d=.bool) :
    ∀ (es:List (AV×AV)) (en:List MapEntry) (i:Nat) (r:Option (Nat×AV)),en.length=es.length→(∀ (j:Nat) kv x,es[j]? = some kv→en[j]? = some x→VRel K ρ A kv.1 x.key∧VRel K ρ A kv.2 x.val)→zah x es=some r →
      match r with
      | none=>Instr.findNow d a en i=some none
      | some (j,v)=>∃ c,Instr.findNow d a en i=some (some (i+j,c))∧VRel K ρ A v c∧(∃ kv me,es[j]? = some kv∧en[j]? = some me∧kv.2=v∧zdu x kv.1=some true∧VRel K ρ A kv.1 me.key)
  | [],en,i,r,hl,_,h=>by
    have:en=[]:=List.eq_nil_of_length_eq_zero (by simpa using hl)
    subst this
    simp only [zah,Option.some.injEq] at h
    subst h
    rfl
  | kv :: es,en,i,r,hl,hR,h=>by
    obtain ⟨me,en,rfl⟩:∃ q s,en=q :: s:=by
      cases en with
      | nil=>simp at hl
      | cons q s=>exact ⟨q,s,rfl⟩
    obtain ⟨r1,r2⟩:=hR 0 _ _ rfl rfl
    simp only [zah] at h
    split at h
    · rename_i hk
      simp only [Option.some.injEq] at h
      subst h
      refine ⟨me.val,?_,r2,kv,me,rfl,rfl,rfl,hk,r1⟩
      simp only [Instr.findNow,zlf hd hx r1 hk hxd hxs hxb,Nat.add_zero]
    · rename_i hk
      cases hf:zah x es with
      | none=>rw [hf] at h; cases h
      | some r0 =>
        rw [hf] at h
        simp only [Option.map_some,Option.some.injEq] at h
        have ih:=zlh hd hx hxd hxs hxb es en (i+1) r0 (by simpa using hl) (fun j kv x h1 h2=>hR (j+1) kv x (by simpa using h1) (by simpa using h2)) hf
        subst h
        cases r0 with
        | none =>
          simp only [Option.map_none] at ih ⊢
          simp only [Instr.findNow,zlf hd hx r1 hk hxd hxs hxb]; exact ih
        | some p =>
          obtain ⟨j,v⟩:=p
          simp only [Option.map_some] at ih ⊢
          obtain ⟨c,q1,q2,kv',me',q3,q4,q5,q6,q7⟩:=ih
          refine ⟨c,?_,q2,kv',me',by simpa using q3,by simpa using q4,q5,q6,q7⟩
          simp only [Instr.findNow,zlf hd hx r1 hk hxd hxs hxb,q1]
          congr 3; omega
    · cases h
theorem zfb {kt:Nat} {d:TypeDesc} (hu:P.underlying kt=some d) {a:Value} {en:List MapEntry} {r:Option (Nat×Value)} (h:Instr.findNow d a en 0=some r) (w:World):(Instr.findKey kt a en).run P w=.ok r w:=by
  unfold Instr.findKey
  simp only [Sem.run_bind,run_underlying hu,Result.andThen_ok,h,Sem.run_pure]
theorem zabh {t kt el:Nat} {a ka:AT} {m key:Operand} {ok:Bool} {s b:Nat} {z0:List AV} {i i' i'':TypeInfo} {d d' d'':TypeDesc} {z z' z'':Value} (h:AtOk P t ⟨.map kt el,s,b,z0⟩ i d z) (ha:AtOk P el a i' d' z') (hka:AtOk P kt ka i'' d'' z'')
    (hfit:zn ka.kind (e key)=true) (hzl:a.kind.isAgg=false→a.zero.length=1) (ho:o.op=.lookup t m key ok) {k:Kt} (hk:LOOK a.zero a.kind.isAgg (e m) (e key) ok H0 k):∃ v rd,Eff P o e H0 rd [] [] v∧k v rd [] []:=by
  have hu:=zox h
  obtain ⟨hD,hF⟩:=zpv hka hfit
  have hzero:∀ (K:zj) (ρ:Nat→Loc) (A:Nat→Prop),VRel K ρ A (bif a.kind.isAgg then .agg a.zero else a.zero.getD 0 .junk) z':=by
    intro K ρ A
    have hag:=ha.agg
    cases hb:a.kind.isAgg with
    | true =>
      rw [hb] at hag
      cases z' <;> simp only [zos] at hag <;> try cases hag
      simp only [cond_true]
      rw [ha.cells]
      exact LRel.agg (LRel.scalars _)
    | false =>
      rw [hb] at hag
      simp only [cond_false]
      have hz:z'.cells = #[z']:=by cases z' <;> simp only [zos] at hag <;> first | rfl | cases hag
      rw [ha.cells,hz]
      exact zez _ _ _ _
  have hres:∀ (K:zj) (ρ:Nat→Loc) (A:Nat→Prop) (v:AV) (c:Value) (f:Bool),VRel K ρ A v c→VRel K ρ A (bif ok then .tup [v,.bool f] else v) (if ok then .tuple #[c,.bool f] else c):=by
    intro K ρ A v c f hv
    cases ok with
    | false=>exact hv
    | true =>
      simp only [cond_true,if_true]
      refine .tup _ _ rfl fun j x y hx hy => ?_
      match j with
      | 0=>simp at hx hy; subst hx; subst hy; exact hv
      | 1=>simp at hx hy; subst hx; subst hy; exact .bool _
      | j+2=>simp at hx
  unfold LOOK at hk
  split at hk
  · rename_i hm
    refine ze hk fun K ρ A w ev hr => ?_
    have r1:=hr m (by simp [Op.operands,ho])
    rw [hm] at r1
    generalize hcv:ev m=cv at r1
    cases r1
    refine ⟨_,?_,hres K ρ A _ z' false (hzero K ρ A)⟩
    have hf:Instr.findNow d'' (ev key) ([]:List MapEntry) 0=some none:=rfl
    simp only [execOp,ho,Instr.lookup,hcv,Sem.run_bind,run_underlying hu,Result.andThen_ok,Sem.run_pure,zdx hka.und hD,zfb hka.und hf,zbj ha]
  · rename_i g hm
    split at hk
    · rename_i es hg
      have main:∀ (A:Nat→Prop) (ρ:Nat→Loc) (H:Heap) (w:World) (ev:Operand→Value),Sim A ρ H w→(∀ x∈o.op.operands.toList,VRel (Kof ρ H w) ρ A (e x) (ev x))→(∀ x∈[g],H x=H0 x)→∀ r,zah (e key) es=some r →
          ∃ cv,(execOp ev o).run P w=.ok (.value cv) w∧VRel (Kof ρ H w) ρ A (match r with | some (_,v)=>bif ok then .tup [v,.bool true] else v | none=>bif ok then .tup [bif a.kind.isAgg then .agg a.zero else a.zero.getD 0 .junk,.bool false] else (bif a.kind.isAgg then .agg a.zero else a.zero.getD 0 .junk)) cv:=by
        intro A ρ H w ev s hr hrd r hfind
        have hH:H g=some (.mp es):=by rw [hrd g (by simp)]; exact hg
        have r1:=hr m (by simp [Op.operands,ho])
        have r2:=hr key (by simp [Op.operands,ho])
        rw [hm] at r1
        generalize hcv:ev m=cv at r1
        obtain ⟨f1,f2,f3⟩:=hF _ _ _ _ r2
        cases r1 with
        | amap _ rr hA hrr =>
          subst hrr
          obtain ⟨en,cl,q1,q2,q3,q4⟩:=s.obj g _ hH
          have hfn:=zlh hD r2 f1 f2 f3 es en.toList 0 r (by simpa using q2) (fun j kv x h1 h2=>q3 j kv x h1 (by simpa using h2)) hfind
          have hobj:∀ w':World,w'.heap=w.heap→(getObj (ρ g).block).run P w'=.ok (.map en cl) w':=fun w' hw=>by simp [getObj,Sem.run,hw,q1]
          cases r with
          | none =>
            simp only at hfn
            refine ⟨_,?_,hres _ _ _ _ z' false (hzero _ _ _)⟩
            simp only [execOp,ho,Instr.lookup,hcv,Sem.run_bind,run_underlying hu,Result.andThen_ok,Sem.run_pure,hobj w rfl,zdx hka.und hD,zfb hka.und hfn,zbj ha]
          | some p =>
            obtain ⟨j,v⟩:=p
            simp only at hfn
            obtain ⟨c,g1,g2,_⟩:=hfn
            refine ⟨_,?_,hres _ _ _ _ c true g2⟩
            simp only [execOp,ho,Instr.lookup,hcv,Sem.run_bind,run_underlying hu,Result.andThen_ok,Sem.run_pure,hobj w rfl,zdx hka.und hD,zfb hka.und g1]
      split at hk
      · rename_i j v hf
        exact ⟨_,_,Eff.read fun A ρ H w ev s hr hrd=>main A ρ H w ev s hr hrd _ hf,hk⟩
      · rename_i hf
        exact ⟨_,_,Eff.read fun A ρ H w ev s hr hrd=>main A ρ H w ev s hr hrd _ hf,hk⟩
      · exact hk.elim
    · exact hk.elim
  · exact hk.elim
theorem zgl.push {es:Array MapEntry} {c:Nat} (h:zgl es c) (e:MapEntry) (he:e.born=c):zgl (es.push e) (c+1):=by
  refine ⟨by rw [Array.size_push,h.1],fun j x hx => ?_⟩
  rw [Array.getElem?_push] at hx
  split at hx
  · have:=Option.some.inj hx; subst this; rw [he,h.1]; omega
  · exact h.2 j x hx
theorem zgl.modify {es:Array MapEntry} {c:Nat} (h:zgl es c) (j:Nat) (f:MapEntry→MapEntry) (hf:∀ e,(f e).born=e.born):zgl (es.modify j f) c:=by
  refine ⟨by rw [Array.size_modify]; exact h.1,fun i x hx => ?_⟩
  rw [Array.getElem?_modify] at hx
  split at hx
  · simp only [Option.map_eq_some_iff] at hx
    obtain ⟨y,hy,rfl⟩:=hx
    rw [hf]; exact h.2 i y hy
  · exact h.2 i x hx
theorem zti {K:zj} {ρ:Nat→Loc} {A:Nat→Prop} {x y:AV} {a b:Value} (hx:VRel K ρ A x a) (hy:VRel K ρ A y b) (h:zdu x y=some true):Instr.sameBits 10000 b a=true:=by
  unfold zdu at h
  split at h
  · split at h
    · rename_i hk
      subst hk
      cases hx
      cases hy
      simp only [Option.some.injEq,beq_iff_eq] at h
      subst h
      simp [Instr.sameBits]
    · cases h
  · cases hx
    cases hy
    simp only [Option.some.injEq,beq_iff_eq] at h
    subst h
    simp [Instr.sameBits,zzl]
  · cases hx
    cases hy
    simp only [Option.some.injEq,beq_iff_eq] at h
    subst h
    simp [Instr.sameBits]
  · cases h
theorem zua {t kt el:Nat} {ka:AT} {m key v:Operand} {s b:Nat} {z0:List AV} {i i'':TypeInfo} {d d'':TypeDesc} {z z'':Value} (h:AtOk P t ⟨.map kt el,s,b,z0⟩ i d z) (hka:AtOk P kt ka i'' d'' z'')
    (hfit:zn ka.kind (e key)=true) (ho:o.op=.mapUpdate t m key v∨o.op=.insert t m key v) {k:Kt} (hk:MUPD (e m) (e key) (e v) H0 k):∃ u rd D,Eff P o e H0 rd [] D u∧k u rd [] D:=by
  have hu:=zox h
  obtain ⟨hD,hF⟩:=zpv hka hfit
  unfold MUPD at hk
  split at hk
  · rename_i g hm
    split at hk
    · rename_i es hg
      have main : ∀ r,zah (e key) es=some r→∀ es',es'=(match r with | some (j,_)=>es.set j (e key,e v) | none=>es ++ [(e key,e v)])→Eff P o e H0 [g] [] [(g,some (.mp es'))] .und:=by
        intro r hfind es' hes A ρ H w ev s hr hrd _
        have hH:H g=some (.mp es):=by rw [hrd g (by simp)]; exact hg
        have r1:=hr m (by rcases ho with ho | ho <;> simp [Op.operands,ho])
        have r2:=hr key (by rcases ho with ho | ho <;> simp [Op.operands,ho])
        have r3:=hr v (by rcases ho with ho | ho <;> simp [Op.operands,ho])
        rw [hm] at r1
        generalize hcv:ev m=cv at r1
        obtain ⟨f1,f2,f3⟩:=hF _ _ _ _ r2
        cases r1 with
        | amap _ rr hA hrr =>
          subst hrr
          obtain ⟨en,cl,q1,q2,q3,q4⟩:=s.obj g _ hH
          have hfn:=zlh hD r2 f1 f2 f3 es en.toList 0 r (by simpa using q2) (fun j kv x h1 h2=>q3 j kv x h1 (by simpa using h2)) hfind
          have hobj:(getObj (ρ g).block).run P w=.ok (.map en cl) w:=by simp [getObj,Sem.run,q1]
          have hset:∀ o',(setObj (ρ g).block o').run P w=.ok () { w with heap:=w.heap.setIfInBounds (ρ g).block o' }:=fun o'=>by simp [setObj,Sem.run,q1]
          have hlt:=(Array.getElem?_eq_some_iff.1 q1).1
          have finish:∀ (en':Array MapEntry) (cl':Nat),en'.size=es'.length→(∀ (j:Nat) kv x,es'[j]? = some kv→en'[j]? = some x→VRel (Kof ρ H w) ρ A kv.1 x.key∧VRel (Kof ρ H w) ρ A kv.2 x.val)→zgl en' cl' →
              (Instr.mapUpdate t (ev m) (ev key) (ev v)).run P w=.ok () { w with heap:=w.heap.setIfInBounds (ρ g).block (.map en' cl') }→zy P (zfo A ρ H w .und [] [(g,some (.mp es'))]) ((execOp ev o).run P w):=by
            intro en' cl' hl hR hB hrun
            have e0:execOp ev o=(do Instr.mapUpdate t (ev m) (ev key) (ev v); pure Next.skip):=by rcases ho with ho | ho <;> simp only [execOp,ho]
            rw [e0]
            have hnew:({ w with heap:=w.heap.setIfInBounds (ρ g).block (.map en' cl') }:World).heap[(ρ g).block]? = some (.map en' cl'):=by simp [hlt]
            obtain ⟨s',f'⟩:=s.write (w':={ w with heap:=w.heap.setIfInBounds (ρ g).block (.map en' cl') }) (g:=g) (by rw [hH]; rfl) (.mp es') (fun b hb=>by simp [Array.getElem?_setIfInBounds_ne (Ne.symm hb)]) (by simp) ⟨en',cl',hnew,hl,hR,hB⟩ rfl rfl rfl
            exact zsk hrun ⟨ρ,by rw [zbr]; exact s',.und,by rw [zbr]; exact f'⟩
          cases r with
          | none =>
            simp only at hfn hes
            subst hes
            refine finish (en.push { key:=ev key,val:=ev v,born:=cl }) (cl+1) (by simp [q2]) (fun j kv x h1 h2 => ?_) ?_ ?_
            · rw [List.getElem?_append] at h1
              rw [Array.getElem?_push] at h2
              split at h1
              · rename_i hj
                rw [if_neg (by omega)] at h2
                exact q3 j kv x h1 h2
              · rename_i hj
                have hj0:j=es.length:=by
                  have:=(List.getElem?_eq_some_iff.1 h1).1
                  simp at this; omega
                subst hj0
                rw [if_pos q2.symm] at h2
                simp at h1 h2
                subst h1; subst h2
                exact ⟨r2,r3⟩
            · exact q4.push _ rfl
            · simp only [Instr.mapUpdate,hcv,Sem.run_bind,run_underlying hu,Result.andThen_ok,hobj,zdx hka.und hD,zfb hka.und hfn,hset]
          | some p =>
            obtain ⟨j,u⟩:=p
            simp only at hfn hes
            obtain ⟨c,g1,g2,kv,me,g3,g4,g5,g6,g7⟩:=hfn
            subst hes
            have g4':en[j]? = some me:=by simpa using g4
            have hjl:=(List.getElem?_eq_some_iff.1 g3).1
            refine finish (en.modify j fun e=>{ e with key:=ev key,val:=ev v }) cl (by simp [q2]) (fun q kv' x h1 h2 => ?_) (q4.modify _ _ fun _=>rfl) ?_
            · rw [Array.getElem?_modify] at h2
              by_cases hq:j=q
              · subst hq
                rw [if_pos rfl,g4'] at h2
                simp at h2
                rw [List.getElem?_set_self hjl] at h1
                simp at h1
                subst h1; subst h2
                exact ⟨r2,r3⟩
              · rw [if_neg hq] at h2
                rw [List.getElem?_set_ne hq] at h1
                exact q3 q kv' x h1 h2
            · have hkeep:∀ w':World,(Instr.keyThatStays (((en[j]?).map (·.key)).getD (ev key)) (ev key)).run P w'=.ok (ev key) w':=by
                intro w'
                rw [g4']
                unfold Instr.keyThatStays
                rw [if_pos (by simpa using zti r2 g7 g6)]
                rfl
              have g1':Instr.findNow d'' (ev key) en.toList 0=some (some (j,c)):=by simpa using g1
              simp only [Instr.mapUpdate,hcv,Sem.run_bind,run_underlying hu,Result.andThen_ok,hobj,zdx hka.und hD,zfb hka.und g1',hkeep,hset]
      split at hk
      · rename_i j u hf
        exact ⟨_,_,_,main _ hf _ rfl,hk⟩
      · rename_i hf
        exact ⟨_,_,_,main _ hf _ rfl,hk⟩
      · exact hk.elim
    · exact hk.elim
  · exact hk.elim
end
end Go.Proofs.YtpllgpgdcbgalaaDoor
