/- Variables that are laid before the call, as the program's text has them: nobody writes them. Abstract values and an abstract heap, and how they stand for Go's values and memory. What is not owned is never written. What each operation does to abstract values and the abstract heap. A region that draws its order, by what is known of each operation's value, whatever order is drawn: memory may grow on the way. The operations' effects, as the model has them: each abstract operation stands for the model's own. The operations' effects, on: values, stores, what is new. The operations' effects, on: aggregates, addresses, lengths, stores. -/
import Derived.Test.YtpllgpgdcbgalaaDoorChecked
import Derived.WalkKit
import Derived.Lib.LaidTab
import Derived.Lib.ItoaNum
import Derived.Orders
import Derived.Deep.Slices
import Derived.Laws.IdiomCopy
set_option linter.unusedSimpArgs false
set_option linter.unusedVariables false
set_option maxRecDepth 8000
namespace Go.Proofs.YtpllgpgdcbgalaaDoor
open Go Go.RowKit
abbrev zj:=Nat→Option Obj
def LayT (K:zj):Prop:=∀ g,Tryd.prog.globalNamed "internal/strconv.uint64pow10" = some g→∃ e m,K g=some (.cells (Lib.pow10Tab.map fun z=>Value.int .u64 z).toArray e m)
def LayE (n:String) (K:zj):Prop:=∀ g,Tryd.prog.globalNamed n=some g→∃ t p e m,K g=some (.cells #[.iface t p] e m)
def LayM (n:String) (K:zj):Prop:=∀ g,Tryd.prog.globalNamed n=some g→∃ c e x m,K g=some (.cells c e x)∧c[0]? = some (.int .i64 m)
def LayK (K:zj):Prop:=LayT K∧LayE "strconv.ErrSyntax" K∧LayE "strconv.ErrRange" K∧LayM "internal/bytealg.MaxLen" K
theorem LayM.mono {n:String} {K K':zj} (h:LayM n K) (hK:∀ b o,K b=some o→K' b=some o):LayM n K':=fun g hg=>let ⟨c,e,x,m,hk,hc⟩:=h g hg; ⟨c,e,x,m,hK _ _ hk,hc⟩
theorem LayM.of_cell {n:String} {w:World} {g:Nat} (hn:Tryd.prog.globalNamed n=some g) (h:∃ m,w.cell? ⟨g,0,none⟩=some (.int .i64 m)):LayM n (fun b=>w.heap[b]?):=fun g' hg=>by
  obtain rfl:=Option.some.inj (hn.symm.trans hg)
  obtain ⟨m,hm⟩:=h
  simp only [World.cell?] at hm
  split at hm
  · rename_i c e x hc
    exact ⟨c,e,x,m,hc,by simpa using hm⟩
  · cases hm
theorem LayE.mono {n:String} {K K':zj} (h:LayE n K) (hK:∀ b o,K b=some o→K' b=some o):LayE n K':=fun g hg=>let ⟨t,p,e,m,hk⟩:=h g hg; ⟨t,p,e,m,hK _ _ hk⟩
theorem LayK.mono {K K':zj} (h:LayK K) (hK:∀ b o,K b=some o→K' b=some o):LayK K':=⟨fun g hg=>let ⟨e,m,hk⟩:=h.1 g hg; ⟨e,m,hK _ _ hk⟩,h.2.1.mono hK,h.2.2.1.mono hK,h.2.2.2.mono hK⟩
theorem LayT.of_tab {w:World} (h:Lib.TabIs Tryd.prog w "internal/strconv.uint64pow10" .u64 Lib.pow10Tab):LayT (fun b=>w.heap[b]?):=fun g hg=>by
  unfold Lib.TabIs World.var? at h
  rw [hg,Option.bind_some] at h
  split at h
  · rename_i cs e m hc
    cases h
    exact ⟨e,m,hc⟩
  · cases h
theorem LayK.of_tab {w:World} (h:Lib.TabIs Tryd.prog w "internal/strconv.uint64pow10" .u64 Lib.pow10Tab) (h2:LayE "strconv.ErrSyntax" fun b=>w.heap[b]?) (h3:LayE "strconv.ErrRange" fun b=>w.heap[b]?) (h4:LayM "internal/bytealg.MaxLen" fun b=>w.heap[b]?):LayK (fun b=>w.heap[b]?):=⟨.of_tab h,h2,h3,h4⟩
end Go.Proofs.YtpllgpgdcbgalaaDoor
set_option maxRecDepth 8000
namespace Go.Proofs.YtpllgpgdcbgalaaDoor
open Go Go.RowKit
inductive AV where
  | junk | und
  | int (k:IntKind) (n:Int)
  | bool (b:Bool)
  | bany
  | str (s:List UInt8)
  | nilp | nils | nilf | nilm | zs | inil | ifc
  | ptr (g off:Nat)
  | slc (g off len:Nat)
  | amap (g:Nat)
  | ro (xs:List (List AV))
  | rop (cs:List AV) (off:Nat)
  | agg (xs:List AV)
  | tup (xs:List AV)
  | clo (f:FuncId) (cap:List AV)
  deriving Inhabited
structure Loc where
  block:Nat
  base:Nat
  tot:Nat
  sz:Nat
  deriving Inhabited
def zrl (v:Value):Prop:=∃ t x,v=.iface t x
def zjf (K:zj) (b o:Nat):Option Value:=match K b with | some (.cells c _ _)=>c[o]? | _=>none
inductive VRel (K:zj) (ρ:Nat→Loc) (A:Nat→Prop):AV→Value→Prop
  | junk (v:Value):VRel K ρ A .junk v
  | und:VRel K ρ A .und undef
  | int (k:IntKind) (n:Int):VRel K ρ A (.int k n) (.int k n)
  | bool (b:Bool):VRel K ρ A (.bool b) (.bool b)
  | bany (b:Bool):VRel K ρ A .bany (.bool b)
  | str (s:List UInt8):VRel K ρ A (.str s) (.string ⟨s.toArray⟩)
  | nilp:VRel K ρ A .nilp (.pointer none)
  | nils:VRel K ρ A .nils (.slice none 0 0)
  | nilf:VRel K ρ A .nilf .nilFunc
  | nilm:VRel K ρ A .nilm (.map none)
  | inil:VRel K ρ A .inil .nilIface
  | ifc (v:Value):zrl v→VRel K ρ A .ifc v
  | ptr (g off:Nat) (a:Addr):A g→a=⟨(ρ g).block,(ρ g).base+off,none⟩→VRel K ρ A (.ptr g off) (.pointer (some a))
  | zs (a:Option Addr):VRel K ρ A .zs (.slice a 0 0)
  | slc (g off len cap:Nat) (a:Option Addr):A g→len≤cap→(0 < cap→(ρ g).base+off+cap*(ρ g).sz≤(ρ g).tot∧a=some ⟨(ρ g).block,(ρ g).base+off,none⟩) →
      VRel K ρ A (.slc g off len) (.slice a len cap)
  | amap (g r:Nat):A g→r=(ρ g).block→VRel K ρ A (.amap g) (.map (some r))
  | ro (xs:List (List AV)) (a:Option Addr) (len cap sz b off:Nat) (C:Nat→Nat→Value):len=xs.length→len≤cap→(xs ≠ []→a=some ⟨b,off,none⟩)→(∀ x∈xs,x.length=sz) →
      (∀ (i:Nat) (x:List AV) (j:Nat) (v:AV),xs[i]? = some x→x[j]? = some v→zjf K b (off+i*sz+j)=some (C i j)) →
      (∀ (i:Nat) (x:List AV) (j:Nat) (v:AV),xs[i]? = some x→x[j]? = some v→VRel K ρ A v (C i j))→VRel K ρ A (.ro xs) (.slice a len cap)
  | rop (cs:List AV) (o b p:Nat) (a:Addr) (C:Nat→Value):a=⟨b,p+o,none⟩→(∀ (j:Nat) (v:AV),cs[j]? = some v→zjf K b (p+j)=some (C j)) →
      (∀ (j:Nat) (v:AV),cs[j]? = some v→VRel K ρ A v (C j))→VRel K ρ A (.rop cs o) (.pointer (some a))
  | agg (xs:List AV) (cs:Array Value):cs.size=xs.length→(∀ (j:Nat) (v:AV) (c:Value),xs[j]? = some v→cs[j]? = some c→VRel K ρ A v c)→VRel K ρ A (.agg xs) (.agg cs)
  | tup (xs:List AV) (cs:Array Value):cs.size=xs.length→(∀ (j:Nat) (v:AV) (c:Value),xs[j]? = some v→cs[j]? = some c→VRel K ρ A v c)→VRel K ρ A (.tup xs) (.tuple cs)
  | clo (f:FuncId) (xs:List AV) (cs:Array Value):cs.size=xs.length→(∀ (j:Nat) (v:AV) (c:Value),xs[j]? = some v→cs[j]? = some c→VRel K ρ A v c) →
      VRel K ρ A (.clo f xs) (.func (.func f) #[] cs)
theorem zra {K K':zj} (h:∀ b o,K b=some o→K' b=some o) {b o:Nat} {v:Value} (hc:zjf K b o=some v):zjf K' b o=some v:=by
  unfold zjf at *
  cases hK:K b with
  | none=>rw [hK] at hc; cases hc
  | some x=>rw [h b x hK]; rw [hK] at hc; exact hc
theorem VRel.mono {K K':zj} {ρ ρ':Nat→Loc} {A A':Nat→Prop} {v:AV} {c:Value} (h:VRel K ρ A v c) (hK:∀ b o,K b=some o→K' b=some o)
    (hA:∀ g,A g→ρ' g=ρ g∧A' g):VRel K' ρ' A' v c:=by
  induction h with
  | junk v=>exact .junk v
  | und=>exact .und
  | int k n=>exact .int k n
  | bool b=>exact .bool b
  | bany b=>exact .bany b
  | str s=>exact .str s
  | nilp=>exact .nilp
  | nils=>exact .nils
  | nilf=>exact .nilf
  | nilm=>exact .nilm
  | inil=>exact .inil
  | ifc _ h=>exact .ifc _ h
  | ptr g off a hg ha=>exact .ptr g off a (hA g hg).2 (by rw [(hA g hg).1]; exact ha)
  | zs a=>exact .zs a
  | slc g off len cap a hg h1 h2=>exact .slc g off len cap a (hA g hg).2 h1 (by rw [(hA g hg).1]; exact h2)
  | amap g r hg hr=>exact .amap g r (hA g hg).2 (by rw [(hA g hg).1]; exact hr)
  | ro xs a len cap sz b off C h1 h2 h3 h4 h5 _ ih=>exact .ro xs a len cap sz b off C h1 h2 h3 h4 (fun i x j v hx hv=>zra hK (h5 i x j v hx hv)) ih
  | rop cs o b p a C h1 h2 _ ih=>exact .rop cs o b p a C h1 (fun j v hv=>zra hK (h2 j v hv)) ih
  | agg xs cs h1 _ ih=>exact .agg xs cs h1 ih
  | tup xs cs h1 _ ih=>exact .tup xs cs h1 ih
  | clo f xs cs h1 _ ih=>exact .clo f xs cs h1 ih
inductive AObj where
  | row (sz:Nat) (cells:List AV)
  | mp (es:List (AV×AV))
  | it (g n:Nat) (seen:List Nat)
  deriving Inhabited
abbrev Heap:=Nat→Option AObj
def Heap.put (H:Heap) (g:Nat) (o:Option AObj):Heap:=fun x=>bif Nat.beq x g then o else H x
theorem Heap.put_at (H:Heap) (g:Nat) (o:Option AObj):H.put g o g=o:=by simp [Heap.put]
theorem Heap.put_ne (H:Heap) {g x:Nat} (o:Option AObj) (h:x ≠ g):H.put g o x=H x:=by
  have:Nat.beq x g=false:=by rw [← Bool.not_eq_true,Nat.beq_eq]; exact h
  simp [Heap.put,this]
theorem Heap.put_eq (H:Heap) (g x:Nat) (o:Option AObj):H.put g o x=if x=g then o else H x:=by
  by_cases h:x=g
  · subst h; rw [if_pos rfl,Heap.put_at]
  · rw [if_neg h,Heap.put_ne _ _ h]
open Classical in
noncomputable def Kof (ρ:Nat→Loc) (H:Heap) (w:World):zj:=fun b=>if ∃ g,(H g).isSome=true∧(ρ g).block=b then none else w.heap[b]?
theorem zw {ρ:Nat→Loc} {H:Heap} {w:World} {b:Nat} {o:Obj}:Kof ρ H w b=some o↔(∀ g,(H g).isSome=true→(ρ g).block ≠ b)∧w.heap[b]? = some o:=by
  unfold Kof
  split
  · rename_i h
    obtain ⟨g,h1,h2⟩:=h
    constructor
    · intro h; cases h
    · rintro ⟨h,_⟩; exact absurd h2 (h g h1)
  · rename_i h
    constructor
    · intro h'; exact ⟨fun g h1 h2=>h ⟨g,h1,h2⟩,h'⟩
    · rintro ⟨_,h⟩; exact h
def zgl (es:Array MapEntry) (clock:Nat):Prop:=clock=es.size∧∀ (j:Nat) (e:MapEntry),es[j]? = some e→e.born=j
def zam (K:zj) (ρ:Nat→Loc) (A:Nat→Prop) (w:World) (l:Loc):AObj→Prop
  | .row sz cells=>∃ c elem lo hi,w.heap[l.block]? = some (.cells c elem (lo,hi))∧(∀ j,j < l.tot→¬ (lo≤j∧j < hi))∧c.size=l.tot∧sz=l.sz∧l.base+cells.length≤l.tot ∧
      ∀ (j:Nat) v,cells[j]? = some v→∃ cv,c[l.base+j]? = some cv∧VRel K ρ A v cv
  | .mp es=>∃ entries clock,w.heap[l.block]? = some (.map entries clock)∧entries.size=es.length ∧
      (∀ (j:Nat) kv e,es[j]? = some kv→entries[j]? = some e→VRel K ρ A kv.1 e.key∧VRel K ρ A kv.2 e.val)∧zgl entries clock
  | .it g c seen=>l.base=0∧w.heap[l.block]? = some (.mapIter (some (ρ g).block) c seen.toArray c)∧A g
theorem zam.mono {K K':zj} {ρ ρ':Nat→Loc} {A A':Nat→Prop} {w w':World} {l:Loc} {o:AObj} (h:zam K ρ A w l o) (hw:w'.heap[l.block]? = w.heap[l.block]?)
    (hK:∀ b o,K b=some o→K' b=some o) (hA:∀ g,A g→ρ' g=ρ g∧A' g):zam K' ρ' A' w' l o:=by
  cases o with
  | row sz cells =>
    obtain ⟨c,e,lo,hi,h1,h0,h2,h3,h4,h5⟩:=h
    exact ⟨c,e,lo,hi,hw.trans h1,h0,h2,h3,h4,fun j v hv=>let ⟨cv,a,b⟩:=h5 j v hv; ⟨cv,a,b.mono hK hA⟩⟩
  | mp es =>
    obtain ⟨c,e,h1,h2,h3,h4⟩:=h
    exact ⟨c,e,hw.trans h1,h2,fun j kv x hkv hx=>let ⟨a,b⟩:=h3 j kv x hkv hx; ⟨a.mono hK hA,b.mono hK hA⟩,h4⟩
  | it g c seen =>
    obtain ⟨h0,h1,h2⟩:=h
    exact ⟨h0,by rw [(hA g h2).1]; exact hw.trans h1,(hA g h2).2⟩
structure Sim (A:Nat→Prop) (ρ:Nat→Loc) (H:Heap) (w:World):Prop where
  live:∀ g o,H g=some o→A g
  obj:∀ g o,H g=some o→zam (Kof ρ H w) ρ A w (ρ g) o
  inj:∀ g g',(H g).isSome=true→(H g').isSome=true→(ρ g).block=(ρ g').block→g=g'
  lay:LayK (Kof ρ H w)
theorem zam.block_lt {K:zj} {ρ:Nat→Loc} {A:Nat→Prop} {w:World} {l:Loc} {o:AObj} (h:zam K ρ A w l o):l.block < w.heap.size:=by
  cases o with
  | row sz cells=>obtain ⟨c,e,_,_,h1,_⟩:=h; exact (Array.getElem?_eq_some_iff.1 h1).1
  | mp es=>obtain ⟨c,e,h1,_⟩:=h; exact (Array.getElem?_eq_some_iff.1 h1).1
  | it g c seen=>obtain ⟨_,h1,_⟩:=h; exact (Array.getElem?_eq_some_iff.1 h1).1
theorem Sim.block_lt {A:Nat→Prop} {ρ:Nat→Loc} {H:Heap} {w:World} (h:Sim A ρ H w) {g:Nat} (hg:(H g).isSome=true):(ρ g).block < w.heap.size:=by
  obtain ⟨o,ho⟩:=Option.isSome_iff_exists.1 hg
  exact (h.obj g o ho).block_lt
structure Fr (A:Nat→Prop) (ρ:Nat→Loc) (H:Heap) (w:World) (A':Nat→Prop) (ρ':Nat→Loc) (H':Heap) (w':World):Prop where
  agree:∀ g,A g→ρ' g=ρ g∧A' g
  k:∀ b o,Kof ρ H w b=some o→Kof ρ' H' w' b=some o
  os:w'.os=w.os
  tape:w'.tape=w.tape
  output:w'.output=w.output
  size:w.heap.size≤w'.heap.size
theorem Fr.refl (A:Nat→Prop) (ρ:Nat→Loc) (H:Heap) (w:World):Fr A ρ H w A ρ H w:=⟨fun _ h=>⟨rfl,h⟩,fun _ _ h=>h,rfl,rfl,rfl,Nat.le_refl _⟩
theorem Fr.trans {A A' A'':Nat→Prop} {ρ ρ' ρ'':Nat→Loc} {H H' H'':Heap} {w w' w'':World} (h:Fr A ρ H w A' ρ' H' w') (k:Fr A' ρ' H' w' A'' ρ'' H'' w''):Fr A ρ H w A'' ρ'' H'' w'' :=
  ⟨fun g hg=>let ⟨a,b⟩:=h.agree g hg; let ⟨c,d⟩:=k.agree g b; ⟨c.trans a,d⟩,fun b o hb=>k.k b o (h.k b o hb),k.os.trans h.os,k.tape.trans h.tape,k.output.trans h.output,Nat.le_trans h.size k.size⟩
theorem VRel.fr {A A':Nat→Prop} {ρ ρ':Nat→Loc} {H H':Heap} {w w':World} {v:AV} {c:Value} (h:VRel (Kof ρ H w) ρ A v c) (k:Fr A ρ H w A' ρ' H' w'):VRel (Kof ρ' H' w') ρ' A' v c :=
  h.mono k.k k.agree
theorem zhf {ρ:Nat→Loc} {H:Heap} {w w':World} (h:w'.heap=w.heap):Kof ρ H w'=Kof ρ H w:=by
  funext b; unfold Kof; rw [h]
theorem Sim.heap {A:Nat→Prop} {ρ:Nat→Loc} {H:Heap} {w w':World} (s:Sim A ρ H w) (h:w'.heap=w.heap):Sim A ρ H w':=by
  refine ⟨s.live,fun g o ho => ?_,s.inj,by rw [zhf h]; exact s.lay⟩
  rw [zhf h]
  exact (s.obj g o ho).mono (by rw [h]) (fun _ _ h=>h) (fun _ h=>⟨rfl,h⟩)
theorem Sim.alloc {A:Nat→Prop} {ρ:Nat→Loc} {H:Heap} {w:World} (s:Sim A ρ H w) {g:Nat} (hg:¬ A g) (o:AObj) (co:Obj) (l:Loc) (hl:l.block=w.heap.size)
    (ho:∀ w',w'.heap[w.heap.size]? = some co→zam (Kof ρ H w) ρ A w' l o) :
    let A':=fun x=>A x∨x=g
    let ρ':=fun x=>if x=g then l else ρ x
    let H':=H.put g (some o)
    Sim A' ρ' H' (w.alloc co)∧Fr A ρ H w A' ρ' H' (w.alloc co):=by
  intro A' ρ' H'
  have hga:∀ x,A x→x ≠ g:=fun x hx e=>hg (e ▸ hx)
  have hH:∀ x,A x→H' x=H x:=fun x hx=>H.put_ne _ (hga x hx)
  have hρ:∀ x,A x→ρ' x=ρ x:=fun x hx=>if_neg (hga x hx)
  have hρg:ρ' g=l:=if_pos rfl
  have hHg:H' g=some o:=H.put_at _ _
  have hother:∀ x,x ≠ g→H' x=H x:=fun x hx=>H.put_ne _ hx
  have hheap:(w.alloc co).heap=w.heap.push co:=rfl
  have hold:∀ b,b < w.heap.size→(w.alloc co).heap[b]? = w.heap[b]? := fun b hb=>Below.heap_alloc _ _ _ hb
  have hnew:(w.alloc co).heap[w.heap.size]? = some co:=by rw [hheap]; simp
  have hK:∀ b ob,Kof ρ H w b=some ob→Kof ρ' H' (w.alloc co) b=some ob:=by
    intro b ob hb
    obtain ⟨h1,h2⟩:=zw.1 hb
    have hbl:=(Array.getElem?_eq_some_iff.1 h2).1
    refine zw.2 ⟨fun x hx => ?_,by rw [hold b hbl]; exact h2⟩
    by_cases hxg:x=g
    · subst hxg; rw [hρg,hl]; omega
    · rw [hother x hxg] at hx
      obtain ⟨o',ho'⟩:=Option.isSome_iff_exists.1 hx
      rw [hρ x (s.live x o' ho')]
      exact h1 x hx
  have hAg:∀ x,A x→ρ' x=ρ x∧A' x:=fun x hx=>⟨hρ x hx,.inl hx⟩
  refine ⟨⟨fun x ox hx => ?_,fun x ox hx => ?_,fun x y hx hy hb => ?_,s.lay.mono hK⟩,⟨hAg,hK,rfl,rfl,rfl,by rw [hheap]; simp⟩⟩
  · by_cases hxg:x=g
    · exact .inr hxg
    · rw [hother x hxg] at hx; exact .inl (s.live x ox hx)
  · by_cases hxg:x=g
    · subst hxg
      rw [hHg] at hx
      obtain rfl:=Option.some.inj hx
      rw [hρg]
      exact (ho _ hnew).mono rfl hK hAg
    · rw [hother x hxg] at hx
      have hlt:=(s.obj x ox hx).block_lt
      rw [hρ x (s.live x ox hx)]
      exact (s.obj x ox hx).mono (hold _ hlt) hK hAg
  · have blk:∀ z,(H' z).isSome=true→z ≠ g→(ρ' z).block=(ρ z).block∧(ρ z).block < w.heap.size∧(H z).isSome=true:=by
      intro z hz hzg
      rw [hother z hzg] at hz
      obtain ⟨o',ho'⟩:=Option.isSome_iff_exists.1 hz
      exact ⟨by rw [hρ z (s.live z o' ho')],s.block_lt hz,hz⟩
    by_cases hxg:x=g
    · by_cases hyg:y=g
      · rw [hxg,hyg]
      · subst hxg
        obtain ⟨a1,a2,_⟩:=blk y hy hyg
        rw [hρg,hl,a1] at hb; omega
    · by_cases hyg:y=g
      · subst hyg
        obtain ⟨a1,a2,_⟩:=blk x hx hxg
        rw [hρg,hl,a1] at hb; omega
      · obtain ⟨a1,_,a3⟩:=blk x hx hxg
        obtain ⟨b1,_,b3⟩:=blk y hy hyg
        rw [a1,b1] at hb
        exact s.inj x y a3 b3 hb
theorem Sim.write {A:Nat→Prop} {ρ:Nat→Loc} {H:Heap} {w w':World} (s:Sim A ρ H w) {g:Nat} (hg:(H g).isSome=true) (o:AObj)
    (hother:∀ b,b ≠ (ρ g).block→w'.heap[b]? = w.heap[b]?) (hsz:w.heap.size≤w'.heap.size)
    (ho:zam (Kof ρ H w) ρ A w' (ρ g) o) (h1:w'.os=w.os) (h2:w'.tape=w.tape) (h3:w'.output=w.output) :
    Sim A ρ (H.put g (some o)) w'∧Fr A ρ H w A ρ (H.put g (some o)) w':=by
  have hsome:∀ x,(H.put g (some o) x).isSome=(H x).isSome:=fun x=>by
    rw [Heap.put_eq]; split
    · rename_i h; subst h; rw [hg]; rfl
    · rfl
  have hK:Kof ρ (H.put g (some o)) w'=Kof ρ H w:=by
    funext b
    unfold Kof
    by_cases h:∃ x,(H x).isSome=true∧(ρ x).block=b
    · rw [if_pos h,if_pos (by obtain ⟨x,hx,hb⟩:=h; exact ⟨x,by rw [hsome]; exact hx,hb⟩)]
    · rw [if_neg h,if_neg (by rintro ⟨x,hx,hb⟩; exact h ⟨x,by rw [hsome] at hx; exact hx,hb⟩)]
      exact hother b fun e=>h ⟨g,hg,e.symm⟩
  refine ⟨⟨fun x ox hx => ?_,fun x ox hx => ?_,fun x y hx hy hb=>s.inj x y (by rwa [hsome] at hx) (by rwa [hsome] at hy) hb,by rw [hK]; exact s.lay⟩,⟨fun _ h=>⟨rfl,h⟩,fun b ob hb=>by rw [hK]; exact hb,h1,h2,h3,hsz⟩⟩
  · rw [Heap.put_eq] at hx
    split at hx
    · rename_i h; subst h
      obtain ⟨o',ho'⟩:=Option.isSome_iff_exists.1 hg
      exact s.live _ o' ho'
    · exact s.live x ox hx
  · rw [hK]
    rw [Heap.put_eq] at hx
    split at hx
    · rename_i h; subst h
      obtain rfl:=Option.some.inj hx
      exact ho
    · rename_i hne
      refine (s.obj x ox hx).mono (hother _ fun e=>hne (s.inj x g (by rw [hx]; rfl) hg e)) (fun _ _ h=>h) (fun _ h=>⟨rfl,h⟩)
theorem Sim.move {A:Nat→Prop} {ρ:Nat→Loc} {H:Heap} {w w':World} (s:Sim A ρ H w) {g g':Nat} (hg:(H g).isSome=true) (hg':¬ A g') (o:AObj) (l:Loc) (hl:l.block=(ρ g).block)
    (hother:∀ b,b ≠ (ρ g).block→w'.heap[b]? = w.heap[b]?) (hsz:w.heap.size≤w'.heap.size)
    (ho:zam (Kof ρ H w) ρ A w' l o) (h1:w'.os=w.os) (h2:w'.tape=w.tape) (h3:w'.output=w.output) :
    let A':=fun x=>A x∨x=g'
    let ρ':=fun x=>if x=g' then l else ρ x
    let H':=(H.put g none).put g' (some o)
    Sim A' ρ' H' w'∧Fr A ρ H w A' ρ' H' w':=by
  intro A' ρ' H'
  have hga:∀ x,A x→x ≠ g':=fun x hx e=>hg' (e ▸ hx)
  have hAg:A g:=by obtain ⟨o',ho'⟩:=Option.isSome_iff_exists.1 hg; exact s.live _ o' ho'
  have hρ:∀ x,A x→ρ' x=ρ x:=fun x hx=>if_neg (hga x hx)
  have hρg:ρ' g'=l:=if_pos rfl
  have hHg:H' g'=some o:=Heap.put_at _ _ _
  have hH:∀ x,x ≠ g'→H' x=if x=g then none else H x:=fun x hx=>by
    show ((H.put g none).put g' (some o)) x=_
    rw [Heap.put_ne _ _ hx,Heap.put_eq]
  have hK:∀ b ob,Kof ρ H w b=some ob→Kof ρ' H' w' b=some ob:=by
    intro b ob hb
    obtain ⟨k1,k2⟩:=zw.1 hb
    refine zw.2 ⟨fun x hx => ?_,by rw [hother b fun e=>k1 g hg e.symm]; exact k2⟩
    by_cases hxg:x=g'
    · subst hxg; rw [hρg,hl]; exact k1 g hg
    · rw [hH x hxg] at hx
      split at hx
      · cases hx
      · obtain ⟨o',ho'⟩:=Option.isSome_iff_exists.1 hx
        rw [hρ x (s.live x o' ho')]; exact k1 x hx
  have hA':∀ x,A x→ρ' x=ρ x∧A' x:=fun x hx=>⟨hρ x hx,.inl hx⟩
  have old:∀ x,x ≠ g'→(H' x).isSome=true→x ≠ g∧H' x=H x∧(H x).isSome=true∧(ρ' x)=ρ x:=by
    intro x hxg hx
    have e:=hH x hxg
    rw [e] at hx
    split at hx
    · cases hx
    · rename_i hne
      rw [if_neg hne] at e
      obtain ⟨o',ho'⟩:=Option.isSome_iff_exists.1 hx
      exact ⟨hne,e,hx,hρ x (s.live x o' ho')⟩
  refine ⟨⟨fun x ox hx => ?_,fun x ox hx => ?_,fun x y hx hy hb => ?_,s.lay.mono hK⟩,⟨hA',hK,h1,h2,h3,hsz⟩⟩
  · by_cases hxg:x=g'
    · exact .inr hxg
    · obtain ⟨_,e,_,_⟩:=old x hxg (by rw [hx]; rfl)
      rw [e] at hx; exact .inl (s.live x ox hx)
  · by_cases hxg:x=g'
    · subst hxg
      rw [hHg] at hx
      obtain rfl:=Option.some.inj hx
      rw [hρg]
      exact ho.mono rfl hK hA'
    · obtain ⟨hne,e,e2,e3⟩:=old x hxg (by rw [hx]; rfl)
      rw [e] at hx
      rw [e3]
      exact (s.obj x ox hx).mono (hother _ fun e=>hne (s.inj x g e2 hg e)) hK hA'
  · by_cases hxg:x=g'
    · by_cases hyg:y=g'
      · rw [hxg,hyg]
      · obtain ⟨hne,_,e2,e3⟩:=old y hyg hy
        rw [hxg,hρg,e3,hl] at hb
        exact absurd (s.inj y g e2 hg hb.symm) hne
    · obtain ⟨hne,_,e2,e3⟩:=old x hxg hx
      by_cases hyg:y=g'
      · rw [hyg,hρg,e3,hl] at hb
        exact absurd (s.inj x g e2 hg hb) hne
      · obtain ⟨_,_,f2,f3⟩:=old y hyg hy
        rw [e3,f3] at hb
        exact s.inj x y e2 f2 hb
theorem Sim.drop {A:Nat→Prop} {ρ:Nat→Loc} {H H':Heap} {w:World} (s:Sim A ρ H w) (h:∀ g o,H' g=some o→H g=some o):Sim A ρ H' w∧Fr A ρ H w A ρ H' w:=by
  have hK:∀ b o,Kof ρ H w b=some o→Kof ρ H' w b=some o:=fun b o hb=>by
    obtain ⟨h1,h2⟩:=zw.1 hb
    refine zw.2 ⟨fun g hg => ?_,h2⟩
    obtain ⟨o',ho'⟩:=Option.isSome_iff_exists.1 hg
    exact h1 g (by rw [h g o' ho']; rfl)
  refine ⟨⟨fun g o ho=>s.live g o (h g o ho),fun g o ho=>(s.obj g o (h g o ho)).mono rfl hK (fun _ h=>⟨rfl,h⟩),fun x y hx hy hb => ?_,s.lay.mono hK⟩,⟨fun _ h=>⟨rfl,h⟩,hK,rfl,rfl,rfl,Nat.le_refl _⟩⟩
  obtain ⟨o1,ho1⟩:=Option.isSome_iff_exists.1 hx
  obtain ⟨o2,ho2⟩:=Option.isSome_iff_exists.1 hy
  exact s.inj x y (by rw [h x o1 ho1]; rfl) (by rw [h y o2 ho2]; rfl) hb
end Go.Proofs.YtpllgpgdcbgalaaDoor
set_option maxRecDepth 8000
namespace Go.Proofs.YtpllgpgdcbgalaaDoor
open Go Go.RowKit
inductive AK where
  | bool | int (k:IntKind) | str | ptr (e:Nat) | slice (e:Nat) | array (n e:Nat) | struct (fs:List (Nat×Nat)) | map (k e:Nat) | func | iface | other
structure AT where
  kind:AK
  size:Nat
  bytes:Nat
  zero:List AV
def AK.isAgg:AK→Bool
  | .array _ _ | .struct _=>true
  | _=>false
def AV.ofScalar:Value→AV
  | .int k n=>.int k n
  | .bool b=>.bool b
  | .string s=>.str s.data.toList
  | .pointer none=>.nilp
  | .slice none 0 0=>.nils
  | .map none=>.nilm
  | .nilFunc=>.nilf
  | .nilIface=>.inil
  | _=>.junk
def AV.ofConst:Value→AV
  | .agg cs=>.agg (cs.toList.map AV.ofScalar)
  | .tuple cs=>.tup (cs.toList.map AV.ofScalar)
  | v=>AV.ofScalar v
abbrev Env:=Nat→AV
def Env.put (e:Env) (d:Nat) (v:AV):Env:=fun x=>bif Nat.beq x d then v else e x
def Env.putO (e:Env) (d:Option Nat) (v:AV):Env:=match d with | some d=>e.put d v | none=>e
def Env.ev (e:Env):Operand→AV
  | .tmp t=>e t
  | .const v=>AV.ofConst v
  | .global _=>.junk
  | .func f=>.clo f []
def AV.cells:AV→List AV
  | .agg xs=>xs
  | v=>[v]
def AV.one:AV→Bool
  | .agg _ | .tup _ | .junk | .und=>false
  | _=>true
def AV.sure:AV→Bool
  | .junk=>false
  | _=>true
abbrev zi:=List (Nat×Option AObj)
def Heap.apply (H:Heap):zi→Heap
  | []=>H
  | (g,o) :: r=>(H.put g o).apply r
abbrev Kt:=AV→List Nat→List Nat→zi→Prop
def PURE (v:AV) (k:Kt):Prop:=k v [] [] []
def NEW (nx:Nat) (o:AObj) (v:AV) (k:Kt):Prop:=k v [] [nx] [(nx,some o)]
def PICK (c a b:AV) (k:Kt):Prop:=match c with | .bool t=>PURE (bif t then a else b) k | _=>False
def rdp (H:Heap):AV→Option (List AV×Nat×List Nat)
  | .ptr g off=>match H g with | some (.row _ cells)=>some (cells,off,[g]) | _=>none
  | .rop cs off=>some (cs,off,[])
  | _=>none
def ldv (agg:Bool) (sz:Nat) (cells:List AV) (off:Nat):Option AV :=
  bif agg then (if off+sz≤cells.length then some (.agg ((cells.drop off).take sz)) else none) else cells[off]?
def LOAD (agg:Bool) (sz:Nat) (p:AV) (H:Heap) (k:Kt):Prop :=
  match rdp H p with
  | some (cells,off,rd)=>match ldv agg sz cells off with | some v=>k v rd [] [] | none=>False
  | none=>False
def zao (cells:List AV) (off:Nat) (vs:List AV):List AV:=cells.take off ++ vs ++ cells.drop (off+vs.length)
def zag (sz:Nat) (p v:AV) (H:Heap) (k:Kt):Prop :=
  match p with
  | .ptr g off=>match H g with
    | some (.row es cells)=>v.cells.length=sz∧off+sz≤cells.length∧v.cells.all AV.one=true∧v.sure=true∧k .und [g] [] [(g,some (.row es (zao cells off v.cells)))]
    | _=>False
  | _=>False
def NILC (x:AV) (k:Kt):Prop:=match x with
  | .ptr _ _ | .rop _ _ | .clo _ _=>PURE x k
  | _=>False
def zph (off:Nat) (p:AV) (k:Kt):Prop:=match p with
  | .ptr g o=>PURE (.ptr g (o+off)) k
  | .rop cs o=>PURE (.rop cs (o+off)) k
  | _=>False
def zqw (agg:Bool) (sz off:Nat) (cs:List AV):Option AV:=ldv agg sz cs off
def zfn (agg:Bool) (sz off:Nat) (x:AV) (k:Kt):Prop:=match x with
  | .agg cs=>match zqw agg sz off cs with | some v=>PURE v k | none=>False
  | _=>False
def zpf (esz:Nat) (x i:AV) (k:Kt):Prop:=match i with
  | .int _ n=>match x with
    | .slc g off len=>0≤n∧n < len∧PURE (.ptr g (off+n.toNat*esz)) k
    | .ro xs=>0≤n∧n < xs.length∧(xs.getD n.toNat []).length=esz∧PURE (.rop (xs.getD n.toNat []) 0) k
    | _=>False
  | _=>False
def zpj (esz len:Nat) (p i:AV) (k:Kt):Prop:=match i with
  | .int _ n=>0≤n∧n < len∧match p with
    | .ptr g o=>PURE (.ptr g (o+n.toNat*esz)) k
    | .rop cs o=>PURE (.rop cs (o+n.toNat*esz)) k
    | _=>False
  | _=>False
def zpe (x i:AV) (k:Kt):Prop:=match i with
  | .int _ n=>match x with
    | .str s=>0≤n∧n < s.length∧PURE (.int .u8 ((s.getD n.toNat 0).toNat:Int)) k
    | _=>False
  | _=>False
def zkm (agg:Bool) (esz len:Nat) (x i:AV) (k:Kt):Prop:=match i with
  | .int _ n=>0≤n∧n < len∧zfn agg esz (n.toNat*esz) x k
  | _=>False
def LENS (x:AV) (k:Kt):Prop:=match x with
  | .str s=>PURE (.int .i64 (s.length:Int)) k
  | _=>False
def LENL (x:AV) (k:Kt):Prop:=match x with
  | .nils | .zs=>PURE (.int .i64 0) k
  | .slc _ _ n=>PURE (.int .i64 (n:Int)) k
  | .ro xs=>PURE (.int .i64 (xs.length:Int)) k
  | _=>False
def LENM (x:AV) (H:Heap) (k:Kt):Prop:=match x with
  | .nilm=>PURE (.int .i64 0) k
  | .amap g=>match H g with | some (.mp es)=>k (.int .i64 (es.length:Int)) [g] [] [] | _=>False
  | _=>False
def EXTR (x:AV) (i:Nat) (k:Kt):Prop:=match x with
  | .tup vs=>match vs[i]? with | some v=>PURE v k | none=>False
  | _=>False
def zbt (place:Nat→Option (Nat×Nat)) (cells:List AV):List (Nat×AV)→Option (List AV)
  | []=>some cells
  | (i,v) :: rest=>match place i with
    | none=>none
    | some (off,size)=>if v.cells.length=size∧off+size≤cells.length∧v.sure=true then zbt place (zao cells off v.cells) rest else none
def zhi (place:Nat→Option (Nat×Nat)) (zero:List AV) (parts:List (Nat×AV)) (k:Kt):Prop :=
  match zbt place zero parts with | some cells=>PURE (.agg cells) k | none=>False
def zv (eqs:Nat→Bool) (t len nx:Nat):AV:=bif Nat.beq len 0 && eqs (t+1000000) then .zs else .slc nx 0 len
def zuq (len esz:Nat) (zero:List AV) (parts:List (Nat×AV)) (r:AV) (nx:Nat) (k:Kt):Prop :=
  match zbt (fun i=>some (i*esz,esz)) ((List.replicate len zero).flatten) parts with
  | some cells=>NEW nx (.row esz cells) r k
  | none=>False
def icmp (op:BinOp) (a b:Int):Option Bool:=match op with
  | .eql=>some (a == b) | .neq=>some (a != b) | .lss=>some (decide (a < b)) | .leq=>some (decide (a≤b)) | .gtr=>some (decide (a > b)) | .geq=>some (decide (a≥b))
  | _=>none
def znc (op:BinOp) (k:IntKind) (x y:Int):Option Int :=
  let a:=BitVec.ofInt k.bits x
  let b:=BitVec.ofInt k.bits y
  match op with
  | .and=>some (k.wrap (a &&& b).toNat) | .or=>some (k.wrap (a ||| b).toNat) | .xor=>some (k.wrap (a ^^^ b).toNat) | .andNot=>some (k.wrap (a &&& ~~~b).toNat)
  | _=>none
def IBIN (op:BinOp) (k:IntKind) (a b:Int) (K:Kt):Prop:=match op with
  | .add=>PURE (.int k (k.wrap (a+b))) K
  | .sub=>PURE (.int k (k.wrap (a - b))) K
  | .mul=>PURE (.int k (k.wrap (a*b))) K
  | .quo=>b ≠ 0∧PURE (.int k (k.wrap (a.tdiv b))) K
  | .rem=>b ≠ 0∧PURE (.int k (a.tmod b)) K
  | .shl=>0≤b∧PURE (.int k (k.wrap (a*2 ^ (min b.toNat k.bits)))) K
  | .shr=>0≤b∧PURE (.int k (a.fdiv (2 ^ (min b.toNat k.bits)))) K
  | .and | .or | .xor | .andNot=>match znc op k a b with | some r=>PURE (.int k r) K | none=>False
  | .eql | .neq | .lss | .leq | .gtr | .geq=>match icmp op a b with | some r=>PURE (.bool r) K | none=>False
def SBIN (op:BinOp) (a b:List UInt8) (K:Kt):Prop:=match op with
  | .add=>a.length+b.length≤9223372036854775807∧PURE (.str (a ++ b)) K
  | .eql=>PURE (.bool (a == b)) K
  | .neq=>PURE (.bool (!(a == b))) K
  | .lss=>PURE (.bool (Op.bytesLess a b)) K
  | .leq=>PURE (.bool (Op.bytesLess a b || a == b)) K
  | .gtr=>PURE (.bool (!(Op.bytesLess a b || a == b))) K
  | .geq=>PURE (.bool (!Op.bytesLess a b)) K
  | _=>False
def zd:List AV→List AV→Option Bool
  | [],[]=>some true
  | .int k a :: r,.int k' b :: s=>if k=k' then (zd r s).map (fun t=>a == b && t) else none
  | .str a :: r,.str b :: s=>(zd r s).map (fun t=>a == b && t)
  | .bool a :: r,.bool b :: s=>(zd r s).map (fun t=>a == b && t)
  | _,_=>none
def zau:BinOp→Bool
  | .shl | .shr=>true
  | _=>false
def BINI (op:BinOp) (x y:AV) (K:Kt):Prop:=match x,y with
  | .int k a,.int k' b=>(zau op=false→k'=k)∧IBIN op k a b K
  | _,_=>False
def BINS (op:BinOp) (x y:AV) (K:Kt):Prop:=match x,y with
  | .str a,.str b=>SBIN op a b K
  | _,_=>False
def zaz:BinOp→Option Bool
  | .eql=>some false
  | .neq=>some true
  | _=>none
def BINB (op:BinOp) (x y:AV) (K:Kt):Prop:=match zaz op with
  | some neg=>match x,y with
    | .bool a,.bool b=>PURE (.bool (neg ^^ (a == b))) K
    | _,_=>False
  | none=>False
def BINA (zs:List AV) (op:BinOp) (x y:AV) (K:Kt):Prop:=match zaz op with
  | some neg=>match x,y with
    | .agg a,.agg b=>(zd zs a).isSome=true∧match zd a b with | some t=>PURE (.bool (neg ^^ t)) K | none=>False
    | _,_=>False
  | none=>False
def nilP:AV→Option Bool
  | .nilp=>some true
  | .ptr _ _ | .rop _ _=>some false
  | _=>none
def BINP (op:BinOp) (x y:AV) (K:Kt):Prop:=match zaz op with
  | some neg=>match x,y with
    | .nilp,v=>match nilP v with | some t=>PURE (.bool (neg ^^ t)) K | none=>False
    | v,.nilp=>match nilP v with | some t=>PURE (.bool (neg ^^ t)) K | none=>False
    | _,_=>False
  | none=>False
def BINL (op:BinOp) (x y:AV) (K:Kt):Prop:=match zaz op,y with
  | some neg,.nils=>match x with
    | .nils=>PURE (.bool (neg ^^ true)) K
    | .zs=>PURE .bany K
    | .ro xs=>(xs=[]→PURE .bany K)∧(xs ≠ []→PURE (.bool (neg ^^ false)) K)
    | .slc _ _ n=>(n=0→PURE .bany K)∧(n ≠ 0→PURE (.bool (neg ^^ false)) K)
    | _=>False
  | _,_=>False
def BINF (op:BinOp) (x y:AV) (K:Kt):Prop:=match zaz op,y with
  | some neg,.inil=>match x with
    | .inil=>PURE (.bool (neg ^^ true)) K
    | .ifc=>PURE (.bool (neg ^^ false)) K
    | _=>False
  | _,_=>False
def UN (op:UnOp) (x:AV) (K:Kt):Prop:=match op,x with
  | .not,.bool b=>PURE (.bool (!b)) K
  | .neg,.int k n=>IBIN .sub k 0 n K
  | .xor,.int k n=>IBIN .xor k (if k.signed then -1 else k.max) n K
  | _,_=>False
def lohi (lo hi:Option AV) (n:Nat):Option (Int×Int) :=
  match lo,hi with
  | none,none=>some (0,n)
  | some (.int _ a),none=>some (a,n)
  | none,some (.int _ b)=>some (0,b)
  | some (.int _ a),some (.int _ b)=>some (a,b)
  | _,_=>none
def zgj (x:AV) (lo hi:Option AV) (k:Kt):Prop:=match x with
  | .str s=>match lohi lo hi s.length with
    | some (a,b)=>0≤a∧a≤b∧b≤s.length∧PURE (.str ((s.take b.toNat).drop a.toNat)) k
    | none=>False
  | _=>False
def zkz (esz:Nat) (x:AV) (lo hi:Option AV) (H:Heap) (k:Kt):Prop:=match x with
  | .ro xs=>match lohi lo hi xs.length with
    | some (a,b)=>0≤a∧a≤b∧b≤xs.length∧(∀ x∈xs,x.length=esz)∧PURE (.ro ((xs.take b.toNat).drop a.toNat)) k
    | none=>False
  | .slc g off len=>match lohi lo hi len with
    | some (a,b)=>match H g with
      | some (.row sz _)=>sz=esz∧0≤a∧a≤b∧b≤len∧k (.slc g (off+a.toNat*esz) (b - a).toNat) [g] [] []
      | _=>False
    | none=>False
  | .nils=>match lohi lo hi 0 with
    | some (a,b)=>a=0∧b=0∧PURE .nils k
    | none=>False
  | .zs=>match lohi lo hi 0 with
    | some (a,b)=>a=0∧b=0∧PURE .zs k
    | none=>False
  | _=>False
def zmk (x:AV) (lo hi mx:AV) (k:Kt):Prop:=match lo,hi,mx with
  | .int _ a,.int _ b,.int _ c=>a=0∧b=0∧c=0∧(match x with
    | .nils=>PURE .nils k
    | .zs | .ro _ | .slc _ _ _=>PURE .zs k
    | _=>False)
  | _,_,_=>False
def zpi (k:IntKind) (x:AV) (K:Kt):Prop:=match x with | .int _ n=>PURE (.int k (k.wrap n)) K | _=>False
def zou (esz n:Nat) (x:AV) (lo hi:Option AV) (H:Heap) (k:Kt):Prop:=match x with
  | .ptr g off=>match lohi lo hi n with
    | some (a,b)=>match H g with
      | some (.row sz cells)=>sz=esz∧off+n*esz≤cells.length∧0≤a∧a≤b∧b≤n∧k (.slc g (off+a.toNat*esz) (b - a).toNat) [g] [] []
      | _=>False
    | none=>False
  | _=>False
def bytesOf? : List AV→Option (List UInt8)
  | []=>some []
  | .int .u8 n :: r=>(bytesOf? r).map (UInt8.ofNat n.toNat :: ·)
  | _=>none
def zcl (mn:Bool) (x y:AV) (k:Kt):Prop:=match x,y with
  | .int ki a,.int kj b=>ki=kj∧PURE (.int ki (bif mn then (if b < a then b else a) else (if b > a then b else a))) k
  | _,_=>False
def MAX3 (x y z:AV) (k:Kt):Prop:=zcl false x y fun v _ _ _=>zcl false v z k
def zh (esz:Nat) (H:Heap) (x:AV):Option (Nat×List AV×List Nat):=match x with
  | .nils | .zs=>some (0,[],[])
  | .str s=>if esz=1 then some (s.length,s.map (fun b=>.int .u8 (b.toNat:Int)),[]) else none
  | .ro xs=>if xs.all (fun x=>x.length == esz)=true then some (xs.length,xs.flatten,[]) else none
  | .slc g off len=>match H g with
    | some (.row _ cells)=>if off+len*esz≤cells.length then some (len,(cells.drop off).take (len*esz),[g]) else none
    | _=>none
  | _=>none
def zov (x:AV) (H:Heap) (k:Kt):Prop:=match x with
  | .str _=>False
  | x => match zh 1 H x with
    | some (_,news,rd)=>match bytesOf? news with
      | some s=>k (.str s) rd [] []
      | none=>False
    | none=>False
def zrn (x:AV) (nx:Nat) (k:Kt):Prop:=match x with
  | .str s=>NEW nx (.row 1 (s.map fun b=>.int .u8 (b.toNat:Int))) (.slc nx 0 s.length) k
  | _=>False
def zad (esz bytes:Nat) (s x:AV) (H:Heap) (nx:Nat) (k:Kt):Prop :=
  match zh esz H x with
  | some (m,news,rd)=>news.all AV.one=true∧match s with
    | .nils=>(m=0→k .nils rd [] [])∧(m ≠ 0→m*bytes≤140737488355328∧k (.slc nx 0 m) rd [nx] [(nx,some (.row esz news))])
    | .zs=>(m=0→k .zs rd [] [])∧(m ≠ 0→m*bytes≤140737488355328∧k (.slc nx 0 m) rd [nx] [(nx,some (.row esz news))])
    | .slc g off len=>match H g with
      | some (.row sz cells)=>sz=esz∧off+len*esz≤cells.length∧(len+m)*bytes≤140737488355328+(if bytes=1 then 268435456 else 0) ∧
          k (.slc nx 0 (len+m)) (g :: rd) [nx] [(g,none),(nx,some (.row esz ((cells.drop off).take (len*esz) ++ news)))]
      | _=>False
    | _=>False
  | none=>False
def MAKE (esz bytes:Nat) (zero:List AV) (l c:AV) (nx:Nat) (k:Kt):Prop:=match l,c with
  | .int _ n,.int _ m=>m=n∧0≤n∧n≤140737488355328∧n.toNat*bytes≤140737488355328∧NEW nx (.row esz ((List.replicate n.toNat zero).flatten)) (.slc nx 0 n.toNat) k
  | _,_=>False
def COPY (esz:Nat) (d x:AV) (H:Heap) (k:Kt):Prop :=
  match zh esz H x with
  | some (m,news,rd)=>match d with
    | .nils | .zs=>k (.int .i64 0) rd [] []
    | .slc g off len=>match H g with
      | some (.row sz cells)=>sz=esz∧off+len*esz≤cells.length∧news.all AV.one=true ∧
          k (.int .i64 (min m len:Nat)) (g :: rd) [] [(g,some (.row sz (zao cells off (news.take (min m len*esz)))))]
      | _=>False
    | _=>False
  | none=>False
def zdu:AV→AV→Option Bool
  | .int k a,.int k' b=>if k=k' then some (a == b) else none
  | .str a,.str b=>some (a == b)
  | .bool a,.bool b=>some (a == b)
  | _,_=>none
def zah (key:AV):List (AV×AV)→Option (Option (Nat×AV))
  | []=>some none
  | e :: r=>match zdu key e.1 with
    | some true=>some (some (0,e.2))
    | some false=>(zah key r).map (fun o=>o.map fun p=>(p.1+1,p.2))
    | none=>none
def LOOK (zero:List AV) (agg:Bool) (m key:AV) (ok:Bool) (H:Heap) (k:Kt):Prop :=
  let z:AV:=bif agg then .agg zero else zero.getD 0 .junk
  match m with
  | .nilm=>PURE (bif ok then .tup [z,.bool false] else z) k
  | .amap g=>match H g with
    | some (.mp es)=>match zah key es with
      | some (some (_,v))=>k (bif ok then .tup [v,.bool true] else v) [g] [] []
      | some none=>k (bif ok then .tup [z,.bool false] else z) [g] [] []
      | none=>False
    | _=>False
  | _=>False
def MUPD (m key v:AV) (H:Heap) (k:Kt):Prop:=match m with
  | .amap g=>match H g with
    | some (.mp es)=>match zah key es with
      | some (some (i,_))=>k .und [g] [] [(g,some (.mp (es.set i (key,v))))]
      | some none=>k .und [g] [] [(g,some (.mp (es ++ [(key,v)])))]
      | none=>False
    | _=>False
  | _=>False
def zn:AK→AV→Bool
  | .int _,.int _ _ | .str,.str _ | .bool,.bool _=>true
  | _,_=>false
section
variable (T:Nat→Option AT)
def zc (t:Nat):Nat:=match T t with | some a=>a.size | none=>0
def zl (fs:List (Nat×Nat)):Nat→Option (Nat×Nat):=fun i=>match fs[i]? with | some (t,off)=>some (off,zc T t) | none=>none
def zwj (a:AT):Nat:=match a.kind with
  | .array _ el=>zc T el
  | _=>a.size
def zki (t:Nat):Bool:=match T t with
  | some ⟨.slice _,_,_,_⟩ | some ⟨.str,_,_,_⟩=>true
  | _=>false
def zmz (t:Nat):Bool:=match T t with
  | some ⟨.int _,_,_,_⟩=>true
  | _=>false
def zsrc (zero:List AV) (x:AV):AV:=match x with
  | .int _ n=>if 0≤n∧n≤140737488355328 then .ro (List.replicate n.toNat zero) else .junk
  | _=>.junk
def srcV (t:Nat) (zero:List AV) (x:AV):AV:=match zmz T t with
  | true=>zsrc zero x
  | false=>x
def aop (eqs:Nat→Bool) (e:Operand→AV) (H:Heap) (nx:Nat) (o:Oper) (k:Kt):Prop :=
  match o.op with
  | .move x | .assign x=>PURE (e x) k
  | .pick c a b=>PICK (e c) (e a) (e b) k
  | .alloc t=>match T t with | some a=>NEW nx (.row (zwj T a) a.zero) (.ptr nx 0) k | none=>False
  | .box _ v=>(e v).sure=true∧NEW nx (.row (e v).cells.length (e v).cells) (.ptr nx 0) k
  | .build t ps=>match T t with
    | some ⟨.struct fs,_,_,zero⟩=>(fs.all fun p=>zc T p.1 != 0)=true∧zhi (zl T fs) zero (ps.toList.map fun p=>(p.1,e p.2)) k
    | some ⟨.array _ el,_,_,zero⟩=>zc T el ≠ 0∧zhi (fun i=>some (i*zc T el,zc T el)) zero (ps.toList.map fun p=>(p.1,e p.2)) k
    | _=>False
  | .buildSlice t len ps=>match T t with
    | some ⟨.slice el,_,_,_⟩=>match T el with
      | some a=>len*a.size≤16777216∧0 < a.size∧zuq len a.size a.zero (ps.toList.map fun p=>(p.1,e p.2)) (zv eqs t len nx) nx k
      | none=>False
    | _=>False
  | .load t p=>match T t with | some a=>LOAD a.kind.isAgg a.size (e p) H k | none=>False
  | .store t p v=>match T t with | some a=>zag a.size (e p) (e v) H k | none=>False
  | .nilCheck x=>NILC (e x) k
  | .binOp op t x y _=>match T t with
    | some ⟨.int _,_,_,_⟩=>BINI op (e x) (e y) k
    | some ⟨.str,_,_,_⟩=>BINS op (e x) (e y) k
    | some ⟨.bool,_,_,_⟩=>BINB op (e x) (e y) k
    | some ⟨.struct _,_,_,zs⟩=>eqs t=true∧BINA zs op (e x) (e y) k
    | some ⟨.array _ _,_,_,zs⟩=>eqs t=true∧BINA zs op (e x) (e y) k
    | some ⟨.ptr _,_,_,_⟩=>BINP op (e x) (e y) k
    | some ⟨.slice _,_,_,_⟩=>BINL op (e x) (e y) k
    | some ⟨.iface,_,_,_⟩=>match y with | .const _=>BINF op (e x) (e y) k | _=>False
    | _=>False
  | .unOp op _ x=>UN op (e x) k
  | .convert s d x=>match T s,T d with
    | some ⟨.int _,_,_,_⟩,some ⟨.int kd,_,_,_⟩=>zpi kd (e x) k
    | some ⟨.slice el,_,_,_⟩,some ⟨.str,_,_,_⟩=>match T el with
      | some ⟨.int .u8,_,_,_⟩=>zov (e x) H k
      | _=>False
    | some ⟨.str,_,_,_⟩,some ⟨.slice el,_,_,_⟩=>match T el with
      | some ⟨.int .u8,_,_,_⟩=>zrn (e x) nx k
      | _=>False
    | _,_=>False
  | .makeFunc fn first cap=>match fn,first.toList with
    | .func f,[]=>PURE (.clo f (cap.toList.map e)) k
    | _,_=>False
  | .makeMap _ r=>match r with
    | none=>NEW nx (.mp []) (.amap nx) k
    | some _=>False
  | .makeSlice t l c=>match T t with
    | some ⟨.slice el,_,_,_⟩=>match T el with | some a=>0 < a.size∧MAKE a.size a.bytes a.zero (e l) (e c) nx k | none=>False
    | _=>False
  | .slice t x lo hi mx=>match mx with
    | none=>match T t with
      | some ⟨.slice el,_,_,_⟩=>zc T el ≠ 0∧zkz (zc T el) (e x) (lo.map e) (hi.map e) H k
      | some ⟨.str,_,_,_⟩=>zgj (e x) (lo.map e) (hi.map e) k
      | some ⟨.ptr ar,_,_,_⟩=>match T ar with
        | some ⟨.array n el,_,_,_⟩=>zc T el ≠ 0∧zou (zc T el) n (e x) (lo.map e) (hi.map e) H k
        | _=>False
      | _=>False
    | some mx=>match lo,hi with
      | some lo,some hi=>match T t with
        | some ⟨.slice el,_,_,_⟩=>zc T el ≠ 0∧zmk (e x) (e lo) (e hi) (e mx) k
        | _=>False
      | _,_=>False
  | .fieldAddr t x f=>match T t with
    | some ⟨.struct fs,_,_,_⟩=>match zl T fs f with | some (off,sz)=>sz ≠ 0∧zph off (e x) k | none=>False
    | _=>False
  | .field t x f=>match T t with
    | some ⟨.struct fs,_,_,_⟩=>match fs[f]? with
      | some (ft,off)=>match T ft with | some a=>zfn a.kind.isAgg a.size off (e x) k | none=>False
      | none=>False
    | _=>False
  | .indexAddr t x i=>match T t with
    | some ⟨.slice el,_,_,_⟩=>zc T el ≠ 0∧zpf (zc T el) (e x) (e i) k
    | some ⟨.array n el,_,_,_⟩=>zc T el ≠ 0∧zpj (zc T el) n (e x) (e i) k
    | _=>False
  | .index t x i=>match T t with
    | some ⟨.str,_,_,_⟩=>zpe (e x) (e i) k
    | some ⟨.array n el,_,_,_⟩=>match T el with | some a=>zkm a.kind.isAgg a.size n (e x) (e i) k | none=>False
    | _=>False
  | .lookup t m key ok=>match T t with
    | some ⟨.map kt el,_,_,_⟩=>match T el,T kt with | some a,some ka=>zn ka.kind (e key)=true∧LOOK a.zero a.kind.isAgg (e m) (e key) ok H k | _,_=>False
    | _=>False
  | .mapUpdate t m key v | .insert t m key v=>match T t with
    | some ⟨.map kt _,_,_,_⟩=>match T kt with | some ka=>zn ka.kind (e key)=true∧MUPD (e m) (e key) (e v) H k | none=>False
    | _=>False
  | .extract x i=>EXTR (e x) i k
  | .call c=>match c.callee,c.args.toList,c.argTypes.toList with
    | .builtin .len,[x],[t]=>match T t with
      | some ⟨.str,_,_,_⟩=>LENS (e x) k
      | some ⟨.slice _,_,_,_⟩=>LENL (e x) k
      | some ⟨.map _ _,_,_,_⟩=>LENM (e x) H k
      | _=>False
    | .builtin .min,[x,y],[_,_]=>zcl true (e x) (e y) k
    | .builtin .max,[x,y],[_,_]=>zcl false (e x) (e y) k
    | .builtin .max,[x,y,z],[_,_,_]=>MAX3 (e x) (e y) (e z) k
    | .builtin .append,[s,x],[t,t2]=>match T t with
      | some ⟨.slice el,_,_,_⟩=>match T el with | some a=>0 < a.size∧0 < a.bytes∧(zki T t2 || zmz T t2)=true∧zad a.size a.bytes (e s) (srcV T t2 a.zero (e x)) H nx k | none=>False
      | _=>False
    | .builtin .copy,[d,x],[t,_]=>match T t with
      | some ⟨.slice el,_,_,_⟩=>match T el with | some a=>0 < a.size∧COPY a.size (e d) (e x) H k | none=>False
      | _=>False
    | _,_,_=>False
  | _=>False
end
end Go.Proofs.YtpllgpgdcbgalaaDoor
set_option maxRecDepth 8000
namespace Go.Proofs.YtpllgpgdcbgalaaDoor
open Go Go.RowKit
def zzk:Value→Option Bool
  | .bool b=>some b
  | _=>none
def zy (P:Program) (R:Value→World→Prop):Result Next→Prop
  | .ok (.value v) w'=>R v w'
  | .ok .skip w'=>R undef w'
  | .ok (.enter f args) w'=>Calls P f args w' fun e w''=>∃ v,e=.returned v∧R v w''
  | _=>False
theorem zmr {P:Program} {o:Oper} {a:Act} {w:World} {K:Act→World→Prop} {Q:Exit→Act→World→Prop} {R:Value→World→Prop}
    (h:zy P R ((execOp a.eval o).run P w)) (hK:∀ v w',R v w'→K (a.put o.dst v) w'):o.wp P a w K Q:=by
  unfold Oper.wp
  generalize (execOp a.eval o).run P w=r at *
  cases r with
  | ok n w' =>
    cases n <;> simp only [zy] at h <;> simp only [Oper.upon]
    case value u=>exact hK _ _ h
    case skip=>exact hK _ _ h
    case enter f args=>exact h.mono fun e w'' ⟨v,he,hr⟩=>by subst he; exact hK _ _ hr
  | halt x w'=>simp only [zy] at h
def zbd (ops:Array Oper) (i:Nat):List Nat :=
  match ops[i]? with
  | some o=>o.after.toList.filterMap fun e=>if Region.binds .any e then some e.on else none
  | none=>[]
def zmq (ops:Array Oper) (t:Tmp):Option Nat:=(List.range ops.size).find? fun i=>((ops[i]?).bind (·.dst)) == some t
def zog (ops:Array Oper) (n:Nat):Bool :=
  (List.range ops.size).all fun i=>match ops[i]? with
    | none=>false
    | some o=>(zbd ops i).all (fun j=>decide (j < i)) && (match o.dst with | some t=>zmq ops t == some i && decide (t < n) | none=>true) &&
      (match o.op with | .select .. => false | _=>true) &&
      (o.looksAt ops).all fun t=>match zmq ops t with
        | none=>true
        | some j=>(zbd ops i).contains j || (zbd ops j).contains i
abbrev Know:=Value→World→Prop
section
variable (P:Program) (ops:Array Oper) (le:World→World→Prop) (A:List Know) (a0:Act) (w1:World)
def zael (i:Nat):Know:=A.getD i fun _ _=>True
end
theorem zaat (a:Act) (t u:Nat) (v:Value) (ht:t < a.tmps.size):(a.put (some t) v).tmps.getD u undef=if u=t then v else a.tmps.getD u undef:=by
  simp only [Act.put]
  by_cases h:u=t
  · subst h; simp [Array.getD,ht]
  · rw [if_neg h]
    simp only [Array.getD_eq_getD_getElem?]
    rw [Array.getElem?_setIfInBounds_ne (Ne.symm h)]
theorem zob {ops:Array Oper} {listed:Array Bool} (hs:listed.size=ops.size) {i:Nat} :
    i∈Region.ready .any ops listed↔∃ o,ops[i]? = some o∧listed.getD i false=false∧∀ j∈zbd ops i,listed.getD j false=true:=by
  unfold Region.ready
  rw [List.mem_filter,List.mem_range]
  constructor
  · rintro ⟨hi,hb⟩
    simp only [Bool.and_eq_true,Bool.not_eq_true'] at hb
    obtain ⟨h1,h2⟩:=hb
    have ho:ops[i]? = some ops[i]:=Array.getElem?_eq_getElem hi
    refine ⟨ops[i],ho,?_,fun j hj => ?_⟩
    · simpa [Array.getD,hs,hi] using h1
    · rw [ho] at h2
      simp only [Option.map_some,Option.getD_some,Array.all_eq_true_iff_forall_mem] at h2
      unfold zbd at hj
      rw [ho] at hj
      simp only [List.mem_filterMap] at hj
      obtain ⟨e,he,hj⟩:=hj
      split at hj
      · rename_i hbd
        obtain rfl:=Option.some.inj hj
        have:=h2 e (by simpa using he)
        simpa [hbd] using this
      · cases hj
  · rintro ⟨o,ho,h1,h2⟩
    have hi:i < ops.size:=(Array.getElem?_eq_some_iff.1 ho).1
    refine ⟨hi,?_⟩
    simp only [Bool.and_eq_true,Bool.not_eq_true']
    refine ⟨by simpa [Array.getD,hs,hi] using h1,?_⟩
    rw [ho]
    simp only [Option.map_some,Option.getD_some,Array.all_eq_true_iff_forall_mem]
    intro e he
    by_cases hbd:Region.binds .any e=true
    · simp only [hbd,Bool.not_true,Bool.false_or]
      refine h2 e.on ?_
      unfold zbd
      rw [ho]
      simp only [List.mem_filterMap]
      exact ⟨e,by simpa using he,by simp [hbd]⟩
    · simp [hbd]
theorem zdz {l:Array Bool} {i j:Nat} (hi:i < l.size):(l.setIfInBounds i true).getD j false=if j=i then true else l.getD j false:=by
  by_cases h:j=i
  · subst h; simp [Array.getD,hi]
  · rw [if_neg h]
    simp only [Array.getD_eq_getD_getElem?]
    rw [Array.getElem?_setIfInBounds_ne (Ne.symm h)]
theorem zcy {ops:Array Oper} {n:Nat} (h:zog ops n=true) {i:Nat} {o:Oper} (ho:ops[i]? = some o) :
    (∀ j∈zbd ops i,j < i)∧(∀ t,o.dst=some t→zmq ops t=some i∧t < n)∧(∀ cs b,o.op ≠ .select cs b) ∧
      ∀ t∈o.looksAt ops,∀ j,zmq ops t=some j→j∈zbd ops i∨i∈zbd ops j:=by
  have hi:i < ops.size:=(Array.getElem?_eq_some_iff.1 ho).1
  unfold zog at h
  have:=List.all_eq_true.1 h i (List.mem_range.2 hi)
  rw [ho] at this
  simp only [Bool.and_eq_true,List.all_eq_true] at this
  obtain ⟨⟨⟨h1,h2⟩,h3⟩,h4⟩:=this
  refine ⟨fun j hj=>by simpa using h1 j hj,fun t ht => ?_,fun cs b hb => ?_,fun t ht j hj => ?_⟩
  · rw [ht] at h2
    simpa using h2
  · rw [hb] at h3; cases h3
  · have:=h4 t ht
    rw [hj] at this
    simpa using this
/-! ### By rows: what each operation looks at, written out. -/
section
variable (P:Program) (le:World→World→Prop) (A:List Know) (a0:Act) (w1:World)
def zaas (ev:Operand→Value):Option (Tmp×Bool)→Bool
  | none=>true
  | some (t,want)=>zzk (ev (.tmp t)) == some want
end
def leB (W W':World):Prop:=Below W.heap.size W W'
theorem zaao (W:World):leB W W:=Below.refl _ _
theorem zaan (W:World):leB W W=True:=eq_true (zaao W)
attribute [go_sem] zaas zzk zy zael zaan
end Go.Proofs.YtpllgpgdcbgalaaDoor
set_option maxRecDepth 8000
namespace Go.Proofs.YtpllgpgdcbgalaaDoor
open Go Go.RowKit
def zcd:TypeDesc→AK
  | .bool=>.bool
  | .int k=>.int k
  | .string=>.str
  | .pointer e=>.ptr e
  | .slice e=>.slice e
  | .array n e=>.array n e
  | .struct fs=>.struct (fs.toList.map fun f=>(f.type,f.offset))
  | .map k e=>.map k e
  | .func _ _ _=>.func
  | .interface _=>.iface
  | _=>.other
def zos:Value→Bool
  | .agg _=>true
  | _=>false
def atOf (P:Program) (t:Nat):Option AT :=
  match P.info? t,P.underlying t with
  | some i,some d=>match i.zero with
    | some z=>if zos z=(zcd d).isAgg∧z.cells.size=i.size then some ⟨zcd d,i.size,i.bytes,z.cells.toList.map AV.ofScalar⟩ else none
    | none=>none
  | _,_=>none
def TOk (P:Program) (T:Nat→Option AT):Prop:=∀ t a,T t=some a→atOf P t=some a
structure AtOk (P:Program) (t:Nat) (a:AT) (i:TypeInfo) (d:TypeDesc) (z:Value):Prop where
  info:P.info? t=some i
  und:P.underlying t=some d
  kind:zcd d=a.kind
  size:i.size=a.size
  bytes:i.bytes=a.bytes
  zero:i.zero=some z
  cells:a.zero=z.cells.toList.map AV.ofScalar
  agg:zos z=a.kind.isAgg
  len:a.zero.length=a.size
theorem TOk.at {P:Program} {T:Nat→Option AT} (h:TOk P T) {t:Nat} {a:AT} (ht:T t=some a):∃ i d z,AtOk P t a i d z:=by
  have:=h t a ht
  unfold atOf at this
  split at this
  · rename_i i d hi hd
    split at this
    · rename_i z hz
      split at this
      · rename_i hagg
        obtain rfl:=Option.some.inj this
        exact ⟨i,d,z,hi,hd,rfl,rfl,rfl,hz,rfl,hagg.1,by simpa using hagg.2⟩
      · cases this
    · cases this
  · cases this
theorem zez (K:zj) (ρ:Nat→Loc) (A:Nat→Prop) (v:Value):VRel K ρ A (AV.ofScalar v) v:=by
  unfold AV.ofScalar
  split
  all_goals first | exact .junk _ | skip
  · exact .int _ _
  · exact .bool _
  · rename_i s
    have:=VRel.str (K:=K) (ρ:=ρ) (A:=A) s.data.toList
    simpa using this
  · exact .nilp
  · exact .nils
  · exact .nilm
  · exact .nilf
  · exact .inil
theorem zqp (K:zj) (ρ:Nat→Loc) (A:Nat→Prop) (v:Value):VRel K ρ A (AV.ofConst v) v:=by
  unfold AV.ofConst
  split
  · rename_i cs
    refine .agg _ _ (by simp) fun j v c hv hc => ?_
    simp only [List.getElem?_map,Array.getElem?_toList,hc,Option.map_some,Option.some.injEq] at hv
    subst hv
    exact zez _ _ _ _
  · rename_i cs
    refine .tup _ _ (by simp) fun j v c hv hc => ?_
    simp only [List.getElem?_map,Array.getElem?_toList,hc,Option.map_some,Option.some.injEq] at hv
    subst hv
    exact zez _ _ _ _
  · exact zez _ _ _ _
def zfo (A:Nat→Prop) (ρ:Nat→Loc) (H:Heap) (w:World) (v:AV) (fr:List Nat) (D:zi):Value→World→Prop:=fun cv w' =>
  ∃ ρ',Sim (fun x=>A x∨x∈fr) ρ' (H.apply D) w'∧VRel (Kof ρ' (H.apply D) w') ρ' (fun x=>A x∨x∈fr) v cv∧Fr A ρ H w (fun x=>A x∨x∈fr) ρ' (H.apply D) w'
def Eff (P:Program) (o:Oper) (e:Operand→AV) (H0:Heap) (rd fr:List Nat) (D:zi) (v:AV):Prop :=
  ∀ (A:Nat→Prop) (ρ:Nat→Loc) (H:Heap) (w:World) (ev:Operand→Value),Sim A ρ H w→(∀ x∈o.op.operands.toList,VRel (Kof ρ H w) ρ A (e x) (ev x)) →
    (∀ g∈rd,H g=H0 g)→(∀ g∈fr,¬ A g)→zy P (zfo A ρ H w v fr D) ((execOp ev o).run P w)
theorem zbr (A:Nat→Prop):(fun x=>A x∨x∈([]:List Nat))=A:=by funext x; simp
theorem zhm (A:Nat→Prop) (g:Nat):(fun x=>A x∨x∈[g])=(fun x=>A x∨x=g):=by funext x; simp
theorem zfo.quiet {A:Nat→Prop} {ρ:Nat→Loc} {H:Heap} {w:World} {v:AV} {cv:Value} (s:Sim A ρ H w) (h:VRel (Kof ρ H w) ρ A v cv):zfo A ρ H w v [] [] cv w :=
  ⟨ρ,by rw [zbr]; exact s,by rw [zbr]; exact h,by rw [zbr]; exact Fr.refl _ _ _ _⟩
theorem ztw {P:Program} {R:Value→World→Prop} {s:Sem Value} {w w':World} {cv:Value} (h:s.run P w=.ok cv w') (hR:R cv w') :
    zy P R ((do pure (Next.value (← s)):Sem Next).run P w):=by
  simp only [Sem.run_bind,Sem.run_pure,h,Result.andThen_ok,zy]; exact hR
theorem zsk {P:Program} {R:Value→World→Prop} {s:Sem Unit} {w w':World} (h:s.run P w=.ok () w') (hR:R undef w') :
    zy P R ((do s; pure Next.skip:Sem Next).run P w):=by
  simp only [Sem.run_bind,Sem.run_pure,h,Result.andThen_ok,zy]; exact hR
section
variable {P:Program} {o:Oper} {e:Operand→AV} {H0:Heap} {v:AV}
theorem Eff.pure (h:∀ (K:zj) (ρ:Nat→Loc) (A:Nat→Prop) (w:World) (ev:Operand→Value),(∀ x∈o.op.operands.toList,VRel K ρ A (e x) (ev x)) →
    ∃ cv,(execOp ev o).run P w=.ok (.value cv) w∧VRel K ρ A v cv):Eff P o e H0 [] [] [] v:=by
  intro A ρ H w ev s hv _ _
  obtain ⟨cv,hr,hR⟩:=h _ ρ A w ev hv
  rw [hr]
  exact zfo.quiet s hR
theorem Eff.read {rd:List Nat} (h:∀ (A:Nat→Prop) (ρ:Nat→Loc) (H:Heap) (w:World) (ev:Operand→Value),Sim A ρ H w→(∀ x∈o.op.operands.toList,VRel (Kof ρ H w) ρ A (e x) (ev x))→(∀ g∈rd,H g=H0 g) →
    ∃ cv,(execOp ev o).run P w=.ok (.value cv) w∧VRel (Kof ρ H w) ρ A v cv):Eff P o e H0 rd [] [] v:=by
  intro A ρ H w ev s hv hrd _
  obtain ⟨cv,hr,hR⟩:=h A ρ H w ev s hv hrd
  rw [hr]
  exact zfo.quiet s hR
theorem Eff.new {rd:List Nat} {g:Nat} {ob:AObj} (h:∀ (A:Nat→Prop) (ρ:Nat→Loc) (H:Heap) (w:World) (ev:Operand→Value),Sim A ρ H w→(∀ x∈o.op.operands.toList,VRel (Kof ρ H w) ρ A (e x) (ev x))→(∀ g∈rd,H g=H0 g) →
    ∃ cv co l w',(execOp ev o).run P w=.ok (.value cv) w'∧w'.heap=(w.alloc co).heap∧w'.os=w.os∧w'.tape=w.tape∧w'.output=w.output∧l.block=w.heap.size∧(∀ w',w'.heap[w.heap.size]? = some co→zam (Kof ρ H w) ρ A w' l ob) ∧
      (∀ (K:zj) ρ' (A':Nat→Prop),ρ' g=l→A' g→VRel K ρ' A' v cv)):Eff P o e H0 rd [g] [(g,some ob)] v:=by
  intro A ρ H w ev s hv hrd hfr
  obtain ⟨cv,co,l,w',hr,hh,h1,h2,h3,hl,ho,hR⟩:=h A ρ H w ev s hv hrd
  rw [hr]
  obtain ⟨s',f'⟩:=s.alloc (hfr g (by simp)) ob co l hl ho
  refine ⟨fun x=>if x=g then l else ρ x,?_,?_,?_⟩
  · rw [zhm]; exact s'.heap hh
  · exact hR _ _ _ (if_pos rfl) (.inr (by simp))
  · rw [zhm]
    exact ⟨f'.agree,fun b ox hb=>by rw [show Kof _ (H.apply [(g,some ob)]) w'=_ from zhf hh]; exact f'.k b _ hb,h1,h2,h3,by rw [hh]; exact f'.size⟩
theorem zto {A:Nat→Prop} {ρ:Nat→Loc} {H:Heap} {w:World} {p:AV} {c:Value} {cells:List AV} {off:Nat} {rd:List Nat} (s:Sim A ρ H w) (hp:VRel (Kof ρ H w) ρ A p c)
    (h:rdp H0 p=some (cells,off,rd)) (hrd:∀ g∈rd,H g=H0 g) :
    ∃ b q,c=.pointer (some ⟨b,q+off,none⟩)∧∀ (j:Nat) v,cells[j]? = some v→∃ cv,w.cell? ⟨b,q+j,none⟩=some cv∧VRel (Kof ρ H w) ρ A v cv:=by
  unfold rdp at h
  split at h
  · rename_i g off'
    split at h
    · rename_i sz cells' hg
      simp only [Option.some.injEq,Prod.mk.injEq] at h
      obtain ⟨rfl,rfl,rfl⟩:=h
      have hH:H g=some (.row sz cells'):=by rw [hrd g (by simp)]; exact hg
      cases hp with
      | ptr _ _ a hA ha =>
        subst ha
        obtain ⟨c,el,lo,hi,h1,h2,h3,h4,h5,h6⟩:=s.obj g _ hH
        refine ⟨(ρ g).block,(ρ g).base,rfl,fun j v hv => ?_⟩
        obtain ⟨cv,hc,hR⟩:=h6 j v hv
        exact ⟨cv,by simp only [World.cell?, h1]; simpa using hc,hR⟩
    · cases h
  · rename_i cs off'
    simp only [Option.some.injEq,Prod.mk.injEq] at h
    obtain ⟨rfl,rfl,rfl⟩:=h
    cases hp with
    | rop _ _ b p a C ha h2 h3 =>
      subst ha
      refine ⟨b,p,rfl,fun j v hv=>⟨C j,?_,h3 j v hv⟩⟩
      have:=h2 j v hv
      unfold zjf at this
      split at this
      · rename_i c el fr hK
        have:=(zw.1 hK).2
        simp only [World.cell?, this]
        simpa using ‹c[p+j]? = some (C j)›
      · cases this
  · cases h
theorem zbk (b o i:Nat):(⟨b,o,none⟩:Addr).add i=⟨b,o+i,none⟩:=by unfold Addr.add; split <;> simp_all
theorem zaar {d:TypeDesc} {k:AK} (h:zcd d=k):(match d with | .struct _ | .array _ _=>true | _=>false)=k.isAgg:=by
  subst h; cases d <;> rfl
theorem zoa {t:Nat} {a:AT} {i:TypeInfo} {d:TypeDesc} {z:Value} (h:AtOk P t a i d z) (w:World):(Go.isAgg t).run P w=.ok a.kind.isAgg w:=by
  unfold Go.isAgg
  simp only [Sem.run_bind,run_underlying h.und,Result.andThen_ok,← zaar h.kind]
  cases d <;> rfl
theorem zak {t:Nat} {a:AT} {i:TypeInfo} {d:TypeDesc} {z:Value} (h:AtOk P t a i d z) (w:World):(sizeOf t).run P w=.ok a.size w:=by
  simp [sizeOf,typeInfo,program,Sem.run_bind,Sem.run,h.info,h.size]
theorem zma {t:Nat} {a:AT} {i:TypeInfo} {d:TypeDesc} {z:Value} (h:AtOk P t a i d z) {A:Nat→Prop} {ρ:Nat→Loc} {K:zj} {w:World} {cells:List AV} {off b q:Nat} {v:AV}
    (hc:∀ (j:Nat) v,cells[j]? = some v→∃ cv,w.cell? ⟨b,q+j,none⟩=some cv∧VRel K ρ A v cv) (hl:ldv a.kind.isAgg a.size cells off=some v) :
    ∃ cv,(loadVar t ⟨b,q+off,none⟩).run P w=.ok cv w∧VRel K ρ A v cv:=by
  unfold ldv at hl
  unfold loadVar
  simp only [Sem.run_bind,zoa h,Result.andThen_ok]
  cases hag:a.kind.isAgg with
  | true =>
    simp only [hag,cond_true] at hl
    split at hl
    · rename_i hle
      obtain rfl:=Option.some.inj hl
      have hex:∀ j,j < a.size→∃ cv,w.cell? ⟨b,q+off+j,none⟩=some cv∧∃ x,cells[off+j]? = some x∧VRel K ρ A x cv:=by
        intro j hj
        have hlt:off+j < cells.length:=by omega
        obtain ⟨cv,h1,h2⟩:=hc (off+j) _ (List.getElem?_eq_getElem hlt)
        exact ⟨cv,by rw [Nat.add_assoc]; exact h1,_,List.getElem?_eq_getElem hlt,h2⟩
      obtain ⟨f,hf⟩:∃ f:Nat→Value,∀ j,j < a.size→w.cell? ⟨b,q+off+j,none⟩=some (f j)∧∃ x,cells[off+j]? = some x∧VRel K ρ A x (f j):=by
        haveI:Inhabited Value:=⟨undef⟩
        exact Go.Deep.choose_lt hex
      have hrun:=run_loadCells (P:=P) w ⟨b,q+off,none⟩ a.size f (fun j hj=>by rw [zbk]; exact (hf j hj).1)
      simp only [Sem.run_bind,zak h,Result.andThen_ok,if_true,hrun,Sem.run_pure]
      refine ⟨_,rfl,.agg _ _ (by simp; omega) fun j x c hx hc => ?_⟩
      have hj:j < a.size:=by
        have:=(Array.getElem?_eq_some_iff.1 hc).1
        simpa using this
      obtain ⟨_,y,hy,hR⟩:=hf j hj
      have e1:c=f j:=by
        have:(((List.range a.size).map f).toArray)[j]? = some (f j):=by simp [hj]
        rw [this] at hc; exact (Option.some.inj hc).symm
      have e2:x=y:=by
        rw [List.getElem?_take,if_pos hj,List.getElem?_drop,hy] at hx
        exact (Option.some.inj hx).symm
      rw [e1,e2]; exact hR
    · cases hl
  | false =>
    simp only [hag,cond_false] at hl
    obtain ⟨cv,h1,h2⟩:=hc off v hl
    refine ⟨cv,?_,h2⟩
    simp only [Bool.false_eq_true,if_false,run_load,h1]
theorem zuc {t:Nat} {a:AT} {i:TypeInfo} {d:TypeDesc} {z:Value} (h:AtOk P t a i d z) {p:Operand} (ho:o.op=.load t p) {k:Kt} (hk:LOAD a.kind.isAgg a.size (e p) H0 k) :
    ∃ v rd,Eff P o e H0 rd [] [] v∧k v rd [] []:=by
  unfold LOAD at hk
  split at hk
  · rename_i cells off rd hrd
    split at hk
    · rename_i v hv
      refine ⟨v,rd,Eff.read fun A ρ H w ev s hx hH => ?_,hk⟩
      have hp:=hx p (by rw [ho]; simp [Op.operands])
      obtain ⟨b,q,he,hc⟩:=zto s hp hrd hH
      obtain ⟨cv,hr,hR⟩:=zma h hc hv
      refine ⟨cv,?_,hR⟩
      simp only [execOp,ho,Instr.loadAt,he,Instr.sureAddr,Sem.run_bind,Sem.run_pure,Result.andThen_ok,hr]
    · exact hk.elim
  · exact hk.elim
end
end Go.Proofs.YtpllgpgdcbgalaaDoor
set_option maxRecDepth 8000
namespace Go.Proofs.YtpllgpgdcbgalaaDoor
open Go Go.RowKit
def LRel (K:zj) (ρ:Nat→Loc) (A:Nat→Prop) (xs:List AV) (cs:List Value):Prop:=cs.length=xs.length∧∀ (j:Nat) v c,xs[j]? = some v→cs[j]? = some c→VRel K ρ A v c
section
variable {K:zj} {ρ:Nat→Loc} {A:Nat→Prop}
theorem LRel.get {xs:List AV} {cs:List Value} (h:LRel K ρ A xs cs) {j:Nat} {v:AV} (hv:xs[j]? = some v):∃ c,cs[j]? = some c∧VRel K ρ A v c:=by
  have hlt:=(List.getElem?_eq_some_iff.1 hv).1
  have:j < cs.length:=by rw [h.1]; exact hlt
  exact ⟨cs[j],List.getElem?_eq_getElem this,h.2 j v _ hv (List.getElem?_eq_getElem this)⟩
theorem LRel.nil:LRel K ρ A [] []:=⟨rfl,fun j v c h=>by simp at h⟩
theorem LRel.cons {v:AV} {c:Value} {xs:List AV} {cs:List Value} (h:VRel K ρ A v c) (k:LRel K ρ A xs cs):LRel K ρ A (v :: xs) (c :: cs):=by
  refine ⟨by simp [k.1],fun j u d hu hd => ?_⟩
  cases j with
  | zero=>simp at hu hd; subst hu; subst hd; exact h
  | succ j=>exact k.2 j u d (by simpa using hu) (by simpa using hd)
theorem LRel.append {xs ys:List AV} {cs ds:List Value} (h:LRel K ρ A xs cs) (k:LRel K ρ A ys ds):LRel K ρ A (xs ++ ys) (cs ++ ds):=by
  refine ⟨by simp [h.1,k.1],fun j u d hu hd => ?_⟩
  rw [List.getElem?_append] at hu hd
  rw [h.1] at hd
  split at hu
  · rename_i hlt; rw [if_pos hlt] at hd; exact h.2 j u d hu hd
  · rename_i hlt; rw [if_neg hlt] at hd; exact k.2 _ u d hu hd
theorem LRel.take {xs:List AV} {cs:List Value} (h:LRel K ρ A xs cs) (n:Nat):LRel K ρ A (xs.take n) (cs.take n):=by
  refine ⟨by simp [h.1],fun j u d hu hd => ?_⟩
  rw [List.getElem?_take] at hu hd
  split at hu
  · rename_i hlt; rw [if_pos hlt] at hd; exact h.2 j u d hu hd
  · cases hu
theorem LRel.drop {xs:List AV} {cs:List Value} (h:LRel K ρ A xs cs) (n:Nat):LRel K ρ A (xs.drop n) (cs.drop n):=by
  refine ⟨by simp [h.1],fun j u d hu hd => ?_⟩
  rw [List.getElem?_drop] at hu hd
  exact h.2 _ u d hu hd
theorem LRel.mono {K':zj} {ρ':Nat→Loc} {A':Nat→Prop} {xs:List AV} {cs:List Value} (h:LRel K ρ A xs cs) (hK:∀ b o,K b=some o→K' b=some o) (hA:∀ g,A g→ρ' g=ρ g∧A' g):LRel K' ρ' A' xs cs :=
  ⟨h.1,fun j v c hv hc=>(h.2 j v c hv hc).mono hK hA⟩
theorem LRel.replicate {xs:List AV} {cs:List Value} (h:LRel K ρ A xs cs):∀ n:Nat,LRel K ρ A (List.replicate n xs).flatten (List.replicate n cs).flatten
  | 0=>by simpa using LRel.nil
  | n+1=>by simp only [List.replicate_succ,List.flatten_cons]; exact h.append (LRel.replicate h n)
theorem LRel.scalars (cs:List Value):LRel K ρ A (cs.map AV.ofScalar) cs:=by
  refine ⟨by simp,fun j v c hv hc => ?_⟩
  simp only [List.getElem?_map,hc,Option.map_some,Option.some.injEq] at hv
  subst hv
  exact zez _ _ _ _
theorem LRel.agg {xs:List AV} {cs:Array Value} (h:LRel K ρ A xs cs.toList):VRel K ρ A (.agg xs) (.agg cs) :=
  .agg xs cs (by simpa using h.1) fun j v c hv hc=>h.2 j v c hv (by simpa using hc)
theorem VRel.cells {v:AV} {c:Value} (h:VRel K ρ A v c) (hs:v.sure=true):LRel K ρ A v.cells c.cells.toList:=by
  cases h with
  | junk=>cases hs
  | agg xs cs h1 h2=>exact ⟨by simpa [Value.cells,AV.cells] using h1,fun j v c hv hc=>h2 j v c hv (by simpa [Value.cells] using hc)⟩
  | und=>exact LRel.cons .und .nil
  | int k n=>exact LRel.cons (.int k n) .nil
  | bool b=>exact LRel.cons (.bool b) .nil
  | bany b=>exact LRel.cons (.bany b) .nil
  | str s=>exact LRel.cons (.str s) .nil
  | nilp=>exact LRel.cons .nilp .nil
  | nils=>exact LRel.cons .nils .nil
  | nilf=>exact LRel.cons .nilf .nil
  | nilm=>exact LRel.cons .nilm .nil
  | inil=>exact LRel.cons .inil .nil
  | ifc _ h=>exact h.elim fun t ⟨x,e⟩=>by subst e; exact LRel.cons (.ifc _ ⟨t,x,rfl⟩) .nil
  | zs a=>exact LRel.cons (.zs a) .nil
  | ptr g off a h1 h2=>exact LRel.cons (.ptr g off a h1 h2) .nil
  | slc g off len cap a h1 h2 h3=>exact LRel.cons (.slc g off len cap a h1 h2 h3) .nil
  | amap g r h1 h2=>exact LRel.cons (.amap g r h1 h2) .nil
  | ro xs a len cap sz b off C h1 h2 h3 h4 h5 h6=>exact LRel.cons (.ro xs a len cap sz b off C h1 h2 h3 h4 h5 h6) .nil
  | rop cs o b p a C h1 h2 h3=>exact LRel.cons (.rop cs o b p a C h1 h2 h3) .nil
  | tup xs cs h1 h2=>exact LRel.cons (.tup xs cs h1 h2) .nil
  | clo f xs cs h1 h2=>exact LRel.cons (.clo f xs cs h1 h2) .nil
theorem VRel.one {v:AV} {c:Value} (h:VRel K ρ A v c) (hs:v.one=true):c.oneCell'=true:=by
  cases h <;> first | rfl | (rename_i hi; obtain ⟨t,x,rfl⟩:=hi; rfl) | cases hs
theorem LRel.ones {xs:List AV} {cs:List Value} (h:LRel K ρ A xs cs) (hs:xs.all AV.one=true):∀ c∈cs,c.oneCell'=true:=by
  intro c hc
  obtain ⟨j,hj⟩:=List.getElem?_of_mem hc
  have hlt:=(List.getElem?_eq_some_iff.1 hj).1
  have hx:j < xs.length:=by rw [← h.1]; exact hlt
  refine (h.2 j _ c (List.getElem?_eq_getElem hx) hj).one ?_
  exact List.all_eq_true.1 hs _ (List.getElem_mem hx)
theorem zje {sz:Nat} {cells:List AV} {cs:Array Value} {el:TypeId} {b:Nat} {lo hi:Nat} (h:LRel K ρ A cells (cs.toList.take cells.length)) (hlen:cells.length≤cs.size) (hf:∀ j,j < cs.size→¬ (lo≤j∧j < hi))
    {w':World} (hw:w'.heap[b]? = some (.cells cs el (lo,hi))):zam K ρ A w' ⟨b,0,cs.size,sz⟩ (.row sz cells):=by
  refine ⟨cs,el,lo,hi,hw,hf,rfl,rfl,by simpa using hlen,fun j v hv => ?_⟩
  obtain ⟨c,hc,hR⟩:=h.get hv
  have hlt:=(List.getElem?_eq_some_iff.1 hv).1
  rw [List.getElem?_take,if_pos hlt] at hc
  exact ⟨c,by simpa using hc,hR⟩
theorem zuz {sz:Nat} {cells:List AV} {cs:Array Value} {el:TypeId} {b:Nat} (h:LRel K ρ A cells cs.toList) {w':World} (hw:w'.heap[b]? = some (.cells cs el (0,0))):zam K ρ A w' ⟨b,0,cs.size,sz⟩ (.row sz cells):=by
  have hl:cells.length=cs.size:=by simpa using h.1.symm
  exact zje (by rw [hl,List.take_of_length_le (by simp)]; exact h) (by omega) (fun j _=>by omega) hw
theorem zaay (vs:List Value):∀ (k off:Nat) (cs:Array Value),
    ((vs.zipIdx k).foldl (fun (cs:Array Value) (x:Value×Nat)=>cs.setIfInBounds (off+x.2) x.1) cs).size=cs.size ∧
    ∀ m,((vs.zipIdx k).foldl (fun (cs:Array Value) (x:Value×Nat)=>cs.setIfInBounds (off+x.2) x.1) cs)[m]? = if off+k≤m∧m < off+k+vs.length∧m < cs.size then vs[m - (off+k)]? else cs[m]? := by
  induction vs with
  | nil=>intro k off cs; simp; intro m h1 h2; omega
  | cons v r ih =>
    intro k off cs
    obtain ⟨h1,h2⟩:=ih (k+1) off (cs.setIfInBounds (off+k) v)
    simp only [List.zipIdx_cons,List.foldl_cons]
    refine ⟨by rw [h1]; simp,fun m => ?_⟩
    rw [h2 m]
    simp only [Array.size_setIfInBounds,List.length_cons]
    by_cases hm:m=off+k
    · subst hm
      rw [if_neg (by omega)]
      by_cases hs:off+k < cs.size
      · rw [if_pos (by omega)]; simp [hs]
      · rw [if_neg (by omega),Array.getElem?_eq_none (by simp; omega),Array.getElem?_eq_none (by omega)]
    · rw [Array.getElem?_setIfInBounds_ne (Ne.symm hm)]
      by_cases hc:off+(k+1)≤m∧m < off+(k+1)+r.length∧m < cs.size
      · rw [if_pos hc,if_pos (by omega),show m - (off+k)=(m - (off+(k+1)))+1 by omega,List.getElem?_cons_succ]
      · rw [if_neg hc,if_neg (by omega)]
theorem zqt (cells:List AV) (off:Nat) (vs:List AV) (h:off+vs.length≤cells.length) (m:Nat) :
    (zao cells off vs)[m]? = if off≤m∧m < off+vs.length then vs[m - off]? else cells[m]? := by
  unfold zao
  by_cases h1:m < off
  · rw [List.append_assoc,List.getElem?_append_left (by simp; omega),List.getElem?_take,if_pos h1,if_neg (by omega)]
  · by_cases h2:m < off+vs.length
    · rw [List.getElem?_append_left (by simp; omega),List.getElem?_append_right (by simp; omega),if_pos (by omega)]
      congr 1; simp; omega
    · rw [List.getElem?_append_right (by simp; omega),List.getElem?_drop,if_neg (by omega)]
      congr 1; simp; omega
theorem zik (cells:List AV) (off:Nat) (vs:List AV) (h:off+vs.length≤cells.length):(zao cells off vs).length=cells.length:=by
  unfold zao; simp; omega
theorem LRel.set {cells:List AV} {cs:Array Value} (h:LRel K ρ A cells cs.toList) {vs:List AV} {us:Array Value} (hv:LRel K ρ A vs us.toList) (off:Nat) (hl:off+vs.length≤cells.length) :
    LRel K ρ A (zao cells off vs) (us.zipIdx.foldl (fun (cs:Array Value) (x:Value×Nat)=>cs.setIfInBounds (off+x.2) x.1) cs).toList:=by
  have e:us.zipIdx.foldl (fun (cs:Array Value) (x:Value×Nat)=>cs.setIfInBounds (off+x.2) x.1) cs=(us.toList.zipIdx 0).foldl (fun (cs:Array Value) (x:Value×Nat)=>cs.setIfInBounds (off+x.2) x.1) cs:=by
    rw [← Array.foldl_toList]; simp
  obtain ⟨h1,h2⟩:=zaay us.toList 0 off cs
  have hcl:cs.size=cells.length:=by simpa using h.1
  have hul:us.size=vs.length:=by simpa using hv.1
  refine ⟨by rw [e,zik _ _ _ hl]; simp [h1,hcl],fun j v c hj hc => ?_⟩
  rw [e] at hc
  simp only [Array.getElem?_toList] at hc
  rw [h2 j] at hc
  rw [zqt _ _ _ hl] at hj
  simp only [Nat.add_zero,Array.length_toList,hul,hcl] at hc
  by_cases hin:off≤j∧j < off+vs.length
  · rw [if_pos hin] at hj
    rw [if_pos (by omega)] at hc
    exact hv.2 _ v c hj hc
  · rw [if_neg hin] at hj
    rw [if_neg (by omega)] at hc
    exact h.2 j v c hj (by simpa using hc)
theorem znf {place:Nat→Option (Nat×Nat)}:∀ (ps:List (Nat×AV)) (qs:List (Nat×Value)) (cells:List AV) (cs:Array Value) (res:List AV),ps.length=qs.length →
    (∀ (j:Nat) p q,ps[j]? = some p→qs[j]? = some q→p.1=q.1∧VRel K ρ A p.2 q.2)→LRel K ρ A cells cs.toList→zbt place cells ps=some res →
    ∃ rc,Instr.fill place cs qs=some rc∧LRel K ρ A res rc.toList
  | [],qs,cells,cs,res,hl,_,hc,hf=>by
    have:qs=[]:=List.eq_nil_of_length_eq_zero (by simpa using hl.symm)
    subst this
    simp only [zbt,Option.some.injEq] at hf
    subst hf
    exact ⟨cs,rfl,hc⟩
  | (i, v) :: ps,qs,cells,cs,res,hl,hp,hc,hf=>by
    obtain ⟨⟨i',u⟩,qs,rfl⟩:∃ q r,qs=q :: r:=by
      cases qs with
      | nil=>simp at hl
      | cons q r=>exact ⟨q,r,rfl⟩
    obtain ⟨h1,h2⟩:=hp 0 _ _ rfl rfl
    simp only at h1 h2
    subst h1
    simp only [zbt] at hf
    simp only [Instr.fill]
    cases hpl:place i with
    | none=>rw [hpl] at hf; cases hf
    | some os =>
      obtain ⟨off,size⟩:=os
      rw [hpl] at hf
      simp only at hf ⊢
      split at hf
      · rename_i hcond
        obtain ⟨a1,a2,a3⟩:=hcond
        have hr:=h2.cells a3
        have hus:u.cells.size=size:=by have:=hr.1; simp at this; omega
        have hcs:cs.size=cells.length:=by simpa using hc.1
        rw [if_neg (by simp [hus]; omega)]
        exact znf ps qs _ _ res (by simpa using hl) (fun j p q hj hq=>hp (j+1) p q (by simpa using hj) (by simpa using hq)) (hc.set hr off (by omega)) hf
      · cases hf
end
section
variable {P:Program} {o:Oper} {e:Operand→AV} {H0:Heap}
theorem ze {v:AV} {k:Kt} (hk:PURE v k) (h:∀ (K:zj) (ρ:Nat→Loc) (A:Nat→Prop) (w:World) (ev:Operand→Value),(∀ x∈o.op.operands.toList,VRel K ρ A (e x) (ev x)) →
    ∃ cv,(execOp ev o).run P w=.ok (.value cv) w∧VRel K ρ A v cv):∃ v rd,Eff P o e H0 rd [] [] v∧k v rd [] []:=⟨v,[],Eff.pure h,hk⟩
theorem zub {x:Operand} (ho:o.op=.move x∨o.op=.assign x) {k:Kt} (hk:PURE (e x) k):∃ v rd,Eff P o e H0 rd [] [] v∧k v rd [] [] :=
  ze hk fun K ρ A w ev hx=>⟨ev x,by rcases ho with ho | ho <;> simp [execOp,ho,Sem.run,pure],hx x (by rcases ho with ho | ho <;> simp [Op.operands,ho])⟩
theorem zabd {c a b:Operand} (ho:o.op=.pick c a b) {k:Kt} (hk:PICK (e c) (e a) (e b) k):∃ v rd,Eff P o e H0 rd [] [] v∧k v rd [] []:=by
  unfold PICK at hk
  split at hk
  · rename_i t ht
    refine ze hk fun K ρ A w ev hx => ?_
    have h1:=hx c (by simp [Op.operands,ho])
    have h2:=hx a (by simp [Op.operands,ho])
    have h3:=hx b (by simp [Op.operands,ho])
    rw [ht] at h1
    generalize hc:ev c=cv at h1
    cases h1
    refine ⟨bif t then ev a else ev b,?_,by cases t <;> assumption⟩
    cases t <;> simp [execOp,ho,hc,asBool,Sem.run_bind,Sem.run_pure]
  · exact hk.elim
theorem zpc {esz:Nat} {cells:List AV} {v:AV} {nx:Nat} {k:Kt} (hk:NEW nx (.row esz cells) v k)
    (h : ∀ (A:Nat→Prop) (ρ:Nat→Loc) (H:Heap) (w:World) (ev:Operand→Value),Sim A ρ H w→(∀ x∈o.op.operands.toList,VRel (Kof ρ H w) ρ A (e x) (ev x)) →
      ∃ cv cs el,(execOp ev o).run P w=.ok (.value cv) (w.alloc (.cells cs el (0,0)))∧LRel (Kof ρ H w) ρ A cells cs.toList ∧
        (∀ (K:zj) ρ' (A':Nat→Prop),ρ' nx=⟨w.heap.size,0,cs.size,esz⟩→A' nx→VRel K ρ' A' v cv)) :
    ∃ v rd,Eff P o e H0 rd [nx] [(nx,some (.row esz cells))] v∧k v rd [nx] [(nx,some (.row esz cells))]:=by
  refine ⟨v,[],Eff.new fun A ρ H w ev s hx _ => ?_,hk⟩
  obtain ⟨cv,cs,el,hr,hR,hv⟩:=h A ρ H w ev s hx
  exact ⟨cv,_,⟨w.heap.size,0,cs.size,esz⟩,_,hr,rfl,rfl,rfl,rfl,rfl,fun w' hw=>zuz hR hw,hv⟩
theorem zsa {nx:Nat} {b n s:Nat} (K:zj) (ρ':Nat→Loc) (A':Nat→Prop) (h:ρ' nx=⟨b,0,n,s⟩) (hA:A' nx):VRel K ρ' A' (.ptr nx 0) (.pointer (some ⟨b,0,none⟩)) :=
  .ptr nx 0 _ hA (by rw [h])
theorem zzg {t:Nat} {a:AT} {i:TypeInfo} {d:TypeDesc} {z:Value} (h:AtOk P t a i d z) (ho:o.op=.alloc t) {nx sz:Nat} {k:Kt} (hk:NEW nx (.row sz a.zero) (.ptr nx 0) k) :
    ∃ v rd,Eff P o e H0 rd [nx] [(nx,some (.row sz a.zero))] v∧k v rd [nx] [(nx,some (.row sz a.zero))]:=by
  refine zpc hk fun A ρ H w ev s hx=>⟨.pointer (some ⟨w.heap.size,0,none⟩),z.cells,t,?_,by rw [h.cells]; exact LRel.scalars _,fun K ρ' A' h1 h2=>zsa K ρ' A' h1 h2⟩
  simp [execOp,ho,Instr.alloc,zeroValue,typeInfo,program,newVar,newRow,newObj,Sem.run_bind,Sem.run,h.info,h.zero]
theorem zads {t:Nat} {x:Operand} (ho:o.op=.box t x) {nx:Nat} {k:Kt} (hs:(e x).sure=true) (hk:NEW nx (.row (e x).cells.length (e x).cells) (.ptr nx 0) k) :
    ∃ v rd,Eff P o e H0 rd [nx] [(nx,some (.row (e x).cells.length (e x).cells))] v∧k v rd [nx] [(nx,some (.row (e x).cells.length (e x).cells))]:=by
  refine zpc hk fun A ρ H w ev s hx => ?_
  have hR:=(hx x (by simp [Op.operands,ho])).cells hs
  refine ⟨.pointer (some ⟨w.heap.size,0,none⟩),(ev x).cells,t,?_,hR,fun K ρ' A' h1 h2=>zsa K ρ' A' h1 h2⟩
  simp [execOp,ho,Instr.box,newVar,newRow,newObj,Sem.run_bind,Sem.run]
theorem zabe {x:Operand} (ho:o.op=.nilCheck x) {k:Kt} (hk:NILC (e x) k):∃ v rd,Eff P o e H0 rd [] [] v∧k v rd [] []:=by
  have key:∀ (K:zj) (ρ:Nat→Loc) (A:Nat→Prop) (w:World) (ev:Operand→Value),(∀ y∈o.op.operands.toList,VRel K ρ A (e y) (ev y))→((∃ g off,e x=.ptr g off)∨(∃ cs off,e x=.rop cs off)∨(∃ f cs,e x=.clo f cs)) →
      ∃ cv,(execOp ev o).run P w=.ok (.value cv) w∧VRel K ρ A (e x) cv:=by
    intro K ρ A w ev hx hc
    have h1:=hx x (by simp [Op.operands,ho])
    refine ⟨ev x,?_,h1⟩
    rcases hc with ⟨g,off,hc⟩ | ⟨cs,off,hc⟩ | ⟨f,cs,hc⟩ <;> rw [hc] at h1 <;> generalize hcv:ev x=cv at h1 <;> cases h1 <;> simp [execOp,ho,hcv,Sem.run,pure]
  unfold NILC at hk
  split at hk
  · exact ze hk fun K ρ A w ev hx=>key K ρ A w ev hx (.inl ⟨_,_,‹_›⟩)
  · exact ze hk fun K ρ A w ev hx=>key K ρ A w ev hx (.inr (.inl ⟨_,_,‹_›⟩))
  · exact ze hk fun K ρ A w ev hx=>key K ρ A w ev hx (.inr (.inr ⟨_,_,‹_›⟩))
  · exact hk.elim
theorem zabl {x:Operand} {i:Nat} (ho:o.op=.extract x i) {k:Kt} (hk:EXTR (e x) i k):∃ v rd,Eff P o e H0 rd [] [] v∧k v rd [] []:=by
  unfold EXTR at hk
  split at hk
  · rename_i vs hvs
    split at hk
    · rename_i v hv
      refine ze hk fun K ρ A w ev hx => ?_
      have h1:=hx x (by simp [Op.operands,ho])
      rw [hvs] at h1
      generalize hcv:ev x=cv at h1
      cases h1 with
      | tup _ cs hl hR =>
        have hlt:=(List.getElem?_eq_some_iff.1 hv).1
        have hc:cs[i]? = some cs[i]:=Array.getElem?_eq_getElem (by omega)
        exact ⟨_,by simp [execOp,ho,hcv,Instr.extract,hc,Sem.run_bind,Sem.run_pure],hR i v _ hv hc⟩
    · exact hk.elim
  · exact hk.elim
end
end Go.Proofs.YtpllgpgdcbgalaaDoor
set_option maxRecDepth 8000
namespace Go.Proofs.YtpllgpgdcbgalaaDoor
open Go Go.RowKit
section
variable {P:Program} {T:Nat→Option AT} {o:Oper} {e:Operand→AV} {H0:Heap}
theorem zmt {t:Nat} {fs:List (Nat×Nat)} {s b:Nat} {z0:List AV} {i:TypeInfo} {d:TypeDesc} {z:Value} (h:AtOk P t ⟨.struct fs,s,b,z0⟩ i d z) :
    ∃ fields:Array Field,P.underlying t=some (.struct fields)∧fs=fields.toList.map fun f=>(f.type,f.offset):=by
  have hk:=h.kind
  cases d <;> simp only [zcd] at hk <;> cases hk
  exact ⟨_,h.und,rfl⟩
theorem zaw {t el:Nat} {s b:Nat} {z0:List AV} {i:TypeInfo} {d:TypeDesc} {z:Value} (h:AtOk P t ⟨.slice el,s,b,z0⟩ i d z):P.underlying t=some (.slice el):=by
  have hk:=h.kind
  cases d <;> simp only [zcd] at hk <;> cases hk
  exact h.und
theorem zky {t n el:Nat} {s b:Nat} {z0:List AV} {i:TypeInfo} {d:TypeDesc} {z:Value} (h:AtOk P t ⟨.array n el,s,b,z0⟩ i d z):P.underlying t=some (.array n el):=by
  have hk:=h.kind
  cases d <;> simp only [zcd] at hk <;> cases hk
  exact h.und
theorem zjj {t:Nat} {s b:Nat} {z0:List AV} {i:TypeInfo} {d:TypeDesc} {z:Value} (h:AtOk P t ⟨.str,s,b,z0⟩ i d z):P.underlying t=some .string:=by
  have hk:=h.kind
  cases d <;> simp only [zcd] at hk <;> cases hk
  exact h.und
theorem zoz {t:Nat} {k:IntKind} {s b:Nat} {z0:List AV} {i:TypeInfo} {d:TypeDesc} {z:Value} (h:AtOk P t ⟨.int k,s,b,z0⟩ i d z):P.underlying t=some (.int k):=by
  have hk:=h.kind
  cases d <;> simp only [zcd] at hk <;> cases hk
  exact h.und
theorem zox {t k el:Nat} {s b:Nat} {z0:List AV} {i:TypeInfo} {d:TypeDesc} {z:Value} (h:AtOk P t ⟨.map k el,s,b,z0⟩ i d z):P.underlying t=some (.map k el):=by
  have hk:=h.kind
  cases d <;> simp only [zcd] at hk <;> cases hk
  exact h.und
theorem zcx (hT:TOk P T) {t:Nat} (h:zc T t ≠ 0) (w:World):(sizeOf t).run P w=.ok (zc T t) w:=by
  unfold zc at *
  cases ht:T t with
  | none=>rw [ht] at h; simp at h
  | some a=>obtain ⟨i,d,z,ha⟩:=hT.at ht; exact zak ha w
theorem zze (hT:TOk P T) {t f off sz:Nat} {x:Operand} {fs:List (Nat×Nat)} {s b:Nat} {z0:List AV} {i:TypeInfo} {d:TypeDesc} {z:Value} (h:AtOk P t ⟨.struct fs,s,b,z0⟩ i d z)
    (hp:zl T fs f=some (off,sz)) (hsz:sz ≠ 0) (ho:o.op=.fieldAddr t x f) {k:Kt} (hk:zph off (e x) k):∃ v rd,Eff P o e H0 rd [] [] v∧k v rd [] []:=by
  obtain ⟨fields,hu,rfl⟩:=zmt h
  unfold zl at hp
  split at hp
  · rename_i ft fo hf
    simp only [Option.some.injEq,Prod.mk.injEq] at hp
    obtain ⟨rfl,rfl⟩:=hp
    simp only [List.getElem?_map,Option.map_eq_some_iff,Array.getElem?_toList,Prod.mk.injEq] at hf
    obtain ⟨fl,hfl,rfl,rfl⟩:=hf
    have hso:=fun w=>zcx hT hsz w
    have key:∀ (a:Addr) (w:World) (ev:Operand→Value),ev x=.pointer (some a)→(execOp ev o).run P w=.ok (.value (.pointer (some (a.add fl.offset)))) w:=by
      intro a w ev hev
      simp [execOp,ho,Instr.fieldAt,hev,Instr.sureAddr,fieldPlace,Sem.run_bind,Sem.run_pure,run_underlying hu,hfl,hso,hsz]
    unfold zph at hk
    split at hk
    · rename_i g q hx
      refine ze hk fun K ρ A w ev hr => ?_
      have h1:=hr x (by simp [Op.operands,ho])
      rw [hx] at h1
      generalize hcv:ev x=cv at h1
      cases h1 with
      | ptr _ _ a hA ha =>
        subst ha
        exact ⟨_,key _ w ev hcv,.ptr _ _ _ hA (by rw [zbk,Nat.add_assoc])⟩
    · rename_i cs q hx
      refine ze hk fun K ρ A w ev hr => ?_
      have h1:=hr x (by simp [Op.operands,ho])
      rw [hx] at h1
      generalize hcv:ev x=cv at h1
      cases h1 with
      | rop _ _ b p a C ha h2 h3 =>
        subst ha
        exact ⟨_,key _ w ev hcv,.rop _ _ b p _ C (by rw [zbk,Nat.add_assoc]) h2 h3⟩
    · exact hk.elim
  · cases hp
theorem zhg {t:Nat} {a:AT} {i:TypeInfo} {d:TypeDesc} {z:Value} (h:AtOk P t a i d z) {K:zj} {ρ:Nat→Loc} {A:Nat→Prop} {w:World} {cells:List AV} {cs:Array Value} {off:Nat} {v:AV}
    (hc:LRel K ρ A cells cs.toList) (hl:ldv a.kind.isAgg a.size cells off=some v):∃ cv,(Go.part t cs off).run P w=.ok cv w∧VRel K ρ A v cv:=by
  unfold ldv at hl
  unfold Go.part
  simp only [Sem.run_bind,zoa h,Result.andThen_ok]
  cases hag:a.kind.isAgg with
  | true =>
    simp only [hag,cond_true] at hl
    split at hl
    · obtain rfl:=Option.some.inj hl
      simp only [Sem.run_bind,zak h,Result.andThen_ok,if_true,Sem.run_pure]
      refine ⟨_,rfl,LRel.agg ?_⟩
      rw [Array.toList_extract]
      simp only [List.extract_eq_drop_take']
      rw [List.drop_take,show off+a.size - off=a.size by omega]
      exact (hc.drop off).take a.size
    · cases hl
  | false =>
    simp only [hag,cond_false] at hl
    obtain ⟨c,h1,h2⟩:=hc.get hl
    simp only [Array.getElem?_toList] at h1
    exact ⟨c,by simp [h1,Sem.run_pure],h2⟩
theorem zzd {t ft f off:Nat} {a:AT} {x:Operand} {fs:List (Nat×Nat)} {s b:Nat} {z0:List AV} {i i':TypeInfo} {d d':TypeDesc} {z z':Value} (h:AtOk P t ⟨.struct fs,s,b,z0⟩ i d z)
    (hf:fs[f]? = some (ft,off)) (ha:AtOk P ft a i' d' z') (ho:o.op=.field t x f) {k:Kt} (hk:zfn a.kind.isAgg a.size off (e x) k):∃ v rd,Eff P o e H0 rd [] [] v∧k v rd [] []:=by
  obtain ⟨fields,hu,rfl⟩:=zmt h
  simp only [List.getElem?_map,Option.map_eq_some_iff,Array.getElem?_toList,Prod.mk.injEq] at hf
  obtain ⟨fl,hfl,rfl,rfl⟩:=hf
  unfold zfn at hk
  split at hk
  · rename_i cs hx
    split at hk
    · rename_i v hv
      refine ze hk fun K ρ A w ev hr => ?_
      have h1:=hr x (by simp [Op.operands,ho])
      rw [hx] at h1
      generalize hcv:ev x=cv at h1
      cases h1 with
      | agg _ vs hl hR =>
        obtain ⟨u,hrun,hu2⟩:=zhg (P:=P) (w:=w) ha (K:=K) (ρ:=ρ) (A:=A) (cells:=cs) (cs:=vs) ⟨by simpa using hl,fun j v c h1 h2=>hR j v c h1 (by simpa using h2)⟩ hv
        refine ⟨u,?_,hu2⟩
        simp [execOp,ho,Instr.field,hcv,asAgg,Sem.run_bind,Sem.run_pure,run_underlying hu,hfl,hrun]
    · exact hk.elim
  · exact hk.elim
theorem zxj {t el n:Nat} {a:AT} {x ix:Operand} {s b:Nat} {z0:List AV} {i i':TypeInfo} {d d':TypeDesc} {z z':Value} (h:AtOk P t ⟨.array n el,s,b,z0⟩ i d z)
    (ha:AtOk P el a i' d' z') (ho:o.op=.index t x ix) {k:Kt} (hk:zkm a.kind.isAgg a.size n (e x) (e ix) k):∃ v rd,Eff P o e H0 rd [] [] v∧k v rd [] []:=by
  have hu:=zky h
  unfold zkm at hk
  split at hk
  · rename_i ki m hix
    obtain ⟨h0,h1,hk⟩:=hk
    unfold zfn at hk
    split at hk
    · rename_i cs hx
      split at hk
      · rename_i v hv
        refine ze hk fun K ρ A w ev hr => ?_
        have r1:=hr x (by simp [Op.operands,ho])
        have r2:=hr ix (by simp [Op.operands,ho])
        rw [hx] at r1
        rw [hix] at r2
        generalize hcv:ev x=cv at r1
        generalize hci:ev ix=ci at r2
        cases r2
        cases r1 with
        | agg _ vs hl hR =>
          obtain ⟨u,hrun,hu2⟩:=zhg (P:=P) (w:=w) ha (K:=K) (ρ:=ρ) (A:=A) (cells:=cs) (cs:=vs) ⟨by simpa using hl,fun j v c h1 h2=>hR j v c h1 (by simpa using h2)⟩ hv
          refine ⟨u,?_,hu2⟩
          simp [execOp,ho,Instr.index,hcv,hci,asIntOf,Sem.run_bind,Sem.run_pure,run_underlying hu,h0,h1,zak ha,hrun]
      · exact hk.elim
    · exact hk.elim
  · exact hk.elim
theorem zzb {t:Nat} {x ix:Operand} {s b:Nat} {z0:List AV} {i:TypeInfo} {d:TypeDesc} {z:Value} (h:AtOk P t ⟨.str,s,b,z0⟩ i d z) (ho:o.op=.index t x ix) {k:Kt} (hk:zpe (e x) (e ix) k) :
    ∃ v rd,Eff P o e H0 rd [] [] v∧k v rd [] []:=by
  have hu:=zjj h
  unfold zpe at hk
  split at hk
  · rename_i ki m hix
    split at hk
    · rename_i l hx
      obtain ⟨h0,h1,hk⟩:=hk
      refine ze hk fun K ρ A w ev hr => ?_
      have r1:=hr x (by simp [Op.operands,ho])
      have r2:=hr ix (by simp [Op.operands,ho])
      rw [hx] at r1
      rw [hix] at r2
      generalize hcv:ev x=cv at r1
      generalize hci:ev ix=ci at r2
      cases r2
      cases r1
      have hlt:m.toNat < l.length:=by omega
      have hget:(ByteArray.mk l.toArray)[m.toNat]? = some l[m.toNat]:=by
        rw [getElem?_pos (ByteArray.mk l.toArray) m.toNat (by show m.toNat < l.toArray.size; simpa using hlt)]
        rfl
      refine ⟨.int .u8 (l[m.toNat].toNat:Int),?_,?_⟩
      · simp [execOp,ho,Instr.index,hcv,hci,asIntOf,Sem.run_bind,Sem.run_pure,run_underlying hu,h0,hget]
      · rw [List.getD_eq_getElem?_getD,List.getElem?_eq_getElem hlt]
        exact .int _ _
    · exact hk.elim
  · exact hk.elim
theorem zabi {t:Nat} {x:Operand} {s b:Nat} {z0:List AV} {i:TypeInfo} {d:TypeDesc} {z:Value} (h:AtOk P t ⟨.str,s,b,z0⟩ i d z) (ho:o.op=.call { callee:=.builtin .len,args := #[x],argTypes := #[t] }) {k:Kt}
    (hk:LENS (e x) k):∃ v rd,Eff P o e H0 rd [] [] v∧k v rd [] []:=by
  have hu:=zjj h
  unfold LENS at hk
  split at hk
  · rename_i l hx
    refine ze hk fun K ρ A w ev hr => ?_
    have r1:=hr x (by simp [Op.operands,Call.operands,ho])
    rw [hx] at r1
    generalize hcv:ev x=cv at r1
    cases r1
    refine ⟨.int .i64 (l.length:Int),?_,.int _ _⟩
    simp only [execOp,ho,resolve,invoke,builtin,Sem.run_bind,Sem.run_pure,Result.andThen_ok,List.map_toArray,List.map_cons,List.map_nil,hcv]
    have hsz:(ByteArray.mk l.toArray).size=l.length:=by show l.toArray.size=_; simp
    simp [Builtin.len_,Sem.run_bind,Sem.run_pure,run_underlying hu,goInt,hsz]
  · exact hk.elim
theorem zabk {t el:Nat} {x:Operand} {s b:Nat} {z0:List AV} {i:TypeInfo} {d:TypeDesc} {z:Value} (h:AtOk P t ⟨.slice el,s,b,z0⟩ i d z) (ho:o.op=.call { callee:=.builtin .len,args := #[x],argTypes := #[t] }) {k:Kt}
    (hk:LENL (e x) k):∃ v rd,Eff P o e H0 rd [] [] v∧k v rd [] []:=by
  have hu:=zaw h
  have key:∀ (w:World) (ev:Operand→Value) a n c,ev x=.slice a n c→(execOp ev o).run P w=.ok (.value (.int .i64 (n:Int))) w:=by
    intro w ev a n c hcv
    simp only [execOp,ho,resolve,invoke,builtin,Sem.run_bind,Sem.run_pure,Result.andThen_ok,List.map_toArray,List.map_cons,List.map_nil,hcv]
    simp [Builtin.len_,Sem.run_bind,Sem.run_pure,run_underlying hu,goInt]
  unfold LENL at hk
  split at hk
  all_goals first | exact hk.elim | skip
  all_goals
    rename_i hx
    refine ze hk fun K ρ A w ev hr => ?_
    have r1:=hr x (by simp [Op.operands,Call.operands,ho])
    rw [hx] at r1
    generalize hcv:ev x=cv at r1
  · cases r1; exact ⟨_,key w ev _ _ _ hcv,.int _ _⟩
  · cases r1; exact ⟨_,key w ev _ _ _ hcv,.int _ _⟩
  · cases r1; exact ⟨_,key w ev _ _ _ hcv,.int _ _⟩
  · cases r1 with
    | ro _ a len cap sz b off C h1 h2 h3 h4 h5 h6=>subst h1; exact ⟨_,key w ev _ _ _ hcv,.int _ _⟩
theorem zabj {t el kt:Nat} {x:Operand} {s b:Nat} {z0:List AV} {i:TypeInfo} {d:TypeDesc} {z:Value} (h:AtOk P t ⟨.map kt el,s,b,z0⟩ i d z) (ho:o.op=.call { callee:=.builtin .len,args := #[x],argTypes := #[t] }) {k:Kt}
    (hk:LENM (e x) H0 k):∃ v rd,Eff P o e H0 rd [] [] v∧k v rd [] []:=by
  have hu:=zox h
  unfold LENM at hk
  split at hk
  · rename_i hx
    refine ze hk fun K ρ A w ev hr => ?_
    have r1:=hr x (by simp [Op.operands,Call.operands,ho])
    rw [hx] at r1
    generalize hcv:ev x=cv at r1
    cases r1
    refine ⟨.int .i64 0,?_,.int _ _⟩
    simp only [execOp,ho,resolve,invoke,builtin,Sem.run_bind,Sem.run_pure,Result.andThen_ok,List.map_toArray,List.map_cons,List.map_nil,hcv]
    simp [Builtin.len_,Sem.run_bind,Sem.run_pure,run_underlying hu,goInt]
  · rename_i g hx
    split at hk
    · rename_i es hg
      refine ⟨_,_,Eff.read fun A ρ H w ev s hr hrd => ?_,hk⟩
      have r1:=hr x (by simp [Op.operands,Call.operands,ho])
      rw [hx] at r1
      generalize hcv:ev x=cv at r1
      cases r1 with
      | amap _ r hA hrr =>
        subst hrr
        obtain ⟨en,cl,h1,h2,h3⟩:=s.obj g _ (by rw [hrd g (by simp)]; exact hg)
        refine ⟨.int .i64 (en.size:Int),?_,by rw [h2]; exact .int _ _⟩
        simp only [execOp,ho,resolve,invoke,builtin,Sem.run_bind,Sem.run_pure,Result.andThen_ok,List.map_toArray,List.map_cons,List.map_nil,hcv]
        simp [Builtin.len_,Sem.run_bind,Sem.run_pure,run_underlying hu,goInt,getObj,Sem.run,h1]
    · exact hk.elim
  · exact hk.elim
theorem zadj {xs:List (List AV)} {i:Nat} (h:i < xs.length):xs[i]? = some (xs.getD i []):=by
  rw [List.getD_eq_getElem?_getD,List.getElem?_eq_getElem h]; rfl
theorem zzc (hT:TOk P T) {t el:Nat} {x ix:Operand} {s b:Nat} {z0:List AV} {i:TypeInfo} {d:TypeDesc} {z:Value} (h:AtOk P t ⟨.slice el,s,b,z0⟩ i d z) (hsz:zc T el ≠ 0) (ho:o.op=.indexAddr t x ix) {k:Kt}
    (hk:zpf (zc T el) (e x) (e ix) k):∃ v rd,Eff P o e H0 rd [] [] v∧k v rd [] []:=by
  have hu:=zaw h
  have hso:=fun w=>zcx hT hsz w
  have key:∀ (w:World) (ev:Operand→Value) a n c ki m,ev x=.slice (some a) n c→ev ix=.int ki m→0≤m→m < n→(execOp ev o).run P w=.ok (.value (.pointer (some (a.add (m.toNat*zc T el))))) w:=by
    intro w ev a n c ki m hcv hci h0 h1
    simp [execOp,ho,Instr.indexAt,hcv,hci,asIntOf,Sem.run_bind,Sem.run_pure,run_underlying hu,h0,h1,hso]
  unfold zpf at hk
  split at hk
  · rename_i ki m hix
    split at hk
    · rename_i g off len hx
      obtain ⟨h0,h1,hk⟩:=hk
      refine ze hk fun K ρ A w ev hr => ?_
      have r1:=hr x (by simp [Op.operands,ho])
      have r2:=hr ix (by simp [Op.operands,ho])
      rw [hx] at r1
      rw [hix] at r2
      generalize hcv:ev x=cv at r1
      generalize hci:ev ix=ci at r2
      cases r2
      cases r1 with
      | slc _ _ _ cap a hA hle hcap =>
        obtain ⟨_,rfl⟩:=hcap (by omega)
        exact ⟨_,key w ev _ _ _ _ _ hcv hci h0 h1,.ptr _ _ _ hA (by rw [zbk,Nat.add_assoc])⟩
    · rename_i xs hx
      obtain ⟨h0,h1,h2,hk⟩:=hk
      have hlt:m.toNat < xs.length:=by omega
      have hget:=zadj hlt
      refine ze hk fun K ρ A w ev hr => ?_
      have r1:=hr x (by simp [Op.operands,ho])
      have r2:=hr ix (by simp [Op.operands,ho])
      rw [hx] at r1
      rw [hix] at r2
      generalize hcv:ev x=cv at r1
      generalize hci:ev ix=ci at r2
      cases r2
      cases r1 with
      | ro _ a len cap sz b off C e1 e2 e3 e4 e5 e6 =>
        subst e1
        have hne:xs ≠ []:=by intro h; rw [h] at hlt; simp at hlt
        obtain rfl:=e3 hne
        have hs:sz=zc T el:=by rw [← h2]; exact (e4 _ (List.mem_of_getElem? hget)).symm
        subst hs
        exact ⟨_,key w ev _ _ _ _ _ hcv hci h0 h1,.rop _ 0 b (off+m.toNat*zc T el) _ (C m.toNat) (by rw [zbk,Nat.add_zero]) (fun j v hv=>e5 _ _ j v hget hv) (fun j v hv=>e6 _ _ j v hget hv)⟩
    · exact hk.elim
  · exact hk.elim
theorem zzh (hT:TOk P T) {t el n:Nat} {x ix:Operand} {s b:Nat} {z0:List AV} {i:TypeInfo} {d:TypeDesc} {z:Value} (h:AtOk P t ⟨.array n el,s,b,z0⟩ i d z) (hsz:zc T el ≠ 0) (ho:o.op=.indexAddr t x ix) {k:Kt}
    (hk:zpj (zc T el) n (e x) (e ix) k):∃ v rd,Eff P o e H0 rd [] [] v∧k v rd [] []:=by
  have hu:=zky h
  have hso:=fun w=>zcx hT hsz w
  have key:∀ (w:World) (ev:Operand→Value) a ki m,ev x=.pointer (some a)→ev ix=.int ki m→0≤m→m < n→(execOp ev o).run P w=.ok (.value (.pointer (some (a.add (m.toNat*zc T el))))) w:=by
    intro w ev a ki m hcv hci h0 h1
    simp [execOp,ho,Instr.indexAt,hcv,hci,asIntOf,Instr.sureAddr,Sem.run_bind,Sem.run_pure,run_underlying hu,h0,h1,hso]
  unfold zpj at hk
  split at hk
  · rename_i ki m hix
    obtain ⟨h0,h1,hk⟩:=hk
    split at hk
    · rename_i g off hx
      refine ze hk fun K ρ A w ev hr => ?_
      have r1:=hr x (by simp [Op.operands,ho])
      have r2:=hr ix (by simp [Op.operands,ho])
      rw [hx] at r1
      rw [hix] at r2
      generalize hcv:ev x=cv at r1
      generalize hci:ev ix=ci at r2
      cases r2
      cases r1 with
      | ptr _ _ a hA ha =>
        subst ha
        exact ⟨_,key w ev _ _ _ hcv hci h0 h1,.ptr _ _ _ hA (by rw [zbk,Nat.add_assoc])⟩
    · rename_i cs off hx
      refine ze hk fun K ρ A w ev hr => ?_
      have r1:=hr x (by simp [Op.operands,ho])
      have r2:=hr ix (by simp [Op.operands,ho])
      rw [hx] at r1
      rw [hix] at r2
      generalize hcv:ev x=cv at r1
      generalize hci:ev ix=ci at r2
      cases r2
      cases r1 with
      | rop _ _ b p a C ha e5 e6 =>
        subst ha
        exact ⟨_,key w ev _ _ _ hcv hci h0 h1,.rop _ _ b p _ C (by rw [zbk,Nat.add_assoc]) e5 e6⟩
    · exact hk.elim
  · exact hk.elim
theorem zod {K:zj} {ρ:Nat→Loc} {A:Nat→Prop} {ev:Operand→Value} {ps:Array (Nat×Operand)} (h:∀ x∈(ps.toList.map (·.2)),VRel K ρ A (e x) (ev x)) :
    (ps.toList.map fun p=>(p.1,e p.2)).length=((ps.map fun p=>(p.1,ev p.2)).toList).length ∧
    ∀ (j:Nat) p q,(ps.toList.map fun p=>(p.1,e p.2))[j]? = some p→((ps.map fun p=>(p.1,ev p.2)).toList)[j]? = some q→p.1=q.1∧VRel K ρ A p.2 q.2:=by
  refine ⟨by simp,fun j p q hp hq => ?_⟩
  simp only [Array.toList_map,List.getElem?_map,Option.map_eq_some_iff] at hp hq
  obtain ⟨x,hx,rfl⟩:=hp
  obtain ⟨y,hy,rfl⟩:=hq
  rw [hx] at hy
  obtain rfl:=Option.some.inj hy
  exact ⟨rfl,h _ (List.mem_map.2 ⟨x,List.mem_of_getElem? hx,rfl⟩)⟩
theorem zbj {t:Nat} {a:AT} {i:TypeInfo} {d:TypeDesc} {z:Value} (h:AtOk P t a i d z) (w:World):(zeroValue t).run P w=.ok z w:=by
  simp [zeroValue,typeInfo,program,Sem.run_bind,Sem.run,h.info,h.zero]
theorem zta (hT:TOk P T) {t el n:Nat} {ps:Array (Nat×Operand)} {s b:Nat} {z0:List AV} {i:TypeInfo} {d:TypeDesc} {z:Value} (h:AtOk P t ⟨.array n el,s,b,z0⟩ i d z) (hsz:zc T el ≠ 0) (ho:o.op=.build t ps) {k:Kt}
    (hk:zhi (fun i=>some (i*zc T el,zc T el)) z0 (ps.toList.map fun p=>(p.1,e p.2)) k):∃ v rd,Eff P o e H0 rd [] [] v∧k v rd [] []:=by
  have hu:=zky h
  have hso:=fun w=>zcx hT hsz w
  unfold zhi at hk
  split at hk
  · rename_i cells hf
    refine ze hk fun K ρ A w ev hr => ?_
    obtain ⟨p1,p2⟩:=zod (K:=K) (ρ:=ρ) (A:=A) (ev:=ev) (e:=e) (ps:=ps) (fun x hx=>hr x (by simpa [Op.operands,ho] using hx))
    obtain ⟨rc,hrc,hR⟩:=znf _ _ z0 z.cells cells p1 p2 (by have:=h.cells; simp only at this; rw [this]; exact LRel.scalars _) hf
    refine ⟨.agg rc,?_,LRel.agg hR⟩
    simp [execOp,ho,Instr.build,Sem.run_bind,Sem.run_pure,run_underlying hu,zbj h,hso]
    simp at hrc
    simp [hrc,Sem.run_pure]
  · exact hk.elim
end
end Go.Proofs.YtpllgpgdcbgalaaDoor
