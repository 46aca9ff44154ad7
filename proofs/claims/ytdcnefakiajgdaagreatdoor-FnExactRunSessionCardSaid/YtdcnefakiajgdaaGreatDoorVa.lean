/-
  The plain machine: its parts and their laws, 1 of 4.
  Conditions: those of each statement.
-/
import Derived.Calls
import Derived.Below
import Derived.KernelRfl
import Derived.Still
import Derived.Laws.Append
import Derived.Laws.CopyRow
import Derived.Laws.Cells
import Derived.Laws.Entries
import Derived.Laws.MakeOwn
import Derived.Laws.Tables
import Derived.Great.BuildSlice
set_option linter.unusedSimpArgs false
set_option linter.unusedVariables false
namespace Go.Vt
open Go
abbrev zgu:=@decide_eq_true
abbrev zgv:=@decide_eq_false
abbrev zgw:=@of_decide_eq_true
abbrev zgx:=@Bool.and_eq_true
abbrev zgy:=@Int.toNat_natCast
abbrev zgz:=@List.mem_append
abbrev zgA:=@List.length_append
abbrev zgB:=@List.length_cons
abbrev zgC:=@Nat.le_refl
abbrev zgD:=@List.getElem?_eq_getElem
abbrev zgE:=@Nat.eq_of_beq_eq_true
abbrev zgF:=@Option.bind_eq_some_iff
abbrev zgG:=@if_pos
abbrev zgH:=@if_neg
abbrev zgI:=@decide_eq_true_eq
abbrev zgJ:=@cond_true
abbrev zgK:=@cond_false
abbrev zgL:=@List.length_take
abbrev zgM:=@List.nodup_append
abbrev zgN:=@List.length_map
abbrev zgO:=@List.mem_cons
abbrev zgP:=@List.mem_flatMap
abbrev zgQ:=@Option.map_eq_some_iff
abbrev zgR:=@List.length_drop
abbrev zgS:=@List.all_eq_true
abbrev zgT:=@List.take_of_length_le
abbrev zgU:=@List.append_assoc
abbrev zgV:=@List.nodup_cons
abbrev zgW:=@Array.length_toList
abbrev zgX:=@Array.getElem?_toList
abbrev zgY:=@List.mem_map
abbrev zgZ:=@Nat.le_of_ble_eq_true
abbrev zg0:=@List.getD_cons_zero
abbrev zg1:=@Nat.le_trans
abbrev zg2:=@List.getElem_mem
abbrev zg3:=@List.mem_cons_of_mem
abbrev zg4:=@ByteArray.size_append
end Go.Vt
namespace Go.Vt
open Go.RowKit
inductive Ty where
 |int (k:IntKind)|bool|str|slice (t:Ty)|pair (a b:Ty)
 |set
 |err
@[reducible] def Ty.den:Ty->Type
  | .int _=>Int| .bool=>Bool| .str=>ByteArray| .slice t=>List t.den| .pair a b=>a.den×b.den| .set=>Option (List ByteArray)| .err=>Bool
def Ty.dflt:(t:Ty)->t.den
 | .int _=>(0:Int)| .bool=>false| .str=>(⟨#[]⟩:ByteArray)| .slice _=> []| .pair a b=>(a.dflt,b.dflt)| .set=>(none:Option (List ByteArray))| .err=>true
def Ty.sz:Ty->Nat
 | .pair a b=>a.sz+b.sz|_=>1
def KX:IntKind->IntKind->Bool
 | .i8, .i8| .i16, .i16| .i32, .i32| .i64, .i64| .u8, .u8| .u16, .u16| .u32, .u32| .u64, .u64=>true
 |_,_=>false
theorem RQ {a b:IntKind}(h:KX a b=true):a=b:=by cases a<;>cases b<;>first|rfl|cases h
def Ty.same:Ty->Ty->Bool
 | .int k, .int k' =>KX k k' | .bool, .bool=>true| .str, .str=>true| .slice t, .slice u=>t.same u
 | .pair a b, .pair c d=>a.same c&&b.same d| .set, .set=>true| .err, .err=>true|_,_=>false
theorem Ty.same_eq:∀ {a b:Ty},Ty.same a b=true->a=b
 | .int k, .int k',h=>congrArg Ty.int (RQ (a:=k) (b:=k') h)
 | .bool, .bool,_=>rfl
 | .str, .str,_=>rfl
 | .slice t, .slice u,h=>congrArg Ty.slice (Ty.same_eq (a:=t) (b:=u) h)
 | .pair a b, .pair c d,h=>by
   have h' :a.same c=true/\b.same d=true:=by simpa[Ty.same]using h
   have e1:=Ty.same_eq h'.1
   have e2:=Ty.same_eq h'.2
   rw[e1,e2]
 | .set, .set,_=>rfl
 | .err, .err,_=>rfl
 | .set, .err,h=>by cases h
 | .err, .set,h=>by cases h
 | .set, .int _,h=>by cases h
 | .int _, .set,h=>by cases h
 | .err, .int _,h=>by cases h
 | .int _, .err,h=>by cases h
 | .set, .bool,h=>by cases h
 | .bool, .set,h=>by cases h
 | .err, .bool,h=>by cases h
 | .bool, .err,h=>by cases h
 | .set, .str,h=>by cases h
 | .str, .set,h=>by cases h
 | .err, .str,h=>by cases h
 | .str, .err,h=>by cases h
 | .set, .slice _,h=>by cases h
 | .slice _, .set,h=>by cases h
 | .err, .slice _,h=>by cases h
 | .slice _, .err,h=>by cases h
 | .set, .pair _ _,h=>by cases h
 | .pair _ _, .set,h=>by cases h
 | .err, .pair _ _,h=>by cases h
 | .pair _ _, .err,h=>by cases h
 | .int _, .bool,h=>by cases h
 | .int _, .str,h=>by cases h
 | .int _, .slice _,h=>by cases h
 | .int _, .pair _ _,h=>by cases h
 | .bool, .int _,h=>by cases h
 | .bool, .str,h=>by cases h
 | .bool, .slice _,h=>by cases h
 | .bool, .pair _ _,h=>by cases h
 | .str, .int _,h=>by cases h
 | .str, .bool,h=>by cases h
 | .str, .slice _,h=>by cases h
 | .str, .pair _ _,h=>by cases h
 | .slice _, .int _,h=>by cases h
 | .slice _, .bool,h=>by cases h
 | .slice _, .str,h=>by cases h
 | .slice _, .pair _ _,h=>by cases h
 | .pair _ _, .int _,h=>by cases h
 | .pair _ _, .bool,h=>by cases h
 | .pair _ _, .str,h=>by cases h
 | .pair _ _, .slice _,h=>by cases h
def Ty.as (a b:Ty)(x:a.den):Option b.den:=if h:Ty.same a b=true then some (Ty.same_eq h▸x)else none
def Ty.flat:Ty->Bool
 | .slice _=>false| .pair a b=>a.flat&&b.flat| .set=>false|_=>true
theorem Ty.sz_pos:∀t:Ty,0<t.sz
 | .int _=>Nat.zero_lt_one| .bool=>Nat.zero_lt_one| .str=>Nat.zero_lt_one| .slice _=>Nat.zero_lt_one| .set=>Nat.zero_lt_one| .err=>Nat.zero_lt_one
 | .pair a b=>by have:=a.sz_pos;show 0<a.sz+b.sz;omega
def Same (S:Nat->Prop)(w w' :World):Prop:=∀b,S b->w'.heap[b]? =w.heap[b]?
theorem Same.refl (S:Nat->Prop)(w:World):Same S w w:=fun _ _=>rfl
theorem Same.trans {S:Nat->Prop}{a b c:World}(h:Same S a b)(k:Same S b c):Same S a c:=fun x hx=>(k x hx).trans (h x hx)
theorem Same.mono {S S' :Nat->Prop}{w w' :World}(h:Same S w w')(hs:∀b,S' b->S b):Same S' w w' :=fun b hb=>h b (hs b hb)
def At (w:World)(b o:Nat)(cs:List Value):Prop:=∀j v,cs[j]? =some v->w.cell? ⟨b,o+j,none⟩=some v
theorem At.same {w w' :World}{b o:Nat}{cs:List Value}(h:At w b o cs)(hb:w'.heap[b]? =w.heap[b]?):At w' b o cs:=fun j v hj=>by
 rw[World.cell?_of_block (w:=w) (a:=⟨b,o+j,none⟩) hb];exact h j v hj
def Rows {α:Type}(w:World)(S:Nat->Prop)(n:Nat)(p:α->List Value->Prop)(a:Option Addr)(xs:List α):Prop:=
 xs=[]\/∃b o,a=some ⟨b,o,none⟩/\S b/\∀i x,xs[i]? =some x->∃cs,cs.length=n/\At w b (o+i*n) cs/\p x cs
def MapIs (w:World)(b:Nat)(l:List ByteArray):Prop:=∃es ck,w.heap[b]? =some (.map es ck)/\es.toList.map (fun e=>(e.key,e.val))=l.map fun s=>(Value.string s,Value.bool true)
theorem MapIs.same {w w' :World}{b:Nat}{l:List ByteArray}(h:MapIs w b l)(hb:w'.heap[b]? =w.heap[b]?):MapIs w' b l:=by
 obtain⟨es,ck,h1,h2⟩:=h
 exact⟨es,ck,hb.trans h1,h2⟩
def ErrV:Value->Bool->Prop
 | .nilIface,b=>b=true| .iface _ _,b=>b=false|_,_=>False
def SetR (w:World)(v:Value)(L:List Nat):Option (List ByteArray)->Prop
 |none=>v= .map none/\L=[]
 |some l=>∃b,v= .map (some b)/\L=[b]/\MapIs w b l
theorem SetR.same {w w' :World}{v:Value}{L:List Nat}:∀ {x:Option (List ByteArray)},SetR w v L x->(∀b∈L,w'.heap[b]? =w.heap[b]?)->SetR w' v L x
 |none,h,_=>h
 |some l,h,hL=>by
  obtain⟨b,e,rfl,h2⟩:=h
  exact⟨b,e,rfl,h2.same (hL b (by simp))⟩
def VR (w:World)(S:Nat->Prop):(t:Ty)->t.den->List Value->Prop
 | .int k,n,cs=>cs=[.int k n]
 | .bool,b,cs=>cs=[.bool b]
 | .str,s,cs=>cs=[.string s]
 | .slice t,xs,cs=>∃a cap,cs=[.slice a xs.length cap]/\xs.length<=cap/\Rows w S t.sz (VR w S t) a xs
 | .pair a b,x,cs=>∃c1 c2,cs=c1++c2/\VR w S a x.1 c1/\VR w S b x.2 c2
 | .set,x,cs=>∃v L,cs=[v]/\(∀b∈L,S b)/\SetR w v L x
 | .err,b,cs=>∃v,cs=[v]/\ErrV v b
theorem VR.mono {w w' :World}{S S' :Nat->Prop}(hw:Same S w w')(hs:∀b,S b->S' b):∀ {t:Ty} {x:t.den} {cs:List Value},VR w S t x cs->VR w' S' t x cs
 | .int _,_,_,h=>h
 | .bool,_,_,h=>h
 | .str,_,_,h=>h
 | .slice t,xs,cs,h=>by
   obtain⟨a,cap,e,hc,h⟩:=h
   refine⟨a,cap,e,hc, ?_⟩
   rcases h with h|⟨b,o,e2,hb,h⟩
   ·exact .inl h
   ·refine .inr ⟨b,o,e2,hs b hb,fun i x hx=> ?_⟩
    obtain⟨c,hl,ha,hv⟩:=h i x hx
    exact⟨c,hl,ha.same (hw b hb),VR.mono hw hs hv⟩
 | .pair a b,x,cs,h=>by
   obtain⟨c1,c2,e,h1,h2⟩:=h
   exact⟨c1,c2,e,VR.mono hw hs h1,VR.mono hw hs h2⟩
 | .set,l,cs,h=>by
   obtain⟨v,L,e,h1,h2⟩:=h
   exact⟨v,L,e,fun b hb=>hs b (h1 b hb),h2.same fun b hb=>hw b (h1 b hb)⟩
 | .err,b,cs,h=>h
theorem VR.sz {w:World}{S:Nat->Prop}:∀ {t:Ty} {x:t.den} {cs:List Value},VR w S t x cs->cs.length=t.sz
 | .int _,_,_,h=>by cases h;rfl
 | .bool,_,_,h=>by cases h;rfl
 | .str,_,_,h=>by cases h;rfl
 | .slice t,xs,cs,h=>by obtain⟨a,cap,rfl,_⟩:=h;rfl
 | .pair a b,x,cs,h=>by
   obtain⟨c1,c2,rfl,h1,h2⟩:=h
   rw[zgA,VR.sz h1,VR.sz h2];rfl
 | .set,l,cs,h=>by obtain⟨v,L,rfl,_⟩:=h;rfl
 | .err,b,cs,h=>by obtain⟨v,rfl,_⟩:=h;rfl
theorem VR.flat {w w' :World}{S S' :Nat->Prop}:∀ {t:Ty} {x:t.den} {cs:List Value},t.flat=true->VR w S t x cs->VR w' S' t x cs
 | .int _,_,_,_,h=>h
 | .bool,_,_,_,h=>h
 | .str,_,_,_,h=>h
 | .slice t,_,_,f,_=>by cases f
 | .set,_,_,f,_=>by cases f
 | .err,_,_,_,h=>h
 | .pair a b,x,cs,f,h=>by
   obtain⟨c1,c2,e,h1,h2⟩:=h
   have f' :a.flat=true/\b.flat=true:=by simpa[Ty.flat]using f
   exact⟨c1,c2,e,VR.flat f'.1 h1,VR.flat f'.2 h2⟩
def OL {α:Type}(n:Nat)(p:α->List Value->List Nat->Prop):List α->List Value->List Nat->Prop
 | [],_,L=>L=[]
 |x::xs,cs,L=>∃L1 L2,L=L1++L2/\n<=cs.length/\p x (cs.take n) L1/\OL n p xs (cs.drop n) L2
def ORow {α:Type}(w:World)(n:Nat)(p:α->List Value->List Nat->Prop)(v:Value)(xs:List α)(L:List Nat):Prop:=
 (v= .slice none 0 0/\xs=[]/\L=[])\/
 ∃b f cap cs E Li,v= .slice (some ⟨b,f,none⟩) xs.length cap/\w.heap[b]? =some (.cells cs E (0,0))/\f+cap*n<=cs.size/\xs.length<=cap/\L=b::Li/\OL n p xs (cs.toList.drop f) Li
def OT (w:World):(t:Ty)->t.den->List Value->List Nat->Prop
 | .int k,n,cs,L=>cs=[.int k n]/\L=[]
 | .bool,b,cs,L=>cs=[.bool b]/\L=[]
 | .str,s,cs,L=>cs=[.string s]/\L=[]
 | .slice t,xs,cs,L=>∃v,cs=[v]/\ORow w t.sz (OT w t) v xs L
 | .pair a b,x,cs,L=>∃c1 c2 L1 L2,cs=c1++c2/\L=L1++L2/\OT w a x.1 c1 L1/\OT w b x.2 c2 L2
 | .set,x,cs,L=>∃v,cs=[v]/\SetR w v L x
 | .err,b,cs,L=>(∃v,cs=[v]/\ErrV v b)/\L=[]
theorem OL.imp {α:Type}{n:Nat}{p q:α->List Value->List Nat->Prop}:∀ {xs:List α} {cs:List Value} {L:List Nat},OL n p xs cs L->
 (∀x∈xs,∀c l,(∀b∈l,b∈L)->p x c l->q x c l)->OL n q xs cs L
 | [],_,_,h,_=>h
 |x::xs,cs,L,h,hq=>by
  obtain⟨L1,L2,rfl,hn,hp,h⟩:=h
  refine⟨L1,L2,rfl,hn,hq x (by simp) _ _ (fun b hb=>by simp[hb]) hp,OL.imp h (fun y hy c l hl hp=>hq y (by simp[hy]) c l (fun b hb=>by simp[hl b hb]) hp)⟩
theorem OT.same {w w' :World}:∀ {t:Ty} {x:t.den} {cs:List Value} {L:List Nat},OT w t x cs L->(∀b∈L,w'.heap[b]? =w.heap[b]?)->OT w' t x cs L
 | .int _,_,_,_,h,_=>h
 | .bool,_,_,_,h,_=>h
 | .str,_,_,_,h,_=>h
 | .slice t,xs,cs,L,h,hw=>by
   obtain⟨v,e,h⟩:=h
   refine⟨v,e, ?_⟩
   rcases h with h|⟨b,f,cap,c,E,Li,hv,hb,h1,h2,rfl,hl⟩
   ·exact .inl h
   ·exact .inr ⟨b,f,cap,c,E,Li,hv,by rw[hw b (by simp)];exact hb,h1,h2,rfl,hl.imp (fun x _ c l hl hp=>OT.same hp (fun b hb=>hw b (by simp[hl b hb])))⟩
 | .pair a b,x,cs,L,h,hw=>by
   obtain⟨c1,c2,L1,L2,e,rfl,h1,h2⟩:=h
   exact⟨c1,c2,L1,L2,e,rfl,OT.same h1 (fun b hb=>hw b (by simp[hb])),OT.same h2 (fun b hb=>hw b (by simp[hb]))⟩
 | .set,l,cs,L,h,hw=>by
   obtain⟨v,e,h2⟩:=h
   exact⟨v,e,h2.same hw⟩
 | .err,b,cs,L,h,_=>h
theorem OL.get {α:Type}{n:Nat}{p:α->List Value->List Nat->Prop}:∀ {xs:List α} {cs:List Value} {L:List Nat},OL n p xs cs L->∀i x,xs[i]? =some x->
 ∃l,p x ((cs.drop (i*n)).take n) l/\(∀b∈l,b∈L)/\(i+1)*n<=cs.length
 | [],_,_,_,i,x,hx=>by simp at hx
 |y::xs,cs,L,h,i,x,hx=>by
  obtain⟨L1,L2,rfl,hn,hp,h⟩:=h
  cases i with
  |zero=>
   simp at hx
   subst hx
   exact⟨L1,by simpa using hp,fun b hb=>by simp[hb],by omega⟩
  |succ i=>
   obtain⟨l,h1,h2,h3⟩:=OL.get h i x (by simpa using hx)
   refine⟨l, ?_,fun b hb=>by simp[h2 b hb], ?_⟩
   ·rw[List.drop_drop]at h1
    rw[Nat.add_mul,Nat.one_mul,Nat.add_comm (i*n) n]
    exact h1
   ·simp at h3
    rw[Nat.add_mul,Nat.one_mul]
    omega
theorem ud {w:World}{b:Nat}{cs:Array Value}{E:TypeId}{f:Nat×Nat}(hb:w.heap[b]? =some (.cells cs E f))(o n:Nat):At w b o ((cs.toList.drop o).take n):=by
 intro j v hj
 simp only[World.cell?,hb,Option.isSome_none,Bool.false_eq_true,if_false]
 rw[List.getElem?_take]at hj
 split at hj
 ·rw[List.getElem?_drop]at hj
  simpa using hj
 ·cases hj
theorem OT.read {w:World}{S:Nat->Prop}:∀ {t:Ty} {x:t.den} {cs:List Value} {L:List Nat},OT w t x cs L->(∀b∈L,S b)->VR w S t x cs
 | .int _,_,_,_,h,_=>h.1
 | .bool,_,_,_,h,_=>h.1
 | .str,_,_,_,h,_=>h.1
 | .slice t,xs,cs,L,h,hs=>by
   obtain⟨v,e,h⟩:=h
   rcases h with⟨rfl,rfl,rfl⟩|⟨b,f,cap,c,E,Li,rfl,hb,h1,h2,rfl,hl⟩
   ·exact⟨none,0,e,zgC _, .inl rfl⟩
   ·refine⟨_,cap,e,h2, .inr ⟨b,f,rfl,hs b (by simp),fun i x hx=> ?_⟩⟩
    obtain⟨l,hp,hl2,hle⟩:=hl.get i x hx
    rw[List.drop_drop]at hp
    have hv:=OT.read (S:=S) hp (fun b hb=>hs b (by simp[hl2 b hb]))
    exact⟨_,hv.sz,ud hb (f+i*t.sz) t.sz,hv⟩
 | .pair a b,x,cs,L,h,hs=>by
   obtain⟨c1,c2,L1,L2,e,rfl,h1,h2⟩:=h
   exact⟨c1,c2,e,OT.read h1 (fun b hb=>hs b (by simp[hb])),OT.read h2 (fun b hb=>hs b (by simp[hb]))⟩
 | .set,l,cs,L,h,hs=>by
   obtain⟨v,e,h2⟩:=h
   exact⟨v,L,e,hs,h2⟩
 | .err,b,cs,L,h,_=>h.1
theorem OT.sz {w:World}{t:Ty}{x:t.den}{cs:List Value}{L:List Nat}(h:OT w t x cs L):cs.length=t.sz:=(h.read (S:=fun _=>True) (fun _ _=>trivial)).sz
theorem VR.own {w w' :World}{S:Nat->Prop}:∀ {t:Ty} {x:t.den} {cs:List Value},t.flat=true->VR w S t x cs->OT w' t x cs []
 | .int _,_,_,_,h=>⟨h,rfl⟩
 | .bool,_,_,_,h=>⟨h,rfl⟩
 | .str,_,_,_,h=>⟨h,rfl⟩
 | .slice t,_,_,f,_=>by cases f
 | .set,_,_,f,_=>by cases f
 | .err,_,_,_,h=>⟨h,rfl⟩
 | .pair a b,x,cs,f,h=>by
   obtain⟨c1,c2,e,h1,h2⟩:=h
   have f' :a.flat=true/\b.flat=true:=by simpa[Ty.flat]using f
   exact⟨c1,c2,[],[],e,rfl,VR.own f'.1 h1,VR.own f'.2 h2⟩
theorem OL.len {α:Type}{n:Nat}{p:α->List Value->List Nat->Prop}:∀ {xs:List α} {cs:List Value} {L:List Nat},OL n p xs cs L->xs.length*n<=cs.length
 | [],_,_,_=>by simp
 |x::xs,cs,L,h=>by
  obtain⟨L1,L2,rfl,hn,hp,h⟩:=h
  have:=OL.len h
  simp at this⊢
  rw[Nat.add_mul,Nat.one_mul]
  omega
theorem OL.pre {α:Type}{n:Nat}{p:α->List Value->List Nat->Prop}:∀ {xs:List α} {cs ds:List Value} {L:List Nat},OL n p xs cs L->cs.take (xs.length*n)=ds.take (xs.length*n)->xs.length*n<=ds.length->OL n p xs ds L
 | [],_,_,_,h,_,_=>h
 |x::xs,cs,ds,L,h,e,hd=>by
  have hlen:=h.len
  obtain⟨L1,L2,rfl,hn,hp,h⟩:=h
  rw[zgB,Nat.add_mul,Nat.one_mul]at e hd hlen
  refine⟨L1,L2,rfl,by omega, ?_,OL.pre h ?_ ?_⟩
  ·have e' :=congrArg (List.take n) e
   rw[List.take_take,List.take_take,Nat.min_eq_left (by omega)]at e'
   rwa [<-e']
  ·have e' :=congrArg (List.drop n) e
   rw[List.drop_take,List.drop_take]at e'
   have:xs.length*n+n-n=xs.length*n:=by omega
   rwa [this]at e'
  ·simp;omega
theorem OL.append {α:Type}{n:Nat}{p:α->List Value->List Nat->Prop}:∀ {xs ys:List α} {cs ds:List Value} {L M:List Nat},OL n p xs cs L->cs.length=xs.length*n->OL n p ys ds M->OL n p (xs++ys) (cs++ds) (L++M)
 | [],ys,cs,ds,L,M,h,hl,k=>by
   have:cs=[]:=by simpa using hl
   subst this
   have:L=[]:=h
   subst this
   simpa using k
 |x::xs,ys,cs,ds,L,M,h,hl,k=>by
  obtain⟨L1,L2,rfl,hn,hp,h⟩:=h
  rw[zgB,Nat.add_mul,Nat.one_mul]at hl
  refine⟨L1,L2++M,by simp,by simp;omega,by rw[List.take_append_of_le_length hn];exact hp, ?_⟩
  rw[List.drop_append_of_le_length hn]
  exact OL.append h (by simp;omega) k
inductive CV where
 |dead|nil|val (t:Ty) (x:t.den)|own (c:Nat)|unk
inductive AV where
 |cv (v:CV)|ag (l:List CV)|adr (c o:Nat)|el (c n i o:Nat)|ref (l:List CV)|fn (f:Nat) (caps:List (List CV))|tup (l:List (Bool×List CV))
inductive Ob where
 |row (t:Ty) (xs:List t.den) (deep cn:Bool)
 |arr (t:Ty) (xs:List t.den)
 |box (l:List CV)
 |hole (t:Ty) (xs:List (List t.den)) (i:Nat) (v:CV)
 |tl (t:Ty) (xs:List t.den) (n:Nat)
 |mp (l:List ByteArray)
 |im (l:List (Int×List Int))
 |hol (t:Ty) (xs:List t.den) (i:Nat) (l:List CV)
def Ob.tree:Ob->Bool
 | .row _ _ _ _=>true| .mp _=>true|_=>false
structure St where
 sl:List AV
 ob:List (Nat×Ob)
 cut:Bool
def zd:List (Nat×Ob)->Nat->Option Ob
 | [],_=>none
 |(d,o)::r,c=>bif Nat.beq d c then some o else zd r c
def fq:List (Nat×Ob)->Nat->List (Nat×Ob)
 | [],_=> []
 |(d,o)::r,c=>bif Nat.beq d c then fq r c else(d,o)::fq r c
def yt (l:List (Nat×Ob))(c:Nat)(o:Ob):List (Nat×Ob):=(c,o)::fq l c
def vg:List AV->Nat->AV
 | [],_=> .cv .dead
 |a::_,0=>a
 |_::r,n+1=>vg r n
def gV:List AV->Nat->AV->List AV
 | [],_,_=> []
 |_::r,0,b=>b::r
 |a::r,n+1,b=>a::gV r n b
def yX:(t:Ty)->t.den->List CV
 | .pair a b,x=>yX a x.1++yX b x.2
 | .int k,x=> [.val (.int k) x]
 | .bool,x=> [.val .bool x]
 | .str,x=> [.val .str x]
 | .slice t,x=> [.val (.slice t) x]
 | .set,x=> [.val .set x]
 | .err,x=> [.val .err x]
def CV.as (t:Ty):CV->Option t.den
 | .val u x=>u.as t x
 | .nil=>match t with| .slice _=>some []|_=>none
 |_=>none
def HD {α:Type}(f:α->α->Bool):List α->List α->Bool
 | [],[]=>true|x::xs,y::ys=>f x y&&HD f xs ys|_,_=>false
def strB (x y:ByteArray):Bool:=HD (fun(a b:UInt8)=>Nat.beq a.toNat b.toNat) x.data.toList y.data.toList
def optB {α:Type}(f:α->α->Bool):Option α->Option α->Bool
 |none,none=>true|some x,some y=>f x y|_,_=>false
def denB:(t:Ty)->t.den->t.den->Bool
 | .int _,x,y=>(x:Int)==y
 | .bool,x,y=>(x:Bool)==y
 | .str,x,y=>HD (fun a b=>Nat.beq a.toNat b.toNat) (ByteArray.data x).toList (ByteArray.data y).toList
 | .slice t,x,y=>HD (denB t) x y
 | .set,x,y=>optB (HD strB) x y
 | .err,x,y=>(x:Bool)==y
 | .pair a b,x,y=>denB a x.1 y.1&&denB b x.2 y.2
theorem RO {α:Type}{f:α->α->Bool}(hf:∀x y,f x y=true->x=y):∀ {xs ys:List α},HD f xs ys=true->xs=ys
 | [],[],_=>rfl
 |x::xs,y::ys,h=>by
  unfold HD at h
  rw[zgx]at h
  rw[hf x y h.1,RO hf h.2]
 | [],_::_,h=>by cases h
 |_::_,[],h=>by cases h
theorem zfj {x y:ByteArray}(h:strB x y=true):x=y:=by
 have e:=RO (fun a b hab=>UInt8.toNat_inj.1 (zgE hab)) h
 exact ByteArray.ext (Array.ext' e)
theorem zfq {α:Type}{f:α->α->Bool}(hf:∀x y,f x y=true->x=y):∀ {x y:Option α},optB f x y=true->x=y
 |none,none,_=>rfl
 |some x,some y,h=>by rw[hf x y h]
 |none,some _,h=>by cases h
 |some _,none,h=>by cases h
theorem JL:∀(t:Ty) (x y:t.den),denB t x y=true->x=y
 | .int _,x,y,h=>by have h' :((x:Int)==y)=true:=h;simpa using h'
 | .bool,x,y,h=>by have h' :((x:Bool)==y)=true:=h;simpa using h'
 | .str,x,y,h=>by
   have h' :HD (fun(a b:UInt8)=>Nat.beq a.toNat b.toNat) (ByteArray.data x).toList (ByteArray.data y).toList=true:=h
   have e:=RO (fun a b hab=>UInt8.toNat_inj.1 (zgE hab)) h'
   exact ByteArray.ext (Array.ext' e)
 | .slice t,x,y,h=>RO (JL t) h
 | .set,x,y,h=>zfq (fun _ _ h=>RO (fun _ _ h=>zfj h) h) h
 | .err,x,y,h=>by have h' :((x:Bool)==y)=true:=h;simpa using h'
 | .pair a b,x,y,h=>by
   have h' :(denB a x.1 y.1&&denB b x.2 y.2)=true:=h
   rw[zgx]at h'
   exact Prod.ext (JL a _ _ h'.1) (JL b _ _ h'.2)
def yE:(t:Ty)->List CV->Option t.den
 | .pair a b,l=>(yE a (l.take a.sz)).bind fun x=>(yE b (l.drop a.sz)).bind fun y=>some (x,y)
 | .int k,l=>match l with| [c]=>c.as (.int k)|_=>none
 | .bool,l=>match l with| [c]=>c.as .bool|_=>none
 | .str,l=>match l with| [c]=>c.as .str|_=>none
 | .slice t,l=>match l with| [c]=>c.as (.slice t)|_=>none
 | .set,l=>match l with| [c]=>c.as .set|_=>none
 | .err,l=>match l with| [c]=>c.as .err|_=>none
structure Rn where
 own:Nat->CV
 adr:Nat->Nat->AV
 el:Nat->Nat->Nat->Nat->AV
def CV.map (r:Rn):CV->CV
 | .own c=>r.own c|x=>x
def N3 (r:Rn):List CV->List CV
 | .own c::l=>match r.adr c 0 with
   | .adr d 0=> .own d::l.map (CV.map r)
   | .ref m=>m
   |_=> [.dead]
 |l=>l
def AV.map (r:Rn):AV->AV
 | .cv v=> .cv (v.map r)
 | .ag l=> .ag (l.map (CV.map r))
 | .adr d o=>r.adr d o
 | .el d n i o=>r.el d n i o
 | .fn f caps=> .fn f (caps.map (N3 r))
 | .tup l=> .tup (l.map fun p=>(p.1,p.2.map (CV.map r)))
 |x=>x
def Ob.map (r:Rn):Ob->Ob
 | .box l=> .box (l.map (CV.map r))
 | .hole t xs i v=> .hole t xs i (v.map r)
 | .hol t xs i l=> .hol t xs i (l.map (CV.map r))
 |o=>o
def Mq (r:Rn)(l:List (Nat×Ob)):List (Nat×Ob):=l.map fun p=>(p.1,p.2.map r)
def St.sub (σ:St)(c:Nat)(r:Rn):St:=⟨σ.sl.map (AV.map r),Mq r (fq σ.ob c),σ.cut⟩
def xG (c:Nat):Rn:=⟨fun d=>bif Nat.beq d c then .dead else .own d,fun d o=>bif Nat.beq d c then .cv .dead else .adr d o,fun d n i o=>bif Nat.beq d c then .cv .dead else .el d n i o⟩
def St.kill (σ:St)(c:Nat):St:=σ.sub c (xG c)
def rnTurn (c:Nat)(v:CV):Rn:=⟨fun d=>bif Nat.beq d c then v else .own d,fun d o=>bif Nat.beq d c then .cv .dead else .adr d o,fun d n i o=>bif Nat.beq d c then .cv .dead else .el d n i o⟩
def St.freeze (σ:St)(c:Nat):St:=
 match zd σ.ob c with
 |some (.row t xs _ _)=>σ.sub c (rnTurn c (.val (.slice t) xs))
 |some (.mp l)=>σ.sub c (rnTurn c (.val .set (some l)))
 |_=>σ.kill c
def rnSeal (c:Nat)(l:List CV):Rn:=⟨fun d=>bif Nat.beq d c then .dead else .own d,fun d o=>bif Nat.beq d c then .ref (l.drop o)else .adr d o,fun d n i o=>bif Nat.beq d c then .cv .dead else .el d n i o⟩
def Rz (c e:Nat):Rn:=⟨fun d=>bif Nat.beq d c then .own e else bif Nat.beq d e then .dead else .own d,fun d o=>bif Nat.beq d c then .adr e o else bif Nat.beq d e then .cv .dead else .adr d o,
 fun d n i o=>bif Nat.beq d c then .el e n i o else bif Nat.beq d e then .cv .dead else .el d n i o⟩
inductive TI where
 |one (t:Ty)
 |struct (fs:List (Nat×Nat)) (ks:List Ty) (eq:Bool)
 |arr (n:Nat) (t:Ty)
 |bytes
 |flag
 |imap
structure RC where
 t:Ty
 own:Option (Bool×Bool)
inductive PC where
 |v (t:Ty)|o (t:Ty) (d:Bool)
def PC.ty:PC->Ty| .v t=>t| .o t _=> .slice t
inductive PT where
 |v (t:Ty) (agg:Bool)
 |r (t:Ty)
 |fn (f:Nat) (ts:List Ty)
 |o (cs:List PC) (agg:Bool)
 |z (t:Ty)
 |p (a b:Ty)
def We:List Ty->Ty
 | []=> .bool| [t]=>t|t::u::r=> .pair t (We (u::r))
def PT.ty:PT->Ty| .v t _=>t| .r t=>t| .fn _ ts=>We ts| .o cs _=>We (cs.map PC.ty)| .z t=> .slice t| .p a b=> .pair a b
@[reducible] def Aden:List PT->Type
  | []=>Unit| [p]=>p.ty.den|p::q::r=>p.ty.den×Aden (q::r)
@[reducible] def Rden:List RC->Type
  | []=>Unit| [c]=>c.t.den|c::d::r=>c.t.den×Rden (d::r)
def zm:List (Bool×List RC)->List RC
 | []=> []|(_,l)::r=>l++zm r
def pcRC:List PC->List RC
 | []=> []| .o t d::r=>⟨.slice t,some (d,false)⟩::pcRC r| .v _::r=>pcRC r
def ioOf:List PT->List RC
 | []=> []| .o cs _::r=>pcRC cs++ioOf r| .p a b::r=>⟨.pair a b,some (false,false)⟩::ioOf r|_::r=>ioOf r
@[reducible] def Oden:List RC->List RC->Type
  |rs,[]=>Rden rs|rs,i::r=>Rden rs×Rden (i::r)
def Oden.res:(rs ios:List RC)->Oden rs ios->Rden rs
 |_,[],y=>y|_,_::_,y=>y.1
def Oden.io:(rs ios:List RC)->Oden rs ios->Rden ios
 |_,[],_=>()|_,_::_,y=>y.2
def Mp:(rs:List RC)->Rden rs->Rden rs->Bool
 | [],_,_=>true| [c],x,y=>denB c.t x y|c::d::r,x,y=>denB c.t x.1 y.1&&Mp (d::r) x.2 y.2
def odenB:(rs ios:List RC)->Oden rs ios->Oden rs ios->Bool
 |rs,[],x,y=>Mp rs x y|rs,i::r,x,y=>Mp rs x.1 y.1&&Mp (i::r) x.2 y.2
def both {rs ios:List RC}(x y:Option (Oden rs ios)):Option (Oden rs ios):=
 match x,y with|some a,some b=>bif odenB rs ios a b then some a else none|_,_=>none
inductive CH where
 |keep|val (t:Ty)|row (c:Nat) (t:Ty) (deep cn:Bool)
inductive Hint where
 |keep (s:Nat)|cell (s:Nat) (h:CH)|box (s c:Nat) (l:List CH)|arr (s c:Nat)
structure Fi where
 ps:List PT
 rs:List (Bool×List RC)
 ext:Option (Nat->Aden ps->Option (Oden (zm rs) (ioOf ps)))
 code:Code
 res:List ResultVar
 nt:Nat
 hints:Nat->Option (List Hint)
def Fi.run1 (fi:Fi):Bool:=(fi.hints 999999).isSome
def Fi.gift (fi:Fi):Bool:=(Nat.beq fi.nt 77777&&fi.ext.isSome)||fi.run1
def Vf:List PT->Bool
 | []=>true| .v _ _::r=>Vf r| .fn _ _::r=>Vf r|_::_=>false
def giftPs:List PT->Bool
 | .v (.slice _) false::p::r=>Vf (p::r)|_=>false
structure Env where
 ty:Nat->Option TI
 fn:Nat->List Nat->Option Fi
def Env.isIm (E:Env)(T:Nat):Bool:=match E.ty T with|some .imap=>true|_=>false
def chk {ρ:Type}(b:Bool)(x:Option ρ):Option ρ:=bif b then x else none
def cval:Value->AV
 | .int k n=> .cv (.val (.int k) n)
 | .bool b=> .cv (.val .bool b)
 | .string s=> .cv (.val .str s)
 | .slice none 0 0=> .cv .nil
 |_=> .cv .dead
def St.ev (σ:St):Operand->AV
 | .tmp t=>vg σ.sl t
 | .const v=>cval v
 | .func f=> .fn f []
 | .global _=> .cv .dead
def St.put (σ:St)(dst:Option Nat)(v:AV):St:=
 match dst with|some d=> { σ with sl:=gV σ.sl d v}|none=>σ
def St.new (σ:St)(c:Nat)(o:Ob):St:=let τ:=σ.kill c;{ τ with ob:=(c,o)::τ.ob}
def St.cvAs (σ:St)(t:Ty):CV->Option t.den
 | .own c=>match zd σ.ob c with|some (.row u xs _ _)=>(Ty.slice u).as t xs|some (.mp l)=>Ty.set.as t (some l)|_=>none
 |v=>v.as t
def St.impl (σ:St):(t:Ty)->List CV->Option t.den
 | .pair a b,l=>(σ.impl a (l.take a.sz)).bind fun x=>(σ.impl b (l.drop a.sz)).bind fun y=>some (x,y)
 | .int k,l=>match l with| [c]=>σ.cvAs (.int k) c|_=>none
 | .bool,l=>match l with| [c]=>σ.cvAs .bool c|_=>none
 | .str,l=>match l with| [c]=>σ.cvAs .str c|_=>none
 | .slice t,l=>match l with| [c]=>σ.cvAs (.slice t) c|_=>none
 | .set,l=>match l with| [c]=>σ.cvAs .set c|_=>none
 | .err,l=>match l with| [c]=>σ.cvAs .err c|_=>none
def St.live (σ:St):CV->Bool
 | .dead=>false| .own c=>(match zd σ.ob c with|some (.row _ _ _ _)=>true|some (.mp _)=>true|_=>false)|_=>true
def St.cells (σ:St):AV->Option (List CV)
 | .cv v=>bif σ.live v then some [v]else none| .ag l=>bif l.all σ.live then some l else none|_=>none
def xy (agg:Bool)(l:List CV):AV:=bif agg then .ag l else match l with| [v]=> .cv v|_=> .cv .dead
def CV.owns:CV->List Nat
 | .own c=> [c]|_=> []
def zf (l:List CV):List Nat:=l.flatMap CV.owns
def AV.owns:AV->List Nat
 | .cv v=>v.owns| .ag l=>zf l| .tup l=>l.flatMap fun p=>zf p.2| .fn _ caps=>caps.flatMap zf|_=> []
def hasB (c:Nat):List Nat->Bool
 | []=>false|d::r=>Nat.beq d c||hasB c r
def U9:List Nat->Bool
 | []=>true|c::r=> !hasB c r&&U9 r
def St.treeB (σ:St)(l:List CV):Bool:=U9 (zf l)&&l.all fun v=>match v with
 | .own c=>match zd σ.ob c with|some (.row _ _ d _)=>d|some (.mp _)=>true|_=>false
 | .val t _=>t.flat| .nil=>true| .unk=>true| .dead=>false
def St.freezeAll (σ:St):List Nat->St
 | []=>σ|c::r=>(σ.freeze c).freezeAll r
def St.killAll (σ:St):List Nat->St
 | []=>σ|c::r=>(σ.kill c).killAll r
def St.give (σ:St)(tree:Bool)(l:List Nat):St:=bif tree then σ.killAll l else σ.freezeAll l
section
variable {ρ:Type} (E:Env) (σ:St)
def aCmp (op:BinOp)(x y:Int):Option Bool:=
 match op with
 | .eql=>some (x==y)| .neq=>some (x !=y)| .lss=>some (decide (x<y))| .leq=>some (decide (x<=y))
 | .gtr=>some (decide (x>y))| .geq=>some (decide (x>=y))|_=>none
def aInt (op:BinOp)(k:IntKind)(x y:Int):Option (Bool×Sum Int Bool):=
 match op with
 | .add=>some (true, .inl (k.wrap (x+y)))
 | .sub=>some (true, .inl (k.wrap (x-y)))
 | .mul=>some (true, .inl (k.wrap (x*y)))
 | .quo=>some (!(y==0), .inl (k.wrap (x.tdiv y)))
 | .rem=>some (!(y==0), .inl (x.tmod y))
 | .and=>some (true, .inl (k.wrap (BitVec.ofInt k.bits x&&&BitVec.ofInt k.bits y).toNat))
 | .or=>some (true, .inl (k.wrap (BitVec.ofInt k.bits x|||BitVec.ofInt k.bits y).toNat))
 | .xor=>some (true, .inl (k.wrap (BitVec.ofInt k.bits x ^^^ BitVec.ofInt k.bits y).toNat))
 | .shl| .shr| .andNot=>none
 |_=>(aCmp op x y).map fun b=>(true, .inr b)
def aStr (op:BinOp)(x y:ByteArray):Option (Bool×Sum ByteArray Bool):=
 match op with
 | .add=>some (decide (x.size+y.size<=9223372036854775807), .inl (x++y))
 | .eql=>some (true, .inr (x.toList==y.toList))
 | .neq=>some (true, .inr (!(x.toList==y.toList)))
 |_=>none
def aNil (v:CV):Option (Bool×Bool):=
 match v with
 | .nil=>some (true,true)
 | .val (.slice _) xs=>some (!xs.isEmpty,false)
 | .own c=>match zd σ.ob c with
   |some (.row _ xs _ cn)=>bif cn then some (true,xs.isEmpty)else some (!xs.isEmpty,false)
   |_=>none
 |_=>none
def eqCells:List Ty->List CV->List CV->Option Bool
 | [],[],[]=>some true
 |t::ts,a::as,b::bs=>match t,a,b with
  | .int k, .val (.int k1) x, .val (.int k2) y=>bif KX k k1&&KX k k2 then(eqCells ts as bs).map fun r=>(x==y)&&r else none
  | .bool, .val .bool x, .val .bool y=>(eqCells ts as bs).map fun r=>(x==y)&&r
  |_,_,_=>none
 |_,_,_=>none
def aBin (op:BinOp)(T:Nat)(x y:AV)(next:AV->Option ρ):Option ρ:=
 match op,x,y with
 | .shl, .cv (.val (.int k) a), .cv (.val (.int _) b)=>chk (decide (0<=b)) (next (.cv (.val (.int k) (k.wrap (a*2 ^(min b.toNat k.bits))))))
 | .shr, .cv (.val (.int k) a), .cv (.val (.int _) b)=>chk (decide (0<=b)) (next (.cv (.val (.int k) (a.fdiv (2 ^(min b.toNat k.bits))))))
 |_, .cv (.val (.int k) a), .cv (.val (.int k') b)=>
  chk (KX k k') (match aInt op k a b with
   |some (ok, .inl r)=>chk ok (next (.cv (.val (.int k) r)))
   |some (ok, .inr r)=>chk ok (next (.cv (.val .bool r)))
   |none=>none)
 |_, .cv (.val .str a), .cv (.val .str b)=>
  match aStr op a b with
   |some (ok, .inl r)=>chk ok (next (.cv (.val .str r)))
   |some (ok, .inr r)=>chk ok (next (.cv (.val .bool r)))
   |none=>none
 | .eql, .cv (.val .bool a), .cv (.val .bool b)=>match E.ty T with|some (.one .bool)=>next (.cv (.val .bool (a==b)))|_=>none
 | .neq, .cv (.val .bool a), .cv (.val .bool b)=>match E.ty T with|some (.one .bool)=>next (.cv (.val .bool (!(a==b))))|_=>none
 | .eql, .cv a, .cv .nil=>match E.ty T,aNil σ a with|some (.one (.slice _)),some (ok,r)=>bif ok then next (.cv (.val .bool r))else next (.cv .unk)|_,_=>none
 | .neq, .cv a, .cv .nil=>match E.ty T,aNil σ a with|some (.one (.slice _)),some (ok,r)=>bif ok then next (.cv (.val .bool (!r)))else next (.cv .unk)|_,_=>none
 | .eql, .ag a, .ag b=>match E.ty T with
   |some (.struct _ ts true)=>match eqCells ts a b with|some r=>next (.cv (.val .bool r))|none=>none
   |_=>none
 | .neq, .ag a, .ag b=>match E.ty T with
   |some (.struct _ ts true)=>match eqCells ts a b with|some r=>next (.cv (.val .bool (!r)))|none=>none
   |_=>none
 |_,_,_=>none
def nilC:Operand->Bool| .const .nilIface=>true|_=>false
def aErrNil (op:BinOp)(T:Nat)(x:AV)(next:AV->Option ρ):Option ρ:=
 match op,E.ty T,x with
 | .eql,some (.one .err), .cv (.val .err b)=>next (.cv (.val .bool b))
 | .neq,some (.one .err), .cv (.val .err b)=>next (.cv (.val .bool (!b)))
 |_,_,_=>none
def aUn (op:UnOp)(x:AV):Option AV:=
 match op,x with
 | .not, .cv (.val .bool b)=>some (.cv (.val .bool (!b)))
 | .not, .cv .unk=>some (.cv .unk)
 | .neg, .cv (.val (.int k) n)=>some (.cv (.val (.int k) (k.wrap (0-n))))
 |_,_=>none
def YR (l:List ByteArray)(s:ByteArray):Bool:=l.any fun x=>s==x
def setHas:Option (List ByteArray)->ByteArray->Bool
 |none,_=>false|some l,s=>YR l s
def aLookup (T:Nat)(x k:AV)(next:AV->Option ρ):Option ρ:=
 match E.ty T,x,k with
 |some (.one .set), .cv (.own c), .cv (.val .str s)=>match zd σ.ob c with
  |some (.mp l)=>next (.cv (.val .bool (YR l s)))
  |_=>none
 |some (.one .set), .cv (.val .set x), .cv (.val .str s)=>next (.cv (.val .bool (setHas x s)))
 |_,_,_=>none
def aMapSet (T:Nat)(x k v:AV)(next:St->Option ρ):Option ρ:=
 match E.ty T,x,k,v with
 |some (.one .set), .cv (.own c), .cv (.val .str s), .cv (.val .bool b)=>chk b (match zd σ.ob c with
  |some (.mp l)=>next { σ with ob:=yt σ.ob c (.mp (bif YR l s then l else l++[s]))}
  |_=>none)
 |_,_,_,_=>none
def ua:List (Int×List Int)->Int->Option (List Int)
 | [],_=>none|(m,xs)::r,n=>bif n==m then some xs else ua r n
def X8:List (Int×List Int)->Int->List Int->List (Int×List Int)
 | [],n,xs=> [(n,xs)]|(m,ys)::r,n,xs=>bif n==m then(m,xs)::r else(m,ys)::X8 r n xs
def aILook (x k:AV)(ok:Bool)(next:AV->Option ρ):Option ρ:=
 match x,k with
 | .cv (.own c), .cv (.val (.int .i64) n)=>match zd σ.ob c with
   |some (.im l)=>next (bif ok then .tup [(false,[.val (.slice (.int .i64)) ((ua l n).getD [])]),(false,[.val .bool (ua l n).isSome])]else .cv (.val (.slice (.int .i64)) ((ua l n).getD [])))
   |_=>none
 |_,_=>none
def aISet (x k v:AV)(next:St->Option ρ):Option ρ:=
 match x,k with
 | .cv (.own c), .cv (.val (.int .i64) n)=>match zd σ.ob c with
   |some (.im l)=>match v with
    | .cv .nil=>next { σ with ob:=yt σ.ob c (.im (X8 l n []))}
    | .cv (.val (.slice (.int .i64)) xs)=>next { σ with ob:=yt σ.ob c (.im (X8 l n xs))}
    |_=>none
   |_=>none
 |_,_=>none
def P8 (T:Nat):Option (Nat×Bool):=
 match E.ty T with
 |some (.one _)=>some (1,false)
 |some (.struct _ ks _)=>some (ks.length,true)
 |some (.arr n t)=>some (n*t.sz,true)
 |some .bytes=>none
 |some .flag=>none
 |some .imap=>none
 |none=>none
def Env.flag (k:Nat):Bool:=match E.ty k with|some .flag=>true|_=>false
def X0 (T dst:Nat):Nat:=5000000+T*1000+dst
def aLoad (T:Nat)(x:AV)(next:St->AV->Option ρ):Option ρ:=
 match P8 E T with
 |none=>none
 |some (n,agg)=>match x with
  | .adr c o=>match zd σ.ob c with
    |some (.box l)=>chk (Nat.ble (o+n) l.length) (next σ (xy agg ((l.drop o).take n)))
    |_=>none
  | .ref l=>chk (Nat.ble n l.length) (next σ (xy agg (l.take n)))
  | .el c m i o=>match zd σ.ob c with
    |some (.row t xs d cn)=>chk (Nat.beq m t.sz&&Nat.ble (o+n) m) (chk (decide (i<xs.length))
      (next (bif t.flat|| !d then σ else { σ with ob:=yt σ.ob c (.row t xs false cn)})
        (xy agg (((yX t (xs.getD i t.dflt)).drop o).take n))))
    |some (.arr t xs)=>chk (Nat.beq m t.sz&&Nat.ble (o+n) m&&t.flat) (chk (decide (i<xs.length))
      (next σ (xy agg (((yX t (xs.getD i t.dflt)).drop o).take n))))
    |some (.hol t xs j l)=>chk (Nat.beq m t.sz&&Nat.ble (o+n) m) (chk (Nat.beq i j) (next σ (xy agg ((l.drop o).take n))))
    |_=>none
  |_=>none
def takesB (c:Nat):Bool:=Nat.ble 450000 c
def St.dig (σ:St)(c d:Nat)(t:Ty)(xs:List (List t.den))(i:Nat):St:=
 let τ:=St.new { σ with ob:=yt σ.ob c (.hole t xs i .dead)} d (.row t (xs.getD i []) true false)
 { τ with ob:=yt τ.ob c (.hole t xs i (.own d))}
def digT (dst:Nat):(t:Ty)->Nat->t.den->St->St×List CV
 | .slice u,j,x,σ=>(σ.new (dst+1000*j) (.row u x true false),[.own (dst+1000*j)])
 | .pair a b,j,x,σ=>let p:=digT dst a j x.1 σ;let q:=digT dst b (j+a.sz) x.2 p.1;(q.1,p.2++q.2)
 | .int k,j,x,σ=>(σ,[.val (.int k) x])
 | .bool,j,x,σ=>(σ,[.val .bool x])
 | .str,j,x,σ=>(σ,[.val .str x])
 | .err,j,x,σ=>(σ,[.val .err x])
 | .set,j,x,σ=>(σ,[.dead])
def aEat (T d c m i o:Nat)(next:St->Option ρ)(other:Option ρ):Option ρ:=
 match zd σ.ob c,P8 E T with
 |some (.row t xs true _),some (n,agg)=>chk (Nat.beq n m&&Nat.beq m t.sz&&Nat.beq o 0&&Nat.blt (d+1000*t.sz) 500000) (chk (decide (i<xs.length))
   (let p:=digT d t 0 (xs.getD i t.dflt) (σ.kill c);next (p.1.put (some d) (xy agg p.2))))
 |some (.tl t xs k),some (n,agg)=>chk (Nat.beq n m&&Nat.beq m t.sz&&Nat.beq o 0&&Nat.blt (d+1000*t.sz) 500000) (chk (decide (i<xs.length)) (chk (Nat.beq i k)
   (let p:=digT d t 0 (xs.getD i t.dflt) { σ with ob:=yt σ.ob c (.tl t xs (k+1))};next (p.1.put (some d) (xy agg p.2)))))
 |_,_=>other
def St.digS (σ:St)(c d:Nat)(t:Ty)(xs:List t.den)(i:Nat):St×List CV:=
 let p:=digT d t 0 (xs.getD i t.dflt) { σ with ob:=yt σ.ob c (.hol t xs i (List.replicate t.sz .dead))}
 ({ p.1 with ob:=yt p.1.ob c (.hol t xs i p.2)},p.2)
def aTake (T:Nat)(dst:Option Nat)(x:AV)(next:St->Option ρ)(other:Option ρ):Option ρ:=
 match dst,x with
 |some d, .el c m i o=>bif Env.flag E (X0 T d)then aEat E σ T d c m i o next other else match zd σ.ob c,P8 E T with
   |some (.row (.slice t) xs true cn),some (n,agg)=>bif takesB c then chk (Nat.beq n 1&&Nat.beq m 1&&Nat.beq o 0&&(!agg)&& !(Nat.beq c d)&&Nat.blt d 500000) (chk (decide (i<xs.length)) (next ((σ.dig c d t xs i).put (some d) (.cv (.own d)))))else other
   |some (.row (.pair p q) xs true cn),some (n,agg)=>bif takesB c then chk (Nat.beq m (Ty.pair p q).sz&&Nat.ble (o+n) m&&Nat.blt (d+1000*(Ty.pair p q).sz) 450000) (chk (decide (i<xs.length))
     (next ((σ.digS c d (.pair p q) xs i).1.put (some d) (xy agg (((σ.digS c d (.pair p q) xs i).2.drop o).take n)))))else other
   |_,_=>other
 |_,_=>other
def splice {α:Type}(l:List α)(o:Nat)(new:List α):List α:=l.take o++new++l.drop (o+new.length)
def aStore (T:Nat)(x v:AV)(next:St->Option ρ):Option ρ:=
 match P8 E T,σ.cells v with
 |some (n,_),some cs=>chk (Nat.beq cs.length n) (match x with
  | .adr c o=>match zd σ.ob c with
    |some (.box l)=>chk (Nat.ble (o+n) l.length) (next { σ with ob:=yt σ.ob c (.box (splice l o cs))})
    |_=>none
  | .el c m i o=>match zd σ.ob c with
    |some (.row t xs d cn)=>chk (Nat.beq m t.sz&&Nat.ble (o+n) m) (chk (decide (i<xs.length))
      (bif t.flat then match yE t (splice (yX t (xs.getD i t.dflt)) o cs)with
        |some y=>next { σ with ob:=yt σ.ob c (.row t (xs.set i y) d cn)}
        |none=>none
        else chk (Nat.beq n m) (match σ.impl t cs with
         |some y=>let tree:=d&&σ.treeB cs&& !hasB c (zf cs);chk (!hasB c (zf cs))
           (let τ:=σ.give tree (zf cs);next { τ with ob:=yt τ.ob c (.row t (xs.set i y) tree cn)})
         |none=>none)))
    |some (.arr t xs)=>chk (Nat.beq m t.sz&&Nat.ble (o+n) m&&t.flat) (chk (decide (i<xs.length))
      (match yE t (splice (yX t (xs.getD i t.dflt)) o cs)with
        |some y=>next { σ with ob:=yt σ.ob c (.arr t (xs.set i y))}
        |none=>none))
    |some (.hol t xs j l)=>chk (Nat.beq m t.sz&&Nat.ble (o+n) m&&(zf cs).isEmpty&&cs.all (fun v=>match v with| .dead=>false|_=>true)) (chk (Nat.beq i j) (next { σ with ob:=yt σ.ob c (.hol t xs j (splice l o cs))}))
    |some (.hole t xs j v)=>match cs with
     | [.own k]=>match zd σ.ob k with
       |some (.row u ys true _)=>match(Ty.slice u).as (.slice t) ys with
        |some ys=>chk (Nat.beq m 1&&Nat.beq o 0&& !(Nat.beq c k)) (chk (Nat.beq i j) (let τ:=σ.kill k;next { τ with ob:=yt τ.ob c (.row (.slice t) (xs.set j ys) true false)}))
        |none=>none
       |_=>none
     |_=>none
    |_=>none
  |_=>none)
 |_,_=>none
def TL (T:Nat)(f:Nat):Option (Nat×Nat×Bool):=
 match E.ty T with
 |some (.struct fs _ _)=>match fs[f]? with
  |some (off,u)=>(P8 E u).map fun p=>(off,p.1,p.2)
  |none=>none
 |_=>none
def aIx:AV->Option Int
 | .cv (.val (.int _) i)=>some i|_=>none
def yN (T:Nat)(x:AV)(i:Int)(next:AV->Option ρ):Option ρ:=
 match E.ty T,x with
 |some (.one (.slice t)), .cv (.val (.slice u) xs)=>chk (Ty.same t u) (chk (decide (0<=i)) (chk (decide (i<xs.length)) (next (.ref (yX u (xs.getD i.toNat u.dflt))))))
 |some (.one (.slice t)), .cv (.own c)=>match zd σ.ob c with
  |some (.row u xs _ _)=>chk (Ty.same t u) (chk (decide (0<=i)) (chk (decide (i<xs.length)) (next (.el c u.sz i.toNat 0))))
  |some (.hole u xs _ _)=>chk (Ty.same t (.slice u)) (chk (decide (0<=i)) (chk (decide (i<xs.length)) (next (.el c 1 i.toNat 0))))
  |some (.hol u xs _ _)=>chk (Ty.same t u) (chk (decide (0<=i)) (chk (decide (i<xs.length)) (next (.el c u.sz i.toNat 0))))
  |some (.tl u xs _)=>chk (Ty.same t u) (chk (decide (0<=i)) (chk (decide (i<xs.length)) (next (.el c u.sz i.toNat 0))))
  |_=>none
 |some (.arr n t), .adr c 0=>match zd σ.ob c with
  |some (.arr u xs)=>chk (Ty.same t u&&Nat.beq xs.length n&&Nat.ble 2 n) (chk (decide (0<=i)) (chk (decide (i<xs.length)) (next (.el c u.sz i.toNat 0))))
  |_=>none
 |_,_=>none
def jQ (n:Int)(lo hi:Option AV)(next:Nat->Nat->Option ρ):Option ρ:=
 let go (h:Int):Option ρ:=match lo with
  |none=>chk (decide (0<=h)) (chk (decide (h<=n)) (next 0 h.toNat))
  |some l=>match aIx l with
   |some l=>chk (decide (0<=l)) (chk (decide (l<=h)) (chk (decide (h<=n)) (next l.toNat h.toNat)))
   |none=>none
 match hi with
 |none=>go n
 |some h=>match aIx h with|some h=>go h|none=>none
def aSlice (T dst:Nat)(x:AV)(lo hi:Option AV)(next:St->Option ρ):Option ρ:=
 match x with
 | .cv (.val .str s)=>match E.ty T with
   |some (.one .str)=>jQ s.size lo hi fun l h=>next (σ.put (some dst) (.cv (.val .str (s.extract l h))))
   |_=>none
 | .cv (.val (.slice t) xs)=>match E.ty T with
   |some (.one (.slice u))=>chk (Ty.same u t) (jQ xs.length lo hi fun l h=>next (σ.put (some dst) (.cv (.val (.slice t) ((xs.take h).drop l)))))
   |_=>none
 | .cv (.own c)=>match zd σ.ob c,E.ty T with
   |some (.row t xs d cn),some (.one (.slice u))=>chk (Ty.same u t) (jQ xs.length lo hi fun l h=>
     bif Env.flag E (X0 T dst)&&Nat.blt dst 500000 then next (((σ.kill c).new dst (.row t ((xs.take h).drop l) d false)).put (some dst) (.cv (.own dst)))
     else next ((σ.freeze c).put (some dst) (.cv (.val (.slice t) ((xs.take h).drop l)))))
   |_,_=>none
 | .cv .nil=>match E.ty T with
   |some (.one (.slice u))=>jQ 0 lo hi fun l h=>next (σ.put (some dst) (.cv .nil))
   |_=>none
 | .adr c 0=>match zd σ.ob c,E.ty T with
   |some (.arr t xs),some (.arr n u)=>chk (Ty.same u t&&Nat.beq xs.length n) (jQ xs.length lo hi fun l h=>next ((σ.kill c).put (some dst) (.cv (.val (.slice t) ((xs.take h).drop l)))))
   |_,_=>none
 |_=>none
def rowMax:Nat:=4294967296
def aApp2 (σ:St)(t:Ty)(dst key:Nat)(y:AV)(xs:List t.den)(d cn:Bool)(next:St->Option ρ):Option ρ:=
 match y with
 | .cv .nil=>let τ:=σ.new key (.row t xs d cn);next (τ.put (some dst) (.cv (.own key)))
 | .cv (.val (.slice u) ys)=>match(Ty.slice u).as (.slice t) ys with
   |some ys=>chk (decide (xs.length+ys.length<=rowMax)) (let τ:=σ.new key (.row t (xs++ys) (d&&t.flat) cn);next (τ.put (some dst) (.cv (.own key))))
   |none=>none
 | .cv (.own c)=>match zd σ.ob c with
   |some (.row u ys e _)=>match(Ty.slice u).as (.slice t) ys with
    |some ys=>chk (decide (xs.length+ys.length<=rowMax))
      (let tree:=d&&(t.flat||e)
       let τ:=(bif t.flat then σ else bif tree then σ.kill c else σ.freeze c).new key (.row t (xs++ys) tree cn)
       next (τ.put (some dst) (.cv (.own key))))
    |none=>none
   |_=>none
 |_=>none
def keyFor (c dst:Nat):Nat:=bif Nat.ble 450000 c&&Nat.blt c 500000 then c else dst
def aAppend (T dst:Nat)(x y:AV)(next:St->Option ρ):Option ρ:=
 match E.ty T with
 |some (.one (.slice t))=>match x with
  | .cv .nil=>aApp2 σ t dst dst y [] true true next
  | .cv (.own c)=>match zd σ.ob c with
    |some (.row u xs d cn)=>match(Ty.slice u).as (.slice t) xs with|some xs=>aApp2 (σ.kill c) t dst (keyFor c dst) y xs d cn next|none=>none
    |_=>none
  |_=>none
 |_=>none
def TK (t:Ty)(n:Nat):Nat->List (Nat×AV)->Option (List CV×List t.den)
 |i,[]=>bif Nat.beq i n then some ([],[])else none
 |i,(j,v)::r=>bif Nat.beq i j then(match σ.cells v with
   |some cs=>match σ.impl t cs,TK t n (i+1) r with
    |some x,some (l,xs)=>some (cs++l,x::xs)
    |_,_=>none
   |none=>none)else none
def b5 (T dst n:Nat)(parts:List (Nat×AV))(next:St->Option ρ):Option ρ:=
 match E.ty T with
 |some (.one (.slice t))=>match TK σ t n 0 parts with
  |some (l,xs)=>let tree:=σ.treeB l
    let τ:=(σ.give tree (zf l)).new dst (.row t xs tree false)
    chk (Nat.ble (n*t.sz) 16777216) (next (τ.put (some dst) (.cv (.own dst))))
  |none=>none
 |_=>none
def Yg (T dst:Nat)(n c:AV)(next:St->Option ρ):Option ρ:=
 match E.ty T,aIx n,aIx c with
 |some (.one (.slice t)),some n,some c=>chk (decide (0<=n)) (chk (decide (n<=rowMax)) (chk (n==c)
   (let τ:=σ.new dst (.row t (List.replicate n.toNat t.dflt) true false);next (τ.put (some dst) (.cv (.own dst))))))
 |_,_,_=>none
def vi:Ty->CV
 | .slice _=> .nil| .int k=> .val (.int k) (0:Int)| .bool=> .val .bool false| .str=> .val .str (⟨#[]⟩:ByteArray)| .pair _ _=> .dead| .set=> .val .set none| .err=> .val .err true
def X1 (T:Nat)(parts:List (Nat×AV))(zero:List CV):Option AV:=
 match parts with
 | []=>some (.ag zero)
 |(f,v)::r=>match TL E T f,σ.cells v with
  |some (off,n,_),some cs=>bif Nat.beq cs.length n&&Nat.ble (off+n) zero.length then X1 T r (splice zero off cs)else none
  |_,_=>none
def aAlloc (T dst:Nat)(next:St->Option ρ):Option ρ:=
 match E.ty T with
 |some (.one t)=>next ((σ.new dst (.box [vi t])).put (some dst) (.adr dst 0))
 |some (.struct _ ks _)=>next ((σ.new dst (.box (ks.map vi))).put (some dst) (.adr dst 0))
 |some (.arr n t)=>chk t.flat (next ((σ.new dst (.arr t (List.replicate n t.dflt))).put (some dst) (.adr dst 0)))
 |some .bytes=>none
 |some .flag=>none
 |some .imap=>none
 |none=>none
def aBox (dst:Nat)(v:AV)(next:St->Option ρ):Option ρ:=
 match σ.cells v with
 |some l=>chk (!hasB dst (zf l)) (next ((σ.new dst (.box l)).put (some dst) (.adr dst 0)))
 |none=>none
def xO (l:List CV):Bool:=l.all fun v=>match v with| .own _=>false| .dead=>false|_=>true
def St.sealBox (σ:St)(c:Nat):Option (St×List CV):=
 match zd σ.ob c with
 |some (.box l0)=>let τ:=σ.freezeAll (zf l0)
  match zd τ.ob c with
  |some (.box l)=>bif xO l then some (τ.sub c (rnSeal c l),l)else none
  |_=>none
 |_=>none
def St.capture (σ:St):List Operand->Option (St×List (List CV))
 | []=>some (σ,[])
 |x::r=>match σ.ev x with
  | .ref l=>(σ.capture r).map fun p=>(p.1,l::p.2)
  | .adr c 0=>match σ.sealBox c with
    |some (τ,l)=>(τ.capture r).map fun p=>(p.1,l::p.2)
    |none=>none
  |_=>none
def St.capLive (σ:St):List Operand->Option (List (List CV))
 | []=>some []
 |x::r=>match σ.ev x with
  | .ref l=>(σ.capLive r).map fun p=>l::p
  | .adr c 0=>match zd σ.ob c with
    |some (.box l)=>(σ.capLive r).map fun p=>(.own c::(zf l).map .own)::p
    |_=>none
  |_=>none
def Na (S D:Nat)(x:AV)(next:AV->Option ρ):Option ρ:=
 match E.ty S,E.ty D,x with
 |some (.one (.int _)),some (.one (.int k)), .cv (.val (.int _) n)=>next (.cv (.val (.int k) (k.wrap n)))
 |some (.one .str),some (.one .str), .cv (.val .str s)=>next (.cv (.val .str s))
 |some (.one (.slice (.int .u8))),some (.one .str), .cv c=>match E.ty (S+1000000),σ.cvAs (.slice (.int .u8)) c with
  |some .bytes,some xs=>next (.cv (.val .str ((xs:List Int).foldl (fun r n=>r.push (UInt8.ofNat n.toNat)) ByteArray.empty)))
  |_,_=>none
 |_,_,_=>none
def uo (T:Nat)(x:AV)(i:Int)(next:AV->Option ρ):Option ρ:=
 match E.ty T,x with
 |some (.one .str), .cv (.val .str s)=>chk (decide (0<=i)) (chk (decide (i<s.size)) (next (.cv (.val (.int .u8) (s.data.toList.getD i.toNat 0).toNat))))
 |_,_=>none
def aLen (T:Nat)(x:AV)(next:AV->Option ρ):Option ρ:=
 match E.ty T with
 |some (.one .str)=>match x with
  | .cv (.val .str s)=>next (.cv (.val (.int .i64) (s.size:Int)))
  |_=>none
 |some (.one (.slice _))=>match x with
  | .cv .nil=>next (.cv (.val (.int .i64) (0:Int)))
  | .cv (.val (.slice _) xs)=>next (.cv (.val (.int .i64) (xs.length:Int)))
  | .cv (.own c)=>match zd σ.ob c with
    |some (.row _ xs _ _)=>next (.cv (.val (.int .i64) (xs.length:Int)))
    |some (.hole _ xs _ _)=>next (.cv (.val (.int .i64) (xs.length:Int)))
    |some (.hol _ xs _ _)=>next (.cv (.val (.int .i64) (xs.length:Int)))
    |some (.tl _ xs _)=>next (.cv (.val (.int .i64) (xs.length:Int)))
    |_=>none
  |_=>none
 |_=>none
def aMaxMin (big:Bool):List AV->Option AV
 | [.cv (.val (.int k) x), .cv (.val (.int k') y)]=>bif KX k k' then some (.cv (.val (.int k) (bif big then(bif decide (y>x)then y else x)else(bif decide (y<x)then y else x))))else none
 |_=>none
def St.capCells (σ:St)(t:Ty):List CV->Option t.den
 | .own c::ks=>match zd σ.ob c with
   |some (.box l)=>bif(zf l).all fun k=>hasB k (zf ks)then σ.impl t l else none
   |_=>none
 |l=>yE t l
def St.capsTo (σ:St):(ts:List Ty)->List (List CV)->Option (We ts).den
 | [],[]=>some false
 | [t],[l]=>σ.capCells t l
 |t::u::r,l::ls=>(σ.capCells t l).bind fun x=>(σ.capsTo (u::r) ls).bind fun y=>some (x,y)
 |_,_=>none
def capsOf:(ts:List Ty)->(We ts).den->List (List CV)
 | [],_=> []
 | [t],x=> [yX t x]
 |t::u::r,x=>yX t x.1::capsOf (u::r) x.2
def capAV:List CV->AV
 | .own c::_=> .adr c 0| .dead::_=> .cv .dead|l=> .ref l
def fnIds:List AV->List Nat
 | []=> []| .fn f _::r=>f::fnIds r|_::r=>fnIds r
def St.toCell (σ:St):(c:PC)->CV->Option c.ty.den
 | .v t,v=>match v with| .own _=>none|v=>v.as t
 | .o t d,v=>match v with
   | .nil=>some []
   | .own k=>match zd σ.ob k with
     |some (.row u xs e _)=>bif t.flat||(bif d then e else !e)then(Ty.slice u).as (.slice t) xs else none
     |_=>none
   |_=>none
def St.toCells (σ:St):(cs:List PC)->List CV->Option (We (cs.map PC.ty)).den
 | [],[]=>some false
 | [c],[v]=>σ.toCell c v
 |c::d::r,v::l=>(σ.toCell c v).bind fun x=>(σ.toCells (d::r) l).bind fun y=>some (x,y)
 |_,_=>none
def St.toArg (σ:St):(p:PT)->AV->Option p.ty.den
 | .o cs agg, .cv c=>bif agg then none else σ.toCells cs [c]
 | .o cs agg, .ag l=>bif agg then σ.toCells cs l else none
 | .v t agg, .cv c=>bif agg then none else σ.cvAs t c
 | .v t agg, .ag l=>bif agg then σ.impl t l else none
 | .r t, .ref l=>yE t l
 | .z t, .cv .nil=>some ([]:List t.den)
 | .p a b, .adr c 0=>match zd σ.ob c with|some (.box l)=>yE (.pair a b) l|_=>none
 | .fn f ts, .fn g caps=>bif Nat.beq f g then σ.capsTo ts caps else none
 |_,_=>none
def St.toArgs (σ:St):(ps:List PT)->List AV->Option (Aden ps)
 | [],[]=>some ()
 | [p],[v]=>σ.toArg p v
 |p::q::r,v::vs=>(σ.toArg p v).bind fun x=>(σ.toArgs (q::r) vs).bind fun y=>some (x,y)
 |_,_=>none
def yY:List PC->List CV->List (Option Nat)
 | .o _ _::r, .own k::l=>some k::yY r l
 | .o _ _::r,_::l=>none::yY r l
 | .v _::r,_::l=>yY r l
 |_,_=> []
def avCells:AV->List CV
 | .cv c=> [c]| .ag l=>l|_=> []
def ye:List PT->List AV->List (Option Nat)
 | .o cs _::r,v::l=>yY cs (avCells v)++ye r l
 | .p _ _::r, .adr c _::l=>some c::ye r l
 |_::r,_::l=>ye r l
 |_,_=> []
def zt:List (Option Nat)->List Nat
 | []=> []|some k::r=>k::zt r|none::r=>zt r
def wE:List PT->List AV->List Nat
 | .o _ _::r,_::l=>wE r l
 | .p _ _::r,_::l=>wE r l
 |_::r,v::l=>v.owns++wE r l
 |_,_=> []
def St.back1 (σ:St)(k:Option Nat)(c:RC)(x:c.t.den):St:=
 match k,c,x with
 |some k,⟨.slice t,some (d,_)⟩,x=>match zd σ.ob k with
  |some (.row _ _ e n)=> { σ with ob:=yt σ.ob k (.row t x (bif t.flat then e else d) n)}
  |_=>σ
 |some k,⟨.pair a b,some _⟩,x=>match zd σ.ob k with
  |some (.box _)=> { σ with ob:=yt σ.ob k (.box (yX (.pair a b) x))}
  |_=>σ
 |_,_,_=>σ
def St.back (σ:St):List (Option Nat)->(ios:List RC)->Rden ios->St
 |k::_,[c],x=>σ.back1 k c x
 |k::ks,c::d::r,x=>(σ.back1 k c x.1).back ks (d::r) x.2
 |_,_,_=>σ
def putCells (σ:St)(dst:Nat):(j:Nat)->(rs:List RC)->Rden rs->St×List CV
 |_,[],_=>(σ,[])
 |j,[c],x=>one σ dst j c x
 |j,c::d::r,x=>let p:=one σ dst j c x.1;let q:=putCells p.1 dst (j+1) (d::r) x.2;(q.1,p.2++q.2)
where
 one (σ:St) (dst j:Nat) (c:RC) (x:c.t.den):St×List CV:=
  match c,x with
  |⟨.slice t,some (d,n)⟩,x=>(σ.new (dst+1000*j) (.row t x d n),[.own (dst+1000*j)])
  |⟨.pair a b,some _⟩,x=>(σ.new (dst+1000*j) (.box (yX (.pair a b) x)),[.own (dst+1000*j)])
  |⟨t,_⟩,x=>(σ,[.val t x])
def cutParts:List (Bool×List RC)->List CV->List (Bool×List CV)
 | [],_=> []|(g,rs)::r,l=>(g,l.take rs.length)::cutParts r (l.drop rs.length)
def ofParts:List (Bool×List CV)->AV
 | [(g,l)]=>xy g l|l=> .tup l
def Vk (c:RC):Bool:=
 match c with
 |⟨.slice t,some (d,_)⟩=> !(d||t.flat)
 |⟨t,_⟩=> !t.flat
def immB (rs:List (Bool×List RC)):Bool:=(zm rs).any Vk
def gv (vs:List AV):List Nat:=vs.flatMap AV.owns
def jA (d:Nat):Nat->List RC->List Nat
 |_,[]=> []|j,c::r=>(match c with|⟨.slice _,some _⟩=> [d+1000*j]|⟨.pair _ _,some _⟩=> [d+1000*j]|_=> [])++jA d (j+1) r
def lowKeys (l:List Nat):Bool:=l.all fun k=>Nat.blt k 500000
def St.adrOf (σ:St):AV->AV
 | .cv (.own c)=>match zd σ.ob c with|some (.box _)=> .adr c 0|_=> .cv (.own c)
 |v=>v
def aResult (σ:St)(dst:Option Nat)(rs:List (Bool×List RC))(x:Rden (zm rs))(next:St->Option ρ):Option ρ:=
 match dst with
 |none=>next σ
 |some d=>chk (lowKeys (jA d 0 (zm rs))) (let p:=putCells σ d 0 (zm rs) x;next (p.1.put (some d) (p.1.adrOf (ofParts (cutParts rs p.2)))))
def St.settle1 (σ:St)(c:Nat):St:=
 match zd σ.ob c with
 |some (.hole t xs i (.own k))=>match zd σ.ob k with
  |some (.row u ys true _)=>match(Ty.slice u).as (.slice t) ys with
   |some ys=>bif Nat.beq c k then σ else let τ:=σ.kill k;{ τ with ob:=yt τ.ob c (.row (.slice t) (xs.set i ys) true false)}
   |none=>σ
  |_=>σ
 |some (.hol t xs i l)=>bif σ.treeB l&& !hasB c (zf l)then(match σ.impl t l with
  |some y=>let τ:=σ.killAll (zf l);{ τ with ob:=yt τ.ob c (.row t (xs.set i y) true false)}
  |none=>σ)else σ
 |_=>σ
def St.homeFor (σ:St):AV->St
 | .cv (.own c)=>bif Nat.ble 420000 c&&Nat.blt c 430000 then σ.settle1 c else σ
 |_=>σ
def aGift (ck:(fi:Fi)->Aden fi.ps->Option (Oden (zm fi.rs) (ioOf fi.ps)))(fi:Fi)(dst:Option Nat)(vs:List AV)(xs:Aden fi.ps)(next:St->Option ρ):Option ρ:=
 match vs with
 | .cv (.own c)::rest=>match zd σ.ob c with
   |some (.row t _ d _)=>chk ((t.flat||(bif fi.run1 then !d else d))&&giftPs fi.ps&&(gv rest).isEmpty) ((ck fi xs).bind fun y=>aResult (σ.kill c) dst fi.rs (Oden.res _ _ y) next)
   |_=>none
 |_=>none
def aCall (ck:(fi:Fi)->Aden fi.ps->Option (Oden (zm fi.rs) (ioOf fi.ps)))(f:Nat)(dst:Option Nat)(vs:List AV)(next:St->Option ρ):Option ρ:=
 match E.fn f (fnIds vs)with
 |none=>none
 |some fi=>match σ.toArgs fi.ps vs with
  |none=>none
  |some xs=>bif fi.gift then aGift σ ck fi dst vs xs next else chk (U9 (zt (ye fi.ps vs))&&(wE fi.ps vs).all fun k=> !hasB k (zt (ye fi.ps vs)))
    ((ck fi xs).bind fun y=>aResult ((bif immB fi.rs||(ioOf fi.ps).any Vk then σ.freezeAll (wE fi.ps vs)else σ).back (ye fi.ps vs) (ioOf fi.ps) (Oden.io _ _ y)) dst fi.rs (Oden.res _ _ y) next)
def St.boxOwns (σ:St):List PT->List AV->List Nat
 | .p _ _::r, .adr c _::l=>(match zd σ.ob c with|some (.box cs)=>zf cs|_=> [])++σ.boxOwns r l
 |_::r,_::l=>σ.boxOwns r l
 |_,_=> []
def St.ready (E:Env)(σ:St)(f:Nat)(vs:List AV):St:=
 match E.fn f (fnIds vs)with
 |some fi=>bif fi.run1 then σ.freezeAll (gv (vs.drop 1))else σ.freezeAll (σ.boxOwns fi.ps vs)
 |none=>σ
def DP:Option Nat->Bool|some d=>Nat.blt d 500000|none=>false
def aOp (ck:(fi:Fi)->Aden fi.ps->Option (Oden (zm fi.rs) (ioOf fi.ps)))(o:Oper)(next:St->Option ρ):Option ρ:=
 let put (v:AV):Option ρ:=next (σ.put o.dst v)
 let d:=o.dst.getD 0
 match o.op with
 | .move x| .assign x=>put (σ.ev x)
 | .pick c a b=>match σ.ev c with| .cv (.val .bool x)=>bif x then put (σ.ev a)else put (σ.ev b)|_=>none
 | .alloc T=>chk (DP o.dst) (aAlloc E σ T d next)
 | .box T x=>chk (DP o.dst) (aBox σ d (σ.ev x) next)
 | .build T ps=>match E.ty T with
   |some (.struct _ ks _)=>match X1 E σ T (ps.toList.map fun p=>(p.1,σ.ev p.2)) (ks.map vi)with|some v=>put v|none=>none
   |_=>none
 | .buildSlice T n ps=>chk (DP o.dst) (b5 E σ T d n (ps.toList.map fun p=>(p.1,σ.ev p.2)) next)
 | .load T x=>aTake E σ T o.dst (σ.ev x) next (aLoad E σ T (σ.ev x) fun τ v=>next (τ.put o.dst v))
 | .store T x v=>aStore E σ T (σ.ev x) (σ.ev v) fun τ=>next (τ.put o.dst (.cv .dead))
 | .nilCheck x=>match σ.ev x with| .adr c o=>put (.adr c o)| .el c n i o=>put (.el c n i o)| .ref l=>put (.ref l)| .fn f l=>put (.fn f l)|_=>none
 | .binOp op T x y _=>bif nilC y then aErrNil E op T (σ.ev x) put else aBin E σ op T (σ.ev x) (σ.ev y) put
 | .unOp op _ x=>match aUn op (σ.ev x)with|some v=>put v|none=>none
 | .convert S D x=>Na E σ S D (σ.ev x) put
 | .makeFunc (.func f) first caps=>chk first.isEmpty (bif Env.flag E (X0 f d)then(match σ.capLive caps.toList with|some l=>next (σ.put o.dst (.fn f l))|none=>none)
    else match σ.capture caps.toList with|some (τ,l)=>next (τ.put o.dst (.fn f l))|none=>none)
 | .makeSlice T n c=>chk (DP o.dst) (Yg E σ T d (σ.ev n) (σ.ev c) next)
 | .makeMap T r=>chk (DP o.dst&&r.isNone) (match E.ty T with
   |some (.one .set)=>next ((σ.new d (.mp [])).put o.dst (.cv (.own d)))
   |some .imap=>next ((σ.new d (.im [])).put o.dst (.cv (.own d)))
   |_=>none)
 | .lookup T x k ok=>bif E.isIm T then aILook σ (σ.ev x) (σ.ev k) ok put else chk (!ok) (aLookup E σ T (σ.ev x) (σ.ev k) put)
 | .mapUpdate T m k x=>bif E.isIm T then(let τ:=σ.freezeAll (σ.ev x).owns;aISet τ (τ.ev m) (τ.ev k) (τ.ev x) fun τ=>next (τ.put o.dst (.cv .dead)))else aMapSet E σ T (σ.ev m) (σ.ev k) (σ.ev x) fun τ=>next (τ.put o.dst (.cv .dead))
 | .insert T m k x=>bif E.isIm T then(let τ:=σ.freezeAll (σ.ev x).owns;aISet τ (τ.ev m) (τ.ev k) (τ.ev x) fun τ=>next (τ.put o.dst (.cv .dead)))else aMapSet E σ T (σ.ev m) (σ.ev k) (σ.ev x) fun τ=>next (τ.put o.dst (.cv .dead))
 | .slice T x lo hi mx=>chk (o.dst.isSome&&mx.isNone) (aSlice E σ T d (σ.ev x) (lo.map σ.ev) (hi.map σ.ev) next)
 | .fieldAddr T x f=>match TL E T f with
   |some (off,n,_)=>chk (Nat.ble 1 n) (match σ.ev x with| .adr c o=>put (.adr c (o+off))| .el c m i o=>put (.el c m i (o+off))| .ref l=>put (.ref (l.drop off))|_=>none)
   |none=>none
 | .field T x f=>match TL E T f,σ.ev x with
   |some (off,n,agg), .ag l=>chk (Nat.ble (off+n) l.length) (put (xy agg ((l.drop off).take n)))
   |_,_=>none
 | .indexAddr T x i=>match aIx (σ.ev i)with|some i=>yN E σ T (σ.ev x) i put|none=>none
 | .index T x i=>match aIx (σ.ev i)with|some i=>uo E T (σ.ev x) i put|none=>none
 | .extract x i=>match σ.ev x with
   | .tup l=>(match l[i]? with|some p=>put (xy p.1 p.2)|none=>none)
   |_=>none
 | .call c=>match c.callee with
   | .builtin b=>match b,c.args.toList with
     | .len,[x]=>match c.argTypes.toList with
       |T::_=>aLen E σ T (σ.ev x) put
       |_=>none
     | .cap,[x]=>match σ.ev x with
       | .cv .nil=>(match c.argTypes.toList with
         |T::_=>match E.ty T with|some (.one (.slice _))=>put (.cv (.val (.int .i64) (0:Int)))|_=>none
         |_=>none)
       |_=>none
     | .append,[x,y]=>match c.argTypes.toList with
       | [T,U]=>chk (DP o.dst&&Nat.beq T U) (let τ:=σ.homeFor (σ.ev x);aAppend E τ T d (τ.ev x) (τ.ev y) next)
       |_=>none
     | .max,l=>match aMaxMin true (l.map σ.ev)with|some v=>put v|none=>none
     | .min,l=>match aMaxMin false (l.map σ.ev)with|some v=>put v|none=>none
     |_,_=>none
   | .value f=>match σ.ev f with
     | .fn f caps=>let τ:=σ.ready E f (c.args.toList.map σ.ev);aCall E τ ck f o.dst (c.args.toList.map τ.ev++caps.map capAV) next
     |_=>none
   |_=>none
 |_=>none
def aOps (ck:(fi:Fi)->Aden fi.ps->Option (Oden (zm fi.rs) (ioOf fi.ps)))(ops:List Oper):List Oper->St->(St->Option ρ)->Option ρ
 | [],σ,next=>next σ
 |o::r,σ,next=>match o.guard with
  |none=>aOp E σ ck o fun τ=>aOps ck ops r τ next
  |some (j,want)=>match(ops[j]?).bind (·.dst)with
   |some g=>match vg σ.sl g with
    | .cv (.val .bool b)=>
      let yes (b:Bool):Option ρ:=let τ:=σ.put (some g) (.cv (.val .bool b));aOp E τ ck o fun τ=>aOps ck ops r τ next
      let no (b:Bool):Option ρ:=let τ:=σ.put (some g) (.cv (.val .bool b));aOps ck ops r (τ.put o.dst (.tup [])) next
      bif b then(bif want then yes true else no true)else(bif want then no false else yes false)
    | .tup []=>aOps ck ops r (σ.put o.dst (.tup [])) next
    |_=>none
   |none=>none
end
def vV:(i:Nat)->List Nat->List AV->List AV
 |_,_,[]=> []
 |i,ks,a::r=>(bif hasB i ks then a else .cv .dead)::vV (i+1) ks r
def St.rename (σ:St)(c e:Nat):Option St:=
 bif Nat.beq c e then some σ else let σ1:=σ.kill e
  match zd σ1.ob c with
  |some o=>let τ:=σ1.sub c (Rz c e);bif Nat.blt e 500000 then some { τ with ob:=(e,o.map (Rz c e))::τ.ob}else none
  |none=>none
def St.weaken (σ:St)(e:Nat)(t:Ty)(deep cn:Bool):Option St:=
 match zd σ.ob e with
 |some (.row u xs d n)=>match(Ty.slice u).as (.slice t) xs with
  |some xs=>bif(!deep||d)&&(!cn||n)then some { σ with ob:=yt σ.ob e (.row t xs deep cn)}else none
  |none=>none
 |_=>none
def tlB (c:Nat):Bool:=Nat.ble 440000 c&&Nat.blt c 450000
def holeB (c:Nat):Bool:=Nat.ble 420000 c&&Nat.blt c 430000
def mpB (c:Nat):Bool:=Nat.ble 430000 c&&Nat.blt c 440000
def St.toTl (σ:St)(e:Nat)(t:Ty):Option St:=
 match zd σ.ob e with
 |some (.row u xs true _)=>match(Ty.slice u).as (.slice t) xs with
  |some xs=>some { σ with ob:=yt σ.ob e (.tl t xs 0)}
  |none=>none
 |some (.tl u xs n)=>match(Ty.slice u).as (.slice t) xs with
  |some xs=>some { σ with ob:=yt σ.ob e (.tl t xs n)}
  |none=>none
 |_=>none
def St.form (σ:St)(h:CH)(v:CV):Option (St×CV):=
 match h with
 | .keep=>match v with| .own _=>none|v=>some (σ,v)
 | .val t=>match v with
   | .nil=>(CV.nil.as t).map fun x=>(σ, .val t x)
   | .own c=>(σ.cvAs t (.own c)).map fun x=>(σ.freeze c, .val t x)
   |v=>(v.as t).map fun x=>(σ, .val t x)
 | .row e t deep cn=>bif tlB e then(match v with
   | .own c=>(σ.rename c e).bind fun τ=>(τ.toTl e t).map fun τ=>(τ, .own e)
   |_=>none)else bif holeB e then(match v with
   | .own c=>(σ.rename c e).bind fun τ=>(match zd τ.ob e with|some (.hole _ _ _ (.own _))=>some (τ, .own e)|_=>none)
   |_=>none)else bif mpB e then(match v with
   | .own c=>(σ.rename c e).bind fun τ=>(match zd τ.ob e with|some (.mp _)=>some (τ, .own e)|some (.im _)=>some (τ, .own e)|_=>none)
   |_=>none)else match v with
   | .nil=>bif Nat.blt e 500000 then some (σ.new e (.row t [] deep cn), .own e)else none
   | .own c=>(σ.rename c e).bind fun τ=>(τ.weaken e t deep cn).map fun τ=>(τ, .own e)
   |_=>none
def St.formCells (σ:St)(c:Nat):(j:Nat)->List CH->Option St
 |_,[]=>some σ
 |j,h::r=>match zd σ.ob c with
  |some (.box l)=>match l[j]? with
   |some v=>(σ.form h v).bind fun p=>match zd p.1.ob c with
    |some (.box l)=>St.formCells { p.1 with ob:=yt p.1.ob c (.box (l.set j p.2))} c (j+1) r
    |_=>none
   |none=>none
  |_=>none
def freeAV:AV->Bool
 | .cv (.own _)=>false| .cv _=>true| .ag l=>l.all fun v=>match v with| .own _=>false|_=>true
 | .ref _=>true| .fn _ caps=>(caps.flatMap zf).isEmpty| .tup l=>l.all fun p=>p.2.all fun v=>match v with| .own _=>false|_=>true
 |_=>false
def St.meet1 (σ:St):Hint->Option St
 | .keep s=>bif freeAV (vg σ.sl s)then some σ else none
 | .cell s h=>match vg σ.sl s with
   | .cv v=>(σ.form h v).map fun p=> { p.1 with sl:=gV p.1.sl s (.cv p.2)}
   |_=>none
 | .box s e l=>match vg σ.sl s with
   | .adr c 0=>(σ.rename c e).bind fun τ=>τ.formCells e 0 l
   |_=>none
 | .arr s e=>match vg σ.sl s with
   | .adr c 0=>σ.rename c e
   |_=>none
def St.meetAll (σ:St):List Hint->Option St
 | []=>some σ|h::r=>(σ.meet1 h).bind fun τ=>τ.meetAll r
def Hint.slot:Hint->Nat| .keep s=>s| .cell s _=>s| .box s _ _=>s| .arr s _=>s
def chKeys:List CH->List Nat
 | []=> []| .row c _ _ _::r=>c::chKeys r|_::r=>chKeys r
def Hint.keys:Hint->List Nat
 | .cell _ (.row c _ _ _)=> [c]| .box _ c l=>c::chKeys l| .arr _ c=> [c]|_=> []
def obsOf (ob:List (Nat×Ob)):List Nat->Option (List (Nat×Ob))
 | []=>some []
 |c::r=>match zd ob c,obsOf ob r with|some o,some l=>some ((c,o)::l)|_,_=>none
def lowOf:List Nat->List Nat
 | []=> []|k::r=>bif Nat.blt k 500000 then k::lowOf r else lowOf r
def ioKs:Nat->List Nat
 |0=> []|n+1=>ioKs n++[500000+n]
def holesOf:List (Nat×Ob)->List Nat
 | []=> []|(c, .hole _ _ _ _)::r=>c::holesOf r|(c, .hol _ _ _ _)::r=>c::holesOf r|_::r=>holesOf r
def St.settleL (σ:St):List Nat->St
 | []=>σ|c::r=>(σ.settle1 c).settleL r
def St.settle (σ:St):St:=σ.settleL (holesOf σ.ob)
def holsOf:List (Nat×Ob)->List Nat
 | []=> []|(c, .hol _ _ _ _)::r=>c::holsOf r|_::r=>holsOf r
def St.settleH (σ:St)(hs:List Hint):St:=bif(hs.flatMap Hint.keys).any holeB then σ.settleL (holsOf σ.ob)else σ.settle
def St.meet (σ:St)(io:Nat)(hs:List Hint):Option St:=
 ((σ.settleH hs).meetAll hs).bind fun τ=>(obsOf τ.ob (lowOf (hs.flatMap Hint.keys)++ioKs io)).map fun ob=>⟨vV 0 (hs.map Hint.slot) τ.sl,ob,true⟩
def retCell (σ:St)(r:RC)(v:CV):Option r.t.den:=
 match r with
 |⟨.slice t,some (d,n)⟩=>match v with
  | .nil=>some []
  | .own c=>match zd σ.ob c with
    |some (.row u xs e m)=>bif(!d||e)&&(!n||m|| !xs.isEmpty)then(Ty.slice u).as (.slice t) xs else none
    |_=>none
  |_=>none
 |⟨.set,some _⟩=>none
 |⟨.pair a b,some _⟩=>match v with
  | .own c=>match zd σ.ob c with
    |some (.box l)=>yE (.pair a b) l
    |_=>none
  |_=>none
 |⟨t,_⟩=>σ.cvAs t v
def vn (σ:St):(rs:List RC)->List CV->Option (Rden rs)
 | [],[]=>some ()
 | [r],[v]=>retCell σ r v
 |r::s::q,v::w=>(retCell σ r v).bind fun x=>(vn σ (s::q) w).bind fun y=>some (x,y)
 |_,_=>none
def vT (E:Env)(σ:St):List ResultVar->List (Bool×List RC)->Option (List CV)
 | [],[]=>some []
 | .tmp t::r,(g,l)::q=>match vg σ.sl t,vT E σ r q with
   | .cv v,some w=>bif !g&&Nat.beq l.length 1 then some (v::w)else none
   | .ag vs,some w=>bif g&&Nat.beq l.length vs.length then some (vs++w)else none
   | .adr c 0,some w=>bif !g&&Nat.beq l.length 1 then some (.own c::w)else none
   |_,_=>none
 | .cell a T::r,(g,l)::q=>match vg σ.sl a,P8 E T,vT E σ r q with
   | .adr c o,some (n,agg),some w=>match zd σ.ob c with
     |some (.box vs)=>bif Nat.beq o 0&&Nat.beq n vs.length&&Nat.beq l.length n&&(agg==g)then some (vs++w)else none
     |_=>none
   |_,_,_=>none
 |_,_=>none
def cd:List RC->List CV->List Nat
 |⟨_,some _⟩::r,v::w=>v.owns++cd r w
 |_::r,_::w=>cd r w
 |_,_=> []
def SE (rs:List RC):Bool:=rs.all fun c=>c.t.flat||c.own.isSome
def aRet (E:Env)(res:List ResultVar)(rs:List (Bool×List RC))(σ:St):Option (Rden (zm rs)):=
 match vT E σ res rs with
 |some w=>bif U9 (cd (zm rs) w)&&(SE (zm rs)||(cd (zm rs) w).isEmpty)then vn σ (zm rs) w else none
 |none=>none
def ioOut1 (σ:St)(n:Nat):(c:RC)->Option c.t.den
 |⟨.slice t,some (d,_)⟩=>match zd σ.ob (500000+n)with
  |some (.row u xs e _)=>bif t.flat||(bif d then e else !e)then(Ty.slice u).as (.slice t) xs else none
  |_=>none
 |⟨.pair a b,some _⟩=>match zd σ.ob (500000+n)with
  |some (.box l)=>yE (.pair a b) l
  |_=>none
 |_=>none
def ioOut (σ:St):Nat->(ios:List RC)->Option (Rden ios)
 |_,[]=>some ()
 |n,[c]=>ioOut1 σ n c
 |n,c::d::r=>(ioOut1 σ n c).bind fun x=>(ioOut σ (n+1) (d::r)).bind fun y=>some (x,y)
def lowB (l:List CV):Bool:=l.all fun v=>v.owns.all fun k=>Nat.blt k 500000
def aRetI (E:Env)(res:List ResultVar)(rs:List (Bool×List RC))(σ:St):(ios:List RC)->Option (Oden (zm rs) ios)
 | []=>aRet E res rs σ
 |i::r=>match vT E σ res rs with
  |some w=>chk (lowB w) ((aRet E res rs σ).bind fun y=>(ioOut σ 0 (i::r)).bind fun z=>some (y,z))
  |none=>none
def St.ioBoxes (σ:St):Nat->List RC->List Nat
 |n,⟨.pair _ _,_⟩::r=>(match zd σ.ob (500000+n)with|some (.box cs)=>zf cs|_=> [])++σ.ioBoxes (n+1) r
 |n,_::r=>σ.ioBoxes (n+1) r
 |_,[]=> []
def aRetC (E:Env)(res:List ResultVar)(rs:List (Bool×List RC))(σ:St)(ios:List RC):Option (Oden (zm rs) ios):=aRetI E res rs (σ.freezeAll (σ.ioBoxes 0 ios)) ios
def oCell (n:Nat):(c:PC)->c.ty.den->CV
 | .v t,x=> .val t x| .o _ _,_=> .own (500000+n)
def oObj (n:Nat):(c:PC)->c.ty.den->List (Nat×Ob)
 | .v _,_=> []| .o t d,x=> [(500000+n, .row t x d false)]
def PC.io:PC->Nat| .v _=>0| .o _ _=>1
def oCells:Nat->(cs:List PC)->(We (cs.map PC.ty)).den->List CV
 |_,[],_=> []|n,[c],x=> [oCell n c x]|n,c::d::r,x=>oCell n c x.1::oCells (n+c.io) (d::r) x.2
def oObjs:Nat->(cs:List PC)->(We (cs.map PC.ty)).den->List (Nat×Ob)
 |_,[],_=> []|n,[c],x=>oObj n c x|n,c::d::r,x=>oObj n c x.1++oObjs (n+c.io) (d::r) x.2
def PT.io:PT->Nat| .o cs _=>(pcRC cs).length| .p _ _=>1|_=>0
def slot1 (n:Nat):(p:PT)->p.ty.den->AV
 | .v t agg,x=>xy agg (yX t x)
 | .r t,x=> .ref (yX t x)
 | .z t,x=> .cv .nil
 | .fn f ts,x=> .fn f (capsOf ts x)
 | .o cs agg,x=>xy agg (oCells n cs x)
 | .p a b,x=> .adr (500000+n) 0
def objs1 (n:Nat):(p:PT)->p.ty.den->List (Nat×Ob)
 | .o cs _,x=>oObjs n cs x| .p a b,x=> [(500000+n, .box (yX (.pair a b) x))]|_,_=> []
def vY:Nat->(ps:List PT)->Aden ps->List AV
 |_,[],_=> []
 |n,[p],x=> [slot1 n p x]
 |n,p::q::r,x=>slot1 n p x.1::vY (n+p.io) (q::r) x.2
def firstObs:Nat->(ps:List PT)->Aden ps->List (Nat×Ob)
 |_,[],_=> []
 |n,[p],x=>objs1 n p x
 |n,p::q::r,x=>objs1 n p x.1++firstObs (n+p.io) (q::r) x.2
def start0 (nt:Nat)(ps:List PT)(x:Aden ps):St:=⟨vY 0 ps x++List.replicate (nt-ps.length) (.cv .dead),firstObs 0 ps x,false⟩
def start1 (nt:Nat):(ps:List PT)->Aden ps->St
 | .v (.slice t) false::q::r,x=>start0 nt (.o [.o t false] false::q::r) x
 |ps,x=>start0 nt ps x
def Fi.start (fi:Fi)(x:Aden fi.ps):St:=bif fi.run1 then start1 fi.nt fi.ps x else start0 fi.nt fi.ps x
abbrev Rec (E:Env):Type:=(rs:List (Bool×List RC))->(ios:List RC)->List ResultVar->(Nat->Option (List Hint))->List Item->St->Option (Oden (zm rs) ios)
def QF (E:Env)(k:Nat)(rec_:Rec E)(fi:Fi)(x:Aden fi.ps):Option (Oden (zm fi.rs) (ioOf fi.ps)):=
 match fi.ext with
 |some g=>g k x
 |none=>rec_ fi.rs (ioOf fi.ps) fi.res fi.hints [.code fi.code] (fi.start x)
def mkeys:AV->List Nat
 | .cv v=>v.owns| .ag l=>zf l| .adr c _=> [c]| .el c _ _ _=> [c]| .tup l=>l.flatMap fun p=>zf p.2| .fn _ caps=>caps.flatMap zf|_=> []
def XK:Ob->List Nat
 | .box l=>zf l| .hole _ _ _ v=>v.owns| .hol _ _ _ l=>zf l|_=> []
def freeB (σ:St)(c:Nat):Bool:=Nat.blt c 500000&&σ.sl.all (fun a=> !hasB c (mkeys a))&&σ.ob.all (fun p=> !Nat.beq p.1 c&& !hasB c (XK p.2))
def noneB (l m:List Nat)(v:AV)(N:List (Nat×Ob)):Bool:=(l.all fun c=> !hasB c (mkeys v))&&m.all fun c=>N.all fun p=> !Nat.beq p.1 c&& !hasB c (XK p.2)
def St.add (σ:St)(dst:Option Nat)(v:AV)(N:List (Nat×Ob)):St:=St.put { σ with ob:=N++σ.ob} dst v
def zI (E:Env)(o:Oper):List Nat:=
 match o.op,o.dst with
 | .makeSlice _ _ _,some d=> [d]
 | .alloc _,some d=> [d]
 | .box _ _,some d=> [d]
 | .buildSlice _ _ _,some d=> [d]
 | .call c,some d=>match c.callee with
   | .builtin .append=> [d]
   | .value (.func f)=>match E.fn f []with|some fi=>jA d 0 (zm fi.rs)|none=> []
   |_=> []
 |_,_=> []
def dstB:Option Nat->Nat->Bool|some d,t=>Nat.beq d t|none,_=>false
def bU (t:Nat):Nat->List Oper->Option (Nat×Oper)
 |_,[]=>none|i,o::r=>bif dstB o.dst t then some (i,o)else bU t (i+1) r
def NX (o:Oper):Option Nat:=
 match o.op with
 | .call c=>match c.callee,c.args.toList with| .builtin .append,[.tmp t,_]=>some t|_,_=>none
 | .store _ (.tmp t) _=>some t
 |_=>none
def JN (E:Env)(ops:List Oper)(o:Oper):List Nat:=
 match NX o with
 |some t=>match bU t 0 ops with|some (_,p)=>zI E p|none=> []
 |none=> []
def noLook (ops:Array Oper)(t j:Nat):Nat->List Oper->Bool
 |_,[]=>true|i,o::r=>(Nat.beq i j|| !hasB t (o.looksAt ops))&&noLook ops t j (i+1) r
def eatsOk (E:Env)(ops:Array Oper)(ms:List Nat):Nat->List Oper->Bool
 |_,[]=>true
 |j,o::r=>(match NX o with
   |some t=>(match bU t 0 ops.toList with
    |some (i,p)=>(zI E p).isEmpty||(Nat.testBit (ms.getD j 0) i&&noLook ops t j 0 ops.toList)
    |none=>true)
   |none=>true)&&eatsOk E ops ms (j+1) r
def dels:List (Nat×Ob)->List Nat->List (Nat×Ob)
 |l,[]=>l|l,c::r=>dels (fq l c) r
def St.addK (σ:St)(K:List Nat)(dst:Option Nat)(v:AV)(N:List (Nat×Ob)):St:=St.put { σ with ob:=N++dels σ.ob K} dst v
def dOne (dst j:Nat)(c:RC)(x:c.t.den):List CV×List (Nat×Ob):=
 match c,x with
 |⟨.slice t,some (d,n)⟩,x=>([.own (dst+1000*j)],[(dst+1000*j, .row t x d n)])
 |⟨.pair a b,some _⟩,x=>([.dead],[])
 |⟨t,_⟩,x=>([.val t x],[])
def VY (dst:Nat):(j:Nat)->(rs:List RC)->Rden rs->List CV×List (Nat×Ob)
 |_,[],_=>([],[])
 |j,[c],x=>dOne dst j c x
 |j,c::d::r,x=>let p:=dOne dst j c x.1;let q:=VY dst (j+1) (d::r) x.2;(p.1++q.1,q.2++p.2)
section
variable {ρ:Type} (E:Env) (σ:St)
def UN (T:Nat)(x:AV)(next:AV->Option ρ):Option ρ:=
 match P8 E T with
 |none=>none
 |some (n,agg)=>match x with
  | .adr c o=>match zd σ.ob c with
    |some (.box l)=>chk (Nat.ble (o+n) l.length) (next (xy agg ((l.drop o).take n)))
    |_=>none
  | .ref l=>chk (Nat.ble n l.length) (next (xy agg (l.take n)))
  | .el c m i o=>match zd σ.ob c with
    |some (.row t xs d cn)=>chk (Nat.beq m t.sz&&Nat.ble (o+n) m&&(t.flat|| !d)) (chk (decide (i<xs.length))
      (next (xy agg (((yX t (xs.getD i t.dflt)).drop o).take n))))
    |some (.arr t xs)=>chk (Nat.beq m t.sz&&Nat.ble (o+n) m&&t.flat) (chk (decide (i<xs.length))
      (next (xy agg (((yX t (xs.getD i t.dflt)).drop o).take n))))
    |some (.hol t xs j l)=>chk (Nat.beq m t.sz&&Nat.ble (o+n) m) (chk (Nat.beq i j) (next (xy agg ((l.drop o).take n))))
    |_=>none
  |_=>none
def dMake (T d:Nat)(n c:AV)(next:AV->List (Nat×Ob)->Option ρ):Option ρ:=
 match E.ty T,aIx n,aIx c with
 |some (.one (.slice t)),some n,some c=>chk (decide (0<=n)) (chk (decide (n<=rowMax)) (chk (n==c)
   (next (.cv (.own d)) [(d, .row t (List.replicate n.toNat t.dflt) true false)])))
 |_,_,_=>none
def oneB:Ty->Bool
 | .int _=>true| .bool=>true| .str=>true|_=>false
def dParts (t:Ty)(n:Nat):Nat->List (Nat×AV)->Option (List t.den)
 |i,[]=>bif Nat.beq i n then some []else none
 |i,(j,v)::r=>match v with
  | .cv (.val u x)=>bif Nat.beq i j then(match u.as t x,dParts t n (i+1) r with|some y,some ys=>some (y::ys)|_,_=>none)else none
  |_=>none
def Xj (T d n:Nat)(parts:List (Nat×AV))(next:AV->List (Nat×Ob)->Option ρ):Option ρ:=
 match E.ty T with
 |some (.one (.slice t))=>match dParts t n 0 parts with
  |some xs=>chk (oneB t||parts.isEmpty) (chk (Nat.ble (n*t.sz) 16777216) (next (.cv (.own d)) [(d, .row t xs true false)]))
  |none=>none
 |_=>none
def B6 (ck:(fi:Fi)->Aden fi.ps->Option (Oden (zm fi.rs) (ioOf fi.ps)))(f:Nat)(dst:Option Nat)(vs:List AV)(next:AV->List (Nat×Ob)->Option ρ):Option ρ:=
 match E.fn f []with
 |none=>none
 |some fi=>match σ.toArgs fi.ps vs with
  |none=>none
  |some xs=>chk (!fi.gift&&(ioOf fi.ps).isEmpty&&(!immB fi.rs||(gv vs).isEmpty)) ((ck fi xs).bind fun y=>match dst with
   |none=>next (.cv .dead) []
   |some d=>next (ofParts (cutParts fi.rs (VY d 0 (zm fi.rs) (Oden.res _ _ y)).1)) (VY d 0 (zm fi.rs) (Oden.res _ _ y)).2)
def Qv (T:Nat)(x:AV)(lo hi:Option AV)(next:AV->Option ρ):Option ρ:=
 match x with
 | .cv (.val .str s)=>match E.ty T with
   |some (.one .str)=>jQ s.size lo hi fun l h=>next (.cv (.val .str (s.extract l h)))
   |_=>none
 | .cv (.val (.slice t) xs)=>match E.ty T with
   |some (.one (.slice u))=>chk (Ty.same u t) (jQ xs.length lo hi fun l h=>next (.cv (.val (.slice t) ((xs.take h).drop l))))
   |_=>none
 |_=>none
def JM (K:List Nat)(T:Nat)(x v:AV)(next:AV->List (Nat×Ob)->Option ρ):Option ρ:=
 match P8 E T,σ.cells v,x with
 |some (n,_),some cs, .adr c o=>chk (Nat.beq cs.length n&&hasB c K) (match zd σ.ob c with
  |some (.box l)=>chk (Nat.ble (o+n) l.length&&(zf (splice l o cs)).isEmpty) (next (.cv .dead) [(c, .box (splice l o cs))])
  |_=>none)
 |_,_,_=>none
def dAlloc (T d:Nat)(next:AV->List (Nat×Ob)->Option ρ):Option ρ:=
 match E.ty T with
 |some (.one t)=>next (.adr d 0) [(d, .box [vi t])]
 |some (.struct _ ks _)=>next (.adr d 0) [(d, .box (ks.map vi))]
 |some (.arr n t)=>chk t.flat (next (.adr d 0) [(d, .arr t (List.replicate n t.dflt))])
 |_=>none
def dBox (d:Nat)(v:AV)(next:AV->List (Nat×Ob)->Option ρ):Option ρ:=
 match σ.cells v with
 |some l=>chk (zf l).isEmpty (next (.adr d 0) [(d, .box l)])
 |none=>none
def P2 (t:Ty)(d:Nat)(y:AV)(xs:List t.den)(dp cn:Bool)(next:AV->List (Nat×Ob)->Option ρ):Option ρ:=
 match y with
 | .cv .nil=>next (.cv (.own d)) [(d, .row t xs dp cn)]
 | .cv (.val (.slice u) ys)=>match(Ty.slice u).as (.slice t) ys with
   |some ys=>chk (decide (xs.length+ys.length<=rowMax)) (next (.cv (.own d)) [(d, .row t (xs++ys) dp cn)])
   |none=>none
 | .cv (.own c)=>match zd σ.ob c with
   |some (.row u ys _ _)=>match(Ty.slice u).as (.slice t) ys with
    |some ys=>chk (decide (xs.length+ys.length<=rowMax)) (next (.cv (.own d)) [(d, .row t (xs++ys) dp cn)])
    |none=>none
   |_=>none
 |_=>none
def bW (K:List Nat)(T d:Nat)(x y:AV)(next:AV->List (Nat×Ob)->Option ρ):Option ρ:=
 match E.ty T with
 |some (.one (.slice t))=>chk t.flat (match x with
  | .cv .nil=>P2 σ t d y [] true true next
  | .cv (.own c)=>chk (hasB c K) (match zd σ.ob c with
    |some (.row u xs dp cn)=>(match(Ty.slice u).as (.slice t) xs with|some xs=>P2 σ t d y xs dp cn next|none=>none)
    |_=>none)
  |_=>none)
 |_=>none
def dOp (ck:(fi:Fi)->Aden fi.ps->Option (Oden (zm fi.rs) (ioOf fi.ps)))(K:List Nat)(o:Oper)(next:AV->List (Nat×Ob)->Option ρ):Option ρ:=
 let put (v:AV):Option ρ:=next v []
 match o.op with
 | .move x| .assign x=>put (σ.ev x)
 | .pick c a b=>match σ.ev c with| .cv (.val .bool x)=>bif x then put (σ.ev a)else put (σ.ev b)|_=>none
 | .load T x=>UN E σ T (σ.ev x) put
 | .nilCheck x=>match σ.ev x with| .adr c o=>put (.adr c o)| .el c n i o=>put (.el c n i o)| .ref l=>put (.ref l)| .fn f l=>put (.fn f l)|_=>none
 | .binOp op T x y _=>aBin E σ op T (σ.ev x) (σ.ev y) put
 | .unOp op _ x=>match aUn op (σ.ev x)with|some v=>put v|none=>none
 | .convert S D x=>Na E σ S D (σ.ev x) put
 | .makeFunc (.func f) first caps=>chk first.isEmpty (bif Env.flag E (X0 f (o.dst.getD 0))then(match σ.capLive caps.toList with|some l=>put (.fn f l)|none=>none)else none)
 | .makeSlice T n c=>match o.dst with|some d=>dMake E T d (σ.ev n) (σ.ev c) next|none=>none
 | .buildSlice T n ps=>match o.dst with|some d=>Xj E T d n (ps.toList.map fun p=>(p.1,σ.ev p.2)) next|none=>none
 | .store T x v=>JM E σ K T (σ.ev x) (σ.ev v) next
 | .alloc T=>match o.dst with|some d=>dAlloc E T d next|none=>none
 | .box T x=>match o.dst with|some d=>dBox σ d (σ.ev x) next|none=>none
 | .build T ps=>match E.ty T with
   |some (.struct _ ks _)=>(match X1 E σ T (ps.toList.map fun p=>(p.1,σ.ev p.2)) (ks.map vi)with|some v=>put v|none=>none)
   |_=>none
 | .slice T x lo hi mx=>chk mx.isNone (Qv E T (σ.ev x) (lo.map σ.ev) (hi.map σ.ev) put)
 | .fieldAddr T x f=>match TL E T f with
   |some (off,n,_)=>chk (Nat.ble 1 n) (match σ.ev x with| .adr c o=>put (.adr c (o+off))| .el c m i o=>put (.el c m i (o+off))| .ref l=>put (.ref (l.drop off))|_=>none)
   |none=>none
 | .field T x f=>match TL E T f,σ.ev x with
   |some (off,n,agg), .ag l=>chk (Nat.ble (off+n) l.length) (put (xy agg ((l.drop off).take n)))
   |_,_=>none
 | .indexAddr T x i=>match aIx (σ.ev i)with|some i=>yN E σ T (σ.ev x) i put|none=>none
 | .index T x i=>match aIx (σ.ev i)with|some i=>uo E T (σ.ev x) i put|none=>none
 | .extract x i=>match σ.ev x with
   | .tup l=>(match l[i]? with|some p=>put (xy p.1 p.2)|none=>none)
   |_=>none
 | .call c=>match c.callee with
   | .builtin b=>match b,c.args.toList with
     | .len,[x]=>match c.argTypes.toList with
       |T::_=>aLen E σ T (σ.ev x) put
       |_=>none
     | .append,[x,y]=>match c.argTypes.toList with
       | [T,U]=>match o.dst with|some d=>chk (Nat.beq T U&&Nat.blt d 500000) (bW E σ K T d (σ.ev x) (σ.ev y) next)|none=>none
       |_=>none
     | .max,l=>match aMaxMin true (l.map σ.ev)with|some v=>put v|none=>none
     | .min,l=>match aMaxMin false (l.map σ.ev)with|some v=>put v|none=>none
     |_,_=>none
   | .value (.func f)=>B6 E σ ck f o.dst (c.args.toList.map σ.ev) next
   |_=>none
 |_=>none
end
def maskOf (acc:List Nat)(o:Oper):Nat:=o.after.toList.foldl (fun s e=>bif Region.binds .any e then Nat.lor (Nat.lor s (2 ^ e.on)) (acc.getD e.on 0)else s) 0
def wY:List Oper->List Nat->List Nat
 | [],acc=>acc|o::r,acc=>wY r (acc++[maskOf acc o])
def aliens (m j:Nat):Nat->List (List Nat)->List Nat
 |_,[]=> []|i,k::r=>(bif Nat.beq i j||Nat.testBit m i then []else k)++aliens m j (i+1) r
def eaten (own:List Nat)(eks:List (List Nat)):List Nat:=(eks.flatMap id).filter fun c=> !hasB c own
def xZ:Nat->List Nat->Nat
 |j,[]=>j
 |j,k::r=>let m:=xZ (j+1) r;bif Nat.beq m (j+1)&&Nat.beq k (2 ^ j-1)then j else m
def dOps {ρ:Type}(E:Env)(ck:(fi:Fi)->Aden fi.ps->Option (Oden (zm fi.rs) (ioOf fi.ps)))(ops:List Oper)(ms:List Nat)(keys eks:List (List Nat)):Nat->List Oper->St->(St->Option ρ)->Option ρ
 |_,[],σ,next=>next σ
 |j,o::r,σ,next=>
  let go (τ:St):Option ρ:=dOp E τ ck (eks.getD j []) o fun v N=>chk (noneB (aliens (ms.getD j 0) j 0 keys++eaten (keys.getD j []) eks) (aliens (ms.getD j 0) j 0 keys++eaten (keys.getD j []++eks.getD j []) eks) v N) (dOps E ck ops ms keys eks (j+1) r (τ.addK (eks.getD j []) o.dst v N) next)
  match o.guard with
  |none=>go σ
  |some (g,want)=>match(ops[g]?).bind (·.dst)with
   |some t=>match vg σ.sl t with
    | .cv (.val .bool b)=>bif b then(bif want then go (σ.put (some t) (.cv (.val .bool true)))else dOps E ck ops ms keys eks (j+1) r ((σ.put (some t) (.cv (.val .bool true))).addK [] o.dst (.tup []) []) next)
       else(bif want then dOps E ck ops ms keys eks (j+1) r ((σ.put (some t) (.cv (.val .bool false))).addK [] o.dst (.tup []) []) next else go (σ.put (some t) (.cv (.val .bool false))))
    | .tup []=>dOps E ck ops ms keys eks (j+1) r (σ.addK [] o.dst (.tup []) []) next
    |_=>none
   |none=>none
def lightB (o:Oper):Bool:=o.guard.isNone&&match o.op with| .move _=>true| .slice _ _ _ _ _=>true| .fieldAddr _ _ _=>true| .indexAddr _ _ _=>true|_=>false
def lOp {ρ:Type}(E:Env)(σ:St)(o:Oper)(next:AV->Option ρ):Option ρ:=
 match o.op with
 | .move x=>next (σ.ev x)
 | .slice T x lo hi mx=>chk mx.isNone (Qv E T (σ.ev x) (lo.map σ.ev) (hi.map σ.ev) next)
 | .fieldAddr T x f=>match TL E T f with
   |some (off,n,_)=>chk (Nat.ble 1 n) (match σ.ev x with| .adr c o=>next (.adr c (o+off))| .el c m i o=>next (.el c m i (o+off))|_=>none)
   |none=>none
 | .indexAddr T x i=>match aIx (σ.ev i)with|some i=>yN E σ T (σ.ev x) i next|none=>none
 |_=>none
def RH (ops:Array Oper)(listed:Array Bool):List Nat->Option (Nat×Oper)
 | []=>none
 |i::r=>match ops[i]? with
  |some o=>bif lightB o&&Region.free .any ops listed i then some (i,o)else RH ops listed r
  |none=>none
def tryAll {ρ:Type}(bo:Option ρ->Option ρ->Option ρ)(run:Nat->Option ρ):List Nat->Option ρ
 | []=>none| [i]=>run i|i::j::r=>bo (run i) (tryAll bo run (j::r))
def J2 {ρ:Type}(bo:Option ρ->Option ρ->Option ρ)(E:Env)(ck:(fi:Fi)->Aden fi.ps->Option (Oden (zm fi.rs) (ioOf fi.ps)))(ops:Array Oper):Nat->Array Bool->St->(St->Option ρ)->Option ρ
 |0,listed,σ,next=>bif(Region.ready .any ops listed).isEmpty then next σ else none
 |f+1,listed,σ,next=>match Region.ready .any ops listed with
  | []=>next σ
  | [i]=>match ops[i]? with
    |some o=>aOps E ck ops.toList [o] σ fun τ=>J2 bo E ck ops f (listed.setIfInBounds i true) τ next
    |none=>none
  |i::j::r=>match RH ops listed (i::j::r)with
   |some (k,o)=>lOp E σ o fun v=>J2 bo E ck ops f (listed.setIfInBounds k true) (σ.put o.dst v) next
   |none=>tryAll bo (fun k=>match ops[k]? with
    |some o=>aOps E ck ops.toList [o] σ fun τ=>J2 bo E ck ops f (listed.setIfInBounds k true) τ next
    |none=>none) (i::j::r)
def srcAV (ops:List Oper)(σ:St)(t:Nat):AV:=
 match bU t 0 ops with
 |some (_,p)=>match p.op with| .move x=>σ.ev x|_=> .cv .dead
 |none=>vg σ.sl t
def strangeB (E:Env)(σ:St)(ops:List Oper)(o:Oper):Bool:=
 match NX o with
 |some t=>(JN E ops o).isEmpty&&match o.op with| .store _ _ _=>true|_=>(match srcAV ops σ t with| .cv (.own _)=>true|_=>false)
 |none=>match o.op with
  | .call c=>(match c.callee with
    | .value (.func f)=>Env.flag E (X0 4000 f)||(match E.fn f []with|some fi=> !(ioOf fi.ps).isEmpty|none=>false)
    |_=>false)
  |_=>false
def aDrawA {ρ:Type}(bo:Option ρ->Option ρ->Option ρ)(E:Env)(ck:(fi:Fi)->Aden fi.ps->Option (Oden (zm fi.rs) (ioOf fi.ps)))(ops:Array Oper)(σ:St)(next:St->Option ρ):Option ρ:=
 let l:=ops.toList
 let keys:=l.map (zI E)
 let ms:=wY l []
 let m:=xZ 0 ms
 bif(l.take m).any (strangeB E σ l)then chk (Region.noSelect ops) (J2 bo E ck ops ops.size (Array.replicate ops.size false) σ next)else
 chk (Region.lexB .any ops&&U9 (keys.flatMap id)&&(keys.flatMap id).all (freeB σ)&&eatsOk E ops ms 0 l) (dOps E ck l ms keys (l.map (JN E l)) 0 (l.take m) σ fun τ=>aOps E ck l (l.drop m) τ next)
def light0 (ops:Array Oper):Bool:=
 match ops[0]? with
 |some o=>o.guard.isNone&&(match o.op with| .move _=>true|_=>false)&&Region.noSelect ops&&(Region.ready .any ops (Array.replicate ops.size false)).contains 0&&Region.free .any ops (Array.replicate ops.size false) 0
 |none=>false
def Zu (ops:Array Oper):Array Oper:=ops.mapIdx fun j o=>bif Nat.beq j 0 then o else { o with after:=o.after.push ⟨0, .data⟩}
def aDraw {ρ:Type}(bo:Option ρ->Option ρ->Option ρ)(E:Env)(ck:(fi:Fi)->Aden fi.ps->Option (Oden (zm fi.rs) (ioOf fi.ps)))(ops:Array Oper)(σ:St)(next:St->Option ρ):Option ρ:=
 bif light0 ops then aDrawA bo E ck (Zu ops) σ next else aDrawA bo E ck ops σ next
def St.digM (σ:St)(c d:Nat)(xs:List (Option (List ByteArray)))(i:Nat):St:=
 let τ:=St.new { σ with ob:=yt σ.ob c (.hol .set xs i [.dead])} d (.mp ((xs.getD i none).getD []))
 { τ with ob:=yt τ.ob c (.hol .set xs i [.own d])}
def gEv {ρ:Type}(E:Env)(σ:St)(ops:List Oper):Nat->Operand->(AV->Option ρ)->Option ρ
 |0,_,next=>next (.cv .dead)
 |f+1,x,next=>match x with
  | .tmp t=>match bU t 0 ops with
    |some (_,p)=>match p.op with
     | .move y=>gEv E σ ops f y next
     | .nilCheck y=>gEv E σ ops f y next
     | .load T y=>gEv E σ ops f y fun v=>UN E σ T v next
     | .indexAddr T y i=>gEv E σ ops f y fun v=>gEv E σ ops f i fun j=>(match aIx j with|some j=>yN E σ T v j next|none=>none)
     |_=>next (.cv .dead)
    |none=>next (σ.ev x)
  |x=>next (σ.ev x)
def aDigs {ρ:Type}(E:Env)(σ:St)(ops:List Oper):List Oper->(St->Option ρ)->Option ρ
 | [],next=>next σ
 |o::r,next=>match o.op,o.dst with
  | .load T x,some d=>bif Env.flag E (X0 (T+3000) d)then gEv E σ ops 8 x (fun v=>match v with
     | .el c _ i _=>match zd σ.ob c with
       |some (.row .set xs true _)=>chk (!(Nat.beq c d)&&Nat.blt d 500000) (chk (decide (i<xs.length)) (chk ((xs.getD i none).isSome) (next (σ.digM c d xs i))))
       |_=>none
     |_=>none)else aDigs E σ ops r next
  |_,_=>aDigs E σ ops r next
def appendsB:List Oper->Bool
 | []=>false
 |o::r=>(match o.op with| .call c=>(match c.callee with| .builtin .append=>true|_=>false)|_=>false)||appendsB r
def St.home (σ:St)(ops:Array Oper):St:=bif appendsB ops.toList then σ.settleL ((holesOf σ.ob).filter fun c=> !holeB c)else σ
def seg (E:Env)(k:Nat)(rec_:Rec E)(rs:List (Bool×List RC))(ios:List RC)(res:List ResultVar)(hints:Nat->Option (List Hint)):Nat->List Item->St->Option (Oden (zm rs) ios)
 |0,_,_=>none
 |n+1,its,σ=>match its with
  | .code (.region id ops draw)::r=>
    let run (_:Unit):Option (Oden (zm rs) ios):=aDigs E { σ.home ops with cut:=false} ops.toList ops.toList fun σ=>bif draw then aDraw both E (QF E k rec_) ops σ fun τ=>seg E k rec_ rs ios res hints n r τ
        else aOps E (QF E k rec_) ops.toList ops.toList σ fun τ=>seg E k rec_ rs ios res hints n r τ
    match hints id with
    |some hs=>bif σ.cut then run ()else match σ.meet ios.length hs with|some τ=>rec_ rs ios res hints its τ|none=>none
    |none=>run ()
  | .code .skip::r=>seg E k rec_ rs ios res hints n r σ
  | .code (.seq a b)::r=>seg E k rec_ rs ios res hints n (.code a:: .code b::r) σ
  | .code (.cond c a b)::r=>match c,σ.ev c with
    | .tmp t, .cv (.val .bool x)=>bif x then seg E k rec_ rs ios res hints n (.code a::r) (σ.put (some t) (.cv (.val .bool true)))else seg E k rec_ rs ios res hints n (.code b::r) (σ.put (some t) (.cv (.val .bool false)))
    | .tmp t, .cv .unk=>both (seg E k rec_ rs ios res hints n (.code a::r) (σ.put (some t) (.cv (.val .bool true)))) (seg E k rec_ rs ios res hints n (.code b::r) (σ.put (some t) (.cv (.val .bool false))))
    | .const _, .cv (.val .bool x)=>bif x then seg E k rec_ rs ios res hints n (.code a::r) σ else seg E k rec_ rs ios res hints n (.code b::r) σ
    |_,_=>none
  | .code (.block id c)::r=>seg E k rec_ rs ios res hints n (.code c:: .inBlock id::r) σ
  | .inBlock _::r=>seg E k rec_ rs ios res hints n r σ
  | .code (.loop c)::r=>seg E k rec_ rs ios res hints n (.code c:: .inLoop c::r) σ
  | .inLoop c::r=>seg E k rec_ rs ios res hints n (.code c:: .inLoop c::r) σ
  | .code (.exit id)::r=>match exitTo id r with|some r' =>seg E k rec_ rs ios res hints n r' σ|none=>none
  | .code .ret::_=>aRetC E res rs σ ios
  | []=>aRetC E res rs σ ios
  |_=>none
noncomputable def aRun (E:Env)(k:Nat):Rec E:=
 Nat.rec (motive:=fun _=>Rec E) (fun _ _ _ _ _ _=>none) (fun k ih rs ios res hints its σ=>seg E k ih rs ios res hints 4000 its σ) k
noncomputable def aFn (E:Env)(fi:Fi)(k:Nat)(x:Aden fi.ps):Option (Oden (zm fi.rs) (ioOf fi.ps)):=QF E k (aRun E k) fi x
theorem beqN (a b:Nat):Nat.beq a b=decide (a=b):=by
 rw[Bool.eq_iff_iff];simp[Nat.beq_eq]
theorem vw (l:List (Nat×Ob))(c d:Nat):zd (fq l c) d=if d=c then none else zd l d:=by
 induction l with
 |nil=>simp[fq,zd]
 |cons p l ih=>
  obtain⟨e,o⟩:=p
  simp only[fq,zd,beqN]
  by_cases h:e=c
  ·subst h
   simp only[decide_true,zgJ,ih]
   by_cases h2:d=e
   ·simp[h2]
   ·simp[h2,Ne.symm h2]
  ·simp only[h,decide_false,zgK,zd,beqN,ih]
   by_cases h2:e=d
   ·subst h2;simp[h]
   ·simp[h2]
theorem jy (r:Rn)(l:List (Nat×Ob))(d:Nat):zd (Mq r l) d=(zd l d).map (Ob.map r):=by
 induction l with
 |nil=>rfl
 |cons p l ih=>
  obtain⟨e,o⟩:=p
  show zd ((e,o.map r)::Mq r l) d=_
  simp only[zd,beqN]
  by_cases h:e=d<;>simp[h,ih]
theorem yj (l:List (Nat×Ob))(c d:Nat)(o:Ob):zd ((c,o)::l) d=if c=d then some o else zd l d:=by
 simp only[zd,beqN];by_cases h:c=d<;>simp[h]
theorem yW (l:List (Nat×Ob))(c d:Nat)(o:Ob):zd (yt l c o) d=if c=d then some o else zd l d:=by
 unfold yt
 rw[yj,vw]
 by_cases h:c=d
 ·simp[h]
 ·simp[h,Ne.symm h]
theorem gz:∀(l:List AV) (n:Nat),vg l n=(l[n]?).getD (.cv .dead)
 | [],n=>by simp[vg]
 |a::l,0=>by simp[vg]
 |a::l,n+1=>by simp[vg,gz l n]
theorem vj:∀(l:List AV) (n:Nat) (b:AV),gV l n b=l.set n b
 | [],n,b=>rfl
 |a::l,0,b=>rfl
 |a::l,n+1,b=>by simp[gV,vj l n b]
def CVR (w:World)(Im:Nat->Prop)(hd:Nat->Value)(v:Value):CV->Prop
 | .dead=>True| .nil=>v= .slice none 0 0| .val t x=>VR w Im t x [v]| .own c=>v=hd c| .unk=>∃b,v= .bool b
def CVs (w:World)(Im:Nat->Prop)(hd:Nat->Value):List Value->List CV->Prop
 | [],[]=>True|v::vs,c::cs=>CVR w Im hd v c/\CVs w Im hd vs cs|_,_=>False
def PR (w:World)(Im:Nat->Prop)(hd:Nat->Value)(v:Value)(p:Bool×List CV):Prop:=
 match p with
 |(true,l)=>∃vs,v= .agg vs.toArray/\CVs w Im hd vs l
 |(false,l)=>match l with| [c]=>CVR w Im hd v c|_=>True
def PRs (w:World)(Im:Nat->Prop)(hd:Nat->Value):List Value->List (Bool×List CV)->Prop
 | [],[]=>True|v::vs,c::cs=>PR w Im hd v c/\PRs w Im hd vs cs|_,_=>False
def Value.top:Value->Option (Nat×Nat)
 | .slice (some ⟨b,f,none⟩) _ _=>some (b,f)| .pointer (some ⟨b,f,none⟩)=>some (b,f)|_=>none
def RefR (w:World)(Im:Nat->Prop)(hd:Nat->Value)(v:Value)(l:List CV):Prop:=
 xO l=true/\∃b o vs,Im b/\v= .pointer (some ⟨b,o,none⟩)/\At w b o vs/\CVs w Im hd vs l
def RefRs (w:World)(Im:Nat->Prop)(hd:Nat->Value):List Value->List (List CV)->Prop
 | [],[]=>True|v::vs,c::cs=>RefR w Im hd v c/\RefRs w Im hd vs cs|_,_=>False
def CapA (w:World)(Im:Nat->Prop)(hd:Nat->Value)(v:Value):List CV->Prop
 | .own c::_=>∃b,hd c= .pointer (some ⟨b,0,none⟩)/\v= .pointer (some ⟨b,0,none⟩)
 | .dead::_=>True
 |l=>RefR w Im (fun _=>undef) v l
def CapAs (w:World)(Im:Nat->Prop)(hd:Nat->Value):List Value->List (List CV)->Prop
 | [],[]=>True|v::vs,c::cs=>CapA w Im hd v c/\CapAs w Im hd vs cs|_,_=>False
theorem RefR.capA {w:World}{Im:Nat->Prop}{hd:Nat->Value}{v:Value}{l:List CV}(h:RefR w Im (fun _=>undef) v l):CapA w Im hd v l:=by
 match l,h with
 | [],h=>exact h
 | .own c::r,h=>obtain⟨h,_⟩:=h;cases h
 | .dead::r,h=>trivial
 | .nil::r,h=>exact h
 | .val t x::r,h=>exact h
 | .unk::r,h=>exact h
theorem RefRs.capAs {w:World}{Im:Nat->Prop}{hd:Nat->Value}:∀ {vs:List Value} {l:List (List CV)},RefRs w Im (fun _=>undef) vs l->CapAs w Im hd vs l
 | [],[],_=>trivial
 |v::vs,c::cs,h=>⟨h.1.capA,RefRs.capAs h.2⟩
 | [],_::_,h=>h.elim
 |_::_,[],h=>h.elim
def AVR (w:World)(Im:Nat->Prop)(hd:Nat->Value)(v:Value):AV->Prop
 | .cv c=>CVR w Im hd v c
 | .ag l=>∃vs,v= .agg vs.toArray/\CVs w Im hd vs l
 | .adr c o=>∃b,hd c= .pointer (some ⟨b,0,none⟩)/\v= .pointer (some ⟨b,o,none⟩)
 | .el c n i o=>∃b f,Value.top (hd c)=some (b,f)/\v= .pointer (some ⟨b,f+i*n+o,none⟩)
 | .ref l=>RefR w Im (fun _=>undef) v l
 | .fn f caps=>∃ps,v= .func (.func f) #[] ps.toArray/\CapAs w Im hd ps caps
 | .tup l=>∃vs,v= .tuple vs.toArray/\PRs w Im hd vs l
def rowP (w:World)(Im:Nat->Prop)(t:Ty)(deep:Bool):t.den->List Value->List Nat->Prop:=
 if deep then OT w t else fun x cs L=>VR w Im t x cs/\L=[]
def IEnt (w:World)(S:Nat->Prop):List MapEntry->List (Int×List Int)->Prop
 | [],[]=>True
 |e::es,p::l=>e.key= .int .i64 p.1/\VR w S (.slice (.int .i64)) p.2 [e.val]/\IEnt w S es l
 |_,_=>False
theorem IEnt.mono {w w' :World}{S S' :Nat->Prop}(hw:Same S w w')(hs:∀b,S b->S' b):∀ {es:List MapEntry} {l:List (Int×List Int)},IEnt w S es l->IEnt w' S' es l
 | [],[],_=>trivial
 |e::es,p::l,h=>⟨h.1,VR.mono hw hs h.2.1,IEnt.mono hw hs h.2.2⟩
 | [],_::_,h=>h.elim
 |_::_,[],h=>h.elim
def ImR (w:World)(S:Nat->Prop)(v:Value)(L:List Nat)(l:List (Int×List Int)):Prop:=∃b es ck,v= .map (some b)/\L=[b]/\w.heap[b]? =some (.map es ck)/\IEnt w S es.toList l
def ObR (w:World)(Im:Nat->Prop)(hd:Nat->Value)(v:Value)(L:List Nat):Ob->Prop
 | .row t xs deep cn=>ORow w t.sz (rowP w Im t deep) v xs L/\(cn=true->xs=[]->v= .slice none 0 0)
 | .arr t xs=>∃b cs E,v= .pointer (some ⟨b,0,none⟩)/\w.heap[b]? =some (.cells cs E (0,0))/\cs.size=xs.length*t.sz/\L=[b]/\t.flat=true/\OL t.sz (rowP w Im t false) xs cs.toList []
 | .box l=>∃b cs E,v= .pointer (some ⟨b,0,none⟩)/\w.heap[b]? =some (.cells cs E (0,0))/\L=[b]/\CVs w Im hd cs.toList l
 | .hole t xs i c=>∃b f cap cs E L1 L2 u,v= .slice (some ⟨b,f,none⟩) xs.length cap/\w.heap[b]? =some (.cells cs E (0,0))/\f+cap*1<=cs.size/\xs.length<=cap/\i<xs.length/\L=b::(L1++L2)/\
    OL 1 (OT w (.slice t)) (xs.take i) ((cs.toList.drop f).take i) L1/\OL 1 (OT w (.slice t)) (xs.drop (i+1)) ((cs.toList.drop f).drop (i+1)) L2/\(cs.toList.drop f)[i]? =some u/\CVR w Im hd u c
 | .tl t xs n=>(v= .slice none 0 0/\xs=[]/\L=[])\/∃b f cap cs E Li,v= .slice (some ⟨b,f,none⟩) xs.length cap/\w.heap[b]? =some (.cells cs E (0,0))/\f+cap*t.sz<=cs.size/\xs.length<=cap/\L=b::Li/\
    OL t.sz (OT w t) (xs.drop n) ((cs.toList.drop f).drop (n*t.sz)) Li
 | .hol t xs i l=>∃b f cap cs E L1 L2,v= .slice (some ⟨b,f,none⟩) xs.length cap/\w.heap[b]? =some (.cells cs E (0,0))/\f+cap*t.sz<=cs.size/\xs.length<=cap/\i<xs.length/\L=b::(L1++L2)/\
    OL t.sz (OT w t) (xs.take i) ((cs.toList.drop f).take (i*t.sz)) L1/\OL t.sz (OT w t) (xs.drop (i+1)) ((cs.toList.drop f).drop (i*t.sz+t.sz)) L2/\CVs w Im hd (((cs.toList.drop f).drop (i*t.sz)).take t.sz) l
 | .mp l=>SetR w v L (some l)
 | .im l=>ImR w Im v L l
structure Gw where
 p:World->Prop
 dr:Bool
structure KeptW (dr:Bool)(w:World)(mine:Nat->Prop)(w' :World):Prop where
 os:w'.os=w.os
 tape:w'.tape=w.tape
 output:w'.output=w.output
 size:w.heap.size<=w'.heap.size
 block:∀k,k<w.heap.size->¬mine k->w'.heap[k]? =w.heap[k]?
 drawn:dr=true->w.drawn<=w'.drawn
structure Base (gw:Gw) where
 w:World
 mine:Nat->Prop
 up:∀b,w.heap.size<=b->mine b
 hg:∀w',KeptW gw.dr w mine w' ->gw.p w'
 hs:List Value
abbrev Kept {gw:Gw}(B:Base gw)(w' :World):Prop:=KeptW gw.dr B.w B.mine w'
theorem Kept.refl {gw:Gw}(B:Base gw):Kept B B.w:=⟨rfl,rfl,rfl,zgC _,fun _ _ _=>rfl,fun _=>zgC _⟩
theorem KeptW.trans {dr:Bool}{w u w' :World}{m n:Nat->Prop}(h:KeptW dr w m u)(k:KeptW dr u n w')(hm:∀b,n b->m b):KeptW dr w m w' :=
 ⟨k.os.trans h.os,k.tape.trans h.tape,k.output.trans h.output,zg1 h.size k.size,fun i hi hn=>(k.block i (Nat.lt_of_lt_of_le hi h.size) (fun hc=>hn (hm i hc))).trans (h.block i hi hn),fun e=>zg1 (h.drawn e) (k.drawn e)⟩
theorem KeptW.below {dr:Bool}{w u w' :World}{m:Nat->Prop}(h:KeptW dr w m u)(k:Below u.heap.size u w')(hdr:dr=true->u.drawn<=w'.drawn):KeptW dr w m w' :=
 ⟨k.os.trans h.os,k.tape.trans h.tape,k.output.trans h.output,zg1 h.size k.size,fun i hi hn=>(k.block i (Nat.lt_of_lt_of_le hi h.size)).trans (h.block i hi hn),fun e=>zg1 (h.drawn e) (hdr e)⟩
theorem KeptW.drew {dr:Bool}{w u:World}{m:Nat->Prop}(h:KeptW dr w m u):KeptW dr w m u.drew:=⟨h.os,h.tape,h.output,h.size,h.block,fun e=>zg1 (h.drawn e) (Nat.le_succ _)⟩
theorem KeptW.alloc {dr:Bool}{w u:World}{m:Nat->Prop}(h:KeptW dr w m u)(o:Obj):KeptW dr w m (u.alloc o):=
 h.below ((Below.refl _ _).alloc (zgC _) o) (fun _=>zgC _)
theorem Kept.fresh {gw:Gw}{B:Base gw}{w:World}(h:Kept B w){b:Nat}(hb:w.heap.size<=b):B.mine b:=B.up b (zg1 h.size hb)
structure SRi {gw:Gw}(w0:Base gw)(S0:Nat->Prop)(σ:St)(a:Act)(w:World)(Im:Nat->Prop)(hd:Nat->Value)(bl:Nat->List Nat):Prop where
 below:Kept w0 w
 sub:∀b,S0 b->Im b
 new:∀b,Im b->S0 b\/w0.mine b
 lt:∀b,Im b->b<w.heap.size
 nodef:a.defers=[]
 size:a.tmps.size=σ.sl.length
 slots:∀i av,σ.sl[i]? =some av->AVR w Im hd (a.tmps.getD i undef) av
 objs:∀c o,zd σ.ob c=some o->ObR w Im hd (hd c) (bl c) o
 own:∀c o,zd σ.ob c=some o->(bl c).Nodup/\∀b∈bl c,w0.mine b/\b<w.heap.size/\¬Im b
 apart:∀c o d p,zd σ.ob c=some o->zd σ.ob d=some p->c≠d->∀b∈bl c,b∉bl d
 io:∀j v,w0.hs[j]? =some v->hd (500000+j)=v
def SR {gw:Gw}(w0:Base gw)(S0:Nat->Prop)(σ:St)(a:Act)(w:World):Prop:=∃Im hd bl,SRi w0 S0 σ a w Im hd bl
structure Tell (w w' :World)(Im Im' :Nat->Prop)(hd hd' :Nat->Value)(r:Rn):Prop where
 same:Same Im w w'
 sub:∀b,Im b->Im' b
 own:∀c,CVR w' Im' hd' (hd c) (r.own c)
 adr:∀c o v,AVR w Im hd v (.adr c o)->AVR w' Im' hd' v (r.adr c o)
 el:∀c n i o v,AVR w Im hd v (.el c n i o)->AVR w' Im' hd' v (r.el c n i o)
section
variable {w w' :World} {Im Im' :Nat->Prop} {hd hd' :Nat->Value} {r:Rn}
theorem CVR.tell (h:Tell w w' Im Im' hd hd' r){v:Value}:∀ {c:CV},CVR w Im hd v c->CVR w' Im' hd' v (c.map r)
 | .dead,_=>trivial
 | .nil,e=>e
 | .val t x,e=>VR.mono h.same h.sub e
 | .own c,e=>by cases(show v=hd c from e);exact h.own c
 | .unk,e=>e
theorem CVs.tell (h:Tell w w' Im Im' hd hd' r):∀ {vs:List Value} {l:List CV},CVs w Im hd vs l->CVs w' Im' hd' vs (l.map (CV.map r))
 | [],[],_=>trivial
 |v::vs,c::cs,e=>⟨CVR.tell h e.1,CVs.tell h e.2⟩
 | [],_::_,e=>e.elim
 |_::_,[],e=>e.elim
theorem PR.tell (h:Tell w w' Im Im' hd hd' r){v:Value}:∀ {p:Bool×List CV},PR w Im hd v p->PR w' Im' hd' v (p.1,p.2.map (CV.map r))
 |(true,l),e=>by obtain⟨vs,e1,e2⟩:=e;exact⟨vs,e1,e2.tell h⟩
 |(false,[]),_=>trivial
 |(false,[c]),e=>CVR.tell h (c:=c) e
 |(false,_::_::_),_=>trivial
theorem PRs.tell (h:Tell w w' Im Im' hd hd' r):∀ {vs:List Value} {l:List (Bool×List CV)},PRs w Im hd vs l->PRs w' Im' hd' vs (l.map fun p=>(p.1,p.2.map (CV.map r)))
 | [],[],_=>trivial
 |v::vs,c::cs,e=>⟨PR.tell h e.1,PRs.tell h e.2⟩
 | [],_::_,e=>e.elim
 |_::_,[],e=>e.elim
theorem CVs.plain (hs:Same Im w w')(hi:∀b,Im b->Im' b):∀ {vs:List Value} {l:List CV},CVs w Im (fun _=>undef) vs l->CVs w' Im' (fun _=>undef) vs l
 | [],[],_=>trivial
 |v::vs,c::cs,e=>by
  refine⟨?_,CVs.plain hs hi e.2⟩
  cases c with
  |dead=>trivial
  |nil=>exact e.1
  |val t x=>exact VR.mono hs hi e.1
  |own c=>exact e.1
  |unk=>exact e.1
 | [],_::_,e=>e.elim
 |_::_,[],e=>e.elim
theorem RefR.tell (hs:Same Im w w')(hi:∀b,Im b->Im' b){v:Value}{l:List CV}(e:RefR w Im (fun _=>undef) v l):RefR w' Im' (fun _=>undef) v l:=by
 obtain⟨pl,b,o,vs,hb,e1,e2,e3⟩:=e
 exact⟨pl,b,o,vs,hi b hb,e1,e2.same (hs b hb),CVs.plain hs hi e3⟩
theorem RefRs.tell (hs:Same Im w w')(hi:∀b,Im b->Im' b):∀ {vs:List Value} {l:List (List CV)},RefRs w Im (fun _=>undef) vs l->RefRs w' Im' (fun _=>undef) vs l
 | [],[],_=>trivial
 |v::vs,c::cs,e=>⟨RefR.tell hs hi e.1,RefRs.tell hs hi e.2⟩
 | [],_::_,e=>e.elim
 |_::_,[],e=>e.elim
theorem CapA.tell (h:Tell w w' Im Im' hd hd' r){v:Value}{l:List CV}(e:CapA w Im hd v l):CapA w' Im' hd' v (N3 r l):=by
 match l,e with
 | [],e=>exact(RefR.tell h.same h.sub e).capA
 | .nil::r,e=>exact(RefR.tell h.same h.sub e).capA
 | .val t x::r,e=>exact(RefR.tell h.same h.sub e).capA
 | .unk::r,e=>exact(RefR.tell h.same h.sub e).capA
 | .dead::r,e=>trivial
 | .own c::l,e=>
   have k:=h.adr c 0 v e
   show CapA w' Im' hd' v (match r.adr c 0 with| .adr d 0=> .own d::l.map (CV.map r)| .ref m=>m|_=> [.dead])
   generalize r.adr c 0=z at k⊢
   split
   ·exact k
   ·exact RefR.capA k
   ·trivial
theorem CapAs.tell (h:Tell w w' Im Im' hd hd' r):∀ {vs:List Value} {l:List (List CV)},CapAs w Im hd vs l->CapAs w' Im' hd' vs (l.map (N3 r))
 | [],[],_=>trivial
 |v::vs,c::cs,e=>⟨CapA.tell h e.1,CapAs.tell h e.2⟩
 | [],_::_,e=>e.elim
 |_::_,[],e=>e.elim
theorem AVR.tell (h:Tell w w' Im Im' hd hd' r){v:Value}:∀ {av:AV},AVR w Im hd v av->AVR w' Im' hd' v (av.map r)
 | .cv c,e=>CVR.tell h (c:=c) e
 | .ag l,e=>by obtain⟨vs,e1,e2⟩:=e;exact⟨vs,e1,e2.tell h⟩
 | .adr c o,e=>h.adr c o v e
 | .el c n i o,e=>h.el c n i o v e
 | .ref l,e=>RefR.tell h.same h.sub e
 | .fn f caps,e=>by obtain⟨ps,e1,e2⟩:=e;exact⟨ps,e1,e2.tell h⟩
 | .tup l,e=>by obtain⟨vs,e1,e2⟩:=e;exact⟨vs,e1,e2.tell h⟩
theorem OL.mapP {α:Type}{n:Nat}{p q:α->List Value->List Nat->Prop}{xs:List α}{cs:List Value}{L:List Nat}(h:OL n p xs cs L)(hq:∀x c l,(∀b∈l,b∈L)->p x c l->q x c l):OL n q xs cs L:=h.imp fun x _ c l hl hp=>hq x c l hl hp
theorem rowP.tell (hs:Same Im w w')(hi:∀b,Im b->Im' b){t:Ty}{deep:Bool}{x:t.den}{cs:List Value}{L:List Nat}(hL:∀b∈L,w'.heap[b]? =w.heap[b]?)(e:rowP w Im t deep x cs L):rowP w' Im' t deep x cs L:=by
 cases deep with
 |true=>exact OT.same e hL
 |false=>exact⟨VR.mono hs hi e.1,e.2⟩
theorem ObR.tell (h:Tell w w' Im Im' hd hd' r){v:Value}{L:List Nat}(hL:∀b∈L,w'.heap[b]? =w.heap[b]?):∀ {o:Ob},ObR w Im hd v L o->ObR w' Im' hd' v L (o.map r)
 | .row t xs deep cn,e=>by
   refine⟨?_,e.2⟩
   rcases e.1 with h1|⟨b,f,cap,cs,E,Li,e1,e2,e3,e4,e5,e6⟩
   ·exact .inl h1
   ·subst e5
    refine .inr ⟨b,f,cap,cs,E,Li,e1,by rw[hL b (by simp)];exact e2,e3,e4,rfl,e6.mapP fun x c l hl hp=>rowP.tell h.same h.sub (fun b hb=>hL b (by simp[hl b hb])) hp⟩
 | .arr t xs,e=>by
   obtain⟨b,cs,E,e1,e2,e3,rfl,hf,e5⟩:=e
   exact⟨b,cs,E,e1,by rw[hL b (by simp)];exact e2,e3,rfl,hf,e5.mapP fun x c l hl hp=>rowP.tell h.same h.sub (fun b hb=>by have:=hl b hb;simp at this) hp⟩
 | .box l,e=>by
   obtain⟨b,cs,E,e1,e2,rfl,e5⟩:=e
   exact⟨b,cs,E,e1,by rw[hL b (by simp)];exact e2,rfl,e5.tell h⟩
 | .hole t xs i c,e=>by
   obtain⟨b,f,cap,cs,E,L1,L2,u,e1,e2,e3,e4,e5,rfl,e6,e7,e8,e9⟩:=e
   exact⟨b,f,cap,cs,E,L1,L2,u,e1,by rw[hL b (by simp)];exact e2,e3,e4,e5,rfl,e6.mapP fun x c l hl hp=>OT.same hp (fun b hb=>hL b (by simp[hl b hb])),
    e7.mapP fun x c l hl hp=>OT.same hp (fun b hb=>hL b (by simp[hl b hb])),e8,CVR.tell h e9⟩
 | .hol t xs i l,e=>by
   obtain⟨b,f,cap,cs,E,L1,L2,e1,e2,e3,e4,e5,rfl,e6,e7,e8⟩:=e
   exact⟨b,f,cap,cs,E,L1,L2,e1,by rw[hL b (by simp)];exact e2,e3,e4,e5,rfl,e6.mapP fun x c l hl hp=>OT.same hp (fun b hb=>hL b (by simp[hl b hb])),
    e7.mapP fun x c l hl hp=>OT.same hp (fun b hb=>hL b (by simp[hl b hb])),CVs.tell h e8⟩
 | .mp l,e=>SetR.same (x:=some l) e hL
 | .im l,e=>by
   obtain⟨b,es,ck,e1,rfl,e2,e3⟩:=e
   exact⟨b,es,ck,e1,rfl,by rw[hL b (by simp)];exact e2,e3.mono h.same h.sub⟩
 | .tl t xs n,e=>by
   rcases e with h1|⟨b,f,cap,cs,E,Li,e1,e2,e3,e4,rfl,e6⟩
   ·exact .inl h1
   ·exact .inr ⟨b,f,cap,cs,E,Li,e1,by rw[hL b (by simp)];exact e2,e3,e4,rfl,e6.mapP fun x c l hl hp=>OT.same hp (fun b hb=>hL b (by simp[hl b hb]))⟩
end
theorem Tell.id (w:World)(Im:Nat->Prop)(hd:Nat->Value):Tell w w Im Im hd hd ⟨.own, .adr, .el⟩:=
 ⟨Same.refl _ _,fun _ h=>h,fun _=>rfl,fun _ _ _ h=>h,fun _ _ _ _ _ h=>h⟩
theorem Tell.keep {w w' :World}{Im Im' :Nat->Prop}(hd:Nat->Value)(hs:Same Im w w')(hi:∀b,Im b->Im' b):Tell w w' Im Im' hd hd ⟨.own, .adr, .el⟩:=
 ⟨hs,hi,fun _=>rfl,fun _ _ _ h=>h,fun _ _ _ _ _ h=>h⟩
theorem CV.map_id (c:CV):c.map ⟨.own, .adr, .el⟩=c:=by cases c<;>rfl
theorem CV.map_id' :CV.map ⟨.own, .adr, .el⟩=id:=by funext c;exact c.map_id
theorem zdt (l:List CV):N3 ⟨.own, .adr, .el⟩ l=l:=by
 match l with
 | []=>rfl
 | .own c::l=>show .own c::l.map (CV.map ⟨.own, .adr, .el⟩)=_;rw[CV.map_id',List.map_id]
 | .dead::l=>rfl
 | .nil::l=>rfl
 | .val t x::l=>rfl
 | .unk::l=>rfl
theorem GX:N3 ⟨.own, .adr, .el⟩=id:=by funext l;exact zdt l
theorem AV.map_id (a:AV):a.map ⟨.own, .adr, .el⟩=a:=by
 cases a<;>simp[AV.map,CV.map_id,CV.map_id',GX]
theorem Ob.map_id (o:Ob):o.map ⟨.own, .adr, .el⟩=o:=by cases o<;>simp[Ob.map,CV.map_id',CV.map_id]
theorem SRi.world {gw:Gw}{w0:Base gw}{S0:Nat->Prop}{σ:St}{a:Act}{w w' :World}{Im:Nat->Prop}{hd:Nat->Value}{bl:Nat->List Nat}
 (h:SRi w0 S0 σ a w Im hd bl) (hw:∀b,b<w.heap.size->w'.heap[b]? =w.heap[b]?) (hsz:w.heap.size<=w'.heap.size) (hb:Kept w0 w'):SRi w0 S0 σ a w' Im hd bl:=by
 have T:Tell w w' Im Im hd hd ⟨.own, .adr, .el⟩:=Tell.keep hd (fun b hb=>hw b (h.lt b hb)) fun _ x=>x
 refine⟨hb,h.sub,h.new,fun b hb=>Nat.lt_of_lt_of_le (h.lt b hb) hsz,h.nodef,h.size,fun i av hi=> ?_,fun c o hc=> ?_,fun c o hc=> ?_,h.apart,h.io⟩
 ·have:=(h.slots i av hi).tell T;rwa [AV.map_id]at this
 ·have:=(h.objs c o hc).tell T (fun b hb=>hw b ((h.own c o hc).2 b hb).2.1);rwa [Ob.map_id]at this
 ·exact⟨(h.own c o hc).1,fun b hb=>⟨((h.own c o hc).2 b hb).1,Nat.lt_of_lt_of_le ((h.own c o hc).2 b hb).2.1 hsz,((h.own c o hc).2 b hb).2.2⟩⟩
theorem SRi.sub_ {gw:Gw}{w0:Base gw}{S0:Nat->Prop}{σ:St}{a:Act}{w:World}{Im Im' :Nat->Prop}{hd:Nat->Value}{bl:Nat->List Nat}{c:Nat}{r:Rn}
 (h:SRi w0 S0 σ a w Im hd bl) (T:Tell w w Im Im' hd hd r) (hi:∀b,Im' b->Im b\/b∈bl c) (hc:(∃b,Im' b/\¬Im b)->∃o,zd σ.ob c=some o):SRi w0 S0 (σ.sub c r) a w Im' hd bl:=by
 have hob:∀d p,zd (σ.sub c r).ob d=some p->d≠c/\∃o,zd σ.ob d=some o/\p=o.map r:=by
  intro d p hp
  have hp' :zd (Mq r (fq σ.ob c)) d=some p:=hp
  rw[jy,vw]at hp'
  by_cases e:d=c
  ·simp[e]at hp'
  ·simp only[e,if_false]at hp'
   obtain⟨o,ho,rfl⟩:=zgQ.1 hp'
   exact⟨e,o,ho,rfl⟩
 have hIm:∀b,Im' b->∀d o,d≠c->zd σ.ob d=some o->b∉bl d:=by
  intro b hb d o hd ho hbl
  rcases hi b hb with h1|h1
  ·exact((h.own d o ho).2 b hbl).2.2 h1
  ·by_cases h2:Im b
   ·exact((h.own d o ho).2 b hbl).2.2 h2
   ·obtain⟨oc,hoc⟩:=hc ⟨b,hb,h2⟩
    exact h.apart c oc d o hoc ho (Ne.symm hd) b h1 hbl
 refine⟨h.below,fun b hb=>T.sub b (h.sub b hb),fun b hb=> ?_,fun b hb=> ?_,h.nodef, ?_,fun i av hi=> ?_,fun d p hp=> ?_,fun d p hp=> ?_,fun d p e q hp hq hne=> ?_,h.io⟩
 ·rcases hi b hb with h1|h1
  ·exact h.new b h1
  ·by_cases h2:Im b
   ·exact h.new b h2
   ·obtain⟨oc,hoc⟩:=hc ⟨b,hb,h2⟩
    exact .inr ((h.own c oc hoc).2 b h1).1
 ·rcases hi b hb with h1|h1
  ·exact h.lt b h1
  ·by_cases h2:Im b
   ·exact h.lt b h2
   ·obtain⟨oc,hoc⟩:=hc ⟨b,hb,h2⟩
    exact((h.own c oc hoc).2 b h1).2.1
 ·show a.tmps.size=(σ.sl.map (AV.map r)).length;rw[zgN];exact h.size
 ·have hi' :(σ.sl.map (AV.map r))[i]? =some av:=hi
  rw[List.getElem?_map]at hi'
  obtain⟨u,hu,rfl⟩:=zgQ.1 hi'
  exact(h.slots i u hu).tell T
 ·obtain⟨hne,o,ho,rfl⟩:=hob d p hp
  exact(h.objs d o ho).tell T fun _ _=>rfl
 ·obtain⟨hne,o,ho,rfl⟩:=hob d p hp
  exact⟨(h.own d o ho).1,fun b hb=>⟨((h.own d o ho).2 b hb).1,((h.own d o ho).2 b hb).2.1,fun hb2=>hIm b hb2 d o hne ho hb⟩⟩
 ·obtain⟨_,o,ho,rfl⟩:=hob d p hp
  obtain⟨_,o',ho',rfl⟩:=hob e q hq
  exact h.apart d o e o' ho ho' hne
theorem CVR.wider {w:World}{Im Im' :Nat->Prop}{hd:Nat->Value}{v:Value}(hi:∀b,Im b->Im' b):∀ {c:CV},CVR w Im hd v c->CVR w Im' hd v c
 | .dead,_=>trivial| .nil,e=>e| .val t x,e=>VR.mono (Same.refl _ _) hi e| .own c,e=>e| .unk,e=>e
theorem SRi.kill {gw:Gw}{w0:Base gw}{S0:Nat->Prop}{σ:St}{a:Act}{w:World}{Im:Nat->Prop}{hd:Nat->Value}{bl:Nat->List Nat}(h:SRi w0 S0 σ a w Im hd bl)(c:Nat):SRi w0 S0 (σ.kill c) a w Im hd bl:=by
 refine h.sub_ ⟨Same.refl _ _,fun _ x=>x,fun d=> ?_,fun d o v e=> ?_,fun d n i o v e=> ?_⟩ (fun b hb=> .inl hb) (fun⟨b,h1,h2⟩=>(h2 h1).elim)
 ·show CVR w Im hd (hd d) (bif Nat.beq d c then .dead else .own d);cases Nat.beq d c<;>first|rfl|trivial
 ·show AVR w Im hd v (bif Nat.beq d c then .cv .dead else .adr d o);cases Nat.beq d c<;>first|exact e|trivial
 ·show AVR w Im hd v (bif Nat.beq d c then .cv .dead else .el d n i o);cases Nat.beq d c<;>first|exact e|trivial
theorem ObR.read {w:World}{Im:Nat->Prop}{hd:Nat->Value}{v:Value}{L:List Nat}{t:Ty}{xs:List t.den}{d n:Bool}(h:ObR w Im hd v L (.row t xs d n)):VR w (fun b=>Im b\/b∈L) (.slice t) xs [v]:=by
 rcases h.1 with⟨rfl,rfl,rfl⟩|⟨b,f,cap,cs,E,Li,rfl,hb,h1,h2,rfl,hl⟩
 ·exact⟨none,0,rfl,zgC _, .inl rfl⟩
 ·refine⟨_,cap,rfl,h2, .inr ⟨b,f,rfl, .inr (by simp),fun i x hx=> ?_⟩⟩
  obtain⟨l,hp,hl2,hle⟩:=hl.get i x hx
  rw[List.drop_drop]at hp
  have hv:VR w (fun b' =>Im b' \/b' ∈b::Li) t x ((cs.toList.drop (f+i*t.sz)).take t.sz):=by
   cases d with
   |true=>exact OT.read (S:=fun b' =>Im b' \/b' ∈b::Li) hp fun b' hb' => .inr (by simp[hl2 b' hb'])
   |false=>exact VR.mono (Same.refl _ _) (fun b hb=> .inl hb) hp.1
  exact⟨_,hv.sz,ud hb (f+i*t.sz) t.sz,hv⟩
theorem SRi.freeze {gw:Gw}{w0:Base gw}{S0:Nat->Prop}{σ:St}{a:Act}{w:World}{Im:Nat->Prop}{hd:Nat->Value}{bl:Nat->List Nat}(h:SRi w0 S0 σ a w Im hd bl)(c:Nat):
 ∃Im',SRi w0 S0 (σ.freeze c) a w Im' hd bl/\(∀b,Im b->Im' b)/\(∀b,Im' b->Im b\/b∈bl c)/\(∀o,zd σ.ob c=some o->∀b,b∈bl c->Im' b):=by
 have gone:∀o,zd σ.ob c=some o->∃Im',SRi w0 S0 (σ.kill c) a w Im' hd bl/\(∀b,Im b->Im' b)/\(∀b,Im' b->Im b\/b∈bl c)/\(∀b,b∈bl c->Im' b):=fun o hc=>by
  refine⟨fun b=>Im b\/b∈bl c,h.sub_ ⟨Same.refl _ _,fun _ x=> .inl x,fun e=> ?_,fun e o v k=> ?_,fun e n i o v k=> ?_⟩ (fun b hb=>hb) (fun _=>⟨_,hc⟩),fun _ x=> .inl x,fun _ x=>x,fun b hb=> .inr hb⟩
  ·show CVR w _ hd (hd e) (bif Nat.beq e c then .dead else .own e);cases Nat.beq e c<;>first|rfl|trivial
  ·show AVR w _ hd v (bif Nat.beq e c then .cv .dead else .adr e o);cases Nat.beq e c<;>first|exact k|trivial
  ·show AVR w _ hd v (bif Nat.beq e c then .cv .dead else .el e n i o);cases Nat.beq e c<;>first|exact k|trivial
 unfold St.freeze
 cases hc:zd σ.ob c with
 |none=>exact⟨Im,h.kill c,fun _ x=>x,fun _ x=> .inl x,fun _ e=>by cases e⟩
 |some o=>
  cases o with
  |arr t xs=>obtain⟨Im',g1,g2,g3,g4⟩:=gone _ hc;exact⟨Im',g1,g2,g3,fun _ _=>g4⟩
  |box l=>obtain⟨Im',g1,g2,g3,g4⟩:=gone _ hc;exact⟨Im',g1,g2,g3,fun _ _=>g4⟩
  |hole t xs i v=>obtain⟨Im',g1,g2,g3,g4⟩:=gone _ hc;exact⟨Im',g1,g2,g3,fun _ _=>g4⟩
  |tl t xs n=>obtain⟨Im',g1,g2,g3,g4⟩:=gone _ hc;exact⟨Im',g1,g2,g3,fun _ _=>g4⟩
  |im l=>obtain⟨Im',g1,g2,g3,g4⟩:=gone _ hc;exact⟨Im',g1,g2,g3,fun _ _=>g4⟩
  |mp l=>
   have hr:VR w (fun b=>Im b\/b∈bl c) .set (some l) [hd c]:=⟨hd c,bl c,rfl,fun _ hb=> .inr hb,h.objs c _ hc⟩
   refine⟨fun b=>Im b\/b∈bl c,h.sub_ ⟨Same.refl _ _,fun _ x=> .inl x,fun e=> ?_,fun e o v k=> ?_,fun e n i o v k=> ?_⟩ (fun b hb=>hb) (fun _=>⟨_,hc⟩),fun _ x=> .inl x,fun _ x=>x,fun _ _ b hb=> .inr hb⟩
   ·show CVR w _ hd (hd e) (bif Nat.beq e c then .val .set (some l)else .own e)
    rw[beqN]
    by_cases q:e=c
    ·subst q;simp only[decide_true,zgJ];exact hr
    ·simp only[q,decide_false,zgK];rfl
   ·show AVR w _ hd v (bif Nat.beq e c then .cv .dead else .adr e o);cases Nat.beq e c<;>first|exact k|trivial
   ·show AVR w _ hd v (bif Nat.beq e c then .cv .dead else .el e n i o);cases Nat.beq e c<;>first|exact k|trivial
  |hol t xs i l=>obtain⟨Im',g1,g2,g3,g4⟩:=gone _ hc;exact⟨Im',g1,g2,g3,fun _ _=>g4⟩
  |row t xs d n=>
   have hr:=(h.objs c _ hc).read
   refine⟨fun b=>Im b\/b∈bl c,h.sub_ ⟨Same.refl _ _,fun _ x=> .inl x,fun e=> ?_,fun e o v k=> ?_,fun e n i o v k=> ?_⟩ (fun b hb=>hb) (fun _=>⟨_,hc⟩),fun _ x=> .inl x,fun _ x=>x,fun _ _ b hb=> .inr hb⟩
   ·show CVR w _ hd (hd e) (bif Nat.beq e c then .val (.slice t) xs else .own e)
    rw[beqN]
    by_cases q:e=c
    ·subst q;simp only[decide_true,zgJ];exact hr
    ·simp only[q,decide_false,zgK];rfl
   ·show AVR w _ hd v (bif Nat.beq e c then .cv .dead else .adr e o);cases Nat.beq e c<;>first|exact k|trivial
   ·show AVR w _ hd v (bif Nat.beq e c then .cv .dead else .el e n i o);cases Nat.beq e c<;>first|exact k|trivial
def uB:Ty->List Value
 | .int k=> [.int k 0]| .bool=> [.bool false]| .str=> [.string ⟨#[]⟩]| .slice _=> [.slice none 0 0]| .pair a b=>uB a++uB b| .set=> [.map none]| .err=> [.nilIface]
def V5 (P:Program)(e:Nat)(t:Ty):Prop:=∃i z,P.info? e=some i/\i.size=t.sz/\i.bytes<=4096/\i.zero=some z/\z.cells.toList=uB t
def KindOk (P:Program)(d:TypeDesc):Ty->Prop
 | .int k=>d= .int k| .bool=>d= .bool| .str=>d= .string| .slice t=>∃e,d= .slice e/\V5 P e t| .pair _ _=>False
 | .set=>∃kt et i,d= .map kt et/\P.underlying kt=some .string/\P.info? et=some i/\i.zero=some (.bool false)
 | .err=>∃ms,d= .interface ms
def ZeroOk (P:Program)(T:Nat)(cs:List Value):Prop:=∃i z,P.info? T=some i/\i.size=cs.length/\i.zero=some z/\z.cells.toList=cs
def kindZero:Ty->Value
 | .int k=> .int k 0| .bool=> .bool false| .str=> .string ⟨#[]⟩| .slice _=> .slice none 0 0| .pair _ _=>undef| .set=> .map none| .err=> .nilIface
def valEq:Value->Value->Bool| .int _ a, .int _ b=>a==b| .bool a, .bool b=>a==b|_,_=>false
def ScalarV (v:Value):Ty->Prop| .int k=>∃n,v= .int k n| .bool=>∃b,v= .bool b|_=>False
def Scalars:List Value->List Ty->Prop
 | [],[]=>True|v::vs,t::ts=>ScalarV v t/\Scalars vs ts|_,_=>False
def u7:List Value->List Value->Bool
 | [],[]=>true|a::as,b::bs=>valEq a b&&u7 as bs|_,_=>false
def TyOk (P:Program)(T:Nat):TI->Prop
 | .one t=>∃d,P.underlying T=some d/\KindOk P d t/\ZeroOk P T [kindZero t]
 | .struct fs ks eq=>∃fields,P.underlying T=some (.struct fields)/\ZeroOk P T (ks.map kindZero)/\(∀k∈ks,∀a b,k≠ .pair a b)/\
    (∀(f off u:Nat),(fs:List (Nat×Nat))[f]? =some (off,u)->∃fld:Field,fields[f]? =some fld/\fld.offset=off/\fld.type=u)/\
    (∃places,fields.toList.mapM (fun f=>(P.info? f.type).map fun i=>(f.offset,i.size))=some places)/\
    (eq=true->∀xs ys w op,Scalars xs ks->Scalars ys ks->op=BinOp.eql\/op=BinOp.neq->
      (eqGuard op T (.tmp 0) (.tmp 0) (.agg xs.toArray) (.agg ys.toArray)).run P w= .ok () w/\(Op.equal T (.agg xs.toArray) (.agg ys.toArray)).run P w= .ok (u7 xs ys) w)
 | .imap=>∃kt et i,P.underlying T=some (.map kt et)/\P.underlying kt=some (.int .i64)/\P.info? et=some i/\i.zero=some (.slice none 0 0)
 | .flag=>True
 | .bytes=>1000000<=T/\∃e,P.underlying (T-1000000)=some (.slice e)/\P.underlying e=some (.int .u8)
 | .arr n t=>∃e,P.underlying T=some (.array n e)/\V5 P e t/\∃i z,P.info? T=some i/\i.size=n*t.sz/\i.zero=some z/\z.cells.toList=(List.replicate n (uB t)).flatten
theorem jV:∀t:Ty,(uB t).length=t.sz
 | .int _=>rfl| .bool=>rfl| .str=>rfl| .slice _=>rfl| .set=>rfl| .err=>rfl
 | .pair a b=>by show(uB a++uB b).length=a.sz+b.sz;rw[zgA,jV a,jV b]
section
variable {P:Program}
theorem gR (b o n:Nat):(⟨b,o,none⟩:Addr).add n=⟨b,o+n,none⟩:=by unfold Addr.add;split<;>simp_all
theorem AF {T:Nat}{i:TypeInfo}(h:P.info? T=some i)(w:World):(typeInfo T).run P w= .ok i w:=by
 simp[typeInfo,program,Sem.run,h]
theorem gJ {T:Nat}{i:TypeInfo}(h:P.info? T=some i)(w:World):(sizeOf T).run P w= .ok i.size w:=by
 simp[sizeOf,AF h]
theorem MS {T:Nat}{i:TypeInfo}{z:Value}(h:P.info? T=some i)(hz:i.zero=some z)(w:World):(zeroValue T).run P w= .ok z w:=by
 simp[zeroValue,AF h,hz]
theorem aW {E:Env}(hE:∀T ti,E.ty T=some ti->TyOk P T ti){T n:Nat}{agg:Bool}(h:P8 E T=some (n,agg)):
 (∃i,P.info? T=some i/\i.size=n)/\(∀w,(isAgg T).run P w= .ok agg w)/\(agg=false->n=1):=by
 unfold P8 at h
 cases hT:E.ty T with
 |none=>simp[hT]at h
 |some ti=>
  have k:=hE T ti hT
  cases ti with
  |one t=>
   simp only[hT,Option.some.injEq,Prod.mk.injEq]at h
   obtain⟨rfl,rfl⟩:=h
   obtain⟨d,hd,hk,i,z,hi,hs,_⟩:=k
   refine⟨⟨i,hi,by simpa using hs⟩,fun w=> ?_,fun _=>rfl⟩
   cases t<;>simp only[KindOk]at hk
   ·subst hk;simp[isAgg,run_underlying hd]
   ·subst hk;simp[isAgg,run_underlying hd]
   ·subst hk;simp[isAgg,run_underlying hd]
   ·obtain⟨e,rfl,_⟩:=hk;simp[isAgg,run_underlying hd]
   ·obtain⟨kt,et,i0,rfl,_⟩:=hk;simp[isAgg,run_underlying hd]
   ·obtain⟨ms,rfl⟩:=hk;simp[isAgg,run_underlying hd]
  |struct fs ks eq=>
   simp only[hT,Option.some.injEq,Prod.mk.injEq]at h
   obtain⟨rfl,rfl⟩:=h
   obtain⟨fields,hd,⟨i,z,hi,hs,_⟩,_⟩:=k
   exact⟨⟨i,hi,by simpa using hs⟩,fun w=>by simp[isAgg,run_underlying hd],fun e=>by cases e⟩
  |bytes=>simp only[hT]at h;cases h
  |flag=>simp only[hT]at h;cases h
  |imap=>simp only[hT]at h;cases h
  |arr m t=>
   simp only[hT,Option.some.injEq,Prod.mk.injEq]at h
   obtain⟨rfl,rfl⟩:=h
   obtain⟨e,hd,_,i,z,hi,hs,_⟩:=k
   exact⟨⟨i,hi,hs⟩,fun w=>by simp[isAgg,run_underlying hd],fun e=>by cases e⟩
theorem XJ {w:World}{b o:Nat}{cs:List Value}(h:At w b o cs):(loadCells ⟨b,o,none⟩ cs.length).run P w= .ok cs.toArray w:=
 run_loadCells_list w _ cs fun j v hj=>by rw[gR];exact h j v hj
def xw (agg:Bool)(cs:List Value):Value:=bif agg then .agg cs.toArray else cs.headD undef
theorem x7 {w:World}{b o T:Nat}{cs:List Value}{agg:Bool}{i:TypeInfo}(h:At w b o cs)(hi:P.info? T=some i)(hs:i.size=cs.length)
 (ha:∀w,(isAgg T).run P w= .ok agg w) (h1:agg=false->cs.length=1):(Instr.loadAt T (.pointer (some ⟨b,o,none⟩))).run P w= .ok (xw agg cs) w:=by
 cases agg with
 |true=>simp[Instr.loadAt,Instr.sureAddr,loadVar,ha w,gJ hi,hs,XJ h,xw]
 |false=>
  obtain⟨v,rfl⟩:∃v,cs=[v]:=by match cs,h1 rfl with| [v],_=>exact⟨v,rfl⟩
  have hc:w.cell? ⟨b,o,none⟩=some v:=h 0 v rfl
  simp[Instr.loadAt,Instr.sureAddr,loadVar,ha w,load,Sem.run,hc,xw]
theorem zdr {v:Value}(h:v.oneCell' =true):v.cells= #[v]:=by cases v<;>first|rfl|cases h
theorem DD {w:World}{b o T:Nat}{cs:Array Value}{E:TypeId}{v:Value}{i:TypeInfo}(hb:w.heap[b]? =some (.cells cs E (0,0)))(hi:P.info? T=some i)
 (hs:v.cells.size=i.size) (h1:∀u∈v.cells.toList,u.oneCell' =true) (hf:o+v.cells.size<=cs.size):
 (Instr.storeAt T (.pointer (some ⟨b,o,none⟩)) v).run P w= .ok () (w.setRow b (cs.toList.take o++v.cells.toList++cs.toList.drop (o+v.cells.size)).toArray):=by
 have:=run_storeCells_at P b o E v.cells.toList 0 cs w hb (by simpa using hf) h1
 simp only[Nat.add_zero,zgW]at this
 simp only[Instr.storeAt,Instr.sureAddr,storeVar,Sem.run_bind,Sem.run_pure,Result.andThen_ok,gJ hi,hs,ne_eq,not_true_eq_false,if_false]
 rw[hs]at this
 exact this
end
theorem VR.one {w:World}{S:Nat->Prop}:∀ {t:Ty} {x:t.den} {cs:List Value},VR w S t x cs->∀u∈cs,u.oneCell' =true
 | .int _,_,_,h=>by cases h;simp[Value.oneCell']
 | .bool,_,_,h=>by cases h;simp[Value.oneCell']
 | .str,_,_,h=>by cases h;simp[Value.oneCell']
 | .slice t,_,_,h=>by obtain⟨a,cap,rfl,_⟩:=h;simp[Value.oneCell']
 | .set,x,_,h=>by
   obtain⟨v,L,rfl,_,h2⟩:=h
   cases x with
   |none=>obtain⟨rfl,_⟩:=h2;simp[Value.oneCell']
   |some l=>obtain⟨b,rfl,_⟩:=h2;simp[Value.oneCell']
 | .err,x,_,h=>by
   obtain⟨v,rfl,h2⟩:=h
   cases v<;>simp[ErrV]at h2<;>simp[Value.oneCell']
 | .pair a b,x,cs,h=>by
   obtain⟨c1,c2,rfl,h1,h2⟩:=h
   intro u hu
   rcases zgz.1 hu with h|h
   ·exact VR.one h1 u h
   ·exact VR.one h2 u h
theorem OT.one {w:World}{t:Ty}{x:t.den}{cs:List Value}{L:List Nat}(h:OT w t x cs L):∀u∈cs,u.oneCell' =true:=(h.read (S:=fun _=>True) (fun _ _=>trivial)).one
section
variable {gw:Gw} {w0:Base gw} {w:World} {S0:Nat->Prop} {σ:St} {a:Act} {Im:Nat->Prop} {hd:Nat->Value} {bl:Nat->List Nat}
theorem zfJ (v:Value):AVR w Im hd v (cval v):=by
 unfold cval
 split
 ·exact rfl
 ·exact rfl
 ·exact rfl
 ·exact rfl
 ·exact trivial
theorem SRi.ev (h:SRi w0 S0 σ a w Im hd bl)(x:Operand):AVR w Im hd (a.eval x) (σ.ev x):=by
 cases x with
 |tmp t=>
  show AVR w Im hd (a.tmps.getD t undef) (vg σ.sl t)
  rw[gz]
  cases hs:σ.sl[t]? with
  |none=>exact trivial
  |some av=>exact h.slots t av hs
 |const v=>exact zfJ v
 |global g=>exact trivial
 |func f=>exact⟨[],rfl,trivial⟩
theorem SRi.put (h:SRi w0 S0 σ a w Im hd bl)(dst:Option Nat){v:Value}{av:AV}(hv:AVR w Im hd v av):SRi w0 S0 (σ.put dst av) (a.put dst v) w Im hd bl:=by
 cases dst with
 |none=>exact h
 |some d=>
  refine⟨h.below,h.sub,h.new,h.lt,h.nodef, ?_,fun i u hi=> ?_,h.objs,h.own,h.apart,h.io⟩
  ·show(a.tmps.setIfInBounds d v).size=(gV σ.sl d av).length
   rw[vj,List.length_set,Array.size_setIfInBounds]
   exact h.size
  ·have hi' :(gV σ.sl d av)[i]? =some u:=hi
   show AVR w Im hd ((a.tmps.setIfInBounds d v).getD i undef) u
   rw[vj,List.getElem?_set]at hi'
   rw[Array.getD_eq_getD_getElem?,Array.getElem?_setIfInBounds]
   by_cases e:d=i
   ·subst e
    simp only[if_true]at hi' ⊢
    split at hi'
    ·rename_i hlt
     rw[zgG (by rw[h.size];exact hlt)]
     cases hi'
     exact hv
    ·cases hi'
   ·simp only[e,if_false]at hi' ⊢
    have:=h.slots i u hi'
    rwa [Array.getD_eq_getD_getElem?]at this
theorem SRi.cut (h:SRi w0 S0 σ a w Im hd bl)(c:Bool):SRi w0 S0 { σ with cut:=c} a w Im hd bl:=⟨h.below,h.sub,h.new,h.lt,h.nodef,h.size,h.slots,h.objs,h.own,h.apart,h.io⟩
theorem Tell.fresh (c:Nat)(v:Value):Tell w w Im Im hd (fun d=>if d=c then v else hd d) (xG c):=by
 refine⟨Same.refl _ _,fun _ x=>x,fun d=> ?_,fun d o u e=> ?_,fun d n i o u e=> ?_⟩
 ·show CVR w Im _ (hd d) (bif Nat.beq d c then .dead else .own d)
  rw[beqN]
  by_cases q:d=c
  ·simp[q];exact trivial
  ·simp only[q,decide_false,zgK];show hd d=if d=c then v else hd d;simp[q]
 ·show AVR w Im _ u (bif Nat.beq d c then .cv .dead else .adr d o)
  rw[beqN]
  by_cases q:d=c
  ·simp[q];exact trivial
  ·simp only[q,decide_false,zgK]
   obtain⟨b,e1,e2⟩:=e
   exact⟨b,by simp only[q,if_false];exact e1,e2⟩
 ·show AVR w Im _ u (bif Nat.beq d c then .cv .dead else .el d n i o)
  rw[beqN]
  by_cases q:d=c
  ·simp[q];exact trivial
  ·simp only[q,decide_false,zgK]
   obtain⟨b,f,e1,e2⟩:=e
   exact⟨b,f,by simp only[q,if_false];exact e1,e2⟩
theorem SRi.new_ (h:SRi w0 S0 σ a w Im hd bl)(c:Nat)(hc5:c<500000){o:Ob}{v:Value}{L:List Nat}
 (hfree:∀d p,d≠c->zd σ.ob d=some p->∀b∈bl d,b∉L) (hL:L.Nodup) (hn:∀b∈L,w0.mine b/\b<w.heap.size/\¬Im b)
 (ho:ObR w Im (fun d=>if d=c then v else hd d) v L o):
 SRi w0 S0 (σ.new c o) a w Im (fun d=>if d=c then v else hd d) (fun d=>if d=c then L else bl d):=by
 have T:=Tell.fresh (w:=w) (Im:=Im) (hd:=hd) c v
 have hob:∀d p,zd (σ.kill c).ob d=some p->d≠c/\∃q,zd σ.ob d=some q/\p=q.map (xG c):=by
  intro d p hp
  have hp' :zd (Mq (xG c) (fq σ.ob c)) d=some p:=hp
  rw[jy,vw]at hp'
  by_cases e:d=c
  ·simp[e]at hp'
  ·simp only[e,if_false]at hp'
   obtain⟨q,hq,rfl⟩:=zgQ.1 hp'
   exact⟨e,q,hq,rfl⟩
 have g:∀d p,zd ((c,o)::(σ.kill c).ob) d=some p->(d=c/\p=o)\/(d≠c/\∃q,zd σ.ob d=some q/\p=q.map (xG c)):=by
  intro d p hp
  rw[yj]at hp
  by_cases e:c=d
  ·simp[e]at hp;exact .inl ⟨e.symm,hp.symm⟩
  ·simp[e]at hp;exact .inr (hob d p hp)
 refine⟨h.below,h.sub,h.new,h.lt,h.nodef, ?_,fun i av hi=> ?_,fun d p hp=> ?_,fun d p hp=> ?_,fun d p e q hp hq hne=> ?_,fun j v hj=>by rw[zgH (by omega)];exact h.io j v hj⟩
 ·show a.tmps.size=(σ.sl.map (AV.map (xG c))).length;rw[zgN];exact h.size
 ·have hi' :(σ.sl.map (AV.map (xG c)))[i]? =some av:=hi
  rw[List.getElem?_map]at hi'
  obtain⟨u,hu,rfl⟩:=zgQ.1 hi'
  exact(h.slots i u hu).tell T
 ·rcases g d p hp with⟨rfl,rfl⟩|⟨hne,q,hq,rfl⟩
  ·simpa using ho
  ·simp only[hne,if_false];exact(h.objs d q hq).tell T fun _ _=>rfl
 ·rcases g d p hp with⟨rfl,rfl⟩|⟨hne,q,hq,rfl⟩
  ·simp only[if_true];exact⟨hL,hn⟩
  ·simp only[hne,if_false];exact h.own d q hq
 ·rcases g d p hp with⟨rfl,rfl⟩|⟨hd1,p',hp1,rfl⟩<;>rcases g e q hq with⟨rfl,rfl⟩|⟨hd2,q',hq1,rfl⟩
  ·exact(hne rfl).elim
  ·simp only[if_true,hd2,if_false];intro b hb hb2;exact hfree e q' hd2 hq1 b hb2 hb
  ·simp only[if_true,hd1,if_false];exact fun b hb hb2=>hfree d p' hd1 hp1 b hb hb2
  ·simp only[hd1,hd2,if_false];exact h.apart d p' e q' hp1 hq1 hne
end
theorem zb {ρ:Type}{b:Bool}{x:Option ρ}{r:ρ}(h:chk b x=some r):b=true/\x=some r:=by
 cases b with
 |true=>exact⟨rfl,h⟩
 |false=>cases h
section
variable {P:Program} {ρ:Type} {gw:Gw} {w0:Base gw} {w:World} {S0:Nat->Prop} {σ:St} {a:Act} {Im:Nat->Prop} {hd:Nat->Value} {bl:Nat->List Nat} {Q:Exit->Act->World->Prop}
theorem yO {o:Oper}{K:Act->World->Prop}{v:Value}{w' :World}(hr:(execOp a.eval o).run P w= .ok (.value v) w')(h:K (a.put o.dst v) w'):o.wp P a w K Q:=by
 unfold Oper.wp;rw[hr];exact h
theorem V8 {o:Oper}{K:Act->World->Prop}{w' :World}(hr:(execOp a.eval o).run P w= .ok .skip w')(h:K (a.put o.dst undef) w'):o.wp P a w K Q:=by
 unfold Oper.wp;rw[hr];exact h
def Goes {gw:Gw}(w0:Base gw)(S0:Nat->Prop)(next:St->Option ρ)(r:ρ)(a:Act)(w:World):Prop:=∃τ,next τ=some r/\SR w0 S0 τ a w
theorem yH {o:Oper}{next:St->Option ρ}{r:ρ}(h:SRi w0 S0 σ a w Im hd bl){v:Value}{av:AV}(hv:AVR w Im hd v av)
 (hr:(execOp a.eval o).run P w= .ok (.value v) w) (hn:next (σ.put o.dst av)=some r):o.wp P a w (Goes w0 S0 next r) Q:=
 yO hr ⟨_,hn,Im,hd,bl,h.put o.dst hv⟩
theorem jB {v:Value}{k:IntKind}{n:(Ty.int k).den}(h:AVR w Im hd v (.cv (.val (.int k) n))):v= .int k n:=by
 have h' :VR w Im (.int k) n [v]:=h
 simpa[VR]using h'
theorem gu {v:Value}{b:Ty.bool.den}(h:AVR w Im hd v (.cv (.val .bool b))):v= .bool b:=by
 have h' :VR w Im .bool b [v]:=h
 simpa[VR]using h'
theorem Wg {v:Value}{s:Ty.str.den}(h:AVR w Im hd v (.cv (.val .str s))):v= .string s:=by
 have h' :VR w Im .str s [v]:=h
 simpa[VR]using h'
theorem ivr {k:IntKind}{n:Int}:AVR w Im hd (.int k n) (.cv (.val (.int k) n)):=(rfl:[Value.int k n]=[Value.int k n])
theorem bvr {b:Bool}:AVR w Im hd (.bool b) (.cv (.val .bool b)):=(rfl:[Value.bool b]=[Value.bool b])
theorem svr {s:ByteArray}:AVR w Im hd (.string s) (.cv (.val .str s)):=(rfl:[Value.string s]=[Value.string s])
theorem V3 {v:Value}{av:AV}{i:Int}(h:AVR w Im hd v av)(hi:aIx av=some i):∃k,v= .int k i:=by
 unfold aIx at hi
 split at hi
 ·cases hi;exact⟨_,jB h⟩
 ·cases hi
theorem yP {t u:Ty}{x:t.den}{y:u.den}(h:t.as u x=some y):∃e:t=u,e▸x=y:=by
 unfold Ty.as at h
 split at h
 ·exact⟨Ty.same_eq ‹_›,Option.some.inj h⟩
 ·cases h
theorem zbJ {t u:Ty}{x:t.den}{y:u.den}(h:t.as u x=some y){S:Nat->Prop}{cs:List Value}(hv:VR w S t x cs):VR w S u y cs:=by
 obtain⟨rfl,rfl⟩:=yP h;exact hv
theorem CVs.len:∀ {vs:List Value} {l:List CV},CVs w Im hd vs l->vs.length=l.length
 | [],[],_=>rfl|_::_,_::_,h=>by simp[CVs.len h.2]| [],_::_,h=>h.elim|_::_,[],h=>h.elim
theorem CVs.app:∀ {vs us:List Value} {l m:List CV},CVs w Im hd vs l->CVs w Im hd us m->CVs w Im hd (vs++us) (l++m)
 | [],_,[],_,_,h=>h|_::_,_,_::_,_,h,k=>⟨h.1,CVs.app h.2 k⟩| [],_,_::_,_,h,_=>h.elim|_::_,_,[],_,h,_=>h.elim
theorem CVs.take (n:Nat):∀ {vs:List Value} {l:List CV},CVs w Im hd vs l->CVs w Im hd (vs.take n) (l.take n):=by
 induction n with
 |zero=>intros;exact trivial
 |succ n ih=>intro vs l h;match vs,l,h with| [],[],_=>exact trivial|_::_,_::_,h=>exact⟨h.1,ih h.2⟩
theorem CVs.drop (n:Nat):∀ {vs:List Value} {l:List CV},CVs w Im hd vs l->CVs w Im hd (vs.drop n) (l.drop n):=by
 induction n with
 |zero=>intro vs l h;exact h
 |succ n ih=>intro vs l h;match vs,l,h with| [],[],_=>exact trivial|_::_,_::_,h=>exact ih h.2
theorem CVs.get:∀ {vs:List Value} {l:List CV},CVs w Im hd vs l->∀(j:Nat) (c:CV),l[j]? =some c->∃v,vs[j]? =some v/\CVR w Im hd v c
 | [],[],_,j,c,hj=>by simp at hj
 |v::vs,c::cs,h,0,d,hj=>⟨v,rfl,by cases(show some c=some d from hj);exact h.1⟩
 |v::vs,c::cs,h,j+1,d,hj=>CVs.get h.2 j d hj
theorem xH:∀ {t:Ty} {x:t.den} {cs:List Value},VR w Im t x cs->CVs w Im hd cs (yX t x)
 | .int k,x,cs,h=>by cases(show cs=_ from h);exact⟨rfl,trivial⟩
 | .bool,x,cs,h=>by cases(show cs=_ from h);exact⟨rfl,trivial⟩
 | .str,x,cs,h=>by cases(show cs=_ from h);exact⟨rfl,trivial⟩
 | .slice t,x,cs,h=>by obtain⟨a,cap,rfl,h2⟩:=h;exact⟨⟨a,cap,rfl,h2⟩,trivial⟩
 | .set,x,cs,h=>by obtain⟨v,L,rfl,h2⟩:=h;exact⟨⟨v,L,rfl,h2⟩,trivial⟩
 | .err,x,cs,h=>by obtain⟨v,rfl,h2⟩:=h;exact⟨⟨v,rfl,h2⟩,trivial⟩
 | .pair a b,x,cs,h=>by obtain⟨c1,c2,rfl,h1,h2⟩:=h;exact CVs.app (xH h1) (xH h2)
theorem xx {agg:Bool}{vs:List Value}{l:List CV}(h:CVs w Im hd vs l):AVR w Im hd (xw agg vs) (xy agg l):=by
 cases agg with
 |true=>exact⟨vs,rfl,h⟩
 |false=>
  match l,vs,h with
  | [c],[v],h=>exact h.1
  | [],[],_=>exact trivial
  |_::_::_,_,_=>exact trivial
theorem nil_of {v:Value}(h:AVR w Im hd v (.cv .nil)):v= .slice none 0 0:=h
theorem zck (op:BinOp)(T:Nat)(X Y:Operand)(k:IntKind)(x y:Int){ok:Bool}{r:Sum Int Bool}(h:aInt op k x y=some (ok,r))(hok:ok=true)(w:World):
 (do eqGuard op T X Y (.int k x) (.int k y);Go.binOp op T (.int k x) (.int k y):Sem Value).run P w= .ok (match r with| .inl n=> .int k n| .inr b=> .bool b) w:=by
 subst hok
 have h0:∀op,(eqGuard op T X Y (.int k x) (.int k y)).run P w= .ok () w:=by
  intro op;cases op<;>simp[eqGuard]
 cases op<;>simp only[aInt,Option.some.injEq,Prod.mk.injEq,aCmp,Option.map_some,Option.map_none,reduceCtorEq]at h
 all_goals first
  |exact h.elim
  |(obtain⟨h1,rfl⟩:=h
    simp only[Sem.run_bind,h0,Result.andThen_ok]
    simp[Go.binOp,Op.intArith,Op.intCmp,Op.intBits];done)
  |(obtain⟨h1,rfl⟩:=h
    have hy:¬y=0:=by simpa using h1
    simp only[Sem.run_bind,h0,Result.andThen_ok]
    simp[Go.binOp,Op.intDiv,hy])
theorem zfo (T:Nat)(X Y:Operand)(k j:IntKind)(x y:Int)(hy:0<=y)(w:World):
 (do eqGuard .shl T X Y (.int k x) (.int j y);Go.binOp .shl T (.int k x) (.int j y):Sem Value).run P w= .ok (.int k (k.wrap (x*2 ^(min y.toNat k.bits)))) w:=by
 simp[eqGuard,Go.binOp,Op.shift,Int.not_lt.2 hy]
theorem zfn (T:Nat)(X Y:Operand)(k j:IntKind)(x y:Int)(hy:0<=y)(w:World):
 (do eqGuard .shr T X Y (.int k x) (.int j y);Go.binOp .shr T (.int k x) (.int j y):Sem Value).run P w= .ok (.int k (x.fdiv (2 ^(min y.toNat k.bits)))) w:=by
 simp[eqGuard,Go.binOp,Op.shift,Int.not_lt.2 hy]
theorem zcj (op:BinOp)(T:Nat)(X Y:Operand)(x y:ByteArray){ok:Bool}{r:Sum ByteArray Bool}(h:aStr op x y=some (ok,r))(hok:ok=true)(w:World):
 (do eqGuard op T X Y (.string x) (.string y);Go.binOp op T (.string x) (.string y):Sem Value).run P w= .ok (match r with| .inl n=> .string n| .inr b=> .bool b) w:=by
 subst hok
 have h0:∀op,(eqGuard op T X Y (.string x) (.string y)).run P w= .ok () w:=by
  intro op;cases op<;>simp[eqGuard]
 cases op<;>simp only[aStr,Option.some.injEq,Prod.mk.injEq,reduceCtorEq]at h
 all_goals first
  |exact h.elim
  |(obtain⟨h1,rfl⟩:=h
    have h2:¬(((x.size+y.size:Nat):Int)>IntKind.i64.max):=by
     have h3:x.size+y.size<=9223372036854775807:=zgw h1
     have:IntKind.i64.max=9223372036854775807:=by decide
     omega
    simp only[Sem.run_bind,h0,Result.andThen_ok]
    simp only[Go.binOp,Op.stringOp]
    rw[zgH h2]
    rfl)
  |(obtain⟨h1,rfl⟩:=h
    simp only[Sem.run_bind,h0,Result.andThen_ok]
    simp[Go.binOp,Op.stringOp])
theorem zbq {T e:Nat}(hu:P.underlying T=some (.slice e))(a:Option Addr)(n c:Nat)(w:World)(d:Nat):(Op.equalIn (d+1) T (.slice a n c) (.slice none 0 0)).run P w= .ok a.isNone w:=by
 cases a<;>simp[Op.equalIn,run_underlying hu]
theorem Qp {T e:Nat}(hu:P.underlying T=some (.slice e))(a:Option Addr)(n c:Nat)(w:World):(Op.equal T (.slice a n c) (.slice none 0 0)).run P w= .ok a.isNone w:=zbq hu a n c w 9999
theorem B1 {T:Nat}(hu:P.underlying T=some .bool)(a b:Bool)(w:World)(d:Nat):(Op.equalIn (d+1) T (.bool a) (.bool b)).run P w= .ok (a==b) w:=by
 simp[Op.equalIn,run_underlying hu]
theorem GO {T:Nat}(hu:P.underlying T=some .bool)(a b:Bool)(w:World):(Op.equal T (.bool a) (.bool b)).run P w= .ok (a==b) w:=B1 hu a b w 9999
theorem G1 (h:SRi w0 S0 σ a w Im hd bl){v:Value}{c:CV}(hv:CVR w Im hd v c){p:Bool×Bool}(hn:aNil σ c=some p):∃A n k,v= .slice A n k:=by
 unfold aNil at hn
 split at hn
 ·exact⟨none,0,0,hv⟩
 ·obtain⟨A,cap,e,_,hr⟩:=hv
  simp only[List.cons.injEq,and_true]at e
  exact⟨A,_,cap,e⟩
 ·rename_i c
  split at hn
  ·rename_i t xs d cn hc
   have ho:=h.objs c _ hc
   have e:v=hd c:=hv
   rcases ho.1 with⟨e1,_⟩|⟨b,f0,cap,cs,E,Li,e1,_⟩
   ·exact⟨none,0,0,e.trans e1⟩
   ·exact⟨_,_,_,e.trans e1⟩
  ·cases hn
 ·cases hn
theorem zdE (h:SRi w0 S0 σ a w Im hd bl){v:Value}{c:CV}(hv:CVR w Im hd v c){r:Bool}(hn:aNil σ c=some (true,r)):∃A n k,v= .slice A n k/\A.isNone=r:=by
 unfold aNil at hn
 split at hn
 ·cases hn;exact⟨none,0,0,hv,rfl⟩
 ·rename_i t xs
  simp only[Option.some.injEq,Prod.mk.injEq]at hn
  obtain⟨h1,rfl⟩:=hn
  obtain⟨A,cap,e,_,hr⟩:=hv
  simp only[List.cons.injEq,and_true]at e
  refine⟨A,_,cap,e, ?_⟩
  rcases hr with rfl|⟨b,o,rfl,_⟩
  ·simp at h1
  ·rfl
 ·rename_i c
  cases hc:zd σ.ob c with
  |none=>simp[hc]at hn
  |some o=>
   cases o with
   |arr t xs=>simp[hc]at hn
   |hole t xs i v=>simp[hc]at hn
   |tl t xs n=>simp[hc]at hn
   |mp l=>simp[hc]at hn
   |im l=>simp[hc]at hn
   |hol t xs i l=>simp[hc]at hn
   |box l=>simp[hc]at hn
   |row t xs d cn=>
    have ho:=h.objs c _ hc
    have e:v=hd c:=hv
    simp only[hc]at hn
    rcases ho.1 with⟨e1,rfl,_⟩|⟨b,f0,cap,cs,E,Li,e1,_⟩
    ·cases cn with
     |true=>simp at hn;exact⟨none,0,0,e.trans e1,by simpa using hn.symm▸rfl⟩
     |false=>simp at hn
    ·refine⟨_,_,_,e.trans e1, ?_⟩
     cases cn with
     |true=>
      simp at hn
      by_cases hx:xs=[]
      ·have:=ho.2 rfl hx;rw[e1]at this;cases this
      ·have:xs.isEmpty=false:=by simpa using hx
       rw[<-hn,this];rfl
     |false=>simp at hn;rw[hn.2];rfl
 ·cases hn
theorem UA:∀ {ts:List Ty} {xs ys:List Value} {as bs:List CV} {r:Bool},CVs w Im hd xs as->CVs w Im hd ys bs->eqCells ts as bs=some r->Scalars xs ts/\Scalars ys ts/\u7 xs ys=r
 | [],xs,ys,as,bs,r,hx,hy,h=>by
   match as,bs,h with
   | [],[],h=>
     match xs,ys,hx,hy with
     | [],[],_,_=>cases h;exact⟨trivial,trivial,rfl⟩
 |t::ts,xs,ys,as,bs,r,hx,hy,h=>by
  match as,bs,h with
  |a::as,b::bs,h=>
   match xs,ys,hx,hy with
   |x::xs,y::ys,hx,hy=>
    unfold eqCells at h
    split at h
    ·rename_i k k1 m k2 n _ _ _
     cases hk:KX k k1&&KX k k2 with
     |false=>rw[hk]at h;cases h
     |true=>
      rw[hk]at h
      have hk' :KX k k1=true/\KX k k2=true:=by simpa using hk
      obtain rfl:=RQ hk'.1
      obtain rfl:=RQ hk'.2
      obtain⟨q,hq,rfl⟩:=zgQ.1 h
      obtain⟨h1,h2,h3⟩:=UA hx.2 hy.2 hq
      have e1:x= .int k m:=jB (w:=w) (Im:=Im) (hd:=hd) hx.1
      have e2:y= .int k n:=jB (w:=w) (Im:=Im) (hd:=hd) hy.1
      subst e1 e2
      exact⟨⟨⟨m,rfl⟩,h1⟩,⟨⟨n,rfl⟩,h2⟩,by simp[u7,valEq,h3]⟩
    ·rename_i m n _ _ _
     obtain⟨q,hq,rfl⟩:=zgQ.1 h
     obtain⟨h1,h2,h3⟩:=UA hx.2 hy.2 hq
     have e1:x= .bool m:=gu (w:=w) (Im:=Im) (hd:=hd) hx.1
     have e2:y= .bool n:=gu (w:=w) (Im:=Im) (hd:=hd) hy.1
     subst e1 e2
     exact⟨⟨⟨m,rfl⟩,h1⟩,⟨⟨n,rfl⟩,h2⟩,by simp[u7,valEq,h3]⟩
    ·cases h
theorem yB {E:Env}(hE:∀T ti,E.ty T=some ti->TyOk P T ti){T:Nat}{t:Ty}(h:E.ty T=some (.one (.slice t))):∃e,P.underlying T=some (.slice e)/\V5 P e t:=by
 obtain⟨d,hd,⟨e,rfl,he⟩,_⟩:=hE T _ h
 exact⟨e,hd,he⟩
theorem zdK {E:Env}(hE:∀T ti,E.ty T=some ti->TyOk P T ti)(h:SRi w0 S0 σ a w Im hd bl){op:BinOp}{T:Nat}{X Y:Operand}{x y:AV}{vx vy:Value}
 (hx:AVR w Im hd vx x) (hy:AVR w Im hd vy y) {next:AV->Option ρ} {r:ρ} (hn:aBin E σ op T x y next=some r):
 ∃v av,(do eqGuard op T X Y vx vy;Go.binOp op T vx vy:Sem Value).run P w= .ok v w/\AVR w Im hd v av/\next av=some r:=by
 unfold aBin at hn
 split at hn
 ·obtain⟨h1,h2⟩:=zb hn
  rw[jB hx,jB hy]
  exact⟨_,_,zfo T X Y _ _ _ _ (zgw h1) w,ivr,h2⟩
 ·obtain⟨h1,h2⟩:=zb hn
  rw[jB hx,jB hy]
  exact⟨_,_,zfn T X Y _ _ _ _ (zgw h1) w,ivr,h2⟩
 ·obtain⟨h1,h2⟩:=zb hn
  have e1:=jB hx
  have e2:=jB hy
  obtain rfl:=RQ h1
  rw[e1,e2]
  split at h2
  ·rename_i hi;obtain⟨h3,h4⟩:=zb h2;exact⟨_,_,zck op T X Y _ _ _ hi h3 w,ivr,h4⟩
  ·rename_i hi;obtain⟨h3,h4⟩:=zb h2;exact⟨_,_,zck op T X Y _ _ _ hi h3 w,bvr,h4⟩
  ·cases h2
 ·rw[Wg hx,Wg hy]
  split at hn
  ·rename_i hi;obtain⟨h3,h4⟩:=zb hn;exact⟨_,_,zcj op T X Y _ _ hi h3 w,svr,h4⟩
  ·rename_i hi;obtain⟨h3,h4⟩:=zb hn;exact⟨_,_,zcj op T X Y _ _ hi h3 w,bvr,h4⟩
  ·cases hn
 ·rw[gu hx,gu hy]
  split at hn
  ·rename_i hT
   obtain⟨d,hd2,hk,_⟩:=hE T _ hT
   cases(show d=_ from hk)
   exact⟨_,_,by simp[eqGuard,Go.binOp,GO hd2],bvr,hn⟩
  ·cases hn
 ·rw[gu hx,gu hy]
  split at hn
  ·rename_i hT
   obtain⟨d,hd2,hk,_⟩:=hE T _ hT
   cases(show d=_ from hk)
   exact⟨_,_,by simp[eqGuard,Go.binOp,GO hd2],bvr,hn⟩
  ·cases hn
 ·rw[nil_of hy]
  split at hn
  ·rename_i ok r hT hnil
   obtain⟨e,hu,_⟩:=yB hE hT
   cases ok with
   |true=>
    obtain⟨A,n,k,rfl,rfl⟩:=zdE h hx hnil
    exact⟨_,_,by simp[eqGuard,Go.binOp,Qp hu],bvr,hn⟩
   |false=>
    obtain⟨A,n,k,rfl⟩:=G1 h hx hnil
    exact⟨_, .cv .unk,by simp[eqGuard,Go.binOp,Qp hu];rfl,⟨_,rfl⟩,hn⟩
  ·cases hn
 ·rw[nil_of hy]
  split at hn
  ·rename_i ok r hT hnil
   obtain⟨e,hu,_⟩:=yB hE hT
   cases ok with
   |true=>
    obtain⟨A,n,k,rfl,rfl⟩:=zdE h hx hnil
    exact⟨_,_,by simp[eqGuard,Go.binOp,Qp hu],bvr,hn⟩
   |false=>
    obtain⟨A,n,k,rfl⟩:=G1 h hx hnil
    exact⟨_, .cv .unk,by simp[eqGuard,Go.binOp,Qp hu];rfl,⟨_,rfl⟩,hn⟩
  ·cases hn
 ·split at hn
  ·rename_i hT
   split at hn
   ·rename_i hq
    obtain⟨xs,rfl,hxs⟩:=hx
    obtain⟨ys,rfl,hys⟩:=hy
    obtain⟨h1,h2,h3⟩:=UA hxs hys hq
    obtain⟨fields,hu,_,_,_,_,heq⟩:=hE T _ hT
    obtain⟨g1,g2⟩:=heq rfl xs ys w .eql h1 h2 (.inl rfl)
    have g1' :(eqGuard .eql T X Y (.agg xs.toArray) (.agg ys.toArray)).run P w= .ok () w:=g1
    refine⟨_,_, ?_,bvr,hn⟩
    simp only[Sem.run_bind,g1',Result.andThen_ok]
    simp[Go.binOp,g2,h3]
   ·cases hn
  ·cases hn
 ·split at hn
  ·rename_i hT
   split at hn
   ·rename_i hq
    obtain⟨xs,rfl,hxs⟩:=hx
    obtain⟨ys,rfl,hys⟩:=hy
    obtain⟨h1,h2,h3⟩:=UA hxs hys hq
    obtain⟨fields,hu,_,_,_,_,heq⟩:=hE T _ hT
    obtain⟨g1,g2⟩:=heq rfl xs ys w .neq h1 h2 (.inr rfl)
    have g1' :(eqGuard .neq T X Y (.agg xs.toArray) (.agg ys.toArray)).run P w= .ok () w:=g1
    refine⟨_,_, ?_,bvr,hn⟩
    simp only[Sem.run_bind,g1',Result.andThen_ok]
    simp[Go.binOp,g2,h3]
   ·cases hn
  ·cases hn
 ·cases hn
theorem zfb {op:UnOp}{x av:AV}{v:Value}(hx:AVR w Im hd v x)(hn:aUn op x=some av):∃u,(Op.unary op v).run P w= .ok u w/\AVR w Im hd u av:=by
 unfold aUn at hn
 split at hn
 ·cases hn;rw[gu hx];exact⟨_,by simp[Op.unary],bvr⟩
 ·cases hn;obtain⟨b,rfl⟩:=hx;exact⟨.bool (!b),by simp[Op.unary],⟨!b,rfl⟩⟩
 ·cases hn;rw[jB hx];exact⟨_,by simp[Op.unary,Op.intArith],ivr⟩
 ·cases hn
end
section
variable {P:Program} {ρ:Type} {gw:Gw} {w0:Base gw} {w:World} {S0:Nat->Prop} {σ:St} {a:Act} {Im:Nat->Prop} {hd:Nat->Value} {bl:Nat->List Nat} {Q:Exit->Act->World->Prop}
theorem SRi.obj (h:SRi w0 S0 σ a w Im hd bl){c:Nat}{o o' :Ob}(hc:zd σ.ob c=some o){w' :World}{Im' :Nat->Prop}{L:List Nat}
 (hw:∀b,b<w.heap.size->b∉bl c->w'.heap[b]? =w.heap[b]?) (hsz:w.heap.size<=w'.heap.size) (hb:Kept w0 w')
 (hi:∀b,Im b->Im' b) (hi' :∀b,Im' b->Im b\/(b∈bl c/\b∉L)) (hL:L.Nodup) (hLs:∀b∈L,b∈bl c)
 (ho:ObR w' Im' hd (hd c) L o'):SRi w0 S0 { σ with ob:=yt σ.ob c o'} a w' Im' hd (fun d=>if d=c then L else bl d):=by
 have hown:=h.own c o hc
 have hImb:∀b,Im b->b∉bl c:=fun b hb hb2=>(hown.2 b hb2).2.2 hb
 have hs:Same Im w w' :=fun b hb=>hw b (h.lt b hb) (hImb b hb)
 have T:Tell w w' Im Im' hd hd ⟨.own, .adr, .el⟩:=Tell.keep hd hs hi
 have g:∀d p,zd (yt σ.ob c o') d=some p->(d=c/\p=o')\/(d≠c/\zd σ.ob d=some p):=by
  intro d p hp
  rw[yW]at hp
  by_cases e:c=d
  ·simp[e]at hp;exact .inl ⟨e.symm,hp.symm⟩
  ·simp[e]at hp;exact .inr ⟨Ne.symm e,hp⟩
 refine⟨hb,fun b hb=>hi b (h.sub b hb),fun b hb=> ?_,fun b hb=> ?_,h.nodef,h.size,fun i av hi=> ?_,fun d p hp=> ?_,fun d p hp=> ?_,fun d p e q hp hq hne=> ?_,h.io⟩
 ·rcases hi' b hb with h1|h1
  ·exact h.new b h1
  ·exact .inr (hown.2 b h1.1).1
 ·rcases hi' b hb with h1|h1
  ·exact Nat.lt_of_lt_of_le (h.lt b h1) hsz
  ·exact Nat.lt_of_lt_of_le (hown.2 b h1.1).2.1 hsz
 ·have:=(h.slots i av hi).tell T;rwa [AV.map_id]at this
 ·rcases g d p hp with⟨rfl,rfl⟩|⟨hne,hp⟩
  ·simpa using ho
  ·simp only[hne,if_false]
   have:=(h.objs d p hp).tell T (fun b hb=>hw b ((h.own d p hp).2 b hb).2.1 (h.apart d p c o hp hc hne b hb))
   rwa [Ob.map_id]at this
 ·rcases g d p hp with⟨rfl,rfl⟩|⟨hne,hp⟩
  ·simp only[if_true]
   refine⟨hL,fun b hb=>⟨(hown.2 b (hLs b hb)).1,Nat.lt_of_lt_of_le (hown.2 b (hLs b hb)).2.1 hsz,fun hb2=> ?_⟩⟩
   rcases hi' b hb2 with h1|h1
   ·exact(hown.2 b (hLs b hb)).2.2 h1
   ·exact h1.2 hb
  ·simp only[hne,if_false]
   refine⟨(h.own d p hp).1,fun b hb=>⟨((h.own d p hp).2 b hb).1,Nat.lt_of_lt_of_le ((h.own d p hp).2 b hb).2.1 hsz,fun hb2=> ?_⟩⟩
   rcases hi' b hb2 with h1|h1
   ·exact((h.own d p hp).2 b hb).2.2 h1
   ·exact h.apart d p c o hp hc hne b hb h1.1
 ·rcases g d p hp with⟨rfl,rfl⟩|⟨hd1,hp1⟩<;>rcases g e q hq with⟨rfl,rfl⟩|⟨hd2,hq1⟩
  ·exact(hne rfl).elim
  ·simp only[if_true,hd2,if_false];intro b hb hb2;exact h.apart e q d o hq1 hc hd2 b hb2 (hLs b hb)
  ·simp only[if_true,hd1,if_false];exact fun b hb hb2=>h.apart d p e o hp1 hc hd1 b hb (hLs b hb2)
  ·simp only[hd1,hd2,if_false];exact h.apart d p e q hp1 hq1 hne
theorem Kw {hd2:Nat->Value}:∀ {vs:List Value} {l:List CV},xO l=true->CVs w Im hd vs l->CVs w Im hd2 vs l
 | [],[],_,_=>trivial
 |v::vs,c::l,hp,h=>by
  have hp' :xO l=true:=by
   unfold xO at hp⊢
   simp only[List.all_cons,zgx]at hp
   exact hp.2
  refine⟨?_,Kw hp' h.2⟩
  cases c with
  |dead=>exact trivial
  |nil=>exact h.1
  |val t x=>exact h.1
  |own d=>simp[xO]at hp
  |unk=>exact h.1
 | [],_::_,_,h=>h.elim
 |_::_,[],_,h=>h.elim
theorem Pq {l:List CV}(h:xO l=true)(n:Nat):xO (l.drop n)=true:=by
 unfold xO at*
 rw[zgS]at*
 exact fun x hx=>h x (List.mem_of_mem_drop hx)
theorem jv:∀(t:Ty) (x:t.den),xO (yX t x)=true
 | .int _,_=>rfl| .bool,_=>rfl| .str,_=>rfl| .slice _,_=>rfl| .set,_=>rfl| .err,_=>rfl
 | .pair a b,x=>by
   have h1:=jv a x.1
   have h2:=jv b x.2
   unfold xO at*
   show((yX a x.1++yX b x.2).all _)=true
   rw[List.all_append,h1,h2];rfl
theorem AH {v:Value}{L:List Nat}{t:Ty}{xs:List t.den}{d cn:Bool}(h:ObR w Im hd v L (.row t xs d cn)){i:Nat}(hi:i<xs.length):
 ∃b f cap,v= .slice (some ⟨b,f,none⟩) xs.length cap/\b∈L/\∃cs,cs.length=t.sz/\At w b (f+i*t.sz) cs/\(t.flat=true\/d=false->VR w Im t (xs.getD i t.dflt) cs):=by
 rcases h.1 with⟨rfl,rfl,rfl⟩|⟨b,f,cap,cs,E,Li,rfl,hb,h1,h2,rfl,hl⟩
 ·simp at hi
 ·obtain⟨l,hp,hl2,hle⟩:=hl.get i xs[i] (by simp[hi])
  rw[List.drop_drop]at hp
  rw[zgR]at hle
  have e:xs.getD i t.dflt=xs[i]:=by simp[List.getD,hi]
  rw[e]
  refine⟨b,f,cap,rfl,by simp,_, ?_,ud hb (f+i*t.sz) t.sz,fun hf=> ?_⟩
  ·rw[zgL,zgR];rw[Nat.add_mul,Nat.one_mul]at hle;omega
  ·cases d with
   |false=>exact hp.1
   |true=>
    rcases hf with hf|hf
    ·exact VR.flat hf (OT.read (S:=fun _=>True) hp (fun _ _=>trivial))
    ·cases hf
theorem Bc {c b f:Nat}(h:hd c= .pointer (some ⟨b,f,none⟩)):Value.top (hd c)=some (b,f):=by rw[h];rfl
theorem wi {v:Value}{b f n k:Nat}(h:v= .slice (some ⟨b,f,none⟩) n k):Value.top v=some (b,f):=by rw[h];rfl
theorem OL.nodeep {t:Ty}{xs:List t.den}{cs:List Value}{L:List Nat}{S:Nat->Prop}(h:OL t.sz (OT w t) xs cs L)(hs:∀b∈L,S b):OL t.sz (fun x cs L=>VR w S t x cs/\L=[]) xs cs []:=by
 induction xs generalizing cs L with
 |nil=>rfl
 |cons x xs ih=>
  obtain⟨L1,L2,rfl,hn,hp,h⟩:=h
  exact⟨[],[],rfl,hn,⟨hp.read (fun b hb=>hs b (by simp[hb])),rfl⟩,ih h (fun b hb=>hs b (by simp[hb]))⟩
theorem SRi.soften (h:SRi w0 S0 σ a w Im hd bl){c:Nat}{t:Ty}{xs:List t.den}{cn:Bool}(hc:zd σ.ob c=some (.row t xs true cn)):
 ∃Im' bl',SRi w0 S0 { σ with ob:=yt σ.ob c (.row t xs false cn)} a w Im' hd bl' /\(∀b,Im b->Im' b):=by
 have ho:=h.objs c _ hc
 have hown:=h.own c _ hc
 rcases ho.1 with⟨e1,rfl,e3⟩|⟨b,f0,cap,cs,E,Li,e1,hb,h1,h2,e5,hl⟩
 ·exact⟨Im,_,h.obj hc (fun _ _ _=>rfl) (zgC _) h.below (fun _ x=>x) (fun b hb=> .inl hb) (L:=[]) List.nodup_nil (fun b hb=>by cases hb) ⟨.inl ⟨e1,rfl,rfl⟩,ho.2⟩,fun _ x=>x⟩
 ·refine⟨fun b' =>Im b' \/b' ∈Li,_,h.obj hc (fun _ _ _=>rfl) (zgC _) h.below (fun _ x=> .inl x) (fun b' hb' => ?_) (L:=[b]) (by simp) (fun b' hb' =>by simp at hb';rw[e5,hb'];simp) ⟨.inr ⟨b,f0,cap,cs,E,[],e1,hb,h1,h2,rfl, ?_⟩,ho.2⟩,fun _ x=> .inl x⟩
  ·rcases hb' with h3|h3
   ·exact .inl h3
   ·refine .inr ⟨by rw[e5];simp[h3],fun h4=> ?_⟩
    simp at h4
    have:=hown.1
    rw[e5,zgV]at this
    exact this.1 (h4▸h3)
  ·exact OL.nodeep (S:=fun b' =>Im b' \/b' ∈Li) hl (fun b' hb' => .inr hb')
theorem zan {E:Env}(hE:∀T ti,E.ty T=some ti->TyOk P T ti)(h:SRi w0 S0 σ a w Im hd bl){T:Nat}{x:AV}{v:Value}(hx:AVR w Im hd v x)
 {next:St->AV->Option ρ} {r:ρ} (hn:aLoad E σ T x next=some r):
 ∃u τ av Im' bl',(Instr.loadAt T v).run P w= .ok u w/\SRi w0 S0 τ a w Im' hd bl' /\AVR w Im' hd u av/\next τ av=some r:=by
 unfold aLoad at hn
 cases hT:P8 E T with
 |none=>simp[hT]at hn
 |some p=>
  obtain⟨n,agg⟩:=p
  obtain⟨⟨i,hi,hsz⟩,hagg,h1⟩:=aW hE hT
  simp only[hT]at hn
  cases x with
  |cv c=>cases hn
  |ag l=>cases hn
  |fn f l=>cases hn
  |tup l=>cases hn
  |adr c o=>
   simp only at hn
   cases hc:zd σ.ob c with
   |none=>simp[hc]at hn
   |some ob=>
    cases ob with
    |hole t xs i v=>simp[hc]at hn
    |tl t xs n=>simp[hc]at hn
    |mp l=>simp[hc]at hn
    |im l=>simp[hc]at hn
    |hol t xs i l=>simp[hc]at hn
    |row t xs d cn=>simp[hc]at hn
    |arr t xs=>simp[hc]at hn
    |box l=>
     simp only[hc]at hn
     obtain⟨h2,h3⟩:=zb hn
     have hle:=zgZ h2
     obtain⟨b,e1,rfl⟩:=hx
     obtain⟨b',cs,F,e2,hb,_,hcs⟩:=h.objs c _ hc
     rw[e1]at e2;cases e2
     have hlen:=hcs.len
     have hl:((cs.toList.drop o).take n).length=n:=by rw[zgL,zgR,hlen];omega
     refine⟨_,σ,_,Im,bl,x7 (ud hb o n) hi (by rw[hl];exact hsz) hagg (fun e=>by rw[hl];exact h1 e),h,xx ((hcs.drop o).take n),h3⟩
  |ref l=>
   simp only at hn
   obtain⟨h2,h3⟩:=zb hn
   have hle:=zgZ h2
   obtain⟨pl,b,o,vs,hb,rfl,hat,hcs⟩:=hx
   have hlen:=hcs.len
   have hl:(vs.take n).length=n:=by rw[zgL,hlen];omega
   have hat' :At w b o (vs.take n):=fun j u hj=>hat j u (by rw[List.getElem?_take]at hj;split at hj<;>first|exact hj|cases hj)
   exact⟨_,σ,_,Im,bl,x7 hat' hi (by rw[hl];exact hsz) hagg (fun e=>by rw[hl];exact h1 e),h,xx ((Kw pl hcs).take n),h3⟩
  |el c m j o=>
   simp only at hn
   cases hc:zd σ.ob c with
   |none=>simp[hc]at hn
   |some ob=>
    cases ob with
    |hole t xs i v=>simp[hc]at hn
    |tl t xs n=>simp[hc]at hn
    |mp l=>simp[hc]at hn
    |im l=>simp[hc]at hn
    |hol t xs i2 l=>
     simp only[hc]at hn
     obtain⟨h2,h3⟩:=zb hn
     obtain⟨h4,h5⟩:=zb h3
     have hm:Nat.beq m t.sz=true/\Nat.ble (o+n) m=true:=by simpa using h2
     obtain rfl:=zgE hm.1
     have hle:=zgZ hm.2
     obtain rfl:=zgE h4
     obtain⟨b,f1,e1,rfl⟩:=hx
     obtain⟨b',f',cap,cs,F,L1,L2,g1,g2,g3,g4,g5,g6,g7,g8,g9⟩:=h.objs c _ hc
     rw[wi g1]at e1
     cases e1
     have hlen:=g9.len
     have hl0:(((cs.toList.drop f1).drop (j*t.sz)).take t.sz).length=t.sz:=by
      rw[zgL,zgR,zgR,zgW]
      have h7:(j+1)*t.sz<=cap*t.sz:=Nat.mul_le_mul_right _ (by omega)
      rw[Nat.add_mul,Nat.one_mul]at h7
      omega
     have hl:(((((cs.toList.drop f1).drop (j*t.sz)).take t.sz).drop o).take n).length=n:=by rw[zgL,zgR,hl0];omega
     have hat:At w b (f1+j*t.sz+o) (((((cs.toList.drop f1).drop (j*t.sz)).take t.sz).drop o).take n):=fun q u hq=>by
      rw[List.getElem?_take]at hq
      split at hq
      ·rw[List.getElem?_drop,List.drop_drop]at hq
       have:=ud g2 (f1+j*t.sz) t.sz (o+q) u hq
       rwa [<-Nat.add_assoc]at this
      ·cases hq
     exact⟨_,σ,_,Im,bl,x7 hat hi (by rw[hl];exact hsz) hagg (fun e=>by rw[hl];exact h1 e),h,xx ((g9.drop o).take n),h5⟩
    |box l=>simp[hc]at hn
    |row t xs d cn=>
     simp only[hc]at hn
     obtain⟨h2,h3⟩:=zb hn
     obtain⟨h4,h5⟩:=zb h3
     have hm:Nat.beq m t.sz=true/\Nat.ble (o+n) m=true:=by simpa using h2
     obtain rfl:=zgE hm.1
     have hle:=zgZ hm.2
     have hj:j<xs.length:=zgw h4
     obtain⟨b,f1,e1,rfl⟩:=hx
     obtain⟨τ,Im',bl',hτ,hget,hsub,hnext⟩:∃τ Im' bl',SRi w0 S0 τ a w Im' hd bl' /\(∃d',zd τ.ob c=some (.row t xs d' cn)/\(t.flat=true\/d' =false))/\(∀b,Im b->Im' b)/\
      next τ (xy agg (((yX t (xs.getD j t.dflt)).drop o).take n))=some r:=by
      cases hf:t.flat|| !d with
      |true=>
       rw[hf]at h5
       refine⟨σ,Im,bl,h,⟨d,hc, ?_⟩,fun _ x=>x,h5⟩
       simpa[Bool.or_eq_true]using hf
      |false=>
       rw[hf]at h5
       have hd' :d=true:=by simp at hf;exact hf.2
       subst hd'
       obtain⟨Im',bl',h6,h7⟩:=h.soften hc
       exact⟨_,Im',bl',h6,⟨false,by rw[yW];simp, .inr rfl⟩,h7,h5⟩
     obtain⟨d',hget,hfd⟩:=hget
     obtain⟨b',f0,cap,e2,_,cs,hcl,hat,hvr⟩:=AH (hτ.objs c _ hget) hj
     rw[wi e2]at e1;cases e1
     have hv:=hvr hfd
     have hcs:CVs w Im' hd cs (yX t (xs.getD j t.dflt)):=xH hv
     have hl:((cs.drop o).take n).length=n:=by rw[zgL,zgR,hcl];omega
     have hat' :At w b (f1+j*t.sz+o) ((cs.drop o).take n):=fun q u hq=>by
      rw[List.getElem?_take]at hq
      split at hq
      ·rw[List.getElem?_drop]at hq
       have:=hat (o+q) u hq
       rwa [<-Nat.add_assoc]at this
      ·cases hq
     exact⟨_,τ,_,Im',bl',x7 hat' hi (by rw[hl];exact hsz) hagg (fun e=>by rw[hl];exact h1 e),hτ,xx ((hcs.drop o).take n),hnext⟩
    |arr t xs=>
     simp only[hc]at hn
     obtain⟨h2,h3⟩:=zb hn
     obtain⟨h4,h5⟩:=zb h3
     have hm:(Nat.beq m t.sz=true/\Nat.ble (o+n) m=true)/\t.flat=true:=by simpa using h2
     obtain rfl:=zgE hm.1.1
     have hle:=zgZ hm.1.2
     have hj:j<xs.length:=zgw h4
     obtain⟨b,f1,e1,rfl⟩:=hx
     obtain⟨b',cs0,F,e2,hb,hs0,_,_,hol⟩:=h.objs c _ hc
     rw[Bc e2]at e1;cases e1
     obtain⟨l,hp,_,hle2⟩:=hol.get j xs[j] (by simp[hj])
     have e:xs.getD j t.dflt=xs[j]:=by simp[List.getD,hj]
     rw[e]at h5
     have hcs:CVs w Im hd _ (yX t xs[j]):=xH hp.1
     have hcl:((cs0.toList.drop (j*t.sz)).take t.sz).length=t.sz:=VR.sz hp.1
     have hl:((((cs0.toList.drop (j*t.sz)).take t.sz).drop o).take n).length=n:=by rw[zgL,zgR,hcl];omega
     have hat:=ud hb (j*t.sz) t.sz
     rw[Nat.zero_add]
     have hat' :At w b (j*t.sz+o) ((((cs0.toList.drop (j*t.sz)).take t.sz).drop o).take n):=fun q u hq=>by
      rw[List.getElem?_take]at hq
      split at hq
      ·rw[List.getElem?_drop]at hq
       have:=hat (o+q) u hq
       rwa [<-Nat.add_assoc]at this
      ·cases hq
     exact⟨_,σ,_,Im,bl,x7 hat' hi (by rw[hl];exact hsz) hagg (fun e=>by rw[hl];exact h1 e),h,xx ((hcs.drop o).take n),h5⟩
theorem J5 {E:Env}(hE:∀T ti,E.ty T=some ti->TyOk P T ti){T f off n:Nat}{agg:Bool}(h:TL E T f=some (off,n,agg)):
 ∃fields fld,P.underlying T=some (.struct fields)/\fields[f]? =some fld/\fld.offset=off/\P8 E fld.type=some (n,agg):=by
 unfold TL at h
 split at h
 ·rename_i fs ks eq hT
  split at h
  ·rename_i off' u hf
   obtain⟨p,hp,e⟩:=zgQ.1 h
   simp only[Prod.mk.injEq]at e
   obtain⟨rfl,rfl,rfl⟩:=e
   obtain⟨fields,hu,_,_,hfs,_⟩:=hE T _ hT
   obtain⟨fld,h1,h2,h3⟩:=hfs f _ u hf
   exact⟨fields,fld,hu,h1,h2,by rw[h3];exact hp⟩
  ·cases h
 ·cases h
theorem Sd {T f off n:Nat}{agg:Bool}{E:Env}(hE:∀T ti,E.ty T=some ti->TyOk P T ti)(h:TL E T f=some (off,n,agg))(hn:1<=n)(b o:Nat)(w:World):
 (Instr.fieldAt T (.pointer (some ⟨b,o,none⟩)) f).run P w= .ok (.pointer (some ⟨b,o+off,none⟩)) w:=by
 obtain⟨fields,fld,hu,hf,rfl,hs⟩:=J5 hE h
 obtain⟨⟨i,hi,hsz⟩,_,_⟩:=aW hE hs
 have h0:¬i.size=0:=by omega
 simp[Instr.fieldAt,run_underlying hu,hf,Instr.sureAddr,fieldPlace,gJ hi,h0,gR]
theorem DE {T f off n:Nat}{agg:Bool}{E:Env}(hE:∀T ti,E.ty T=some ti->TyOk P T ti)(h:TL E T f=some (off,n,agg)){vs:List Value}{l:List CV}(hv:CVs w Im hd vs l)(hl:off+n<=l.length):
 ∃u,(Instr.field T (.agg vs.toArray) f).run P w= .ok u w/\AVR w Im hd u (xy agg ((l.drop off).take n)):=by
 obtain⟨fields,fld,hu,hf,rfl,hs⟩:=J5 hE h
 obtain⟨⟨i,hi,hsz⟩,hagg,h1⟩:=aW hE hs
 have hlen:=hv.len
 have hd' :=((hv.drop fld.offset).take n)
 refine⟨xw agg ((vs.drop fld.offset).take n), ?_,xx hd'⟩
 cases agg with
 |true=>
  simp[Instr.field,run_underlying hu,hf,asAgg,part,hagg w,gJ hi,hsz,xw]
 |false=>
  obtain rfl:=h1 rfl
  have hlt:fld.offset<vs.length:=by omega
  simp[Instr.field,run_underlying hu,hf,asAgg,part,hagg w,hlt,xw]
  rw[List.head?_take,List.head?_drop]
  simp[hlt]
theorem wu {T e i len cap:Nat}{t:Ty}{k:IntKind}(hu:P.underlying T=some (.slice e))(he:V5 P e t){b o:Nat}(hi:i<len)(w:World):
 (Instr.indexAt T (.slice (some ⟨b,o,none⟩) len cap) (.int k (i:Int))).run P w= .ok (.pointer (some ⟨b,o+i*t.sz,none⟩)) w:=by
 obtain⟨ie,z,h1,h2,_⟩:=he
 have h3:(0:Int)<=(i:Int)/\(i:Int)<(len:Int):=by omega
 simp[Instr.indexAt,asIntOf,run_underlying hu,gJ h1,h2,hi,gR]
theorem Kk {T e i n:Nat}{t:Ty}{k:IntKind}(hu:P.underlying T=some (.array n e))(he:V5 P e t){b:Nat}(hi:i<n)(h2:2<=n)(w:World):
 (Instr.indexAt T (.pointer (some ⟨b,0,none⟩)) (.int k (i:Int))).run P w= .ok (.pointer (some ⟨b,i*t.sz,none⟩)) w:=by
 obtain⟨ie,z,h1,h3,_⟩:=he
 have h4:¬n<=1:=by omega
 simp[Instr.indexAt,asIntOf,run_underlying hu,gJ h1,h3,hi,Instr.sureAddr,gR,h4]
theorem RefR.of_VR {t:Ty}{x:t.den}{b o:Nat}{cs:List Value}(hb:Im b)(hat:At w b o cs)(hv:VR w Im t x cs):AVR w Im hd (.pointer (some ⟨b,o,none⟩)) (.ref (yX t x)):=
 ⟨jv t x,b,o,cs,hb,rfl,hat,xH hv⟩
theorem Xo {E:Env}(hE:∀T ti,E.ty T=some ti->TyOk P T ti)(h:SRi w0 S0 σ a w Im hd bl){T:Nat}{x:AV}{v:Value}{k:IntKind}{i:Int}(hx:AVR w Im hd v x)
 {next:AV->Option ρ} {r:ρ} (hn:yN E σ T x i next=some r):
 ∃u av,(∀w',(Instr.indexAt T v (.int k i)).run P w' = .ok u w')/\AVR w Im hd u av/\next av=some r:=by
 unfold yN at hn
 split at hn
 ·rename_i t u xs hT
  obtain⟨h1,hn⟩:=zb hn
  obtain⟨h2,hn⟩:=zb hn
  obtain⟨h3,hn⟩:=zb hn
  obtain rfl:=Ty.same_eq h1
  have h2' :0<=i:=zgw h2
  have h3' :i<(xs.length:Int):=zgw h3
  obtain⟨j,rfl⟩:∃j:Nat,i=j:=⟨i.toNat,by omega⟩
  have hj:j<xs.length:=by omega
  obtain⟨e,hu,he⟩:=yB hE hT
  obtain⟨A,cap,ev,hc,hr⟩:=hx
  simp only[List.cons.injEq,and_true]at ev
  subst ev
  rcases hr with rfl|⟨b,o,rfl,hb,hr⟩
  ·simp at hj
  ·obtain⟨cs,hcl,hat,hv⟩:=hr j xs[j] (by simp[hj])
   refine⟨_,_,fun w' =>wu hu he hj w', ?_,hn⟩
   have e:xs.getD (j:Int).toNat t.dflt=xs[j]:=by simp[List.getD,hj]
   rw[e]
   exact RefR.of_VR hb hat hv
 ·rename_i t c hT
  cases hc:zd σ.ob c with
  |none=>simp[hc]at hn
  |some ob=>
   cases ob with
   |box l=>simp[hc]at hn
   |arr t xs=>simp[hc]at hn
   |row u xs d cn=>
    simp only[hc]at hn
    obtain⟨h1,hn⟩:=zb hn
    obtain⟨h2,hn⟩:=zb hn
    obtain⟨h3,hn⟩:=zb hn
    obtain rfl:=Ty.same_eq h1
    have h2' :0<=i:=zgw h2
    have h3' :i<(xs.length:Int):=zgw h3
    obtain⟨j,rfl⟩:∃j:Nat,i=j:=⟨i.toNat,by omega⟩
    have hj:j<xs.length:=by omega
    obtain⟨e,hu,he⟩:=yB hE hT
    obtain⟨b,f0,cap,e2,_⟩:=AH (h.objs c _ hc) hj
    have ev:v=hd c:=hx
    rw[ev,e2]
    refine⟨_,_,fun w' =>wu hu he hj w', ?_,hn⟩
    exact⟨b,f0,wi e2,rfl⟩
   |hole u xs z c0=>
    simp only[hc]at hn
    obtain⟨h1,hn1⟩:=zb hn
    obtain⟨h2,hn2⟩:=zb hn1
    obtain⟨h3,hn3⟩:=zb hn2
    obtain rfl:=Ty.same_eq h1
    have h2' :0<=i:=zgw h2
    have h3' :i<(xs.length:Int):=zgw h3
    obtain⟨j,rfl⟩:∃j:Nat,i=j:=⟨i.toNat,by omega⟩
    have hj:j<xs.length:=by omega
    obtain⟨e,hu,he⟩:=yB hE hT
    obtain⟨b,f0,cap,cs,F,L1,L2,u',e2,_⟩:=h.objs c _ hc
    have ev:v=hd c:=hx
    rw[ev,e2]
    refine⟨_,_,fun w' =>wu hu he hj w', ?_,hn3⟩
    exact⟨b,f0,wi e2,by simp[Ty.sz]⟩
   |mp l=>simp[hc]at hn
   |im l=>simp[hc]at hn
   |hol u xs z l0=>
    simp only[hc]at hn
    obtain⟨h1,hn1⟩:=zb hn
    obtain⟨h2,hn2⟩:=zb hn1
    obtain⟨h3,hn3⟩:=zb hn2
    obtain rfl:=Ty.same_eq h1
    have h2' :0<=i:=zgw h2
    have h3' :i<(xs.length:Int):=zgw h3
    obtain⟨j,rfl⟩:∃j:Nat,i=j:=⟨i.toNat,by omega⟩
    have hj:j<xs.length:=by omega
    obtain⟨e,hu,he⟩:=yB hE hT
    obtain⟨b,f0,cap,cs,F,L1,L2,e2,_⟩:=h.objs c _ hc
    have ev:v=hd c:=hx
    rw[ev,e2]
    refine⟨_,_,fun w' =>wu hu he hj w', ?_,hn3⟩
    exact⟨b,f0,wi e2,rfl⟩
   |tl u xs n0=>
    simp only[hc]at hn
    obtain⟨h1,hn1⟩:=zb hn
    obtain⟨h2,hn2⟩:=zb hn1
    obtain⟨h3,hn3⟩:=zb hn2
    obtain rfl:=Ty.same_eq h1
    have h2' :0<=i:=zgw h2
    have h3' :i<(xs.length:Int):=zgw h3
    obtain⟨j,rfl⟩:∃j:Nat,i=j:=⟨i.toNat,by omega⟩
    have hj:j<xs.length:=by omega
    obtain⟨e,hu,he⟩:=yB hE hT
    have ev:v=hd c:=hx
    rcases h.objs c _ hc with⟨_,e1,_⟩|⟨b,f0,cap,cs,F,Li,e2,_⟩
    ·rw[e1]at hj;simp at hj
    rw[ev,e2]
    refine⟨_,_,fun w' =>wu hu he hj w', ?_,hn3⟩
    exact⟨b,f0,wi e2,rfl⟩
 ·rename_i n t c hT
  cases hc:zd σ.ob c with
  |none=>simp[hc]at hn
  |some ob=>
   cases ob with
   |tl t xs n=>simp[hc]at hn
   |mp l=>simp[hc]at hn
   |im l=>simp[hc]at hn
   |hol t xs i l=>simp[hc]at hn
   |hole t xs i v=>simp[hc]at hn
   |box l=>simp[hc]at hn
   |row u xs d cn=>simp[hc]at hn
   |arr u xs=>
    simp only[hc]at hn
    obtain⟨h1,hn⟩:=zb hn
    obtain⟨h2,hn⟩:=zb hn
    obtain⟨h3,hn⟩:=zb hn
    have h1' :(Ty.same t u=true/\Nat.beq xs.length n=true)/\Nat.ble 2 n=true:=by simpa using h1
    obtain rfl:=Ty.same_eq h1'.1.1
    have hlen:=zgE h1'.1.2
    have h22:=zgZ h1'.2
    have h2' :0<=i:=zgw h2
    have h3' :i<(xs.length:Int):=zgw h3
    obtain⟨j,rfl⟩:∃j:Nat,i=j:=⟨i.toNat,by omega⟩
    obtain⟨e,hu,he,_⟩:=hE T _ hT
    obtain⟨b,e1,rfl⟩:=hx
    refine⟨_,_,fun w' =>Kk hu he (by omega) h22 w', ?_,hn⟩
    exact⟨b,0,Bc e1,by simp⟩
 ·cases hn
theorem N4 {E:Env}(hE:∀T ti,E.ty T=some ti->TyOk P T ti){T:Nat}{x:AV}{v:Value}{k:IntKind}{i:Int}(hx:AVR w Im hd v x)
 {next:AV->Option ρ} {r:ρ} (hn:uo E T x i next=some r):
 ∃u av,(Instr.index T v (.int k i)).run P w= .ok u w/\AVR w Im hd u av/\next av=some r:=by
 unfold uo at hn
 split at hn
 ·rename_i s hT
  obtain⟨h2,hn⟩:=zb hn
  obtain⟨h3,hn⟩:=zb hn
  have h2' :0<=i:=zgw h2
  have h3' :i<(s.size:Int):=zgw h3
  obtain⟨d,hd2,hk,_⟩:=hE T _ hT
  cases(show d=_ from hk)
  rw[Wg hx]
  have hlt:i.toNat<s.size:=by omega
  refine⟨_,_, ?_,ivr,hn⟩
  have e:s[i.toNat]? =some (s.data.toList.getD i.toNat 0):=by
   rw[getElem?_pos s i.toNat hlt]
   congr 1
   have hl:i.toNat<s.data.toList.length:=by simpa using hlt
   rw[List.getD,zgD hl]
   rfl
  simp[Instr.index,asIntOf,run_underlying hd2,h2',e]
 ·cases hn
theorem zdF {E:Env}(hE:∀T ti,E.ty T=some ti->TyOk P T ti)(h:SRi w0 S0 σ a w Im hd bl){T:Nat}{ts:List Nat}{ty:TypeId}{x:AV}{v:Value}(hx:AVR w Im hd v x){next:AV->Option ρ}{r:ρ}(hn:aLen E σ T x next=some r):
 ∃u av,(Builtin.len_ (T::ts).toArray ty #[v]).run P w= .ok u w/\AVR w Im hd u av/\next av=some r:=by
 have sl:∀ {t:Ty},E.ty T=some (.one (.slice t))->∀ {A:Option Addr} {n k:Nat},v= .slice A n k->(Builtin.len_ (T::ts).toArray ty #[v]).run P w= .ok (.int .i64 (n:Int)) w:=by
  intro t hT A n k e
  obtain⟨d,hu,_⟩:=yB hE hT
  subst e
  simp[Builtin.len_,run_underlying hu,goInt]
 unfold aLen at hn
 split at hn
 ·rename_i hT
  split at hn
  ·obtain⟨d,hu,hk,_⟩:=hE T _ hT
   cases(show d=_ from hk)
   rw[Wg hx]
   exact⟨_,_,by simp[Builtin.len_,run_underlying hu,goInt],ivr,hn⟩
  ·cases hn
 ·rename_i hT
  split at hn
  ·exact⟨_,_,sl hT (nil_of hx),ivr,hn⟩
  ·obtain⟨A,cap,e,_⟩:=hx
   simp only[List.cons.injEq,and_true]at e
   exact⟨_,_,sl hT e,ivr,hn⟩
  ·rename_i c
   cases hc:zd σ.ob c with
   |none=>simp[hc]at hn
   |some ob=>
    cases ob with
    |box l=>simp[hc]at hn
    |arr t xs=>simp[hc]at hn
    |row t xs d cn=>
     simp only[hc]at hn
     have ev:v=hd c:=hx
     rcases(h.objs c _ hc).1 with⟨e1,rfl,_⟩|⟨b,f0,cap,cs,E,Li,e1,_⟩
     ·exact⟨_,_,sl hT (ev.trans e1),ivr,hn⟩
     ·exact⟨_,_,sl hT (ev.trans e1),ivr,hn⟩
    |hole t xs i c0=>
     simp only[hc]at hn
     have ev:v=hd c:=hx
     obtain⟨b,f0,cap,cs,F,L1,L2,u',e2,_⟩:=h.objs c _ hc
     exact⟨_,_,sl hT (ev.trans e2),ivr,hn⟩
    |mp l=>simp[hc]at hn
    |im l=>simp[hc]at hn
    |hol t xs i l=>
     simp only[hc]at hn
     have ev:v=hd c:=hx
     obtain⟨b,f0,cap,cs,F,L1,L2,e2,_⟩:=h.objs c _ hc
     exact⟨_,_,sl hT (ev.trans e2),ivr,hn⟩
    |tl t xs n0=>
     simp only[hc]at hn
     have ev:v=hd c:=hx
     rcases h.objs c _ hc with⟨e1,rfl,_⟩|⟨b,f0,cap,cs,F,Li,e2,_⟩
     ·exact⟨_,_,sl hT (ev.trans e1),ivr,hn⟩
     ·exact⟨_,_,sl hT (ev.trans e2),ivr,hn⟩
  ·cases hn
 ·cases hn
theorem UF {big:Bool}{l:List AV}{av:AV}(hn:aMaxMin big l=some av):∃x y k m n,l=[x,y]/\x= .cv (.val (.int k) m)/\y= .cv (.val (.int k) n)/\
 av= .cv (.val (.int k) (bif big then(bif decide (n>m)then n else m)else(bif decide (n<m)then n else m))):=by
 unfold aMaxMin at hn
 split at hn
 ·rename_i k x k' y
  cases hk:KX k k' with
  |false=>rw[hk]at hn;cases hn
  |true=>
   rw[hk]at hn
   obtain rfl:=RQ hk
   cases hn
   exact⟨_,_,_,_,_,rfl,rfl,rfl,rfl⟩
 ·cases hn
theorem PRs.get:∀ {vs:List Value} {l:List (Bool×List CV)},PRs w Im hd vs l->∀(j:Nat) (c:Bool×List CV),l[j]? =some c->∃v,vs[j]? =some v/\PR w Im hd v c
 | [],[],_,j,c,hj=>by simp at hj
 |v::vs,c::cs,h,0,d,hj=>⟨v,rfl,by cases(show some c=some d from hj);exact h.1⟩
 |v::vs,c::cs,h,j+1,d,hj=>PRs.get h.2 j d hj
theorem PR.avr {v:Value}:∀ {p:Bool×List CV},PR w Im hd v p->AVR w Im hd v (xy p.1 p.2)
 |(true,l),h=>h
 |(false,[]),_=>trivial
 |(false,[c]),h=>h
 |(false,_::_::_),_=>trivial
theorem PR.of {v:Value}:∀ {p:Bool×List CV},AVR w Im hd v (xy p.1 p.2)->PR w Im hd v p
 |(true,l),h=>h
 |(false,[]),_=>trivial
 |(false,[c]),h=>h
 |(false,_::_::_),_=>trivial
theorem Kl {i:Nat}{vs:List Value}{v:Value}(h:vs[i]? =some v)(w:World):(Instr.extract (.tuple vs.toArray) i).run P w= .ok v w:=by
 simp[Instr.extract,h]
end
section
variable {P:Program} {ρ:Type} {gw:Gw} {w0:Base gw} {w:World} {S0:Nat->Prop} {σ:St} {a:Act} {Im:Nat->Prop} {hd:Nat->Value} {bl:Nat->List Nat} {Q:Exit->Act->World->Prop}
theorem vH (w:World)(o:Obj)(b:Nat)(h:b<w.heap.size):(w.alloc o).heap[b]? =w.heap[b]? :=Below.heap_alloc w o b h
theorem jP (w:World)(o:Obj):(w.alloc o).heap[w.heap.size]? =some o:=by show(w.heap.push o)[w.heap.size]? =_;simp
theorem vc (w:World)(o:Obj):(w.alloc o).heap.size=w.heap.size+1:=by show(w.heap.push o).size=_;simp
theorem SRi.alloc (h:SRi w0 S0 σ a w Im hd bl)(o:Obj):SRi w0 S0 σ a (w.alloc o) Im hd bl:=
 h.world (fun b hb=>vH w o b hb) (by rw[vc];omega) (h.below.alloc o)
theorem SRi.made (h:SRi w0 S0 σ a w Im hd bl){w' :World}(c:Nat)(hc5:c<500000){o:Ob}{v:Value}(hw:∀b,b<w.heap.size->w'.heap[b]? =w.heap[b]?)(hsz:w'.heap.size=w.heap.size+1)(hb:Kept w0 w')
 (ho:ObR w' Im (fun d=>if d=c then v else hd d) v [w.heap.size] o):SRi w0 S0 (σ.new c o) a w' Im (fun d=>if d=c then v else hd d) (fun d=>if d=c then [w.heap.size]else bl d):=by
 have h' :=h.world hw (by omega) hb
 refine h'.new_ c hc5 (fun d p _ hp b hb hb2=> ?_) (by simp) (fun b hb=> ?_) ho
 ·simp at hb2;have:=((h.own d p hp).2 b hb).2.1;omega
 ·simp at hb;subst hb
  exact⟨Kept.fresh h.below (zgC _),by omega,fun hi=>Nat.lt_irrefl _ (h.lt _ hi)⟩
theorem zge (h:SRi w0 S0 σ a w Im hd bl){c:Nat}{t:Ty}{xs:List t.den}{d n:Bool}(hc:zd σ.ob c=some (.row t xs d n)):(hd c).oneCell' =true:=by
 rcases(h.objs c _ hc).1 with⟨e,_⟩|⟨b,f0,cap,cs,E,Li,e,_⟩<;>rw[e]<;>rfl
theorem AW (h:SRi w0 S0 σ a w Im hd bl){c:CV}{v:Value}(hl:σ.live c=true)(hv:CVR w Im hd v c):v.oneCell' =true:=by
 cases c with
 |dead=>cases hl
 |nil=>rw[show v=_ from hv];rfl
 |val t x=>exact VR.one (t:=t) hv v (by simp)
 |unk=>obtain⟨b,rfl⟩:=hv;rfl
 |own c=>
  unfold St.live at hl
  split at hl
  ·cases hl
  ·rename_i d e
   cases e
   split at hl
   ·rename_i hc;rw[show v=_ from hv];exact zge h hc
   ·rename_i hc
    obtain⟨b,e,_⟩:=h.objs _ _ hc
    rw[show v=_ from hv,e];rfl
   ·cases hl
  ·rename_i h1 h2;exact absurd rfl (h2 c)
theorem DY (h:SRi w0 S0 σ a w Im hd bl):∀ {l:List CV} {vs:List Value},l.all σ.live=true->CVs w Im hd vs l->∀u∈vs,u.oneCell' =true
 | [],[],_,_=>by simp
 |c::l,v::vs,hl,hv=>by
  rw[List.all_cons,zgx]at hl
  intro u hu
  rcases zgO.1 hu with rfl|hu
  ·exact AW h hl.1 hv.1
  ·exact DY h hl.2 hv.2 u hu
 | [],_::_,_,hv=>hv.elim
 |_::_,[],_,hv=>hv.elim
theorem M9 (h:SRi w0 S0 σ a w Im hd bl){v:Value}{av:AV}{l:List CV}(hv:AVR w Im hd v av)(hl:σ.cells av=some l):
 ∃cs,v.cells=cs.toArray/\CVs w Im hd cs l/\l.all σ.live=true/\∀u∈cs,u.oneCell' =true:=by
 unfold St.cells at hl
 split at hl
 ·rename_i c
  cases hc:σ.live c with
  |false=>rw[hc]at hl;cases hl
  |true=>
   rw[hc]at hl;cases hl
   have h1:=AW h hc hv
   exact⟨[v],zdr h1,⟨hv,trivial⟩,by simp[hc],by simpa using h1⟩
 ·rename_i l'
  cases hc:l'.all σ.live with
  |false=>rw[hc]at hl;cases hl
  |true=>
   rw[hc]at hl;cases hl
   obtain⟨vs,rfl,hvs⟩:=hv
   exact⟨vs,rfl,hvs,hc,DY h hc hvs⟩
 ·cases hl
theorem NH:∀(t:Ty),CVR w Im hd (kindZero t) (vi t)
 | .int k=>(rfl:[Value.int k 0]=_)
 | .bool=>(rfl:[Value.bool false]=_)
 | .str=>(rfl:[Value.string _]=_)
 | .slice t=>(rfl:Value.slice none 0 0=_)
 | .set=>⟨_,[],rfl,(fun _ hb=>nomatch hb),rfl,rfl⟩
 | .err=>⟨_,rfl,rfl⟩
 | .pair a b=>trivial
theorem YT:∀(ks:List Ty),CVs w Im hd (ks.map kindZero) (ks.map vi)
 | []=>trivial
 |k::ks=>⟨NH k,YT ks⟩
theorem zcl {T:Nat}{i:TypeInfo}{z:Value}(hi:P.info? T=some i)(hz:i.zero=some z)(w:World):(Instr.alloc T true (.tuple #[])).run P w= .ok (.pointer (some ⟨w.heap.size,0,none⟩)) (w.alloc (.cells z.cells T)):=by
 simp[Instr.alloc,MS hi hz,newVar,newRow]
theorem Ak {t:Ty}{p:t.den->List Value->List Nat->Prop}(hp:p t.dflt (uB t) []):∀n,OL t.sz p (List.replicate n t.dflt) (List.replicate n (uB t)).flatten []
 |0=>rfl
 |n+1=>by
  have hl:=jV t
  rw[List.replicate_succ,List.replicate_succ,List.flatten_cons]
  refine⟨[],[],rfl,by rw[zgA];omega, ?_, ?_⟩
  ·rw[<-hl,List.take_left];exact hp
  ·rw[<-hl,List.drop_left,hl];exact Ak hp n
theorem G3:∀(t:Ty),OT w t t.dflt (uB t) []
 | .int k=>⟨rfl,rfl⟩| .bool=>⟨rfl,rfl⟩| .str=>⟨rfl,rfl⟩
 | .slice t=>⟨_,rfl, .inl ⟨rfl,rfl,rfl⟩⟩
 | .set=>⟨_,rfl,rfl,rfl⟩
 | .err=>⟨⟨_,rfl,rfl⟩,rfl⟩
 | .pair a b=>⟨_,_,[],[],rfl,rfl,G3 a,G3 b⟩
theorem QI {E:Env}(hE:∀T ti,E.ty T=some ti->TyOk P T ti)(h:SRi w0 S0 σ a w Im hd bl){o:Oper}{T d:Nat}(ho:o.op= .alloc T)(hd' :o.dst=some d)(hd5:d<500000)
 {next:St->Option ρ} {r:ρ} (hn:aAlloc E σ T d next=some r):o.wp P a w (Goes w0 S0 next r) Q:=by
 unfold aAlloc at hn
 have hop:∀ {i:TypeInfo} {z:Value} (w:World),P.info? T=some i->i.zero=some z->(execOp a.eval o).run P w= .ok (.value (.pointer (some ⟨w.heap.size,0,none⟩))) (w.alloc (.cells z.cells T)):=by
  intro i z w hi hz
  simp[execOp,ho,zcl hi hz]
 split at hn
 ·rename_i t hT
  obtain⟨_,_,_,i,z,hi,_,hz,hzc⟩:=hE T _ hT
  refine yO (hop w hi hz) ?_
  have h2:=h.made (w' :=w.alloc (.cells z.cells T)) d hd5 (o:= .box [vi t]) (v:= .pointer (some ⟨w.heap.size,0,none⟩)) (fun b hb=>vH _ _ _ hb) (vc _ _) (h.below.alloc _)
   ⟨w.heap.size,z.cells,T,rfl,jP _ _,rfl,by rw[hzc];exact⟨NH t,trivial⟩⟩
  rw[hd']
  refine⟨_,hn,_,_,_,h2.put (some d) (av:= .adr d 0) ⟨w.heap.size,by simp,rfl⟩⟩
 ·rename_i fs ks eq hT
  obtain⟨_,_,⟨i,z,hi,_,hz,hzc⟩,_⟩:=hE T _ hT
  refine yO (hop w hi hz) ?_
  have h2:=h.made (w' :=w.alloc (.cells z.cells T)) d hd5 (o:= .box (ks.map vi)) (v:= .pointer (some ⟨w.heap.size,0,none⟩)) (fun b hb=>vH _ _ _ hb) (vc _ _) (h.below.alloc _)
   ⟨w.heap.size,z.cells,T,rfl,jP _ _,rfl,by rw[hzc];exact YT ks⟩
  rw[hd']
  refine⟨_,hn,_,_,_,h2.put (some d) (av:= .adr d 0) ⟨w.heap.size,by simp,rfl⟩⟩
 ·rename_i n t hT
  obtain⟨hf,hn⟩:=zb hn
  obtain⟨e,_,_,i,z,hi,hs,hz,hzc⟩:=hE T _ hT
  refine yO (hop w hi hz) ?_
  have h2:=h.made (w' :=w.alloc (.cells z.cells T)) d hd5 (o:= .arr t (List.replicate n t.dflt)) (v:= .pointer (some ⟨w.heap.size,0,none⟩)) (fun b hb=>vH _ _ _ hb) (vc _ _) (h.below.alloc _)
   ⟨w.heap.size,z.cells,T,rfl,jP _ _,by
     rw[<-zgW,hzc,List.length_replicate,List.length_flatten,List.map_replicate,jV,List.sum_replicate_nat],
     rfl,hf,by rw[hzc];exact Ak ⟨OT.read (S:=Im) (G3 t) (fun b hb=>by cases hb),rfl⟩ n⟩
  rw[hd']
  refine⟨_,hn,_,_,_,h2.put (some d) (av:= .adr d 0) ⟨w.heap.size,by simp,rfl⟩⟩
 ·cases hn
 ·cases hn
 ·cases hn
 ·cases hn
theorem CVs.fresh {c:Nat}{v:Value}:∀ {vs:List Value} {l:List CV},CVs w Im hd vs l->CVs w Im (fun d=>if d=c then v else hd d) vs (l.map (CV.map (xG c))):=fun h=>h.tell (Tell.fresh c v)
theorem jL {c:Nat}:∀ {l:List Nat},hasB c l=true↔c∈l
 | []=>by simp[hasB]
 |d::l=>by
  simp only[hasB,beqN,Bool.or_eq_true,zgI,jL,zgO]
  constructor
  ·rintro(h|h)
   ·exact .inl h.symm
   ·exact .inr h
  ·rintro(h|h)
   ·exact .inl h.symm
   ·exact .inr h
theorem zei {l:List CV}{d:Nat}(h:hasB d (zf l)=false):l.map (CV.map (xG d))=l:=by
 have e:l.map (CV.map (xG d))=l.map id:=by
  apply List.map_congr_left
  intro c hc
  cases c with
  |own k=>
   have hne:¬k=d:=by
    intro e;subst e
    have:hasB k (zf l)=true:=jL.2 (zgP.2 ⟨_,hc,by simp[CV.owns]⟩)
    rw[this]at h;cases h
   show(bif Nat.beq k d then CV.dead else .own k)= .own k
   rw[beqN];simp[hne]
  |_=>rfl
 rw[e,List.map_id]
theorem zdJ {E:Env}(h:SRi w0 S0 σ a w Im hd bl){o:Oper}{T d:Nat}{x:Operand}(ho:o.op= .box T x)(hd' :o.dst=some d)(hd5:d<500000)
 {next:St->Option ρ} {r:ρ} (hn:aBox σ d (σ.ev x) next=some r):o.wp P a w (Goes w0 S0 next r) Q:=by
 unfold aBox at hn
 split at hn
 ·rename_i l hl
  obtain⟨hfree,hn⟩:=zb hn
  obtain⟨cs,hc,hcs,_,_⟩:=M9 h (h.ev x) hl
  have hop:(execOp a.eval o).run P w= .ok (.value (.pointer (some ⟨w.heap.size,0,none⟩))) (w.alloc (.cells cs.toArray T)):=by
   simp[execOp,ho,Instr.box,newVar,newRow,hc]
  refine yO hop ?_
  have hT:=hcs.tell (Tell.keep (w' :=w.alloc (.cells cs.toArray T)) hd (fun b hb=>vH _ _ _ (h.lt b hb)) (fun _ x=>x))
  rw[CV.map_id',List.map_id]at hT
  have hcs' :=CVs.fresh (c:=d) (v:= .pointer (some ⟨w.heap.size,0,none⟩)) hT
  have e:=zei (l:=l) (d:=d) (by simpa using hfree)
  rw[e]at hcs'
  have h2:=h.made (w' :=w.alloc (.cells cs.toArray T)) d hd5 (o:= .box l) (v:= .pointer (some ⟨w.heap.size,0,none⟩)) (fun b hb=>vH _ _ _ hb) (vc _ _) (h.below.alloc _)
   ⟨w.heap.size,cs.toArray,T,rfl,jP _ _,rfl,hcs'⟩
  rw[hd']
  refine⟨_,hn,_,_,_,h2.put (some d) (av:= .adr d 0) ⟨w.heap.size,by simp,rfl⟩⟩
 ·cases hn
end
section
variable {P:Program} {ρ:Type} {gw:Gw} {w0:Base gw} {w:World} {S0:Nat->Prop} {σ:St} {a:Act} {Im:Nat->Prop} {hd:Nat->Value} {bl:Nat->List Nat} {Q:Exit->Act->World->Prop}
def IsRow (σ:St)(k:Nat):Prop:=∃t xs d n,zd σ.ob k=some (.row t xs d n)
def IsTr (σ:St)(k:Nat):Prop:=∃o,zd σ.ob k=some o/\o.tree=o.tree
theorem IsRow.tr {σ:St}{k:Nat}(h:IsRow σ k):IsTr σ k:=by
 obtain⟨t,xs,d,n,h⟩:=h
 exact⟨_,h,rfl⟩
theorem w6 (h:SRi w0 S0 σ a w Im hd bl){t:Ty}{c:CV}{x:t.den}{v:Value}(hx:σ.cvAs t c=some x)(hv:CVR w Im hd v c):
 VR w (fun b=>Im b\/∃k∈c.owns,IsTr σ k/\b∈bl k) t x [v]:=by
 unfold St.cvAs at hx
 split at hx
 ·rename_i k
  split at hx
  ·rename_i u xs d n hc
   have:=(h.objs k _ hc).read
   rw[show v=hd k from hv]
   exact VR.mono (Same.refl _ _) (fun b hb=>hb.imp_right fun hb=>⟨k,by simp[CV.owns],⟨_,hc,rfl⟩,hb⟩) (zbJ hx this)
  ·rename_i l hc
   have hr:VR w (fun b=>Im b\/b∈bl k) .set (some l) [hd k]:=⟨hd k,bl k,rfl,fun _ hb=> .inr hb,h.objs k _ hc⟩
   rw[show v=hd k from hv]
   exact VR.mono (Same.refl _ _) (fun b hb=>hb.imp_right fun hb=>⟨k,by simp[CV.owns],⟨_,hc,rfl⟩,hb⟩) (zbJ hx hr)
  ·cases hx
 ·unfold CV.as at hx
  split at hx
  ·exact VR.mono (Same.refl _ _) (fun b hb=> .inl hb) (zbJ hx hv)
  ·split at hx
   ·cases hx
    exact⟨none,0,by rw[show v=_ from hv];rfl,zgC _, .inl rfl⟩
   ·cases hx
  ·cases hx
theorem FT:∀ {t:Ty} {l:List CV} {x:t.den},σ.impl t l=some x->l.length=t.sz
 | .int k,l,x,h=>by unfold St.impl at h;split at h<;>first|rfl|cases h
 | .bool,l,x,h=>by unfold St.impl at h;split at h<;>first|rfl|cases h
 | .str,l,x,h=>by unfold St.impl at h;split at h<;>first|rfl|cases h
 | .slice t,l,x,h=>by unfold St.impl at h;split at h<;>first|rfl|cases h
 | .set,l,x,h=>by unfold St.impl at h;split at h<;>first|rfl|cases h
 | .err,l,x,h=>by unfold St.impl at h;split at h<;>first|rfl|cases h
 | .pair s t,l,x,h=>by
   unfold St.impl at h
   obtain⟨y,hy,h⟩:=zgF.1 h
   obtain⟨z,hz,h⟩:=zgF.1 h
   have h1:=FT hy
   have h2:=FT hz
   rw[zgL]at h1
   rw[zgR]at h2
   have:=t.sz_pos
   show l.length=s.sz+t.sz
   omega
theorem gK {l:List CV}{c:CV}(hc:c∈l):∀k∈c.owns,k∈zf l:=fun k hk=>zgP.2 ⟨c,hc,hk⟩
theorem Vo (h:SRi w0 S0 σ a w Im hd bl):∀ {t:Ty} {l:List CV} {x:t.den} {cs:List Value},σ.impl t l=some x->CVs w Im hd cs l->
 VR w (fun b=>Im b\/∃k∈zf l,IsTr σ k/\b∈bl k) t x cs
 | .int k,l,x,cs,hx,hv=>by
   unfold St.impl at hx
   split at hx
   ·match cs,hv with
    | [v],hv=>exact VR.mono (Same.refl _ _) (fun b hb=>hb.imp_right fun⟨k,hk,hb⟩=>⟨k,gK (by simp) k hk,hb⟩) (w6 h hx hv.1)
   ·cases hx
 | .bool,l,x,cs,hx,hv=>by
   unfold St.impl at hx
   split at hx
   ·match cs,hv with
    | [v],hv=>exact VR.mono (Same.refl _ _) (fun b hb=>hb.imp_right fun⟨k,hk,hb⟩=>⟨k,gK (by simp) k hk,hb⟩) (w6 h hx hv.1)
   ·cases hx
 | .str,l,x,cs,hx,hv=>by
   unfold St.impl at hx
   split at hx
   ·match cs,hv with
    | [v],hv=>exact VR.mono (Same.refl _ _) (fun b hb=>hb.imp_right fun⟨k,hk,hb⟩=>⟨k,gK (by simp) k hk,hb⟩) (w6 h hx hv.1)
   ·cases hx
 | .slice t,l,x,cs,hx,hv=>by
   unfold St.impl at hx
   split at hx
   ·match cs,hv with
    | [v],hv=>exact VR.mono (Same.refl _ _) (fun b hb=>hb.imp_right fun⟨k,hk,hb⟩=>⟨k,gK (by simp) k hk,hb⟩) (w6 h hx hv.1)
   ·cases hx
 | .set,l,x,cs,hx,hv=>by
   unfold St.impl at hx
   split at hx
   ·match cs,hv with
    | [v],hv=>exact VR.mono (Same.refl _ _) (fun b hb=>hb.imp_right fun⟨k,hk,hb⟩=>⟨k,gK (by simp) k hk,hb⟩) (w6 h hx hv.1)
   ·cases hx
 | .err,l,x,cs,hx,hv=>by
   unfold St.impl at hx
   split at hx
   ·match cs,hv with
    | [v],hv=>exact VR.mono (Same.refl _ _) (fun b hb=>hb.imp_right fun⟨k,hk,hb⟩=>⟨k,gK (by simp) k hk,hb⟩) (w6 h hx hv.1)
   ·cases hx
 | .pair s t,l,x,cs,hx,hv=>by
   unfold St.impl at hx
   obtain⟨y,hy,hx⟩:=zgF.1 hx
   obtain⟨z,hz,hx⟩:=zgF.1 hx
   cases hx
   refine⟨cs.take s.sz,cs.drop s.sz,(List.take_append_drop _ _).symm, ?_, ?_⟩
   ·exact VR.mono (Same.refl _ _) (fun b hb=>hb.imp_right fun⟨k,hk,hb⟩=>⟨k,(by
     obtain⟨c,hc,hk⟩:=zgP.1 hk
     exact gK (List.mem_of_mem_take hc) k hk),hb⟩) (Vo h hy (hv.take s.sz))
   ·exact VR.mono (Same.refl _ _) (fun b hb=>hb.imp_right fun⟨k,hk,hb⟩=>⟨k,(by
     obtain⟨c,hc,hk⟩:=zgP.1 hk
     exact gK (List.mem_of_mem_drop hc) k hk),hb⟩) (Vo h hz (hv.drop s.sz))
def blk (bl:Nat->List Nat):CV->List Nat| .own c=>bl c|_=> []
def St.treeC (σ:St):CV->Bool
 | .own c=>match zd σ.ob c with|some (.row _ _ d _)=>d|some (.mp _)=>true|_=>false
 | .val t _=>t.flat| .nil=>true| .unk=>true| .dead=>false
theorem Ar (l:List CV):σ.treeB l=(U9 (zf l)&&l.all σ.treeC):=by
 unfold St.treeB
 congr 1
theorem Ya (h:SRi w0 S0 σ a w Im hd bl){t:Ty}{c:CV}{x:t.den}{v:Value}(ht:σ.treeC c=true)(hx:σ.cvAs t c=some x)(hv:CVR w Im hd v c):OT w t x [v] (blk bl c):=by
 unfold St.cvAs at hx
 split at hx
 ·rename_i k
  split at hx
  ·rename_i u xs d n hc
   obtain⟨e,rfl⟩:=yP hx
   subst e
   have hd' :d=true:=by simpa[St.treeC,hc]using ht
   subst hd'
   exact⟨hd k,by rw[show v=hd k from hv],(h.objs k _ hc).1⟩
  ·rename_i l hc
   obtain⟨e,rfl⟩:=yP hx
   subst e
   exact⟨hd k,by rw[show v=hd k from hv],h.objs k _ hc⟩
  ·cases hx
 ·unfold CV.as at hx
  split at hx
  ·rename_i u y
   obtain⟨rfl,rfl⟩:=yP hx
   exact VR.own (w:=w) (S:=Im) ht hv
  ·split at hx
   ·cases hx
    exact⟨v,rfl, .inl ⟨hv,rfl,rfl⟩⟩
   ·cases hx
  ·cases hx
theorem RS (h:SRi w0 S0 σ a w Im hd bl):∀ {t:Ty} {l:List CV} {x:t.den} {cs:List Value},l.all σ.treeC=true->σ.impl t l=some x->CVs w Im hd cs l->
 OT w t x cs (l.flatMap (blk bl))
 | .int k,l,x,cs,ht,hx,hv=>by
   unfold St.impl at hx
   split at hx
   ·match cs,hv with
    | [v],hv=>rw[List.flatMap_cons,List.flatMap_nil,List.append_nil];exact Ya h (by simpa using ht) hx hv.1
   ·cases hx
 | .bool,l,x,cs,ht,hx,hv=>by
   unfold St.impl at hx
   split at hx
   ·match cs,hv with
    | [v],hv=>rw[List.flatMap_cons,List.flatMap_nil,List.append_nil];exact Ya h (by simpa using ht) hx hv.1
   ·cases hx
 | .str,l,x,cs,ht,hx,hv=>by
   unfold St.impl at hx
   split at hx
   ·match cs,hv with
    | [v],hv=>rw[List.flatMap_cons,List.flatMap_nil,List.append_nil];exact Ya h (by simpa using ht) hx hv.1
   ·cases hx
 | .slice t,l,x,cs,ht,hx,hv=>by
   unfold St.impl at hx
   split at hx
   ·match cs,hv with
    | [v],hv=>rw[List.flatMap_cons,List.flatMap_nil,List.append_nil];exact Ya h (by simpa using ht) hx hv.1
   ·cases hx
 | .set,l,x,cs,ht,hx,hv=>by
   unfold St.impl at hx
   split at hx
   ·match cs,hv with
    | [v],hv=>rw[List.flatMap_cons,List.flatMap_nil,List.append_nil];exact Ya h (by simpa using ht) hx hv.1
   ·cases hx
 | .err,l,x,cs,ht,hx,hv=>by
   unfold St.impl at hx
   split at hx
   ·match cs,hv with
    | [v],hv=>rw[List.flatMap_cons,List.flatMap_nil,List.append_nil];exact Ya h (by simpa using ht) hx hv.1
   ·cases hx
 | .pair s t,l,x,cs,ht,hx,hv=>by
   unfold St.impl at hx
   obtain⟨y,hy,hx⟩:=zgF.1 hx
   obtain⟨z,hz,hx⟩:=zgF.1 hx
   cases hx
   have ht' :=zgS.1 ht
   refine⟨cs.take s.sz,cs.drop s.sz,(l.take s.sz).flatMap (blk bl),(l.drop s.sz).flatMap (blk bl),(List.take_append_drop _ _).symm, ?_,RS h ?_ hy (hv.take s.sz),RS h ?_ hz (hv.drop s.sz)⟩
   ·rw[<-List.flatMap_append,List.take_append_drop]
   ·exact zgS.2 fun c hc=>ht' c (List.mem_of_mem_take hc)
   ·exact zgS.2 fun c hc=>ht' c (List.mem_of_mem_drop hc)
def EL (σ:St)(t:Ty):List CV->List t.den->Prop
 |l,[]=>l=[]
 |l,x::xs=>t.sz<=l.length/\σ.impl t (l.take t.sz)=some x/\EL σ t (l.drop t.sz) xs
theorem zfc {t:Ty}:∀ {xs:List t.den} {l:List CV},EL σ t l xs->l.length=xs.length*t.sz
 | [],l,h=>by rw[show l=[]from h];simp
 |x::xs,l,h=>by
  have:=zfc h.2.2
  rw[zgR]at this
  rw[zgB,Nat.add_mul,Nat.one_mul]
  have:=h.1
  omega
theorem zdM (h:SRi w0 S0 σ a w Im hd bl){t:Ty}:∀ {xs:List t.den} {l:List CV} {cs:List Value},l.all σ.treeC=true->EL σ t l xs->CVs w Im hd cs l->OL t.sz (OT w t) xs cs (l.flatMap (blk bl))
 | [],l,cs,_,he,hv=>by rw[show l=[]from he];rfl
 |x::xs,l,cs,ht,he,hv=>by
  have ht' :=zgS.1 ht
  have hlen:=hv.len
  refine⟨(l.take t.sz).flatMap (blk bl),(l.drop t.sz).flatMap (blk bl), ?_,by have:=he.1;omega,RS h (zgS.2 fun c hc=>ht' c (List.mem_of_mem_take hc)) he.2.1 (hv.take _),
   zdM h (zgS.2 fun c hc=>ht' c (List.mem_of_mem_drop hc)) he.2.2 (hv.drop _)⟩
  rw[<-List.flatMap_append,List.take_append_drop]
theorem zdN (h:SRi w0 S0 σ a w Im hd bl){t:Ty}:∀ {xs:List t.den} {l:List CV} {cs:List Value} {S:Nat->Prop},(∀b,Im b->S b)->(∀k∈zf l,∀b∈bl k,S b)->EL σ t l xs->CVs w Im hd cs l->
 OL t.sz (fun x cs L=>VR w S t x cs/\L=[]) xs cs []
 | [],l,cs,S,_,_,he,hv=>rfl
 |x::xs,l,cs,S,hs,ho,he,hv=>by
  have hlen:=hv.len
  refine⟨[],[],rfl,by have:=he.1;omega,⟨VR.mono (Same.refl _ _) (fun b hb=> ?_) (Vo h he.2.1 (hv.take _)),rfl⟩,zdN h hs (fun k hk b hb=> ?_) he.2.2 (hv.drop _)⟩
  ·rcases hb with hb|⟨k,hk,_,hb⟩
   ·exact hs b hb
   ·obtain⟨c,hc,hk⟩:=zgP.1 hk
    exact ho k (gK (List.mem_of_mem_take hc) k hk) b hb
  ·obtain⟨c,hc,hk⟩:=zgP.1 hk
   exact ho k (gK (List.mem_of_mem_drop hc) k hk) b hb
theorem cC:∀ {l:List Nat},U9 l=true↔l.Nodup
 | []=>by simp[U9]
 |c::l=>by
  simp only[U9,zgx,Bool.not_eq_true',zgV,cC]
  rw[<-jL,Bool.eq_false_iff]
theorem GB (h:SRi w0 S0 σ a w Im hd bl):∀(l:List Nat),SRi w0 S0 (σ.killAll l) a w Im hd bl:=by
 intro l
 induction l generalizing σ with
 |nil=>exact h
 |cons c l ih=>exact ih (h.kill c)
theorem uj {σ:St}{c:Nat}{r:Rn}{d:Nat}{p:Ob}(h:zd (σ.sub c r).ob d=some p):d≠c/\∃o,zd σ.ob d=some o/\p=o.map r:=by
 have hp' :zd (Mq r (fq σ.ob c)) d=some p:=h
 rw[jy,vw]at hp'
 by_cases e:d=c
 ·simp[e]at hp'
 ·simp only[e,if_false]at hp'
  obtain⟨o,ho,rfl⟩:=zgQ.1 hp'
  exact⟨e,o,ho,rfl⟩
theorem Sh:∀ {l:List Nat} {σ:St} {d:Nat} {p:Ob},zd (σ.killAll l).ob d=some p->d∉l/\∃o,zd σ.ob d=some o
 | [],σ,d,p,h=>⟨by simp,p,h⟩
 |c::l,σ,d,p,h=>by
  obtain⟨h1,o,h2⟩:=Sh (σ:=σ.kill c) h
  obtain⟨h3,q,h4,_⟩:=uj h2
  exact⟨by simp[h3,h1],q,h4⟩
theorem GM {σ:St}{c d:Nat}{p:Ob}(h:zd (σ.freeze c).ob d=some p):d≠c/\∃o,zd σ.ob d=some o:=by
 unfold St.freeze at h
 split at h
 ·obtain⟨h1,o,h2,_⟩:=uj h;exact⟨h1,o,h2⟩
 ·obtain⟨h1,o,h2,_⟩:=uj h;exact⟨h1,o,h2⟩
 ·obtain⟨h1,o,h2,_⟩:=uj h;exact⟨h1,o,h2⟩
theorem GL {σ:St}{c d:Nat}{t:Ty}{xs:List t.den}{e n:Bool}(h:zd σ.ob d=some (.row t xs e n))(hne:d≠c):zd (σ.freeze c).ob d=some (.row t xs e n):=by
 have key:∀r,zd (σ.sub c r).ob d=some (.row t xs e n):=by
  intro r
  show zd (Mq r (fq σ.ob c)) d=_
  rw[jy,vw];simp[hne,h,Ob.map]
 unfold St.freeze
 split
 ·exact key _
 ·exact key _
 ·exact key _
theorem BX {σ:St}{c d:Nat}{o:Ob}(h:zd σ.ob d=some o)(hne:d≠c):∃o',zd (σ.freeze c).ob d=some o' :=by
 have key:∀r,∃o',zd (σ.sub c r).ob d=some o' :=by
  intro r
  refine⟨o.map r, ?_⟩
  show zd (Mq r (fq σ.ob c)) d=_
  rw[jy,vw,zgH hne,h]
  rfl
 unfold St.freeze
 split
 ·exact key _
 ·exact key _
 ·exact key _
theorem zel {σ:St}{c d:Nat}{t:Ty}{xs:List t.den}{e n:Bool}(h:zd σ.ob d=some (.row t xs e n))(hne:d≠c):zd (σ.kill c).ob d=some (.row t xs e n):=by
 show zd (Mq _ (fq σ.ob c)) d=_
 rw[jy,vw];simp[hne,h,Ob.map]
theorem wH (h:SRi w0 S0 σ a w Im hd bl):∀(l:List Nat),∃Im',SRi w0 S0 (σ.freezeAll l) a w Im' hd bl/\(∀b,Im b->Im' b)/\(∀b,Im' b->Im b\/∃c∈l,b∈bl c)/\
 (∀c∈l,∀o,zd σ.ob c=some o->∀b∈bl c,Im' b):=by
 intro l
 induction l generalizing σ Im with
 |nil=>exact⟨Im,h,fun _ x=>x,fun _ x=> .inl x,fun c hc=>by cases hc⟩
 |cons c l ih=>
  obtain⟨Im1,h1,i1,i2,i3⟩:=h.freeze c
  obtain⟨Im2,h2,j1,j2,j3⟩:=ih h1
  refine⟨Im2,h2,fun b hb=>j1 b (i1 b hb),fun b hb=> ?_,fun k hk o hg b hb=> ?_⟩
  ·rcases j2 b hb with hb|⟨k,hk,hb⟩
   ·rcases i2 b hb with hb|hb
    ·exact .inl hb
    ·exact .inr ⟨c,by simp,hb⟩
   ·exact .inr ⟨k,by simp[hk],hb⟩
  ·by_cases e:k=c
   ·subst e;exact j1 b (i3 o hg b hb)
   ·have hk' :k∈l:=by simpa[e]using hk
    obtain⟨o',hg'⟩:=BX hg e
    exact j3 k hk' o' hg' b hb
theorem Qm:∀ {l:List Nat} {σ:St} {d:Nat} {p:Ob},zd (σ.freezeAll l).ob d=some p->d∉l/\∃o,zd σ.ob d=some o
 | [],σ,d,p,h=>⟨by simp,p,h⟩
 |c::l,σ,d,p,h=>by
  obtain⟨h1,o,h2⟩:=Qm (σ:=σ.freeze c) h
  obtain⟨h3,q,h4⟩:=GM h2
  exact⟨by simp[h3,h1],q,h4⟩
theorem QO (h:SRi w0 S0 σ a w Im hd bl):∀ {l:List CV},(zf l).Nodup->l.all σ.treeC=true->(l.flatMap (blk bl)).Nodup
 | [],_,_=>by simp
 |c::l,hn,ht=>by
  rw[List.all_cons,zgx]at ht
  have hn' :(c.owns++zf l).Nodup:=by simpa[zf]using hn
  rw[zgM]at hn'
  have ih:=QO h hn'.2.1 ht.2
  rw[List.flatMap_cons,zgM]
  cases c with
  |own k=>
   have hk:∃o,zd σ.ob k=some o:=by
    have:=ht.1
    unfold St.treeC at this
    cases hg:zd σ.ob k with
    |none=>simp[hg]at this
    |some o=>exact⟨o,rfl⟩
   obtain⟨o,ho⟩:=hk
   refine⟨(h.own k o ho).1,ih,fun b hb b' hb' e=> ?_⟩
   subst e
   obtain⟨c',hc',hb''⟩:=zgP.1 hb'
   cases c' with
   |own k' =>
    have hk2:∃o,zd σ.ob k' =some o:=by
     have:=zgS.1 ht.2 _ hc'
     unfold St.treeC at this
     cases hg:zd σ.ob k' with
     |none=>simp[hg]at this
     |some o=>exact⟨o,rfl⟩
    obtain⟨o',ho'⟩:=hk2
    have hne:k≠k' :=fun e=>hn'.2.2 k (by simp[CV.owns]) k' (zgP.2 ⟨_,hc',by simp[CV.owns]⟩) e
    exact h.apart k o k' o' ho ho' hne b hb hb''
   |dead=>cases hb''
   |nil=>cases hb''
   |val t x=>cases hb''
   |unk=>cases hb''
  |dead=>simpa[blk]using ih
  |nil=>simpa[blk]using ih
  |val t x=>simpa[blk]using ih
  |unk=>simpa[blk]using ih
theorem V9 {l:List CV}{b:Nat}(hb:b∈l.flatMap (blk bl)):∃k∈zf l,b∈bl k:=by
 obtain⟨c,hc,hb⟩:=zgP.1 hb
 cases c with
 |own k=>exact⟨k,zgP.2 ⟨_,hc,by simp[CV.owns]⟩,hb⟩
 |dead=>cases hb
 |nil=>cases hb
 |val t x=>cases hb
 |unk=>cases hb
theorem SI {l:List CV}(ht:l.all σ.treeC=true):∀k∈zf l,∃o,zd σ.ob k=some o/\o.tree=true:=by
 intro k hk
 obtain⟨c,hc,hk⟩:=zgP.1 hk
 cases c with
 |own c=>
  have e:k=c:=by simpa[CV.owns]using hk
  subst e
  have:=zgS.1 ht _ hc
  unfold St.treeC at this
  cases hg:zd σ.ob k with
  |none=>simp[hg]at this
  |some o=>
   cases o with
   |row t xs d n=>exact⟨_,rfl,rfl⟩
   |arr _ _=>simp[hg]at this
   |box _=>simp[hg]at this
   |hole _ _ _ _=>simp[hg]at this
   |tl _ _ _=>simp[hg]at this
   |mp _=>exact⟨_,rfl,rfl⟩
   |im _=>simp[hg]at this
   |hol _ _ _ _=>simp[hg]at this
 |dead=>cases hk
 |nil=>cases hk
 |val t x=>cases hk
 |unk=>cases hk
theorem zej {l:List CV}(ht:l.all σ.live=true):∀k∈zf l,∃o,zd σ.ob k=some o/\o.tree=true:=by
 intro k hk
 obtain⟨c,hc,hk⟩:=zgP.1 hk
 cases c with
 |own c=>
  have e:k=c:=by simpa[CV.owns]using hk
  subst e
  have:=zgS.1 ht _ hc
  unfold St.live at this
  cases hg:zd σ.ob k with
  |none=>simp[hg]at this
  |some o=>
   cases o with
   |row t xs d n=>exact⟨_,rfl,rfl⟩
   |arr _ _=>simp[hg]at this
   |box _=>simp[hg]at this
   |hole _ _ _ _=>simp[hg]at this
   |tl _ _ _=>simp[hg]at this
   |mp _=>exact⟨_,rfl,rfl⟩
   |im _=>simp[hg]at this
   |hol _ _ _ _=>simp[hg]at this
 |dead=>cases hk
 |nil=>cases hk
 |val t x=>cases hk
 |unk=>cases hk
theorem SRi.give (h:SRi w0 S0 σ a w Im hd bl){t:Ty}{l:List CV}{xs:List t.den}{cs:List Value}(he:EL σ t l xs)(hv:CVs w Im hd cs l)(hlive:l.all σ.live=true){tree:Bool}(htree:tree=true->σ.treeB l=true):
 ∃Im' M,SRi w0 S0 (σ.give tree (zf l)) a w Im' hd bl/\(∀b,Im b->Im' b)/\OL t.sz (rowP w Im' t tree) xs cs M/\M.Nodup/\
  (∀b∈M,w0.mine b/\b<w.heap.size/\¬Im' b)/\(∀d p,zd (σ.give tree (zf l)).ob d=some p->(∃o,zd σ.ob d=some o)/\∀b∈bl d,b∉M)/\(∀b∈M,∃k∈zf l,b∈bl k)/\
  (∀b,Im' b->Im b\/∃k∈zf l,b∈bl k):=by
 cases tree with
 |true=>
  have ht:=htree rfl
  rw[Ar,zgx]at ht
  have hnd:=cC.1 ht.1
  refine⟨Im,l.flatMap (blk bl),GB h _,fun _ x=>x,zdM h ht.2 he hv,QO h hnd ht.2,fun b hb=> ?_,fun d p hp=> ?_,fun b hb=>V9 hb,fun b hb=> .inl hb⟩
  ·obtain⟨k,hk,hb⟩:=V9 hb
   obtain⟨o',hg,_⟩:=SI ht.2 k hk
   exact(h.own k _ hg).2 b hb
  ·obtain⟨hnot,o,ho⟩:=Sh hp
   refine⟨⟨o,ho⟩,fun b hb hb2=> ?_⟩
   obtain⟨k,hk,hb2⟩:=V9 hb2
   obtain⟨o',hg,_⟩:=SI ht.2 k hk
   exact h.apart d o k _ ho hg (fun e=>hnot (e▸hk)) b hb hb2
 |false=>
  obtain⟨Im',h1,i1,i2,i3⟩:=wH h (zf l)
  refine⟨Im',[],h1,i1, ?_,List.nodup_nil,(fun b hb=>by cases hb),(fun d p hp=>⟨(Qm hp).2,(fun b _ hb=>by cases hb)⟩),(fun b hb=>by cases hb),i2⟩
  exact zdN h i1 (fun k hk b hb=>by
   obtain⟨o',hg,ht'⟩:=zej hlive k hk
   exact i3 k hk o' hg b hb) he hv
end
section
variable {P:Program} {ρ:Type} {gw:Gw} {w0:Base gw} {w:World} {S0:Nat->Prop} {σ:St} {a:Act} {Im:Nat->Prop} {hd:Nat->Value} {bl:Nat->List Nat} {Q:Exit->Act->World->Prop}
theorem SRi.world2 {w' :World}{L:List Nat}(h:SRi w0 S0 σ a w Im hd bl)(hw:∀b,b<w.heap.size->b∉L->w'.heap[b]? =w.heap[b]?)(hsz:w.heap.size<=w'.heap.size)(hb:Kept w0 w')
 (hI:∀b∈L,¬Im b) (hf:∀d p,zd σ.ob d=some p->∀b∈bl d,b∉L):SRi w0 S0 σ a w' Im hd bl:=by
 have T:Tell w w' Im Im hd hd ⟨.own, .adr, .el⟩:=Tell.keep hd (fun b hb=>hw b (h.lt b hb) (fun h2=>hI b h2 hb)) fun _ x=>x
 refine⟨hb,h.sub,h.new,fun b hb=>Nat.lt_of_lt_of_le (h.lt b hb) hsz,h.nodef,h.size,fun i av hi=> ?_,fun c o hc=> ?_,fun c o hc=> ?_,h.apart,h.io⟩
 ·have:=(h.slots i av hi).tell T;rwa [AV.map_id]at this
 ·have:=(h.objs c o hc).tell T (fun b hb=>hw b ((h.own c o hc).2 b hb).2.1 (hf c o hc b hb));rwa [Ob.map_id]at this
 ·exact⟨(h.own c o hc).1,fun b hb=>⟨((h.own c o hc).2 b hb).1,Nat.lt_of_lt_of_le ((h.own c o hc).2 b hb).2.1 hsz,((h.own c o hc).2 b hb).2.2⟩⟩
theorem OL.tell {w' :World}{Im' :Nat->Prop}{t:Ty}{d:Bool}{xs:List t.den}{cs:List Value}{M:List Nat}(hs:Same Im w w')(hi:∀b,Im b->Im' b)(hM:∀b∈M,w'.heap[b]? =w.heap[b]?)
 (h:OL t.sz (rowP w Im t d) xs cs M):OL t.sz (rowP w' Im' t d) xs cs M:=
 h.mapP fun x c l hl hp=>rowP.tell hs hi (fun b hb=>hM b (hl b hb)) hp
theorem SRi.madeRow {w' :World}(h:SRi w0 S0 σ a w Im hd bl)(c:Nat)(hc5:c<500000){t:Ty}{xs:List t.den}{d cn:Bool}{cap:Nat}{cs:Array Value}{F:TypeId}{M:List Nat}
 (hw:∀b,b<w.heap.size->w'.heap[b]? =w.heap[b]?) (hsz:w'.heap.size=w.heap.size+1) (hb:Kept w0 w')
 (hnew:w'.heap[w.heap.size]? =some (.cells cs F (0,0))) (hcs:cs.size=cap*t.sz) (hle:xs.length<=cap)
 (hol:OL t.sz (rowP w Im t d) xs cs.toList M) (hM:M.Nodup) (hMb:∀b∈M,w0.mine b/\b<w.heap.size/\¬Im b)
 (hfree:∀k p,k≠c->zd σ.ob k=some p->∀b∈bl k,b∉M) (hcn:cn=true->xs≠[]):
 ∃hd' bl',SRi w0 S0 (σ.new c (.row t xs d cn)) a w' Im hd' bl' /\hd' c= .slice (some ⟨w.heap.size,0,none⟩) xs.length cap:=by
 have h' :=h.world hw (by omega) hb
 refine⟨_,_,h'.new_ c hc5 (v:= .slice (some ⟨w.heap.size,0,none⟩) xs.length cap) (L:=w.heap.size::M) (fun k p hk hp b hbk hbL=> ?_) ?_ (fun b hbL=> ?_) ⟨.inr ⟨w.heap.size,0,cap,cs,F,M,rfl,hnew,by omega,hle,rfl, ?_⟩,fun e1 e2=>(hcn e1 e2).elim⟩,by simp⟩
 ·rcases zgO.1 hbL with rfl|hbL
  ·have:=((h.own k p hp).2 _ hbk).2.1;omega
  ·exact hfree k p hk hp b hbk hbL
 ·rw[zgV]
  exact⟨fun hm=>by have:=(hMb _ hm).2.1;omega,hM⟩
 ·rcases zgO.1 hbL with rfl|hbL
  ·exact⟨Kept.fresh h.below (zgC _),by omega,fun hi=>Nat.lt_irrefl _ (h.lt _ hi)⟩
  ·exact⟨(hMb b hbL).1,by have:=(hMb b hbL).2.1;omega,(hMb b hbL).2.2⟩
 ·exact hol.tell (fun b hb=>hw b (h.lt b hb)) (fun _ x=>x) (fun b hb=>hw b (hMb b hb).2.1)
theorem AN (h:SRi w0 S0 σ a w Im hd bl){t:Ty}{n:Nat}:∀ {ps:List (Nat×Operand)} {i:Nat} {l:List CV} {xs:List t.den},
 TK σ t n i (ps.map fun p=>(p.1,σ.ev p.2))=some (l,xs)->
 ∃vs:List Value,ps.map (fun p=>(p.1,a.eval p.2))=(vs.zipIdx i).map (fun x=>(x.2,x.1))/\(∀v∈vs,v.cells.size=t.sz)/\i+vs.length=n/\xs.length=vs.length/\
  EL σ t l xs/\l.all σ.live=true/\CVs w Im hd (vs.flatMap fun v=>v.cells.toList) l/\∀u∈vs.flatMap (fun v=>v.cells.toList),u.oneCell' =true
 | [],i,l,xs,hp=>by
   unfold TK at hp
   simp only[List.map_nil,beqN]at hp
   by_cases e:i=n
   ·simp[e]at hp
    obtain⟨rfl,rfl⟩:=hp
    exact⟨[],by simp,by simp,by simpa using e,rfl,rfl,rfl,trivial,by simp⟩
   ·simp[e]at hp
 |(j,x)::ps,i,l,xs,hp=>by
  rw[List.map_cons]at hp
  unfold TK at hp
  simp only[beqN]at hp
  by_cases e:i=j
  ·subst e
   simp only[decide_true,zgJ]at hp
   split at hp
   ·rename_i cs hcs
    split at hp
    ·rename_i y l' xs' hy hrest
     cases hp
     obtain⟨vs,h1,h2,h3,h4,h5,h6,h7,h8⟩:=AN h hrest
     obtain⟨us,hu1,hu2,hu3,hu4⟩:=M9 h (h.ev x) hcs
     have hlen:=FT hy
     have hlen2:=hu2.len
     refine⟨a.eval x::vs, ?_, ?_, ?_, ?_, ?_, ?_, ?_, ?_⟩
     ·simp[h1]
     ·intro v hv
      rcases zgO.1 hv with rfl|hv
      ·rw[hu1];simp;omega
      ·exact h2 v hv
     ·simp;omega
     ·simp[h4]
     ·refine⟨by rw[zgA];omega, ?_, ?_⟩
      ·rw[<-hlen,List.take_left];exact hy
      ·rw[<-hlen,List.drop_left];exact h5
     ·rw[List.all_append,hu3,h6];rfl
     ·rw[List.flatMap_cons,hu1]
      exact hu2.app h7
     ·rw[List.flatMap_cons,hu1]
      intro u hu
      rcases zgz.1 hu with hu|hu
      ·exact hu4 u (by simpa using hu)
      ·exact h8 u hu
    ·cases hp
   ·cases hp
  ·simp[e]at hp
theorem Kn {T e n:Nat}{ps:Array (Nat×Value)}{vs:List Value}{i:TypeInfo}{z:Value}{s:Nat}(hu:P.underlying T=some (.slice e))(hi:P.info? e=some i)(hz:i.zero=some z)(hs:i.size=s)(hsp:0<s)
 (hsmall:n*s<=16777216) (hps:ps.toList=(vs.zipIdx 0).map fun x=>(x.2,x.1)) (hvs:∀v∈vs,v.cells.size=s) (hn:vs.length=n) (w:World):
 (Instr.buildSlice T n ps).run P w= .ok (.slice (some ⟨w.heap.size,0,none⟩) n n) (w.alloc (.cells (vs.flatMap fun v=>v.cells.toList).toArray e)):=by
 subst hs
 by_cases h0:n=0
 ·subst h0
  obtain rfl:vs=[]:=by simpa using hn
  have hp:ps.toList=[]:=by simpa using hps
  simp[Instr.buildSlice,run_underlying hu,gJ hi,Instr.fill,newRow,hp,Array.range_zero']
 ·refine run_buildSlice w T e n ps _ i z hu hi hz (by omega) (fun h=> ?_) ?_
  ·rcases Nat.mul_eq_zero.1 h with h|h<;>omega
  ·rw[hps]
   exact Great.fill_whole hsp vs _ hvs (by rw[hn];simp)
theorem TM {E:Env}(hE:∀T ti,E.ty T=some ti->TyOk P T ti)(h:SRi w0 S0 σ a w Im hd bl){o:Oper}{T d n:Nat}{ps:Array (Nat×Operand)}(ho:o.op= .buildSlice T n ps)(hd' :o.dst=some d)(hd5:d<500000)
 {next:St->Option ρ} {r:ρ} (hn:b5 E σ T d n (ps.toList.map fun p=>(p.1,σ.ev p.2)) next=some r):o.wp P a w (Goes w0 S0 next r) Q:=by
 unfold b5 at hn
 split at hn
 ·rename_i t hT
  obtain⟨e,hu,i,z,hi,hs,_,hz,_⟩:=yB hE hT
  split at hn
  ·rename_i l xs hp
   obtain⟨h0,hn⟩:=zb hn
   have hsmall:=zgZ h0
   obtain⟨vs,h1,h2,h3,h4,h5,h6,h7,h8⟩:=AN h hp
   rw[Nat.zero_add]at h3
   have hop:(execOp a.eval o).run P w= .ok (.value (.slice (some ⟨w.heap.size,0,none⟩) n n)) (w.alloc (.cells (vs.flatMap fun v=>v.cells.toList).toArray e)):=by
    have:=Kn (ps:=ps.map fun(i,x)=>(i,a.eval x)) hu hi hz hs t.sz_pos hsmall (by rw[Array.toList_map];exact h1) h2 h3 w
    simp[execOp,ho,this]
   refine yO hop ?_
   rw[hd']
   obtain⟨Im',M,g1,g2,g3,g4,g5,g6,g7,g8⟩:=h.give h5 h7 h6 (tree:=σ.treeB l) (fun e=>e)
   have hlen:=h7.len
   obtain⟨hd2,bl2,k1,k2⟩:=g1.madeRow (w' :=w.alloc (.cells (vs.flatMap fun v=>v.cells.toList).toArray e)) d hd5 (t:=t) (xs:=xs) (d:=σ.treeB l) (cn:=false) (cap:=n) (M:=M) (fun b hb=>vH _ _ _ hb) (vc _ _)
    (h.below.alloc _) (jP _ _) (by rw[List.size_toArray,hlen,zfc h5];rw[h4,h3]) (by omega) g3 g4 g5 (fun k p _ hp=>(g6 k p hp).2) (fun e=>by cases e)
   refine⟨_,hn,Im',hd2,bl2,k1.put (some d) (av:= .cv (.own d)) ?_⟩
   show _=hd2 d
   rw[k2,h4,h3]
  ·cases hn
 ·cases hn
theorem HB (t:Ty)(z:Array Value)(hz:z.toList=uB t)(n:Nat):(madeCells z (n*t.sz)).toList=(List.replicate n (uB t)).flatten:=by
 have hzs:z.size=t.sz:=by rw[<-zgW,hz,jV]
 have hp:=t.sz_pos
 apply List.ext_getElem?
 intro k
 unfold madeCells
 have e:List.replicate n (uB t)=(List.replicate n (Value.agg z)).map fun v=>v.cells.toList:=by
  rw[List.map_replicate];congr 1;rw[<-hz];rfl
 rw[e,<-List.flatMap_def,Great.flat_get hp _ (fun v hv=>by rw[List.eq_of_mem_replicate hv];exact hzs)]
 by_cases hk:k<n*t.sz
 ·have h1:k/t.sz<n:=Nat.div_lt_of_lt_mul (by rw[Nat.mul_comm];exact hk)
  have h2:k % t.sz<z.size:=by rw[hzs];exact Nat.mod_lt _ hp
  simp[hk,hzs,h1]
  rw[show(Value.agg z).cells=z from rfl]
  rw[getElem!_pos z (k % t.sz) h2,Array.getElem?_eq_getElem h2]
 ·have h1:¬k/t.sz<n:=fun h=>hk ((Nat.div_lt_iff_lt_mul hp).1 h)
  simp[hk,h1]
theorem QH {E:Env}(hE:∀T ti,E.ty T=some ti->TyOk P T ti)(h:SRi w0 S0 σ a w Im hd bl){o:Oper}{T d:Nat}{x y:Operand}(ho:o.op= .makeSlice T x y)(hd' :o.dst=some d)(hd5:d<500000)
 {next:St->Option ρ} {r:ρ} (hn:Yg E σ T d (σ.ev x) (σ.ev y) next=some r):o.wp P a w (Goes w0 S0 next r) Q:=by
 unfold Yg at hn
 split at hn
 ·rename_i t n c hT hx hy
  obtain⟨h1,hn⟩:=zb hn
  obtain⟨h2,hn⟩:=zb hn
  obtain⟨h3,hn3⟩:=zb hn
  have h1' :0<=n:=zgw h1
  have h2' :n<=(rowMax:Int):=zgw h2
  have h3' :n=c:=by simpa using h3
  subst h3'
  obtain⟨m,rfl⟩:∃m:Nat,n=m:=⟨n.toNat,by omega⟩
  have hm:m<=4294967296:=by unfold rowMax at h2';omega
  obtain⟨e,hu,i,z,hi,hs,hby,hz,hzc⟩:=yB hE hT
  obtain⟨kx,ex⟩:=V3 (h.ev x) hx
  obtain⟨ky,ey⟩:=V3 (h.ev y) hy
  have hr:=run_make (P:=P) w T e i z hu hi hz kx ky m m (by omega) (Int.le_refl _) (by
   have:i.bytes*m<=4096*4294967296:=Nat.mul_le_mul hby hm
   have h4:((i.bytes*m:Nat):Int)<=((4096*4294967296:Nat):Int):=by exact_mod_cast this
   rw[Int.natCast_mul]at h4
   exact Int.le_trans h4 (by decide)) (by omega)
  simp only[zgy]at hr
  have hop:(execOp a.eval o).run P w= .ok (.value (.slice (some ⟨w.heap.size,0,none⟩) m m)) (w.alloc (.cells (madeCells z.cells (m*i.size)) e)):=by
   simp[execOp,ho,ex,ey,hr]
  refine yO hop ?_
  rw[hd']
  have hmc:=HB t z.cells hzc m
  rw[hs]
  obtain⟨hd2,bl2,k1,k2⟩:=h.madeRow (w' :=w.alloc (.cells (madeCells z.cells (m*t.sz)) e)) d hd5 (t:=t) (xs:=List.replicate m t.dflt) (d:=true) (cn:=false) (cap:=m) (M:=[]) (fun b hb=>vH _ _ _ hb) (vc _ _)
   (h.below.alloc _) (jP _ _) (size_madeCells _ _) (by simp) (by rw[hmc];exact Ak (G3 t) m) List.nodup_nil (fun b hb=>by cases hb) (fun k p _ hp b _ hb=>by cases hb) (fun e=>by cases e)
  refine⟨_,hn3,Im,hd2,bl2,k1.put (some d) (av:= .cv (.own d)) ?_⟩
  show _=hd2 d
  rw[k2];simp
 ·cases hn
end
section
variable {P:Program} {ρ:Type} {gw:Gw} {w0:Base gw} {w:World} {S0:Nat->Prop} {σ:St} {a:Act} {Im:Nat->Prop} {hd:Nat->Value} {bl:Nat->List Nat} {Q:Exit->Act->World->Prop}
theorem CVs.splice {vs us:List Value}{l m:List CV}(h:CVs w Im hd vs l)(k:CVs w Im hd us m)(o:Nat):CVs w Im hd (splice vs o us) (splice l o m):=by
 unfold Vt.splice
 rw[k.len]
 exact((h.take o).app k).app (h.drop _)
theorem QT {α:Type}{l new:List α}{o:Nat}(h:o+new.length<=l.length):(splice l o new).length=l.length:=by
 unfold splice;simp;omega
theorem BY (off:Nat)(l cs:List Value)(h:off+l.length<=cs.length):((l.zipIdx 0).foldl (fun cs (x:Value×Nat)=>cs.setIfInBounds (off+x.2) x.1) cs.toArray).toList=splice cs off l:=by
 obtain⟨h1,h2⟩:=Great.foldl_set off l 0 cs.toArray
 apply List.ext_getElem?
 intro k
 have h3:=h2 k
 rw[<-zgX]at h3
 rw[h3]
 unfold splice
 simp only[Nat.add_zero,List.size_toArray,List.getElem?_toArray]
 by_cases hk:off<=k/\k<off+l.length/\k<cs.length
 ·rw[zgG hk,zgU,List.getElem?_append_right (by simp;omega),List.getElem?_append_left (by simp;omega)]
  simp;congr 1;omega
 ·rw[zgH hk]
  by_cases h4:k<off
  ·rw[zgU,List.getElem?_append_left (by simp;omega)];simp[List.getElem?_take,h4]
  ·rw[List.getElem?_append_right (by simp;omega)]
   simp only[zgA,zgL,List.getElem?_drop]
   congr 1;omega
theorem AU {f:Field->Option (Nat×Nat)}:∀ {fs:List Field} {ps:List (Nat×Nat)},fs.mapM f=some ps->∀(j:Nat) (x:Field),fs[j]? =some x->∃p,ps[j]? =some p/\f x=some p
 | [],ps,h,j,x,hx=>by simp at hx
 |y::fs,ps,h,j,x,hx=>by
  simp only[List.mapM_cons,Option.bind_eq_bind,Option.pure_def,zgF,Option.some.injEq]at h
  obtain⟨p,hp,qs,hqs,rfl⟩:=h
  cases j with
  |zero=>exact⟨p,rfl,by cases(show some y=some x from hx);exact hp⟩
  |succ j=>obtain⟨q,h1,h2⟩:=AU hqs j x hx;exact⟨q,h1,h2⟩
theorem zc7 {E:Env}(hE:∀T ti,E.ty T=some ti->TyOk P T ti)(h:SRi w0 S0 σ a w Im hd bl){T:Nat}{fields:Array Field}(hu:P.underlying T=some (.struct fields)){places:List (Nat×Nat)}
 (hpl:fields.toList.mapM (fun f=>(P.info? f.type).map fun i=>(f.offset,i.size))=some places):∀ {ps:List (Nat×Operand)} {zs:List Value} {l:List CV} {av:AV},CVs w Im hd zs l->
 X1 E σ T (ps.map fun p=>(p.1,σ.ev p.2)) l=some av->
 ∃cs,Instr.fill (places.toArray[·]?) zs.toArray (ps.map fun p=>(p.1,a.eval p.2))=some cs/\AVR w Im hd (.agg cs) av
 | [],zs,l,av,hz,hb=>by
   unfold X1 at hb
   simp at hb
   subst hb
   exact⟨zs.toArray,by simp[Instr.fill],zs,rfl,hz⟩
 |(f,x)::ps,zs,l,av,hz,hb=>by
  rw[List.map_cons]at hb
  unfold X1 at hb
  simp only at hb
  split at hb
  ·rename_i off n agg cs hf hc
   cases hk:(Nat.beq cs.length n&&Nat.ble (off+n) l.length)with
   |false=>rw[hk]at hb;cases hb
   |true=>
    rw[hk,zgJ]at hb
    rw[zgx]at hk
    have hcl:=zgE hk.1
    have hle:=zgZ hk.2
    obtain⟨fields',fld,hu',hfld,hoff,hsz⟩:=J5 hE hf
    rw[hu]at hu';cases hu'
    obtain⟨⟨i,hi,his⟩,_⟩:=aW hE hsz
    obtain⟨p,hp1,hp2⟩:=AU hpl f fld (by simpa using hfld)
    simp only[hi,Option.map_some,Option.some.injEq]at hp2
    obtain⟨us,hu1,hu2,_,hu4⟩:=M9 h (h.ev x) hc
    have hul:=hu2.len
    have hzl:=hz.len
    obtain⟨cs',h1,h2⟩:=zc7 hE h hu hpl (hz.splice hu2 off) hb
    refine⟨cs', ?_,h2⟩
    rw[List.map_cons]
    unfold Instr.fill
    have hpp:places.toArray[f]? =some (off,n):=by rw[List.getElem?_toArray,hp1,<-hp2,hoff,his]
    simp only[hpp,hu1]
    rw[zgH (by simp;omega)]
    rw[<-h1]
    congr 1
    rw[<-Array.foldl_toList,Array.toList_zipIdx]
    have:=BY off us zs (by omega)
    rw[<-this]
  ·cases hb
theorem Bb {E:Env}(hE:∀T ti,E.ty T=some ti->TyOk P T ti)(h:SRi w0 S0 σ a w Im hd bl){T:Nat}{ps:Array (Nat×Operand)}{fs ks eq}(hT:E.ty T=some (.struct fs ks eq)){av:AV}
 (hb:X1 E σ T (ps.toList.map fun p=>(p.1,σ.ev p.2)) (ks.map vi)=some av):∃v,(Instr.build T (ps.map fun(i,x)=>(i,a.eval x))).run P w= .ok v w/\AVR w Im hd v av:=by
 obtain⟨fields,hu,⟨i,z,hi,_,hz,hzc⟩,_,_,⟨places,hpl⟩,_⟩:=hE T _ hT
 obtain⟨cs,h1,h2⟩:=zc7 hE h hu hpl (YT ks) hb
 refine⟨.agg cs,run_build w T _ cs ?_,h2⟩
 unfold Program.built
 simp only[hi,hu,hz,hpl]
 rw[Array.toList_map,<-h1]
 congr 1
 rw[<-hzc]
end
section
variable {P:Program} {ρ:Type} {gw:Gw} {w0:Base gw} {w:World} {S0:Nat->Prop} {σ:St} {a:Act} {Im:Nat->Prop} {hd:Nat->Value} {bl:Nat->List Nat} {Q:Exit->Act->World->Prop}
structure Loose {gw:Gw}(w0:Base gw)(τ:St)(w:World)(Im:Nat->Prop)(hd:Nat->Value)(bl:Nat->List Nat)(t:Ty)(xs:List t.den)(d cn:Bool)(v:Value)(L:List Nat):Prop where
 row:ORow w t.sz (rowP w Im t d) v xs L
 nil:cn=true->xs=[]->v= .slice none 0 0
 nodup:L.Nodup
 own:∀b∈L,w0.mine b/\b<w.heap.size/\¬Im b
 free:∀k p,zd τ.ob k=some p->∀b∈bl k,b∉L
theorem SRi.takeOut (h:SRi w0 S0 σ a w Im hd bl){c:Nat}{t:Ty}{xs:List t.den}{d cn:Bool}(hc:zd σ.ob c=some (.row t xs d cn)):
 SRi w0 S0 (σ.kill c) a w Im hd bl/\Loose w0 (σ.kill c) w Im hd bl t xs d cn (hd c) (bl c):=by
 refine⟨h.kill c,(h.objs c _ hc).1,(h.objs c _ hc).2,(h.own c _ hc).1,(h.own c _ hc).2,fun k p hp b hb=> ?_⟩
 obtain⟨hne,o,ho,_⟩:=uj hp
 exact h.apart k o c _ ho hc hne b hb
theorem KC (l:List (Nat×Ob))(c:Nat):fq (fq l c) c=fq l c:=by
 induction l with
 |nil=>rfl
 |cons p l ih=>
  obtain⟨d,o⟩:=p
  simp only[fq]
  cases hb:Nat.beq d c with
  |true=>simp[ih]
  |false=>simp[fq,hb,ih]
theorem zem (σ:St)(c:Nat)(o:Ob):St.kill { σ with ob:=yt σ.ob c o} c=σ.kill c:=by
 unfold St.kill St.sub
 congr 2
 show fq ((c,o)::fq σ.ob c) c=_
 simp only[fq]
 rw[show Nat.beq c c=true from Nat.beq_refl c]
 exact KC _ _
theorem SRi.takeSoft (h:SRi w0 S0 σ a w Im hd bl){c:Nat}{t:Ty}{xs:List t.den}{d cn:Bool}(hc:zd σ.ob c=some (.row t xs d cn))(d' :Bool)(hd' :d' =true->d=true):
 ∃Im' bl',SRi w0 S0 (σ.kill c) a w Im' hd bl' /\Loose w0 (σ.kill c) w Im' hd bl' t xs d' cn (hd c) (bl' c)/\(∀b,Im b->Im' b):=by
 cases d' with
 |true=>obtain rfl:=hd' rfl;exact⟨Im,bl,(h.takeOut hc).1,(h.takeOut hc).2,fun _ x=>x⟩
 |false=>
  cases d with
  |false=>exact⟨Im,bl,(h.takeOut hc).1,(h.takeOut hc).2,fun _ x=>x⟩
  |true=>
   obtain⟨Im',bl',h1,h2⟩:=h.soften hc
   obtain⟨g1,g2⟩:=h1.takeOut (c:=c) (t:=t) (xs:=xs) (d:=false) (cn:=cn) (by rw[yW];simp)
   rw[zem]at g1 g2
   exact⟨Im',bl',g1,g2,h2⟩
theorem zb7 {m b:Nat}(hm:m<=rowMax)(hb:b<=4096):m*b<=140737488355328:=
 zg1 (Nat.mul_le_mul hm hb) (by unfold rowMax;decide)
theorem Mo {T e:TypeId}{i:TypeInfo}(ht:P.underlying T=some (.slice e))(hi:P.info? e=some i){ty:TypeId}{g f0 sLen sCap:Nat}{cur:Array Value}{F:TypeId}(hg:w.heap[g]? =some (.cells cur F (0,0)))
 {ad:Addr} {m c:Nat} {news:List Value} (hl:news.length=m*i.size) (hnews:∀j u,news[j]? =some u->w.cell? (ad.add j)=some u) (h1:∀u∈news,u.oneCell' =true)
 (hroom:sLen+m<=sCap) (hfit:(f0+sLen*i.size)+news.length<=cur.size):
 (Builtin.append_ #[T,T] ty #[.slice (some ⟨g,f0,none⟩) sLen sCap, .slice (some ad) m c]).run P w=
   .ok (.slice (some ⟨g,f0,none⟩) (sLen+m) sCap) (w.setRow g (cur.toList.take ((f0+sLen*i.size))++news++cur.toList.drop (f0+sLen*i.size+news.length)).toArray):=by
 have hf:=run_firstCells_some (P:=P) w i.size m ad m c news hl hnews
 have hst:=run_storeCells_at P g ((f0+sLen*i.size)) F news 0 cur w hg (by simpa using hfit) h1
 simp only[Nat.add_zero]at hst
 simp[Builtin.append_,run_underlying ht,sizeOf,typeInfo,hi,Builtin.lenOf,hroom,hf,Addr.add_lit,hst]
theorem Ko {T e:TypeId}{i:TypeInfo}(ht:P.underlying T=some (.slice e))(hi:P.info? e=some i){ty:TypeId}{A B:Option Addr}{n c m:Nat}(hn:n<=c)
 (hB:∀ad,B=some ad->True):(Builtin.append_ #[T,T] ty #[.slice A n c, .slice B 0 m]).run P w= .ok (.slice A n c) w:=by
 have hf:(Builtin.firstCells i.size 0 (.slice B 0 m)).run P w= .ok #[] w:=by
  cases B with
  |none=>exact run_firstCells_none w _ _ _ _
  |some ad=>exact run_firstCells_some (P:=P) w i.size 0 ad 0 m [] (by simp) (by simp)
 cases A with
 |none=>simp[Builtin.append_,run_underlying ht,sizeOf,typeInfo,hi,Builtin.lenOf,hn,hf]
 |some ad=>simp[Builtin.append_,run_underlying ht,sizeOf,typeInfo,hi,Builtin.lenOf,hn,hf,storeCells]
theorem xa {w:World}{g b:Nat}{cs:Array Value}(h:b≠g):(w.setRow g cs).heap[b]? =w.heap[b]? :=by
 unfold World.setRow
 simp[Array.getElem?_modify,Ne.symm h]
theorem wM {w:World}{g:Nat}{cs:Array Value}:(w.setRow g cs).heap.size=w.heap.size:=by
 unfold World.setRow
 simp
theorem KeptW.setRow_ {gw:Gw}{B:Base gw}{w:World}(h:Kept B w){g:Nat}(hg:B.mine g)(cs:Array Value):Kept B (w.setRow g cs):=
 ⟨h.os,h.tape,h.output,by rw[wM];exact h.size,fun k hk hn=>by rw[xa (fun e=>hn (by subst e;exact hg))];exact h.block k hk hn,h.drawn⟩
structure News {gw:Gw}(w0:Base gw)(τ:St)(w:World)(Im:Nat->Prop)(bl:Nat->List Nat)(t:Ty)(ys:List t.den)(d:Bool)(v:Value)(L M:List Nat):Prop where
 head:∃A c,v= .slice A ys.length c/\∃news,news.length=ys.length*t.sz/\OL t.sz (rowP w Im t d) ys news M/\(∀u∈news,u.oneCell' =true)/\(ys≠[]->∃b o,A=some ⟨b,o,none⟩/\At w b o news)
 nodup:M.Nodup
 own:∀b∈M,w0.mine b/\b<w.heap.size/\¬Im b
 free:∀k p,zd τ.ob k=some p->∀b∈bl k,b∉M
 apart:∀b∈M,b∉L
theorem OL.nil_of {α:Type}{n:Nat}{p:α->List Value->List Nat->Prop}{cs:List Value}{L:List Nat}(h:OL n p [] cs L):L=[]:=h
theorem u4 {T e:TypeId}{t:Ty}(hu:P.underlying T=some (.slice e))(he:V5 P e t)(h:SRi w0 S0 σ a w Im hd bl){xs ys:List t.den}{d cn:Bool}{vx vy:Value}{L M:List Nat}
 (lo:Loose w0 σ w Im hd bl t xs d cn vx L) (nw:News w0 σ w Im bl t ys d vy L M) (hmax:ys≠[]->xs.length+ys.length<=rowMax) (ty:TypeId) (dst:Nat) (hd5:dst<500000):
 ∃v' w',(Builtin.append_ #[T,T] ty #[vx,vy]).run P w= .ok v' w' /\∃Im' hd' bl',SRi w0 S0 (σ.new dst (.row t (xs++ys) d cn)) a w' Im' hd' bl' /\hd' dst=v' :=by
 obtain⟨i,z,hi,hs,hby,hz,hzc⟩:=he
 obtain⟨A,cy,rfl,news,hnl,hol,h1,hat⟩:=nw.head
 by_cases hy:ys=[]
 ·subst hy
  obtain rfl:=hol.nil_of
  rw[List.append_nil]
  have key:∀ {B:Option Addr} {n c:Nat},vx= .slice B n c->n<=c->∃v' w',(Builtin.append_ #[T,T] ty #[vx, .slice A ([]:List t.den).length cy]).run P w= .ok v' w' /\∃Im' hd' bl',SRi w0 S0 (σ.new dst (.row t xs d cn)) a w' Im' hd' bl' /\hd' dst=v' :=by
   intro B n c e hle
   refine⟨vx,w, ?_,Im,_,_,h.new_ dst hd5 (v:=vx) (L:=L) (fun k p _ hp=>lo.free k p hp) lo.nodup lo.own ⟨lo.row,lo.nil⟩,by simp⟩
   rw[e]
   exact Ko hu hi hle (fun _ _=>trivial)
  rcases lo.row with⟨e1,e2,e3⟩|⟨b,f0,cap,cs,F,Li,e1,hb,hcs,hle,e3,hl⟩
  ·exact key e1 (zgC _)
  ·exact key e1 hle
 ·have hpos:0<ys.length:=List.length_pos_iff.2 hy
  obtain⟨b',o',rfl,hat'⟩:=hat hy
  have hnews:∀j u,news[j]? =some u->w.cell? ((⟨b',o',none⟩:Addr).add j)=some u:=fun j u hj=>by rw[gR];exact hat' j u hj
  have hmax:=hmax hy
  have hfit:=zb7 hmax hby
  have hne:∀zs:List t.den,cn=true->zs++ys≠[]:=fun zs _ e=>hy (List.append_eq_nil_iff.1 e).2
  have grow:∀ {olds:List Value} {Li:List Nat} {cap:Nat},olds.length=xs.length*t.sz->OL t.sz (rowP w Im t d) xs olds Li->(Li++M).Nodup->(∀b∈Li,w0.mine b/\b<w.heap.size/\¬Im b)->
   (∀k p,zd σ.ob k=some p->∀b∈bl k,b∉Li)->xs.length+ys.length<=grownCap w (xs.length+ys.length) cap e->
   ∃Im' hd' bl',SRi w0 S0 (σ.new dst (.row t (xs++ys) d cn)) a (w.drew.alloc (.cells (olds.toArray++news.toArray++Builtin.zeroCells z.cells (grownCap w (xs.length+ys.length) cap e-(xs.length+ys.length))) e)) Im' hd' bl' /\
    hd' dst= .slice (some ⟨w.heap.size,0,none⟩) (xs.length+ys.length) (grownCap w (xs.length+ys.length) cap e):=by
   intro olds Li cap hol0 holx hnd hown hfree hcap
   have hzs:z.cells.size=t.sz:=by rw[<-zgW,hzc,jV]
   obtain⟨hd2,bl2,k1,k2⟩:=h.madeRow (w' :=w.drew.alloc (.cells (olds.toArray++news.toArray++Builtin.zeroCells z.cells (grownCap w (xs.length+ys.length) cap e-(xs.length+ys.length))) e)) dst hd5 (t:=t) (xs:=xs++ys) (d:=d) (cn:=cn)
    (cap:=grownCap w (xs.length+ys.length) cap e) (M:=Li++M) (fun b hb=>vH w.drew _ _ hb) (vc w.drew _) (h.below.drew.alloc _) (jP w.drew _)
    (by
      rw[Array.size_append,Array.size_append,size_zeroCells,List.size_toArray,List.size_toArray,hol0,hnl,hzs,<-Nat.add_mul,<-Nat.add_mul];congr 1;omega) (by rw[zgA];exact hcap)
    (by
      rw[Array.toList_append,Array.toList_append]
      refine OL.pre (cs:=olds++news) (OL.append holx hol0 hol) ?_ ?_
      ·rw[zgA,zgT (by simp[hol0,hnl,Nat.add_mul]),List.take_append_of_le_length (by simp[hol0,hnl,Nat.add_mul]),zgT (by simp[hol0,hnl,Nat.add_mul])]
      ·simp[hol0,hnl,Nat.add_mul]) hnd (fun b hb=>by
       rcases zgz.1 hb with hb|hb
       ·exact hown b hb
       ·exact nw.own b hb) (fun k p _ hp b hb hbL=>by
       rcases zgz.1 hbL with hbL|hbL
       ·exact hfree k p hp b hb hbL
       ·exact nw.free k p hp b hb hbL) (hne xs)
   exact⟨Im,hd2,bl2,k1,by rw[k2,zgA]⟩
  rcases lo.row with⟨e1,e2,e3⟩|⟨b,f0,cap,cs,F,Li,e1,hb,hcs,hle,e3,hl⟩
  ·subst e2 e1 e3
   have hr:=run_append_nil (P:=P) w T ty e i z hu hi hz ⟨b',o',none⟩ ys.length cy news (by rw[hnl,hs]) hnews hpos (by simp at hmax;unfold rowMax at hmax;omega) (by simp at hfit;omega)
   obtain⟨Im',hd',bl',k1,k2⟩:=grow (olds:=[]) (Li:=[]) (cap:=0) (by simp) rfl (by simpa using nw.nodup) (fun b hb=>by cases hb) (fun k p _ b _ hb=>by cases hb) (grownCap_ge _ _ _ _)
   simp only[List.length_nil,Nat.zero_add]at k1 k2
   refine⟨_,_,hr,Im',hd',bl', ?_,k2⟩
   simpa using k1
  ·subst e1 e3
   have hown:=lo.own
   have hnd:=lo.nodup
   rw[zgV]at hnd
   have hlen:=hl.len
   have hcl:((cs.toList.drop f0).take (xs.length*t.sz)).length=xs.length*t.sz:=by rw[zgL];omega
   rw[zgR]at hlen
   have hLi:∀x∈Li,w0.mine x/\x<w.heap.size/\¬Im x:=fun x hx=>hown x (by simp[hx])
   have hfLi:∀k p,zd σ.ob k=some p->∀x∈bl k,x∉Li:=fun k p hp x hx hx2=>lo.free k p hp x hx (by simp[hx2])
   have hndM:(Li++M).Nodup:=by
    rw[zgM]
    exact⟨hnd.2,nw.nodup,fun x hx y hy2 e=>nw.apart y hy2 (by rw[<-e];simp[hx])⟩
   have holx:OL t.sz (rowP w Im t d) xs ((cs.toList.drop f0).take (xs.length*t.sz)) Li:=OL.pre hl (by rw[List.take_take,Nat.min_self]) (by omega)
   by_cases hroom:xs.length+ys.length<=cap
   ·
    have hfit2:f0+xs.length*t.sz+news.length<=cs.size:=by
     rw[hnl,Nat.add_assoc,<-Nat.add_mul];exact zg1 (Nat.add_le_add_left (Nat.mul_le_mul_right _ hroom) _) hcs
    have hr:=Mo (P:=P) (ty:=ty) (c:=cy) hu hi hb (by rw[hnl,hs]) hnews h1 hroom (by rw[hs];exact hfit2)
    rw[hs]at hr
    have hbo:=hown b (by simp)
    have hw' :∀x,x<w.heap.size->x∉ [b]->(w.setRow b (cs.toList.take (f0+xs.length*t.sz)++news++cs.toList.drop (f0+xs.length*t.sz+news.length)).toArray).heap[x]? =w.heap[x]? :=
     fun x _ hx=>xa (by simpa using hx)
    have h' :=h.world2 (w' :=w.setRow b (cs.toList.take (f0+xs.length*t.sz)++news++cs.toList.drop (f0+xs.length*t.sz+news.length)).toArray) (L:=[b]) hw'
     (by rw[wM];exact zgC _) (KeptW.setRow_ h.below hbo.1 _) (fun x hx=>by simp at hx;subst hx;exact hbo.2.2) (fun k p hp x hx hx2=>lo.free k p hp x hx (by simp at hx2;simp[hx2]))
    have hbM:b∉Li++M:=by
     intro hm
     rcases zgz.1 hm with hm|hm
     ·exact hnd.1 hm
     ·exact nw.apart b hm (by simp)
    refine⟨_,_,hr,Im,_,_,h'.new_ dst hd5 (v:= .slice (some ⟨b,f0,none⟩) (xs.length+ys.length) cap) (L:=b::(Li++M)) (fun k p _ hp x hx hxL=> ?_) ?_ (fun x hxL=> ?_) ⟨.inr ⟨b,f0,cap,_,F,Li++M,by rw[zgA],setRow_heap w b cs _ F _ hb, ?_,by rw[zgA];exact hroom,rfl, ?_⟩,fun e1 e2=>(hne xs e1 e2).elim⟩,by simp⟩
    ·rcases zgO.1 hxL with rfl|hxL
     ·exact lo.free k p hp x hx (by simp)
     ·rcases zgz.1 hxL with hxL|hxL
      ·exact hfLi k p hp x hx hxL
      ·exact nw.free k p hp x hx hxL
    ·rw[zgV];exact⟨hbM,hndM⟩
    ·rw[wM]
     rcases zgO.1 hxL with rfl|hxL
     ·exact hbo
     ·rcases zgz.1 hxL with hxL|hxL
      ·exact hLi x hxL
      ·exact nw.own x hxL
    ·rw[List.size_toArray];simp;omega
    ·have hsame:∀x,x<w.heap.size->x≠b->(w.setRow b (cs.toList.take (f0+xs.length*t.sz)++news++cs.toList.drop (f0+xs.length*t.sz+news.length)).toArray).heap[x]? =w.heap[x]? :=fun x hx hne=>hw' x hx (by simpa using hne)
     have hO:=(OL.append holx hcl hol)
     have ecut:((cs.toList.take (f0+xs.length*t.sz)++news++cs.toList.drop (f0+xs.length*t.sz+news.length)).toArray.toList.drop f0)=(cs.toList.drop f0).take (xs.length*t.sz)++news++cs.toList.drop (f0+xs.length*t.sz+news.length):=by
      rw[zgU,List.drop_append_of_le_length (by rw[zgL];simp;omega),List.drop_take,Nat.add_sub_cancel_left,<-zgU]
     rw[ecut]
     have hO2:OL t.sz (rowP w Im t d) (xs++ys) ((cs.toList.drop f0).take (xs.length*t.sz)++news++cs.toList.drop (f0+xs.length*t.sz+news.length)) (Li++M):=by
      have hAl:((cs.toList.drop f0).take (xs.length*t.sz)++news).length=(xs++ys).length*t.sz:=by rw[zgA,zgA,hcl,hnl,Nat.add_mul]
      refine OL.pre hO ?_ ?_
      ·rw[<-hAl,List.take_length,List.take_left]
      ·have:=zgA (as:=(cs.toList.drop f0).take (xs.length*t.sz)++news) (bs:=cs.toList.drop (f0+xs.length*t.sz+news.length))
       omega
     refine OL.tell (fun x hx=>hsame x (h.lt x hx) (fun e=>hbo.2.2 (e▸hx))) (fun _ x=>x) (fun x hx=>hsame x ?_ (fun e=>hbM (e▸hx))) hO2
     rcases zgz.1 hx with hx|hx
     ·exact(hLi x hx).2.1
     ·exact(nw.own x hx).2.1
   ·
    have hg:cap<xs.length+ys.length:=by omega
    have hr:=run_append_grow (P:=P) w T ty e i z hu hi hz ⟨b,f0,none⟩ xs.length cap ((cs.toList.drop f0).take (xs.length*t.sz)) (by rw[hs];exact hcl)
     (fun j v hj=>by rw[gR];exact ud hb f0 (xs.length*t.sz) j v hj) ⟨b',o',none⟩ ys.length cy news (by rw[hnl,hs]) hnews hg
     (by unfold rowMax at hmax;omega) (growslice_fits hg hfit)
    obtain⟨Im',hd',bl',k1,k2⟩:=grow (cap:=cap) hcl holx hndM hLi hfLi (grownCap_ge _ _ _ _)
    exact⟨_,_,hr,Im',hd',bl',k1,k2⟩
end
end Go.Vt
