/- Walks of functions that go through a tree's kids: Light, both Counts, Depth; their conditions stand in the theorems. -/
import Derived.Test.YtecffghcpknmjaaGreatDoorJK10
import Derived.Test.YtecffghcpknmjaaGreatDoorJK04
import Derived.Test.YtecffghcpknmjaaGreatDoorJK05
import Derived.Test.YtecffghcpknmjaaGreatDoorJK06
import Derived.Test.YtecffghcpknmjaaGreatDoorJK07
import Derived.Test.YtecffghcpknmjaaGreatDoorJK08
import Derived.Test.YtecffghcpknmjaaGreatDoorJK09
import Derived.Test.YtecffghcpknmjaaGreatDoorOwn2
import Derived.Test.YtecffghcpknmjaaGreatDoorQB
import Derived.Test.YtecffghcpknmjaaGreatDoorG2
import Derived.Test.YtecffghcpknmjaaGreatDoorK19
import Derived.Test.YtecffghcpknmjaaGreatDoorK4
import Derived.Test.YtecffghcpknmjaaGreatDoorR0
import Derived.Test.YtecffghcpknmjaaGreatDoorL0
import Derived.Test.YtecffghcpknmjaaGreatDoorSB
import Derived.Test.YtecffghcpknmjaaGreatDoorJK03
namespace Go.Proofs.YtecffghcpknmjaaGreatDoor
open Go Go.RowKit
theorem NodeX.at {X:Nat→Prop} {w:World} {t:Tr} {av:Value} {ko:Option Addr} {m kc:Nat} (h:NodeX X w t av (.slice ko m kc)) (k:Nat) (hk:k<t.kids.length) : ∃ g o a1 a2 a3 a4,ko=some ⟨g,o,none⟩∧g<w.heap.size ∧ ¬ X g∧w.cell? ⟨g,o+k*4,none⟩=some (.string (bs t.kids[k].name))∧w.cell? ⟨g,o+k*4+1,none⟩=some (.slice a1 t.kids[k].attrs.length a2)∧w.cell? ⟨g,o+k*4+2,none⟩=some (.slice a3 t.kids[k].kids.length a4)∧w.cell? ⟨g,o+k*4+3,none⟩=some (.string (bs t.kids[k].text))∧NodeX X w t.kids[k] (.slice a1 t.kids[k].attrs.length a2) (.slice a3 t.kids[k].kids.length a4):=by
 obtain ⟨ao,cap,e,-,h2⟩:=h.kid2;simp only [Value.slice.injEq] at e;obtain ⟨rfl,-,-⟩:=e;obtain ⟨g,o,a,b,h3,h4,h5,h6,h7,h8,h9,h10,a1,a2,a3,a4,rfl,rfl⟩:=h2 k hk;exact ⟨g,o,a1,a2,a3,a4,h3,h4,h5,h6,h7,h8,h9,h10⟩
theorem NodeX.shape {X:Nat→Prop} {w:World} {t:Tr} {av kv:Value} (h:NodeX X w t av kv) : ∃ ao ac ko kc,av = .slice ao t.attrs.length ac∧kv = .slice ko t.kids.length kc∧t.attrs.length≤9223372036854775807∧t.kids.length≤9223372036854775807:=by
 obtain ⟨ao,ac,e1,h1,h2,-⟩:=h.att;obtain ⟨ko,kc,e2,h3,-⟩:=h.kid2;unfold maxLen at h2 h3;exact ⟨ao,ac,ko,kc,e1,e2,by omega,by omega⟩
theorem NodeX.atA {X:Nat→Prop} {w:World} {t:Tr} {kv:Value} {ao:Option Addr} {m ac:Nat} (h:NodeX X w t (.slice ao m ac) kv) (k:Nat) (hk:k<t.attrs.length) : ∃ g o,ao=some ⟨g,o,none⟩∧g<w.heap.size ∧ ¬ X g∧w.cell? ⟨g,o+k*2,none⟩=some (.string (bs t.attrs[k].1))∧w.cell? ⟨g,o+k*2+1,none⟩=some (.string (bs t.attrs[k].2)):=by
 obtain ⟨ao',ac',e,-,-,-,h2⟩:=h.attX;simp only [Value.slice.injEq] at e;obtain ⟨rfl,-,-⟩:=e;obtain ⟨b,o,h3,h4,h5,h6⟩:=h2 k _ (List.getElem?_eq_getElem hk);exact ⟨b,o,h3,h4,h5,h6 0 _ rfl,h6 1 _ rfl⟩
theorem cntL_mem : ∀ (l:List Tr) (k:Nat) (h:k<l.length),l[k].cnt≤Tr.cntL l
 | t::l,0,_=>by simp only [Tr.cntL,List.getElem_cons_zero]; omega
 | t::l,k+1,h=>by have:=cntL_mem l k (by simpa using h); simp only [Tr.cntL,List.getElem_cons_succ]; omega
theorem cntL_take_le : ∀ (l:List Tr) (k:Nat),Tr.cntL (l.take k)≤Tr.cntL l
 | [],k=>by simp
 | t::l,0=>by simp [Tr.cntL]
 | t::l,k+1=>by have:=cntL_take_le l k; simp only [List.take_succ_cons,Tr.cntL]; omega
mutual
def Tr.dep:Tr→Nat
 | .mk _ _ ks _=>Tr.depL ks+1
def Tr.depL:List Tr→Nat
 | []=>0
 | t::l=>max (if t.name=[] then 0 else t.dep) (Tr.depL l)
end
theorem Tr.dep_eq (t:Tr):t.dep=Tr.depL t.kids+1:=by cases t; rw [Tr.dep]; rfl
theorem depL_append : ∀ (l m:List Tr),Tr.depL (l ++ m)=max (Tr.depL l) (Tr.depL m)
 | [],m=>by simp [Tr.depL]
 | t::l,m=>by rw [List.cons_append,Tr.depL,Tr.depL,depL_append l m,Nat.max_assoc]
theorem depL_take (l:List Tr) (k:Nat) (h:k<l.length):Tr.depL (l.take (k+1))=max (Tr.depL (l.take k)) (if l[k].name=[] then 0 else l[k].dep):=by
 rw [List.take_succ_eq_append_getElem h,depL_append]; simp [Tr.depL]
mutual
theorem dep_le : ∀ t:Tr,t.dep≤t.cnt
 | .mk n a ks x=>by rw [Tr.dep,Tr.cnt]; have:=depL_le ks; omega
theorem depL_le : ∀ l:List Tr,Tr.depL l≤Tr.cntL l
 | []=>by simp [Tr.depL]
 | t::l=>by
  rw [Tr.depL,Tr.cntL];have h1:=depL_le l;have h2:=dep_le t;split <;> omega
end
set_option maxRecDepth 100000 in
set_option maxHeartbeats 8000000 in
theorem refCount_any : ∀ (n:Nat) (t:Tr) (w:World) (av kv:Value),SizeOf.sizeOf t≤n→NodeOf w t av kv→t.cnt≤1000000 →
    Calls Tryz.prog 35 #[nodeV t av kv] w fun e w'=>e = .returned (.int .i64 t.cnt)∧Below w.heap.size w w'
 | 0,t,w,av,kv,hn,_,_=>by
  obtain ⟨n,l,k,x⟩:=t;simp only [Tr.mk.sizeOf_spec] at hn;omega
 | n+1,t,w,av,kv,hn,ht,hc=>by
  obtain ⟨ao,ac,ko,kc,rfl,rfl,-,hkl⟩:=ht.shape;have HI:Hid (∀ k (hk:k<t.kids.length) (W':World) (v1 v2:Value),NodeOf W' t.kids[k] v1 v2→Calls Tryz.prog 35 #[nodeV t.kids[k] v1 v2] W' fun e w'=>e = .returned (.int .i64 t.kids[k].cnt)∧Below W'.heap.size W' w'):=fun k hk W' v1 v2 h1=>refCount_any n _ W' v1 v2 (by have:=kid_less hk; omega) h1 (by have:=cntL_mem t.kids k hk; rw [Tr.cnt_eq] at hc; omega);have HT:=Lib.hid ht;have HC:=Lib.hid hc;clear ht hn hc;unfold nodeV;go_enter Tryz.func35,Tryz.ntmps35
  go_wp2
  go_loopw [3,9] (fun a i wr=>∃ (k c:Nat),k≤t.kids.length∧i = .int .i64 k∧a = .int .i64 c∧Hid (Below w.heap.size w wr∧c=1+Tr.cntL (t.kids.take k))) (fun _ i _=>t.kids.length - (intOf i).toNat)
  case atStart=>exact ⟨0,1,Nat.zero_le _,rfl,rfl,(Below.refl _ w).alloc (Nat.le_refl _) _,by simp [Tr.cntL]⟩
  case round =>
   obtain ⟨k,c,hk,rfl,rfl,HR⟩:=hrel;by_cases hlt:k<t.kids.length
   · obtain ⟨g,o,a1,a2,a3,a4,rfl,hg,-,c0,c1,c2,c3,hn1⟩:=(HT.out.later HR.out.1).at k hlt
     have HN:=Lib.hid (fun o=>HI.out k hlt (wr.alloc o) _ _ (hn1.later ((Below.refl _ _).alloc (Nat.le_refl _) _)));have hki:(k:Int)<(t.kids.length:Int):=by omega
     have htk:=cntL_take t.kids k hlt;have hle:=cntL_take_le t.kids (k+1);have hce:=Tr.cnt_eq t;have hsum:c+t.kids[k].cnt≤1000000:=by have:=HC.out; have:=HR.out.2; omega
     have HTK:=Lib.hid htk;unfold nodeV at HN;clear htk hle hce hn1;generalize t.kids[k].cnt=d at *;go_wp2_with fail
     refine (HN.out _).mono ?_
     rintro e w4 ⟨rfl,hb4⟩;have HB4:=Lib.hid ((HR.out.1.alloc HR.out.1.size _).trans (hb4.mono (by have:=HR.out.1.size; simp; omega)));clear hb4 HN;go_wp2
     go_roundw
     case rel=>exact ⟨k+1,c+d,hlt,by go_num,by go_num,HB4.out,by rw [HTK.out,HR.out.2]; omega⟩
     case measure=>simp [intOf]; omega
   · obtain rfl:k=t.kids.length:=by omega
     have HRT:Hid (c=t.cnt):=by show _=_; rw [HR.out.2,List.take_length,Tr.cnt_eq]
     go_wp2
     go_ret
     exact ⟨by rw [HRT.out]; rfl,HR.out.1⟩
set_option maxRecDepth 100000 in
set_option maxHeartbeats 8000000 in
theorem refDepth_any : ∀ (n:Nat) (t:Tr) (w:World) (av kv:Value),SizeOf.sizeOf t≤n→NodeOf w t av kv→t.cnt≤1000000 →
    Calls Tryz.prog 36 #[nodeV t av kv] w fun e w'=>e = .returned (.int .i64 t.dep)∧Below w.heap.size w w'
 | 0,t,w,av,kv,hn,_,_=>by
  obtain ⟨n,l,k,x⟩:=t;simp only [Tr.mk.sizeOf_spec] at hn;omega
 | n+1,t,w,av,kv,hn,ht,hc=>by
  obtain ⟨ao,ac,ko,kc,rfl,rfl,-,hkl⟩:=ht.shape;have HI:Hid (∀ k (hk:k<t.kids.length) (W':World) (v1 v2:Value),NodeOf W' t.kids[k] v1 v2→Calls Tryz.prog 36 #[nodeV t.kids[k] v1 v2] W' fun e w'=>e = .returned (.int .i64 t.kids[k].dep)∧Below W'.heap.size W' w'):=fun k hk W' v1 v2 h1=>refDepth_any n _ W' v1 v2 (by have:=kid_less hk; omega) h1 (by have:=cntL_mem t.kids k hk; rw [Tr.cnt_eq] at hc; omega);have HT:=Lib.hid ht;have HC:=Lib.hid hc;clear ht hn hc;unfold nodeV;go_enter Tryz.func36,Tryz.ntmps36
  go_wp2
  go_loopw [3,9] (fun a i wr=>∃ (k c:Nat),k≤t.kids.length∧i = .int .i64 k∧a = .int .i64 c∧c≤1000000∧Hid (Below w.heap.size w wr∧c=Tr.depL (t.kids.take k))) (fun _ i _=>t.kids.length - (intOf i).toNat)
  case atStart=>exact ⟨0,0,Nat.zero_le _,rfl,rfl,by omega,(Below.refl _ w).alloc (Nat.le_refl _) _,by simp [Tr.depL]⟩
  case round =>
   obtain ⟨k,c,hk,rfl,rfl,hc1,HR⟩:=hrel;by_cases hlt:k<t.kids.length
   · obtain ⟨g,o,a1,a2,a3,a4,rfl,hg,-,c0,c1,c2,c3,hn1⟩:=(HT.out.later HR.out.1).at k hlt
     have HN:=Lib.hid (fun o=>HI.out k hlt (wr.alloc o) _ _ (hn1.later ((Below.refl _ _).alloc (Nat.le_refl _) _)));have hki:(k:Int)<(t.kids.length:Int):=by omega
     have htk:=depL_take t.kids k hlt;have HTK:=Lib.hid htk;unfold nodeV at HN;clear htk hn1
     have hd1:t.kids[k].dep≤1000000:=by
      have:=HC.out
      have h1:=cntL_mem t.kids k hlt;have h2:=dep_le t.kids[k];rw [Tr.cnt_eq] at this;omega
     by_cases hne:t.kids[k].name=[]
     · have he:(bs t.kids[k].name:S).toList.isEmpty=true:=by rw [empty_data,bs_size,hne]; rfl
       have he2:(!(bs t.kids[k].name:S).toList.isEmpty)=false:=by rw [he]; rfl
       rw [if_pos hne] at HTK;have HB4:=Lib.hid (fun o=>HR.out.1.alloc HR.out.1.size o);clear hne;go_wp2
       go_roundw
       case rel=>exact ⟨k+1,c,hlt,by go_num,rfl,hc1,HB4.out _,by rw [HTK.out,HR.out.2]; omega⟩
       case measure=>simp [intOf]; omega
     · have he:(bs t.kids[k].name:S).toList.isEmpty=false:=by rw [empty_data,bs_size]; simpa using hne
       have he2:(!(bs t.kids[k].name:S).toList.isEmpty)=true:=by rw [he]; rfl
       rw [if_neg hne] at HTK;clear hne;generalize t.kids[k].dep=d at *;go_wp2_with fail
       refine (HN.out _).mono ?_
       rintro e w4 ⟨rfl,hb4⟩;have HB4:=Lib.hid ((HR.out.1.alloc HR.out.1.size _).trans (hb4.mono (by have:=HR.out.1.size; simp; omega)));clear hb4 HN;by_cases hcd:c<d
       · have hcdI:(c:Int)<(d:Int):=by omega
         go_wp2
         go_roundw
         case rel=>exact ⟨k+1,d,hlt,by go_num,by go_num,hd1,HB4.out,by rw [HTK.out,← HR.out.2]; omega⟩
         case measure=>simp [intOf]; omega
       · have hcdI : ¬ (c:Int)<(d:Int):=by omega
         go_wp2
         go_roundw
         case rel=>exact ⟨k+1,c,hlt,by go_num,by go_num,hc1,HB4.out,by rw [HTK.out,← HR.out.2]; omega⟩
         case measure=>simp [intOf]; omega
   · obtain rfl:k=t.kids.length:=by omega
     have HRT:Hid (c+1=t.dep):=by show _=_; rw [HR.out.2,List.take_length,Tr.dep_eq]
     go_wp2
     go_ret
     exact ⟨by rw [← HRT.out]; first | go_num | rfl | (show Ending.returned _=Ending.returned _; congr 2),HR.out.1⟩
end Go.Proofs.YtecffghcpknmjaaGreatDoor
namespace Go.Proofs.YtecffghcpknmjaaGreatDoor
open Go Go.RowKit
def isKid (m:Bs) (t:Tr):Bool:=!t.name.isEmpty && (m.isEmpty || decide (t.name=m))
def kidsF (m:Bs) (l:List Tr):List Tr:=l.filter (isKid m)
def textF:List Tr→Bs
 | []=>[]
 | t::l=>(if t.name.isEmpty then t.text else []) ++ textF l
theorem kidsF_take {m:Bs} {l:List Tr} {k:Nat} (h:k<l.length):kidsF m (l.take (k+1))=kidsF m (l.take k) ++ if isKid m l[k] then [l[k]] else []:=by
 unfold kidsF;rw [List.take_succ_eq_append_getElem h,List.filter_append];congr 1
 by_cases hk:isKid m l[k]=true
 · simp [hk]
 · simp [hk]
theorem textF_append : ∀ (l r:List Tr),textF (l ++ r)=textF l ++ textF r
 | [],r=>by simp [textF]
 | t::l,r=>by rw [List.cons_append,textF,textF,textF_append l r,List.append_assoc]
theorem textF_take {l:List Tr} {k:Nat} (h:k<l.length):textF (l.take (k+1))=textF (l.take k) ++ if l[k].name.isEmpty then l[k].text else []:=by
 rw [List.take_succ_eq_append_getElem h,textF_append]; simp [textF]
theorem textF_take_le : ∀ (l:List Tr) (k:Nat),(textF (l.take k)).length≤(textF l).length
 | [],k=>by simp
 | t::l,0=>by simp [textF]
 | t::l,k+1=>by have:=textF_take_le l k; simp only [List.take_succ_cons,textF,List.length_append]; omega
structure Coll (B:Nat) (w wr:World) (v:Value) (L:List TrV):Prop where
 below:Below B w wr
 own:Owns B 32 4 trC wr v L
 nodes : ∀ y ∈ L,NodeX (fun j=>B≤j) wr y.1 y.2.1 y.2.2
structure CollX (X:Nat→Prop) (B:Nat) (w wr:World) (v:Value) (L:List TrV):Prop where
 below:Below B w wr
 own:Owns B 32 4 trC wr v L
 nodes : ∀ y ∈ L,NodeX (fun j=>X j∨B≤j) wr y.1 y.2.1 y.2.2
theorem CollX.coll {X:Nat→Prop} {B:Nat} {w wr:World} {v:Value} {L:List TrV} (h:CollX X B w wr v L):Coll B w wr v L :=
 ⟨h.below,h.own,fun y hy=>(h.nodes y hy).keep (KeptX.refl _ _) (fun _ _ h=>.inr h)⟩
theorem CollX.alloc {X:Nat→Prop} {B:Nat} {w wr:World} {v:Value} {L:List TrV} (h:CollX X B w wr v L) (hB:B≤wr.heap.size) (o:Obj):CollX X B w (wr.alloc o) v L :=
 ⟨h.below.alloc hB o,h.own.alloc o,fun y hy=>(h.nodes y hy).later ((Below.refl _ _).alloc (Nat.le_refl _) _)⟩
theorem CollX.push {X:Nat→Prop} {B:Nat} {w wr w8:World} {v v8:Value} {L:List TrV} {y:TrV} (h:CollX X B w wr v L) (hy:NodeX (fun j=>X j∨B≤j) wr y.1 y.2.1 y.2.2) (ho:Owns B 32 4 trC w8 v8 (L ++ [y])) (hg:wr.grownBy w8 v.ownBlock) (hB:B≤wr.heap.size):CollX X B w w8 v8 (L ++ [y]):=by
 have hX : ∀ g,v.ownBlock=some g→B≤g:=fun g e=>(h.own.rowOf e).1;have hk:KeptX (fun j=>X j∨B≤j) wr w8:=KeptX.grown hg (fun g e=>.inr (hX g e));have hb:Below B wr w8:=⟨hg.os,hg.tape,hg.output,by have:=hg.size; omega,fun k hk=>hg.block k (by omega) (fun e=>by have:=hX k e.symm; omega)⟩;refine ⟨h.below.trans hb,ho,fun z hz=>?_⟩
 rcases List.mem_append.1 hz with hz | hz
 · exact (h.nodes z hz).keep hk (fun _ _ h=>h)
 · obtain rfl:=List.mem_singleton.1 hz
   exact hy.keep hk (fun _ _ h=>h)
theorem lit_one (y:TrV) (W:World) (H:Nat) (hH:W.heap.size=H):SliceOf 4 trC (W.alloc (.cells (trC y).toArray 32)) (.slice (some ⟨H,0,none⟩) 1 1) [y]:=by
 have h:=sliceLit trC_len W [y] 32 H 1 hH rfl (by unfold maxLen; simp);simpa using h
theorem one_one (t:Tr) (a1 a3:Option Addr) (l1 l3 a2 a4:Nat) : ∀ y ∈ [((t,.slice a1 l1 a2,.slice a3 l3 a4):TrV)],∀ u ∈ trC y,u.oneCell'=true:=by
 intro y hy u hu;obtain rfl:=List.mem_singleton.1 hy;simp only [trC,nodeC,List.mem_cons,List.not_mem_nil,or_false] at hu;rcases hu with rfl | rfl | rfl | rfl <;> rfl
theorem filter_len (m:Bs) (l:List Tr) (k:Nat):(kidsF m (l.take k)).length≤k:=by
 have h1:=List.length_filter_le (isKid m) (l.take k);have h2:(l.take k).length≤k:=List.length_take_le _ _;unfold kidsF; omega
set_option maxRecDepth 100000 in
set_option maxHeartbeats 8000000 in
theorem kids_x {X:Nat→Prop} (t:Tr) (m:Bs) (w:World) (av kv:Value) (ht:NodeX X w t av kv) (hkl:t.kids.length≤100000) :
    Calls Tryz.prog 23 #[nodeV t av kv,.string (bs m)] w fun e w'=>∃ v L,e = .returned v∧L.map (·.1)=kidsF m t.kids∧CollX X w.heap.size w w' v L:=by
 obtain ⟨ao,ac,ko,kc,rfl,rfl,hal,-⟩:=ht.shape;have HT:=Lib.hid ht;clear ht;unfold nodeV;go_enter Tryz.func23,Tryz.ntmps23
 go_wp2
 go_loopw [4,10] (fun v i wr=>∃ (k:Nat) (L:List TrV) (v':Value),k≤t.kids.length∧i = .int .i64 k∧v=v'∧Hid (w.heap.size<wr.heap.size∧CollX X w.heap.size w wr v' L∧L.map (·.1)=kidsF m (t.kids.take k))) (fun _ i _=>t.kids.length - (intOf i).toNat)
 case atStart=>exact ⟨0,[],_,Nat.zero_le _,rfl,rfl,by simp,⟨(Below.refl _ w).alloc (Nat.le_refl _) _,Owns.nil,by simp⟩,by simp [kidsF]⟩
 case round =>
  obtain ⟨k,L,v,hk,rfl,rfl,HR⟩:=hrel;obtain ⟨la,lc,hlv⟩:=HR.out.2.1.own.shape;subst hlv;by_cases hlt:k<t.kids.length
  · obtain ⟨g,o,a1,a2,a3,a4,rfl,hg,-,c0,c1,c2,c3,hn1⟩:=(HT.out.later HR.out.2.1.below).at k hlt
    have hnX:NodeX (fun j=>X j∨w.heap.size≤j) w t (.slice ao t.attrs.length ac) (.slice (some ⟨g,o,none⟩) t.kids.length kc):=HT.out.keep (KeptX.refl _ _) (fun k h1 h2=>h2.elim id (fun h=>by omega));obtain ⟨g',o',b1,b2,b3,b4,e1,-,-,d0,d1,d2,d3,hn2⟩:=(hnX.keep (KeptX.below HR.out.2.1.below) (fun _ _ h=>h)).at k hlt;simp only [Option.some.injEq,Addr.mk.injEq,and_true] at e1;obtain ⟨rfl,rfl⟩:=e1;rw [c1] at d1;rw [c2] at d2;simp only [Option.some.injEq,Value.slice.injEq,true_and] at d1 d2;obtain ⟨rfl,rfl⟩:=d1;obtain ⟨rfl,rfl⟩:=d2;have hki:(k:Int)<(t.kids.length:Int):=by omega
    have HD:=Lib.hid (kidsF_take (m:=m) hlt);have HC:=Lib.hid (fun o=>HR.out.2.1.alloc (Nat.le_of_lt HR.out.1) o);have HZ:=Lib.hid (fun o=>(show w.heap.size<(wr.alloc o).heap.size by have:=HR.out.1; simp; omega));have HN:=Lib.hid hn2;have hE:=bs_beq2 t.kids[k].name m
    have hLl:L.length≤k:=by
     have h1:=filter_len m t.kids k;rw [← HR.out.2.2] at h1;simpa using h1
    clear d0 d3 hn1 hn2 hnX;by_cases hne:t.kids[k].name=[]
    · have he:(bs t.kids[k].name:S).toList.isEmpty=true:=by rw [empty_data,bs_size,hne]; rfl
      have he2:(!(bs t.kids[k].name:S).toList.isEmpty)=false:=by rw [he]; rfl
      have hik:isKid m t.kids[k]=false:=by unfold isKid; rw [hne]; rfl
      rw [hik] at HD;clear hne hE hik;go_wp2
      go_roundw
      case rel=>exact ⟨k+1,L,_,hlt,by go_num,rfl,HZ.out _,HC.out _,by rw [HD.out,HR.out.2.2]; simp⟩
      case measure=>simp [intOf]; omega
    · have he:(bs t.kids[k].name:S).toList.isEmpty=false:=by rw [empty_data,bs_size]; simpa using hne
      have he2:(!(bs t.kids[k].name:S).toList.isEmpty)=true:=by rw [he]; rfl
      have hkE:t.kids[k].name.isEmpty=false:=by simpa using hne
      have hmE:(bs m:S).toList.isEmpty=m.isEmpty:=by rw [empty_data,bs_size]; cases m <;> simp
      have hik:isKid m t.kids[k]=(m.isEmpty || decide (t.kids[k].name=m)):=by unfold isKid; rw [hkE]; rfl
      clear hne
      have hcs:(isKid m t.kids[k]=false∧(bs m:S).toList.isEmpty=false∧((bs t.kids[k].name:S).toList == (bs m:S).toList)=false)∨(isKid m t.kids[k]=true∧(bs m:S).toList.isEmpty=true)∨(isKid m t.kids[k]=true∧(bs m:S).toList.isEmpty=false∧((bs t.kids[k].name:S).toList == (bs m:S).toList)=true):=by
       rw [hik,hmE,hE];cases m.isEmpty <;> cases decide (t.kids[k].name=m) <;> simp
      clear hik hmE hE hkE;rcases hcs with ⟨hik,hm1,hE⟩ | hcs
      · rw [hik] at HD
        clear hik;go_wp2
        go_roundw
        case rel=>exact ⟨k+1,L,_,hlt,by go_num,rfl,HZ.out _,HC.out _,by rw [HD.out,HR.out.2.2]; simp⟩
        case measure=>simp [intOf]; omega
      · have hikt:isKid m t.kids[k]=true:=by rcases hcs with ⟨h,-⟩ | ⟨h,-⟩ <;> exact h
        rw [hikt] at HD;have HOO:Hid (∀ o o2,Owns w.heap.size 32 4 trC ((wr.alloc o).alloc o2) (.slice la L.length lc) L):=fun o o2=>((HC.out o).own).alloc o2
        have HFI:Hid (∀ o o2 v8 w8,Owns w.heap.size 32 4 trC w8 v8 (L ++ [(t.kids[k],.slice a1 t.kids[k].attrs.length a2,.slice a3 t.kids[k].kids.length a4)])→((wr.alloc o).alloc o2).grownBy w8 (Value.slice la L.length lc).ownBlock→w.heap.size<w8.heap.size∧CollX X w.heap.size w w8 v8 (L ++ [(t.kids[k],.slice a1 t.kids[k].attrs.length a2,.slice a3 t.kids[k].kids.length a4)])):=fun o o2 v8 w8 h1 h2 =>
         ⟨by have:=h2.size; have:=HZ.out o; simp at *; omega,((HC.out o).alloc (Nat.le_of_lt (HZ.out o)) o2).push ((HN.out.later ((Below.refl _ _).alloc (Nat.le_refl _) _)).later ((Below.refl _ _).alloc (Nat.le_refl _) _)) h1 h2 (by have:=HZ.out o; simp at *; omega)⟩
        have HSZ2:Hid (∀ o o2,w.heap.size≤((wr.alloc o).alloc o2).heap.size):=fun o o2=>by have:=HZ.out o; simp at *; omega
        have HBY:Hid (∀ y:TrV,(L.length+[y].length)*80≤140737488355328):=fun y=>by simp only [List.length_cons,List.length_nil]; omega
        have HLL:=Lib.hid hLl;have HIS:=Lib.hid HR.out.2.2
        have hCS:((bs m:S).toList.isEmpty=true)∨((bs m:S).toList.isEmpty=false∧((bs t.kids[k].name:S).toList == (bs m:S).toList)=true):=by
         rcases hcs with ⟨-,h⟩ | ⟨-,h⟩
         · exact .inl h
         · exact .inr h
        clear hcs hikt HR HT HN HC HZ hLl;generalize hkk:t.kids[k]=y at *;obtain ⟨yn,ya,yk,yx⟩:=y;simp only [Tr.name,Tr.attrs,Tr.kids,Tr.text] at *;rcases hCS with hm1 | ⟨hm1,hE⟩
        all_goals
         go_wp2_with (at_builtin; go_loud ((refine wpList_append_slice _ rfl _ _ 30 rfl w.heap.size 32 Tryz.underlying30 info_node rfl (by decide) trC_len (.slice la L.length lc) L rfl (HOO.out _ _) _ [((.mk yn ya yk yx,.slice a1 ya.length a2,.slice a3 yk.length a4):TrV)] rfl (lit_one (.mk yn ya yk yx,.slice a1 ya.length a2,.slice a3 yk.length a4) _ _ (by simp)) (one_one _ _ _ _ _ _ _) (HBY.out _) (by decide) (HSZ2.out _ _) ?_; intro v8 w8 hown8 hgrow8 hloc8; have HP8:=Lib.hid (HFI.out _ _ _ _ hown8 hgrow8); clear hown8 hgrow8 hloc8)))
         go_wp2
         go_roundw
         case rel=>exact ⟨k+1,_,_,hlt,by go_num,rfl,HP8.out.1,HP8.out.2,by rw [HD.out,List.map_append,HIS.out]; rfl⟩
         case measure=>simp [intOf]; omega
  · obtain rfl:k=t.kids.length:=by omega
    have HF:Hid (L.map (·.1)=kidsF m t.kids):=by show _=_; rw [HR.out.2.2,List.take_length]
    go_wp2
    go_ret
    exact ⟨_,L,rfl,HF.out,HR.out.2.1⟩
theorem kids_any (t:Tr) (m:Bs) (w:World) (av kv:Value) (ht:NodeOf w t av kv) (hkl:t.kids.length≤100000) :
    Calls Tryz.prog 23 #[nodeV t av kv,.string (bs m)] w fun e w'=>∃ v L,e = .returned v∧L.map (·.1)=kidsF m t.kids∧Coll w.heap.size w w' v L :=
 (kids_x t m w av kv ht hkl).mono fun _ _ ⟨v,L,h1,h2,h3⟩=>⟨v,L,h1,h2,h3.coll⟩
set_option maxRecDepth 100000 in
set_option maxHeartbeats 8000000 in
theorem text_any (t:Tr) (w:World) (av kv:Value) (ht:NodeOf w t av kv) (hx:(textF t.kids).length≤1000000000) :
    Calls Tryz.prog 24 #[nodeV t av kv] w fun e w'=>e = .returned (.string (bs (trimB (textF t.kids))))∧Below w.heap.size w w':=by
 obtain ⟨ao,ac,ko,kc,rfl,rfl,-,hkl⟩:=ht.shape;have HT:=Lib.hid ht;have HX:=Lib.hid hx;clear ht hx;unfold nodeV;go_enter Tryz.func24,Tryz.ntmps24
 go_wp2
 go_loopw [3,9] (fun a i wr=>∃ (k:Nat) (s:S),k≤t.kids.length∧i = .int .i64 k∧a = .string s∧Hid (Below w.heap.size w wr∧s=bs (textF (t.kids.take k)))) (fun _ i _=>t.kids.length - (intOf i).toNat)
 case atStart=>exact ⟨0,⟨#[]⟩,Nat.zero_le _,rfl,rfl,(Below.refl _ w).alloc (Nat.le_refl _) _,by simp [textF]; rfl⟩
 case round =>
  obtain ⟨k,s,hk,rfl,rfl,HR⟩:=hrel;by_cases hlt:k<t.kids.length
  · obtain ⟨g,o,a1,a2,a3,a4,rfl,hg,-,c0,c1,c2,c3,-⟩:=(HT.out.later HR.out.1).at k hlt
    have hki:(k:Int)<(t.kids.length:Int):=by omega
    have HD:=Lib.hid (textF_take hlt);have HB:=Lib.hid (fun o=>HR.out.1.alloc HR.out.1.size o);by_cases hne:t.kids[k].name=[]
    · have he:(bs t.kids[k].name:S).toList.isEmpty=true:=by rw [empty_data,bs_size,hne]; rfl
      have hkE:t.kids[k].name.isEmpty=true:=by rw [hne]; rfl
      rw [hkE] at HD;obtain ⟨X,hX⟩ : ∃ X:S,X=bs t.kids[k].text:=⟨_,rfl⟩;rw [← hX] at c3;have HS:Hid (s ++ X=bs (textF (t.kids.take (k+1)))):=by show _=_; rw [HR.out.2,hX,bs_append,HD.out]; rfl
      have hsz : ¬ 9223372036854775807<s.size+X.size:=by
       have h1:=textF_take_le t.kids (k+1);have h2:=HX.out;have h3:(s ++ X).size=(textF (t.kids.take (k+1))).length:=by rw [HS.out,bs_size]
       have h4:(s ++ X).size=s.size+X.size:=by simp
       omega
      clear hne hX hkE HD;go_wp2
      go_roundw
      case rel=>exact ⟨k+1,s ++ X,hlt,by go_num,rfl,HB.out _,HS.out⟩
      case measure=>simp [intOf]; omega
    · have he:(bs t.kids[k].name:S).toList.isEmpty=false:=by rw [empty_data,bs_size]; simpa using hne
      have hkE:t.kids[k].name.isEmpty=false:=by simpa using hne
      rw [hkE] at HD;have HS:Hid (s=bs (textF (t.kids.take (k+1)))):=by show _=_; rw [HD.out,HR.out.2]; simp
      clear hne hkE HD;go_wp2
      go_roundw
      case rel=>exact ⟨k+1,s,hlt,by go_num,rfl,HB.out _,HS.out⟩
      case measure=>simp [intOf]; omega
  · obtain rfl:k=t.kids.length:=by omega
    have hs:s=bs (textF t.kids):=by have:=HR.out.2; rwa [List.take_length] at this
    have HTR:=Lib.hid (trim_any s wr (by rw [hs,bs_size]; exact HX.out));have HS:Hid (s.data.toList=textF t.kids):=by show _=_; rw [hs]; rfl
    clear hs;go_wp2_with fail
    refine HTR.out.mono ?_
    rintro e w4 ⟨x,rfl,hx,rfl⟩;have HX:Hid (x=bs (trimB (textF t.kids))):=by show _=_; rw [← HS.out,← hx,data_bs]
    clear hx;go_wp2
    go_ret
    exact ⟨by rw [← HX.out]; rfl,HR.out.1⟩
def tx (t:Tr):Bs:=trimB (textF t.kids)
def oneK (m:Bs) (t:Tr):Option Tr:=match kidsF m t.kids with
 | [k]=>some k
 | _=>none
def idK (m:Bs) (t:Tr):Option Bs:=match oneK m t with
 | some k=>if isIdB (bs (tx k))=true∧kidsF [] k.kids=[] then some (tx k) else none
 | none=>none
theorem textF_light : ∀ (l:List Tr),(∀ k ∈ l,LightT k)→(textF l).length≤1000*l.length
 | [],_=>by simp [textF]
 | t::l,h=>by
  have h1:=(h t (by simp)).text;have h2:=textF_light l fun k hk=>h k (by simp [hk]);unfold textF;rw [List.length_append,List.length_cons];split
  · omega
  · simp only [List.length_nil]; omega
theorem lightT_kidl {t:Tr} (h:LightT t):t.kids.length≤300:=by cases h; assumption
theorem LightT.textL {t:Tr} (h:LightT t):(textF t.kids).length≤300000:=by
 have h1:=textF_light t.kids h.kids;have h2:=lightT_kidl h;omega
theorem trimB_le (l:Bs):(trimB l).length≤l.length:=by
 have h1 : ∀ m:Bs,(m.dropWhile cBlank).length≤m.length:=fun m=>(List.dropWhile_sublist _).length_le;unfold trimB;have h2:=h1 (l.dropWhile cBlank).reverse;have h3:=h1 l;rw [List.length_reverse] at h2 ⊢;omega
theorem tx_len {t:Tr} (h:LightT t):(tx t).length≤300000:=Nat.le_trans (trimB_le _) h.textL
theorem kidsF_light {t:Tr} {m:Bs} (h:LightT t) : ∀ k ∈ kidsF m t.kids,LightT k:=fun k hk=>h.kids k (List.mem_filter.1 hk).1
theorem oneK_light {t k:Tr} {m:Bs} (h:LightT t) (hk:oneK m t=some k):LightT k:=by
 unfold oneK at hk;split at hk
 · rename_i x hx
   cases hk
   exact kidsF_light h _ (by rw [hx]; simp)
 · cases hk
def nodeZ:List Value:=[.string ⟨#[]⟩,.slice none 0 0,.slice none 0 0,.string ⟨#[]⟩]
def SingleP (X:Nat→Prop) (o:Option Tr) (w:World) (e:Ending) (w':World):Prop:=Below w.heap.size w w'∧match o with
 | some k=>∃ av kv,e = .returned (.tuple #[nodeV k av kv,.bool true])∧NodeX X w' k av kv
 | none=>e = .returned (.tuple #[.agg nodeZ.toArray,.bool false])
theorem SingleP.some {X:Nat→Prop} {k:Tr} {w:World} {e:Ending} {w':World} (h:SingleP X (some k) w e w'):Below w.heap.size w w' ∧ ∃ av kv,e = .returned (.tuple #[nodeV k av kv,.bool true])∧NodeX X w' k av kv:=h
theorem SingleP.none {X:Nat→Prop} {w:World} {e:Ending} {w':World} (h:SingleP X none w e w'):Below w.heap.size w w'∧e = .returned (.tuple #[.agg nodeZ.toArray,.bool false]):=h
theorem nodeX_put {X:Nat→Prop} {w w':World} {t:Tr} {av kv:Value} {N:Nat} {row:Option Nat} (h:NodeX (fun j=>X j∨N≤j) w t av kv) (hg:w.grownBy w' row) (hr : ∀ g,row = .some g→N≤g):NodeX (fun j=>X j∨N≤j) w' t av kv:=h.keep (KeptX.grown hg fun g e=>.inr (hr g e)) (fun _ _ h=>h)
theorem nodeX_out {X:Nat→Prop} {w w':World} {t:Tr} {av kv:Value} {N:Nat} (h:NodeX X w t av kv) (hN:w.heap.size≤N) (hb:Below w.heap.size w w'):NodeX (fun j=>X j∨N≤j) w' t av kv:=h.keep (KeptX.below hb) (fun k hk h=>h.elim id (by omega))
theorem nodeX_in {X:Nat→Prop} {w:World} {t:Tr} {av kv:Value} {N:Nat} (h:NodeX (fun j=>X j∨N≤j) w t av kv):NodeX X w t av kv:=h.keep (KeptX.refl _ _) (fun _ _ h=>.inl h)
theorem row_at {B n lc:Nat} {lo:Option Addr} {w:World} {L:List TrV} (h:Owns B 32 4 trC w (.slice lo n lc) L) {y:TrV} {k:Nat} (hy:L[k]? = some y) : ∃ b,lo=some ⟨b,0,none⟩∧b<w.heap.size∧w.cell? ⟨b,k*4,none⟩=some (.string (bs y.1.name))∧w.cell? ⟨b,k*4+1,none⟩=some y.2.1∧w.cell? ⟨b,k*4+2,none⟩=some y.2.2∧w.cell? ⟨b,k*4+3,none⟩=some (.string (bs y.1.text)):=by
 obtain ⟨g,e,-,hl,-,-,hc,-⟩:=own_store (fun x=>trC_len x) h hy (show 0<4 by decide);subst e;have c0:=hc 0 _ rfl;exact ⟨g,rfl,hl,c0,hc 1 _ rfl,hc 2 _ rfl,hc 3 _ rfl⟩
set_option maxRecDepth 100000 in
set_option maxHeartbeats 4000000 in
theorem single_any {X:Nat→Prop} (t:Tr) (m:Bs) (w:World) (av kv:Value) (ht:NodeX X w t av kv) (hkl:t.kids.length≤100000) :
    Calls Tryz.prog 22 #[nodeV t av kv,.string (bs m)] w (SingleP X (oneK m t) w):=by
 have HK:Hid (∀ W,Below w.heap.size w W→Calls Tryz.prog 23 #[nodeV t av kv,.string (bs m)] W fun e w'=>∃ v L,e = .returned v∧L.map (·.1)=kidsF m t.kids∧CollX (fun j=>X j∨w.heap.size≤j) W.heap.size W w' v L):=fun W hb=>kids_x t m W av kv (nodeX_out ht (Nat.le_refl _) hb) hkl;obtain ⟨ao,ac,ko,kc,rfl,rfl,-,-⟩:=ht.shape;clear ht hkl;unfold nodeV at *;generalize t.attrs.length=al at *;generalize t.kids.length=kl at *;have HKF:Hid (oneK m t=match kidsF m t.kids with | [k]=>some k | _=>none):=rfl;generalize kidsF m t.kids=kf at *;generalize bs t.name=tn at *;generalize bs t.text=tt at *;go_enter Tryz.func22,Tryz.ntmps22
 go_upto_region 1 with fail
 refine wp_world ?_
 intro W hW;have x1:Box W w.heap.size [.string tn,.slice ao al ac,.slice ko kl kc,.string tt]:=by rw [hW]; exact (Box.new w [.string tn,.slice ao al ac,.slice ko kl kc,.string tt] _ _ rfl).alloc _
 have y1:Box W (w.heap.size+1) [.string ⟨#[]⟩,.slice none 0 0,.slice none 0 0,.string ⟨#[]⟩]:=by rw [hW]; exact Box.new _ [.string ⟨#[]⟩,.slice none 0 0,.slice none 0 0,.string ⟨#[]⟩] _ _ (by simp)
 have hb:Below w.heap.size w W:=by rw [hW]; exact ((Below.refl _ w).alloc (Nat.le_refl _) _).alloc (by simp) _
 clear hW;have HY:=Lib.hid y1;have HB:=Lib.hid hb;have x0:=x1.cell 0 _ rfl;have x2:=x1.cell 1 _ rfl;have x3:=x1.cell 2 _ rfl;have x4:=x1.cell 3 _ rfl;have xl:=x1.lt;clear x1 y1 hb;go_wp2_with fail
 refine (HK.out W HB.out).mono ?_
 rintro e w1 ⟨v,L,rfl,hL,hc⟩;have HC:=Lib.hid hc;have HL:=Lib.hid hL;obtain ⟨lo,lc,rfl⟩:=hc.own.shape;have HY1:=Lib.hid (HY.out.below (hc.below) HY.out.lt);have HB1:=Lib.hid (HB.out.trans (hc.below.mono HB.out.size));have HWB:=Lib.hid HB.out.size;clear hc hL x0 x2 x3 x4 xl HK HY HB;by_cases hn:L.length=1
 · obtain ⟨y,rfl⟩ : ∃ y,L=[y]:=by
    match L,hn with
    | [y],_=>exact ⟨y,rfl⟩
   have HONE:Hid (oneK m t=some y.1):=by show _=_; rw [HKF.out,← HL.out]; rfl
   obtain ⟨b,rfl,hbl,c0,c1,c2,c3⟩:=row_at HC.out.own (k:=0) rfl;have HN:=Lib.hid (HC.out.nodes y (by simp));clear hn HL HKF;obtain ⟨k,kav,kkv⟩:=y;simp only at c0 c1 c2 c3 HN HONE;simp only [Nat.zero_mul,Nat.zero_add,List.length_singleton] at c0 c1 c2 c3 ⊢;obtain ⟨ao2,ac2,ko2,kc2,rfl,rfl,-,-⟩:=HN.out.shape;go_wp2_with ((with_reducible show wpList _ _ _ (Oper.mk none (Op.store 32 (.tmp 4) (.tmp 16)) _ _ _ _::_) _ _); refine wpList_store_box rfl 32 (.tmp 4) (.tmp 16) rfl (w.heap.size+1) _ [.string (bs k.name),.slice ao2 k.attrs.length ac2,.slice ko2 k.kids.length kc2,.string (bs k.text)] rfl rfl HY1.out rfl (by kernel_rfl) (by simp [Value.oneCell']) ?_; intro W7 v7 hg7; have HV7:=Lib.hid v7; have HB7:=Lib.hid (gr_belowV HB1.out hg7 (by omega) (Nat.le_refl _)); have HN7:=Lib.hid (nodeX_put (N:=w.heap.size) (nodeX_in (N:=W.heap.size) HN.out) hg7 (fun g e=>by cases e; omega)); clear v7 hg7)
   have z0:=HV7.out.cell 0 _ rfl;have z1:=HV7.out.cell 1 _ rfl;have z2:=HV7.out.cell 2 _ rfl;have z3:=HV7.out.cell 3 _ rfl;have zl:=HV7.out.lt;clear HY1 HB1 HN HC c0 c1 c2 c3 hbl;go_wp2
   refine bodyPost_ret (v:=.tuple #[.agg #[.string (bs k.name),.slice ao2 k.attrs.length ac2,.slice ko2 k.kids.length kc2,.string (bs k.text)],.bool true]) (by simp [results,Tryz.results22,go_sem,z0,z1,z2,z3]) rfl ?_
   rw [HONE.out];exact ⟨HB7.out,_,_,rfl,nodeX_in HN7.out⟩
 · have HONE:Hid (oneK m t=none):=by
    show _=_
    rw [HKF.out,← HL.out];match L,hn with
    | [],_=>rfl
    | [y],h=>exact absurd rfl h
    | _::_::_,_=>rfl
   have e1:((L.length:Int) != 1)=true:=by rw [bne_iff_ne]; omega
   have e2:(L.length != 1)=true:=by rw [bne_iff_ne]; exact hn
   have e3:((L.length:Int) == 1)=false:=by rw [beq_eq_false_iff_ne]; omega
   have e4:(L.length == 1)=false:=by rw [beq_eq_false_iff_ne]; exact hn
   clear hn HL HKF HC;go_wp2_with ((with_reducible show wpList _ _ _ (Oper.mk none (Op.store 32 (.tmp 4) (.tmp 13)) _ _ _ _::_) _ _); refine wpList_store_box rfl 32 (.tmp 4) (.tmp 13) rfl (w.heap.size+1) _ [.string ⟨#[]⟩,.slice none 0 0,.slice none 0 0,.string ⟨#[]⟩] rfl rfl HY1.out rfl (by kernel_rfl) (by simp [Value.oneCell']) ?_; intro W7 v7 hg7; have HV7:=Lib.hid v7; have HB7:=Lib.hid (gr_belowV HB1.out hg7 (by omega) (Nat.le_refl _)); clear v7 hg7)
   have z0:=HV7.out.cell 0 _ rfl;have z1:=HV7.out.cell 1 _ rfl;have z2:=HV7.out.cell 2 _ rfl;have z3:=HV7.out.cell 3 _ rfl;have zl:=HV7.out.lt;clear HY1 HB1;go_wp2
   refine bodyPost_ret (v:=.tuple #[.agg nodeZ.toArray,.bool false]) (by simp [results,Tryz.results22,go_sem,z0,z1,z2,z3,nodeZ]) rfl ?_
   rw [HONE.out];exact ⟨HB7.out,rfl⟩
def IdP (o:Option Bs) (w:World) (e:Ending) (w':World):Prop:=Below w.heap.size w w' ∧ ∃ s:S,e = .returned (.tuple #[.string s,.bool o.isSome]) ∧ ∀ g,o=some g→s=bs g
theorem node_zero (X:Nat→Prop) (w:World):NodeX X w (.mk [] [] [] []) (.slice none 0 0) (.slice none 0 0):=NodeX.of [] rfl SliceX.nil SliceX.nil (fun _ h=>by cases h)
set_option maxRecDepth 100000 in
set_option maxHeartbeats 4000000 in
theorem idM_any {X:Nat→Prop} (t:Tr) (m:Bs) (w:World) (av kv:Value) (ht:NodeX X w t av kv) (hl:LightT t) :
    Calls Tryz.prog 21 #[nodeV t av kv,.string (bs m)] w (IdP (idK m t) w):=by
 have HS1:Hid (∀ W,Below w.heap.size w W→Calls Tryz.prog 22 #[nodeV t av kv,.string (bs m)] W (SingleP X (oneK m t) W)):=fun W hb=>single_any t m W av kv (ht.later hb) (by have:=lightT_kidl hl; omega);have HLI:Hid (∀ k,oneK m t=some k→LightT k):=fun k hk=>oneK_light hl hk;have HID:Hid (idK m t=match oneK m t with | some k=>if isIdB (bs (tx k))=true∧kidsF [] k.kids=[] then some (tx k) else none | none=>none):=rfl;obtain ⟨ao,ac,ko,kc,rfl,rfl,-,-⟩:=ht.shape;clear ht hl;generalize idK m t=R at *;generalize oneK m t=o at *;unfold nodeV at HS1 ⊢;generalize t.attrs.length=al at *;generalize t.kids.length=kl at *;generalize bs t.name=tn at *;generalize bs t.text=tt at *;go_enter Tryz.func21,Tryz.ntmps21
 go_upto_region 1 with fail
 refine wp_world ?_
 intro W hW;have x1:Box W w.heap.size [.string tn,.slice ao al ac,.slice ko kl kc,.string tt]:=by rw [hW]; exact Box.new w [.string tn,.slice ao al ac,.slice ko kl kc,.string tt] _ _ rfl
 have hb:Below w.heap.size w W:=by rw [hW]; exact (Below.refl _ w).alloc (Nat.le_refl _) _
 clear hW;have HB:=Lib.hid hb;have x0:=x1.cell 0 _ rfl;have x2:=x1.cell 1 _ rfl;have x3:=x1.cell 2 _ rfl;have x4:=x1.cell 3 _ rfl;have xl:=x1.lt;clear x1 hb;cases o with
 | none =>
  have HR:Hid (R=none):=HID.out;clear HID HLI;go_wp2_with fail
  refine (HS1.out W HB.out).mono ?_
  intro e w1 hp;obtain ⟨hb1,rfl⟩:=hp.none;have HB1:=Lib.hid (HB.out.trans (hb1.mono HB.out.size));clear hp hb1 x0 x2 x3 x4 xl HS1;unfold nodeZ;go_upto_region 2 with fail
  refine wp_world ?_
  intro W2 hW;have y1:Box W2 w1.heap.size [.string ⟨#[]⟩,.slice none 0 0,.slice none 0 0,.string ⟨#[]⟩]:=by rw [hW]; exact Box.new w1 [.string ⟨#[]⟩,.slice none 0 0,.slice none 0 0,.string ⟨#[]⟩] _ _ rfl
  have hb:Below w1.heap.size w1 W2:=by rw [hW]; exact (Below.refl _ w1).alloc (Nat.le_refl _) _
  clear hW;have HB2:=Lib.hid (HB1.out.trans (hb.mono HB1.out.size));have y0:=y1.cell 0 _ rfl;have y2:=y1.cell 1 _ rfl;have y3:=y1.cell 2 _ rfl;have y4:=y1.cell 3 _ rfl;have yl:=y1.lt;clear y1 hb;have HT:Hid (Calls Tryz.prog 24 #[.agg #[.string ⟨#[]⟩,.slice none 0 0,.slice none 0 0,.string ⟨#[]⟩]] W2 fun e w'=>e = .returned (.string ⟨#[]⟩)∧Below W2.heap.size W2 w'):=text_any (.mk [] [] [] []) W2 (.slice none 0 0) (.slice none 0 0) (node_zero (fun _=>False) _).node (by decide);go_wp2_with fail
  refine HT.out.mono ?_
  rintro e w3 ⟨rfl,hb3⟩;have HB3:=Lib.hid (HB2.out.trans (hb3.mono HB2.out.size));clear hb3 HT HB2;go_wp2
  go_ret2
  rw [HR.out];exact ⟨HB3.out,_,rfl,fun g h=>by cases h⟩
 | some k =>
  have HR:Hid (R=if isIdB (bs (tx k))=true∧kidsF [] k.kids=[] then some (tx k) else none):=HID.out;have HLK:=Lib.hid (HLI.out k rfl);clear HID HLI;go_wp2_with fail
  refine (HS1.out W HB.out).mono ?_
  intro e w1 hp;obtain ⟨hb1,kav,kkv,rfl,hn⟩:=hp.some;have HB1:=Lib.hid (HB.out.trans (hb1.mono HB.out.size));have HN:=Lib.hid hn.node;clear hp hb1 hn x0 x2 x3 x4 xl HS1;have HTX:Hid (∀ W,Below w1.heap.size w1 W→Calls Tryz.prog 24 #[nodeV k kav kkv] W fun e w'=>e = .returned (.string (bs (tx k)))∧Below W.heap.size W w'):=fun W hb=>text_any k W kav kkv (HN.out.later hb) (by have:=HLK.out.textL; omega);have HKD:Hid (∀ W,Below w1.heap.size w1 W→Calls Tryz.prog 23 #[nodeV k kav kkv,.string ⟨#[]⟩] W fun e w'=>∃ v L,e = .returned v∧L.map (·.1)=kidsF [] k.kids∧Coll W.heap.size W w' v L):=fun W hb=>kids_any k [] W kav kkv (HN.out.later hb) (by have:=lightT_kidl HLK.out; omega);have HTL:=Lib.hid (tx_len HLK.out);obtain ⟨ao2,ac2,ko2,kc2,rfl,rfl,-,-⟩:=HN.out.shape;unfold nodeV at HTX HKD ⊢;clear HN HLK;have HSZ:Hid ((bs (tx k):S).size≤9223372036854775807):=by have:=HTL.out; show _≤_; rw [bs_size]; omega
  generalize kidsF [] k.kids=kf at *;generalize tx k=tk at *;generalize k.attrs.length=al2 at *;generalize k.kids.length=kl2 at *;generalize bs k.name=tn2 at *;generalize bs k.text=tt2 at *;go_upto_region 2 with fail
  refine wp_world ?_
  intro W2 hW;have y1:Box W2 w1.heap.size [.string tn2,.slice ao2 al2 ac2,.slice ko2 kl2 kc2,.string tt2]:=by rw [hW]; exact Box.new w1 [.string tn2,.slice ao2 al2 ac2,.slice ko2 kl2 kc2,.string tt2] _ _ rfl
  have hb:Below w1.heap.size w1 W2:=by rw [hW]; exact (Below.refl _ w1).alloc (Nat.le_refl _) _
  clear hW;have HB2:=Lib.hid (HB1.out.trans (hb.mono HB1.out.size));have HY:=Lib.hid y1;have HBY:=Lib.hid hb;have y0:=y1.cell 0 _ rfl;have y2:=y1.cell 1 _ rfl;have y3:=y1.cell 2 _ rfl;have y4:=y1.cell 3 _ rfl;have yl:=y1.lt;clear y1 hb;go_wp2_with fail
  refine (HTX.out W2 HBY.out).mono ?_
  rintro e w3 ⟨rfl,hb3⟩;have HB3:=Lib.hid (HB2.out.trans (hb3.mono HB2.out.size));have HBY3:=Lib.hid (HBY.out.trans (hb3.mono HBY.out.size));have HY3:=Lib.hid (HY.out.below hb3 HY.out.lt);clear hb3 HTX HB2 HBY HY y0 y2 y3 y4 yl;obtain ⟨s,hs⟩ : ∃ s:S,bs tk=s:=⟨_,rfl⟩;rw [hs] at HR HSZ ⊢;have HSB:=Lib.hid hs;clear hs;go_wp2_with fail
  refine (isId_any s w3 HSZ.out).mono ?_
  rintro e w4 ⟨rfl,hb4⟩;have HB4:=Lib.hid (HB3.out.trans (hb4.mono HB3.out.size));have HBY4:=Lib.hid (HBY3.out.trans (hb4.mono HBY3.out.size));have HY4:=Lib.hid (HY3.out.below hb4 HY3.out.lt);clear hb4 HB3 HBY3 HY3 HSZ;cases hq:isIdB s with
  | false =>
   have HR2:Hid (R=none):=by show _=_; rw [HR.out,if_neg]; rintro ⟨h,-⟩; rw [hq] at h; cases h
   clear HR hq;go_wp2
   go_ret2
   rw [HR2.out];exact ⟨HB4.out,_,rfl,fun g h=>by cases h⟩
  | true =>
   have HR2:Hid (R=if kf=[] then some tk else none):=by show _=_; rw [HR.out]; simp [hq]
   clear HR hq;have y0:=HY4.out.cell 0 _ rfl;have y2:=HY4.out.cell 1 _ rfl;have y3:=HY4.out.cell 2 _ rfl;have y4:=HY4.out.cell 3 _ rfl;have yl:=HY4.out.lt;go_wp2_with fail
   refine (HKD.out w4 HBY4.out).mono ?_
   rintro e w5 ⟨v,L,rfl,hL,hc⟩;have HB5:=Lib.hid (HB4.out.trans (hc.below.mono HB4.out.size));obtain ⟨lo,lc,rfl⟩:=hc.own.shape;have HL:=Lib.hid hL;clear hL hc HKD y0 y2 y3 y4 yl HB4;by_cases h0:L.length=0
   · have e1:((L.length:Int) == 0)=true:=by rw [beq_iff_eq]; omega
     have e2:(L.length == 0)=true:=by rw [beq_iff_eq]; exact h0
     have HR3:Hid (R=some tk):=by show _=_; rw [HR2.out,if_pos]; rw [← HL.out,List.eq_nil_of_length_eq_zero h0]; rfl
     clear HR2 h0;go_wp2
     go_ret2
     rw [HR3.out];exact ⟨HB5.out,_,rfl,fun g h=>by cases h; exact HSB.out.symm⟩
   · have e1:((L.length:Int) == 0)=false:=by rw [beq_eq_false_iff_ne]; omega
     have e2:(L.length == 0)=false:=by rw [beq_eq_false_iff_ne]; exact h0
     have HR3:Hid (R=none):=by
      show _=_; rw [HR2.out,if_neg]; rw [← HL.out]; intro e; apply h0; rw [List.map_eq_nil_iff] at e; rw [e]; rfl
     clear HR2 h0;go_wp2
     go_ret2
     rw [HR3.out];exact ⟨HB5.out,_,rfl,fun g h=>by cases h⟩
abbrev nmMeta:Bs:=[109,101,116,97,100,97,116,97]
abbrev nmG:Bs:=[103,114,111,117,112,73,100]
abbrev nmA:Bs:=[97,114,116,105,102,97,99,116,73,100]
abbrev nmV:Bs:=[118,101,114,115,105,111,110,105,110,103]
abbrev nmL:Bs:=[108,97,116,101,115,116]
abbrev nmR:Bs:=[114,101,108,101,97,115,101]
abbrev nmVs:Bs:=[118,101,114,115,105,111,110,115]
abbrev nmVer:Bs:=[118,101,114,115,105,111,110]
abbrev erG:Bs:=[109,101,116,97,100,97,116,97,47,103,114,111,117,112,73,100]
abbrev erA:Bs:=[109,101,116,97,100,97,116,97,47,97,114,116,105,102,97,99,116,73,100]
abbrev erV:Bs:=[109,101,116,97,100,97,116,97,47,118,101,114,115,105,111,110,105,110,103]
abbrev erL:Bs:=[109,101,116,97,100,97,116,97,47,118,101,114,115,105,111,110,105,110,103,47,108,97,116,101,115,116]
abbrev erR:Bs:=[109,101,116,97,100,97,116,97,47,118,101,114,115,105,111,110,105,110,103,47,114,101,108,101,97,115,101]
abbrev erVs:Bs:=[109,101,116,97,100,97,116,97,47,118,101,114,115,105,111,110,105,110,103,47,118,101,114,115,105,111,110,115]
def lastTx (l:List Tr):S:=match l.getLast? with
 | some r=>bs (tx r)
 | none=>⟨#[]⟩
theorem take_snocR {α:Type} {l:List α} {k:Nat} (h:k<l.length):l.take (k+1)=l.take k ++ [l[k]]:=by rw [List.take_add_one,List.getElem?_eq_getElem h]; rfl
theorem lastTx_take {l:List Tr} {k:Nat} (h:k<l.length):lastTx (l.take (k+1))=bs (tx l[k]):=by
 unfold lastTx;rw [take_snocR h,List.getLast?_concat]
def txs (l:List Tr):List S:=l.map fun k=>bs (tx k)
theorem txs_take {l:List Tr} {k:Nat} (h:k<l.length):txs (l.take (k+1))=txs (l.take k) ++ [bs (tx l[k])]:=by
 unfold txs;rw [take_snocR h,List.map_append];rfl
def readM7 (m:MetaD):Except Bs MetaD:=if mayM m=true then .ok m else .error nmMeta
def readM6 (g a:Bs) (i la vs:Tr):Except Bs MetaD:=readM7 ⟨⟨bs g,bs a⟩,txs (kidsF nmVer vs.kids),bs (tx la),lastTx (kidsF nmR i.kids)⟩
def readM5 (g a:Bs) (i la:Tr):Except Bs MetaD:=if 1<(kidsF nmR i.kids).length then .error erR else match oneK nmVs i with
 | none=>.error erVs
 | some vs=>readM6 g a i la vs
def readM4 (g a:Bs) (i:Tr):Except Bs MetaD:=match oneK nmL i with
 | none=>.error erL
 | some la=>readM5 g a i la
def readM3 (t:Tr) (g a:Bs):Except Bs MetaD:=match oneK nmV t with
 | none=>.error erV
 | some i=>readM4 g a i
def readM2 (t:Tr) (g:Bs):Except Bs MetaD:=match idK nmA t with
 | none=>.error erA
 | some a=>readM3 t g a
def readM1 (t:Tr):Except Bs MetaD:=match idK nmG t with
 | none=>.error erG
 | some g=>readM2 t g
def readM (t:Tr):Except Bs MetaD:=if t.name=nmMeta then readM1 t else .error t.name
theorem bsLit (a l:Bs):((bs a).toList == l)=decide (a=l):=by
 rw [ByteArray.toList_eq,bs_data];rw [Bool.eq_iff_iff,beq_iff_eq,decide_eq_true_iff]
def XX (w:World):Nat→Prop:=fun j=>w.heap.size≤j
structure NdF (w W:World) (b:Nat) (t:Tr) (av kv:Value):Prop where
 box:Box W b [.string (bs t.name),av,kv,.string (bs t.text)]
 node:NodeX (XX w) W t av kv
theorem NdF.below {w W W':World} {b:Nat} {t:Tr} {av kv:Value} (h:NdF w W b t av kv) (hb:Below W.heap.size W W'):NdF w W' b t av kv:=⟨h.box.below hb h.box.lt,h.node.later hb⟩
theorem NdF.put {w W W':World} {b r:Nat} {t:Tr} {av kv:Value} (h:NdF w W b t av kv) (hg:W.grownBy W' (some r)) (hr:w.heap.size≤r) (hne:b≠r):NdF w W' b t av kv :=
 ⟨h.box.grown hg (by simpa using hne),h.node.keep (KeptX.grown hg fun g e=>by cases e; exact hr) (fun _ _ h=>h)⟩
structure RowF (w W:World) (n:Nat) (v:Value) (L:List TrV):Prop where
 own:Owns n 32 4 trC W v L
 nodes : ∀ y ∈ L,NodeX (XX w) W y.1 y.2.1 y.2.2
theorem RowF.below {w W W':World} {n:Nat} {v:Value} {L:List TrV} (h:RowF w W n v L) (hb:Below W.heap.size W W'):RowF w W' n v L:=⟨h.own.below hb,fun y hy=>(h.nodes y hy).later hb⟩
theorem RowF.put {w W W':World} {n r:Nat} {v:Value} {L:List TrV} (h:RowF w W n v L) (hg:W.grownBy W' (some r)) (hr:w.heap.size≤r) (hn:r<n):RowF w W' n v L :=
 ⟨h.own.keptR hg hn,fun y hy=>(h.nodes y hy).keep (KeptX.grown hg fun g e=>by cases e; exact hr) (fun _ _ h=>h)⟩
theorem RowF.of {w W W':World} {B n:Nat} {v:Value} {L:List TrV} (h:CollX (XX w) B W W' v L) (hn:n≤B):RowF w W' n v L:=⟨h.own.base_mono hn,fun y hy=>(h.nodes y hy).keep (KeptX.refl _ _) (fun _ _ h=>.inl h)⟩
theorem nodeXX {w W:World} {t:Tr} {av kv:Value} (h:NodeOf w t av kv) (hb:Below w.heap.size w W):NodeX (XX w) W t av kv:=h.keep (KeptX.below hb) (fun k hk h=>by unfold XX at h; omega)
theorem grB {B r:Nat} {w w' w1:World} (h:Below B w w') (hg:w'.grownBy w1 (some r)) (hB:B≤r) (hs:B≤w.heap.size):Below B w w1:=h.grown hg (Nat.le_trans hs h.size) (fun j hj=>by cases hj; exact hB)
theorem own_kindsR {α β:Type} {b1 b2 E1 E2 n1 n2:Nat} {C1:α→List Value} {C2:β→List Value} {w:World} {v1 v2:Value} {l1:List α} {l2:List β} (h1:Owns b1 E1 n1 C1 w v1 l1) (h2:Owns b2 E2 n2 C2 w v2 l2) (hE:E1≠E2):v1.ownBlock=none∨v1.ownBlock≠v2.ownBlock:=by
 rcases h1.2 with ⟨rfl,-⟩ | ⟨g1,c1,u1,rfl,-,hg1,-⟩
 · exact .inl rfl
 · right
   rcases h2.2 with ⟨rfl,-⟩ | ⟨g2,c2,u2,rfl,-,hg2,-⟩
   · simp [Value.ownBlock]
   · intro e
     simp only [Value.ownBlock,Option.some.injEq] at e;subst e;rw [hg1] at hg2;simp only [Option.some.injEq,Obj.cells.injEq] at hg2;exact hE hg2.2.1
theorem strC_onesR (l:List S) : ∀ y ∈ l,∀ u ∈ strC y,u.oneCell'=true:=by
 intro y _ u hu;simp [strC] at hu
 subst hu;rfl
def ReadP (r:Except Bs MetaD) (w:World) (e:Ending) (w':World):Prop:=Below w.heap.size w w'∧match r with
 | .error x=>e = .returned (.tuple #[.agg metaZ.toArray,.int .i64 20,.string (bs x)])
 | .ok m=>∃ v,SliceOf 1 strC w' v m.vers∧e = .returned (.tuple #[metaAg m v,.int .i64 0,.string ⟨#[]⟩])
end Go.Proofs.YtecffghcpknmjaaGreatDoor
