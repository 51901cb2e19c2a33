/- The walk of the document's rank; the conditions stand in the theorem. -/
import Derived.Test.YtecffghcpknmjaaGreatDoorV9
import Derived.Test.YtecffghcpknmjaaGreatDoorQB
import Derived.LoopTactic
import Derived.Test.YtecffghcpknmjaaGreatDoorL0
import Derived.Test.YtecffghcpknmjaaGreatDoorV8
import Derived.Test.YtecffghcpknmjaaGreatDoorSB
import Derived.Deep.CutRange
import Derived.Laws.EntriesVeiled
import Derived.RangeFuncNested
import Derived.RangeFuncBound
import Derived.RangeFuncCalls
import Derived.RangeFuncLeaves
import Derived.RangeFuncBox
import Derived.Shelf.Abstract
import Derived.WalkKit
import Derived.OwnWalkIn
import Derived.TacticsInMore
import Derived.LoopNIn
import Derived.LoopIn
import Derived.KernelRfl
import Derived.Laws.StructEq
import Derived.Test.YtecffghcpknmjaaGreatDoorBase
import Derived.StillTailTactics
import Derived.Test.YtecffghcpknmjaaGreatDoorOwn2
import Derived.Test.YtecffghcpknmjaaGreatDoorProg
import Derived.BigRegion
import Derived.IntWalk
namespace Go.Proofs.YtecffghcpknmjaaGreatDoor
open Go Go.RowKit
def wordsD:List Bs:=[wAlpha,wBeta,wMilestone,wRc,wSnapshot,wGa,wSp]
theorem rankD_at (hy:Bool) : ∀ (k:Nat) (t:Bs),wordsD[k]? = some t→t≠wGa→rankV ⟨hy,false,t⟩=k
 | 0,t,h,_=>by cases h; rfl
 | 1,t,h,_=>by cases h; rfl
 | 2,t,h,_=>by cases h; rfl
 | 3,t,h,_=>by cases h; rfl
 | 4,t,h,_=>by cases h; rfl
 | 5,t,h,g=>by cases h; exact absurd rfl g
 | 6,t,h,_=>by cases h; rfl
 | k+7,t,h,_=>by simp [wordsD] at h
theorem rankD_no (hy:Bool) (t:Bs) (h0:t≠[]) (h : ∀ (j:Nat) (x:Bs),wordsD[j]? = some x→x≠t):rankV ⟨hy,false,t⟩=7:=by
 have a0:=h 0 _ rfl;have a1:=h 1 _ rfl;have a2:=h 2 _ rfl;have a3:=h 3 _ rfl;have a4:=h 4 _ rfl;have a6:=h 6 _ rfl;unfold rankV wordsV;simp [List.findIdx?_cons,Ne.symm a0,Ne.symm a1,Ne.symm a2,Ne.symm a3,Ne.symm a4,Ne.symm a6,h0]
theorem bs_toList (t:Bs):(bs t).toList=t:=by rw [ByteArray.toList_eq]; simp [bs]
def wordsL:List Value:=wordsD.map fun t=>.string (bs t)
set_option maxRecDepth 100000 in
set_option maxHeartbeats 4000000 in
theorem refRank_any (p:PartV) (hga:p.number=false→p.text≠wGa) (w:World):Calls Tryz.prog 38 #[.agg (docC p).toArray] w fun e w'=>e = .returned (.int .i64 (rankV p))∧Below w.heap.size w w':=by
 obtain ⟨hy,nm,t⟩:=p;simp only at hga;have he:((bs t).toList == [])=t.isEmpty:=by rw [bs_toList]; cases t <;> rfl
 have he2:(bs t).toList.isEmpty=t.isEmpty:=by rw [bs_toList]
 cases ht:t.isEmpty with
 | true =>
  have h0:t=[]:=List.isEmpty_iff.1 ht
  have HV:Hid (rankV ⟨hy,nm,t⟩=5):=by
   show _=_
   subst h0;cases nm <;> rfl
  rw [ht] at he he2;rw [HV.out];clear HV ht h0 hga;unfold docC;go_enter Tryz.func38,Tryz.ntmps38
  go_wp2
  go_ret
  exact ⟨rfl,(Below.refl _ _).alloc (Nat.le_refl _) _⟩
 | false =>
  have h0:t≠[]:=fun e=>by rw [e] at ht; cases ht
  rw [ht] at he he2;cases nm with
  | true =>
   have HV:Hid (rankV ⟨hy,true,t⟩=if hy then 8 else 9):=by show _=_; unfold rankV; simp only [if_true]; rw [if_neg (by rw [ht]; simp)]
   rw [HV.out];clear HV ht h0 hga;unfold docC;cases hy
   all_goals
    go_enter Tryz.func38,Tryz.ntmps38
    go_wp2
    go_ret
    exact ⟨rfl,(Below.refl _ _).alloc (Nat.le_refl _) _⟩
  | false =>
   have HAT:Hid (∀ (k:Nat) (x:Bs),wordsD[k]? = some x→x=t→rankV ⟨hy,false,t⟩=k):=fun k x h e=>by subst e; exact rankD_at hy k _ h (hga rfl)
   have HNO:Hid ((∀ (j:Nat) (x:Bs),wordsD[j]? = some x→x≠t)→rankV ⟨hy,false,t⟩=7):=fun h=>rankD_no hy t h0 h;generalize rankV ⟨hy,false,t⟩=R at *;clear ht h0 hga;unfold docC;go_enter Tryz.func38,Tryz.ntmps38
   go_upto_region 5 with fail
   refine wp_world ?_
   intro W hW;have x1:Box W w.heap.size [.bool true,.bool hy,.string (bs t)]:=by rw [hW]; exact (Box.new w [.bool true,.bool hy,.string (bs t)] _ _ rfl).alloc _
   have y1:Box W (w.heap.size+1) wordsL:=by rw [hW]; exact Box.new _ wordsL _ _ (by simp)
   have hb:Below w.heap.size w W:=by rw [hW]; exact ((Below.refl _ w).alloc (Nat.le_refl _) _).alloc (by simp) _
   clear hW;have HY:=Lib.hid y1;have HB:=Lib.hid hb;have x2:=x1.cell 2 _ rfl;have xl:=x1.lt;have yl:=y1.lt;clear x1 y1 hb;go_wp2
   go_loopw [14] (fun i wr=>∃ k:Nat,i = .int .i64 k∧k≤7∧W=wr∧Hid (∀ (j:Nat) (x:Bs),j<k→wordsD[j]? = some x→x≠t)) (fun i _=>7 - (intOf i).toNat)
   case atStart=>exact ⟨0,rfl,Nat.zero_le _,rfl,fun j x h=>by omega⟩
   case round =>
    obtain ⟨k,rfl,hk,rfl,HN⟩:=hrel;by_cases hlt:k<7
    · have d1:(k:Int)<7:=by omega
      obtain ⟨x,hx⟩ : ∃ x,wordsD[k]? = some x:=⟨_,List.getElem?_eq_getElem (by exact hlt)⟩;have c1:=HY.out.cell k (.string (bs x)) (by unfold wordsL; rw [List.getElem?_map,hx]; rfl)
      have hq:((bs t).toList == (bs x).toList)=decide (x=t):=by
       rw [bs_toList,bs_toList];by_cases e:x=t
       · rw [decide_eq_true e,beq_iff_eq]; exact e.symm
       · rw [decide_eq_false e,beq_eq_false_iff_ne]; exact fun h=>e h.symm
      have HX:=Lib.hid hx;have wk:IntKind.i64.wrap ((k:Int)+1)=(k:Int)+1:=IntWalk.i64_in _ (by omega);clear hx;by_cases hxt:x=t
      · rw [decide_eq_true hxt] at hq
        have HR:=Lib.hid (HAT.out k x HX.out hxt);clear hxt;go_wp2
        go_ret
        exact ⟨by rw [HR.out]; rfl,HB.out⟩
      · rw [decide_eq_false hxt] at hq
        have HXT:=Lib.hid hxt;clear hxt;go_wp2
        go_roundw
        case rel =>
         refine ⟨k+1,by first | rfl | go_num,hlt,(by trivial),fun j y hj hy=>?_⟩
         by_cases hjk:j=k
         · subst hjk; rw [HX.out] at hy; cases hy; exact HXT.out
         · exact HN.out j y (by omega) hy
        case measure=>simp [intOf]; omega
    · have d1 : ¬ (k:Int)<7:=by omega
      have HR:Hid (R=7):=HNO.out fun j x hx=>HN.out j x (by have:=(List.getElem?_eq_some_iff.1 hx).1; change j<7 at this; omega) hx;go_wp2
      go_ret
      exact ⟨by rw [HR.out]; try rfl,HB.out⟩
end Go.Proofs.YtecffghcpknmjaaGreatDoor
namespace Go.Proofs.YtecffghcpknmjaaGreatDoor
open Go Go.RowKit
variable {α:Type} {lt:α→α→Bool}
structure Weak (lt:α→α→Bool):Prop where
 irr : ∀ a,lt a a=false
 asym : ∀ a b,lt a b=true→lt b a=false
 neg : ∀ a b c,lt a c=true→lt a b=true∨lt b c=true
def eqvB (lt:α→α→Bool) (a b:α):Bool:=!lt a b && !lt b a
def Srt (lt:α→α→Bool) (l:List α):Prop:=l.Pairwise fun a b=>lt b a=false
def SameE (lt:α→α→Bool) (l m:List α):Prop:=∀ x,l.filter (eqvB lt x)=m.filter (eqvB lt x)
theorem SameE.refl (l:List α):SameE lt l l:=fun _=>rfl
theorem SameE.symm {l m:List α} (h:SameE lt l m):SameE lt m l:=fun x=>(h x).symm
theorem SameE.trans {l m n:List α} (h:SameE lt l m) (g:SameE lt m n):SameE lt l n:=fun x=>(h x).trans (g x)
theorem SameE.app {a b c d:List α} (h:SameE lt a b) (g:SameE lt c d):SameE lt (a ++ c) (b ++ d):=fun x=>by rw [List.filter_append,List.filter_append,h x,g x]
theorem eqvB_iff {a b:α}:eqvB lt a b=true↔lt a b=false∧lt b a=false:=by unfold eqvB; simp
theorem Weak.eqv_refl (H:Weak lt) (a:α):eqvB lt a a=true:=eqvB_iff.2 ⟨H.irr a,H.irr a⟩
theorem Weak.leT (H:Weak lt) {a b c:α} (h:lt b a=false) (g:lt c b=false):lt c a=false:=by
 cases e:lt c a with
 | false=>rfl
 | true=>rcases H.neg c b a e with h' | h' <;> simp_all
theorem Weak.lt_of (H:Weak lt) {a b c:α} (h:lt a b=true) (g:lt c b=false):lt a c=true:=by
 rcases H.neg a c b h with h' | h'
 · exact h'
 · rw [g] at h'; cases h'
theorem Weak.of_lt (H:Weak lt) {a b c:α} (h:lt b a=false) (g:lt b c=true):lt a c=true:=by
 rcases H.neg b a c g with h' | h'
 · rw [h] at h'; cases h'
 · exact h'
theorem SameE.mem (H:Weak lt) {l m:List α} (h:SameE lt l m) {x:α} (hx:x ∈ l):x ∈ m:=by
 have h1:x ∈ l.filter (eqvB lt x):=List.mem_filter.2 ⟨hx,H.eqv_refl x⟩;rw [h x] at h1;exact (List.mem_filter.1 h1).1
theorem SameE.count [DecidableEq α] (H:Weak lt) {l m:List α} (h:SameE lt l m) (x:α):l.count x=m.count x:=by
 have e : ∀ k:List α,(k.filter (eqvB lt x)).count x=k.count x:=fun k=>List.count_filter (H.eqv_refl x);rw [← e l,← e m,h x]
theorem SameE.perm [DecidableEq α] (H:Weak lt) {l m:List α} (h:SameE lt l m):l.Perm m:=List.perm_iff_count.2 (h.count H)
theorem SameE.turn (H:Weak lt) {u v:List α} (h : ∀ a ∈ u,∀ b ∈ v,lt b a=true):SameE lt (u ++ v) (v ++ u):=fun x=>by
 rw [List.filter_append,List.filter_append];by_cases hu : ∃ a ∈ u,eqvB lt x a=true
 · obtain ⟨a,ha,hxa⟩:=hu
   have:v.filter (eqvB lt x)=[]:=by
    rw [List.filter_eq_nil_iff];intro b hb hxb;have h1:=eqvB_iff.1 hxa;have h2:=eqvB_iff.1 hxb;have h3:=h a ha b hb;have h4:lt b x=true:=H.lt_of h3 h1.1;rw [h2.2] at h4; cases h4
   rw [this,List.append_nil,List.nil_append]
 · have:u.filter (eqvB lt x)=[]:=by
    rw [List.filter_eq_nil_iff];exact fun a ha hxa=>hu ⟨a,ha,hxa⟩
   rw [this,List.append_nil,List.nil_append]
theorem srt_uniq (H:Weak lt) : ∀ {l m:List α},Srt lt l→Srt lt m→SameE lt l m→l=m
 | [],[],_,_,_=>rfl
 | [],b::m,_,_,h=>by have:=h.symm.mem H (List.mem_cons_self (a:=b) (l:=m)); simp at this
 | a::l,[],_,_,h=>by have:=h.mem H (List.mem_cons_self (a:=a) (l:=l)); simp at this
 | a::l,b::m,hl,hm,h=>by
  have ha : ∀ x ∈ a::l,lt x a=false:=fun x hx=>by
   rcases List.mem_cons.1 hx with rfl | hx
   · exact H.irr _
   · exact (List.pairwise_cons.1 hl).1 x hx
  have hb : ∀ x ∈ b::m,lt x b=false:=fun x hx=>by
   rcases List.mem_cons.1 hx with rfl | hx
   · exact H.irr _
   · exact (List.pairwise_cons.1 hm).1 x hx
  have h1:lt a b=false:=hb a (h.mem H List.mem_cons_self);have h2:lt b a=false:=ha b (h.symm.mem H List.mem_cons_self);have e:=h a;rw [List.filter_cons_of_pos (H.eqv_refl a),List.filter_cons_of_pos (eqvB_iff.2 ⟨h1,h2⟩)] at e;injection e with e1 e2
  subst e1
  have h3:SameE lt l m:=fun x=>by
   have e:=h x;by_cases hx:eqvB lt x a=true
   · rw [List.filter_cons_of_pos hx,List.filter_cons_of_pos hx] at e
     injection e
   · rw [List.filter_cons_of_neg hx,List.filter_cons_of_neg hx] at e
     exact e
  rw [srt_uniq H (List.pairwise_cons.1 hl).2 (List.pairwise_cons.1 hm).2 h3]
theorem Srt.app {a b:List α} (ha:Srt lt a) (hb:Srt lt b) (h : ∀ x ∈ a,∀ y ∈ b,lt y x=false):Srt lt (a ++ b):=List.pairwise_append.2 ⟨ha,hb,h⟩
theorem Srt.left {a b:List α} (h:Srt lt (a ++ b)):Srt lt a:=(List.pairwise_append.1 h).1
theorem Srt.right {a b:List α} (h:Srt lt (a ++ b)):Srt lt b:=(List.pairwise_append.1 h).2.1
theorem Srt.across {a b:List α} (h:Srt lt (a ++ b)) : ∀ x ∈ a,∀ y ∈ b,lt y x=false:=(List.pairwise_append.1 h).2.2
theorem srt_nil:Srt lt ([]:List α):=List.Pairwise.nil
theorem srt_one (x:α):Srt lt [x]:=List.pairwise_singleton _ _
theorem ins_srt (H:Weak lt) {m1 m2:List α} {x:α} (h:Srt lt (m1 ++ m2)) (h1 : ∀ y ∈ m1,lt x y=false) (h2 : ∀ y ∈ m2,lt x y=true):Srt lt (m1 ++ x::m2):=by
 refine Srt.app h.left (List.pairwise_cons.2 ⟨fun y hy=>H.asym _ _ (h2 y hy),h.right⟩) fun y hy z hz=>?_
 rcases List.mem_cons.1 hz with rfl | hz
 · exact h1 y hy
 · exact h.across y hy z hz
theorem ins_same (H:Weak lt) {m1 m2:List α} {x:α} (h2 : ∀ y ∈ m2,lt x y=true):SameE lt ((m1 ++ m2) ++ [x]) (m1 ++ x::m2):=by
 rw [List.append_assoc];refine (SameE.refl m1).app ?_
 have:=SameE.turn H (u:=m2) (v:=[x]) (fun a ha b hb=>by rw [List.mem_singleton] at hb; rw [hb]; exact h2 a ha)
 simpa using this
theorem srt_last (H:Weak lt) {m:List α} {x y:α} (h:Srt lt (m ++ [y])) (hx:lt x y=false) : ∀ z ∈ m ++ [y],lt x z=false:=fun z hz=>by
 rcases List.mem_append.1 hz with hz | hz
 · exact H.leT (h.across z hz y (List.mem_singleton.2 rfl)) hx
 · rw [List.mem_singleton.1 hz]; exact hx
inductive Chunks (lt:α→α→Bool) (s:Nat):List α→Prop
 | last (l:List α):l.length≤s→Srt lt l→Chunks lt s l
 | cons (a r:List α):a.length=s→Srt lt a→Chunks lt s r→Chunks lt s (a ++ r)
inductive Full (lt:α→α→Bool) (s:Nat):List α→Prop
 | nil:Full lt s []
 | snoc (p a:List α):Full lt s p→a.length=s→Srt lt a→Full lt s (p ++ a)
theorem Chunks.whole {s:Nat} {l:List α} (h:Chunks lt s l) (hl:l.length≤s):Srt lt l:=by
 cases h with
 | last _ _ h2=>exact h2
 | cons a r h1 h2 h3 =>
  have:r=[]:=List.eq_nil_of_length_eq_zero (by rw [List.length_append] at hl; omega)
  rw [this,List.append_nil]; exact h2
theorem Chunks.first {s:Nat} {l:List α} (h:Chunks lt s l) (hl:s≤l.length) : ∃ a r,l=a ++ r∧a.length=s∧Srt lt a∧Chunks lt s r:=by
 cases h with
 | last _ h1 h2=>exact ⟨l,[],by simp,by omega,h2,.last _ (Nat.zero_le _) srt_nil⟩
 | cons a r h1 h2 h3=>exact ⟨a,r,rfl,h1,h2,h3⟩
theorem Full.chunks {s:Nat} {p:List α} (h:Full lt s p) : ∀ {r:List α},Chunks lt s r→Chunks lt s (p ++ r):=by
 induction h with
 | nil=>exact fun h=>by simpa using h
 | snoc p a _ h1 h2 ih=>exact fun h=>by rw [List.append_assoc]; exact ih (.cons a _ h1 h2 h)
theorem srt_at {l:List α} (h:Srt lt l) {i j:Nat} {x y:α} (hx:l[i]? = some x) (hy:l[j]? = some y) (hij:i<j):lt y x=false:=by
 obtain ⟨h1,rfl⟩:=List.getElem?_eq_some_iff.1 hx;obtain ⟨h2,rfl⟩:=List.getElem?_eq_some_iff.1 hy;exact List.pairwise_iff_getElem.1 h i j h1 h2 hij
theorem srt_at' (H:Weak lt) {l:List α} (h:Srt lt l) {i j:Nat} {x y:α} (hx:l[i]? = some x) (hy:l[j]? = some y) (hij:i≤j):lt y x=false:=by
 rcases Nat.lt_or_ge i j with h' | h'
 · exact srt_at h hx hy h'
 · obtain rfl:i=j:=by omega
   rw [hx] at hy; cases hy; exact H.irr _
theorem halves (H:Weak lt) {U V:List α} (hU:Srt lt U) (hV:Srt lt V) {i j:Nat} (_hi:i≤U.length) (_hj:j≤V.length)
    (h1 : ∀ x y,U[i]? = some x→0<j→V[j - 1]? = some y→lt y x=true) (h2 : ∀ x y,0<i→U[i - 1]? = some x→V[j]? = some y→lt y x=false) :
    (∀ x ∈ U.drop i,∀ y ∈ V.take j,lt y x=true)∧(∀ x ∈ U.take i,∀ y ∈ V.drop j,lt y x=false):=by
 constructor
 · intro x hx y hy
   obtain ⟨k,hk⟩:=List.getElem?_of_mem hx;obtain ⟨m,hm⟩:=List.getElem?_of_mem hy;rw [List.getElem?_drop] at hk;rw [List.getElem?_take] at hm;split at hm
   · rename_i hmj
     have hj0:0<j:=by omega
     have hil:i<U.length:=by have:=(List.getElem?_eq_some_iff.1 hk).1; omega
     have a:=h1 U[i] V[j - 1] (List.getElem?_eq_getElem hil) hj0 (List.getElem?_eq_getElem (by omega));have b:lt x U[i]=false:=srt_at' H hU (List.getElem?_eq_getElem hil) hk (by omega);have c:lt V[j - 1] y=false:=srt_at' H hV hm (List.getElem?_eq_getElem (by omega)) (by omega);exact H.lt_of (H.of_lt c a) b
   · cases hm
 · intro x hx y hy
   obtain ⟨k,hk⟩:=List.getElem?_of_mem hx;obtain ⟨m,hm⟩:=List.getElem?_of_mem hy;rw [List.getElem?_drop] at hm;rw [List.getElem?_take] at hk;split at hk
   · rename_i hki
     have hi0:0<i:=by omega
     have hjl:j<V.length:=by have:=(List.getElem?_eq_some_iff.1 hm).1; omega
     have a:=h2 U[i - 1] V[j] hi0 (List.getElem?_eq_getElem (by omega)) (List.getElem?_eq_getElem hjl);have b:lt U[i - 1] x=false:=srt_at' H hU hk (List.getElem?_eq_getElem (by omega)) (by omega);have c:lt y V[j]=false:=srt_at' H hV (List.getElem?_eq_getElem hjl) hm (by omega);exact H.leT (H.leT b a) c
   · cases hk
theorem halves_join (H:Weak lt) {U1 U2 V1 V2 M1 M2:List α} (hU:Srt lt (U1 ++ U2)) (hV:Srt lt (V1 ++ V2)) (h1 : ∀ x ∈ U2,∀ y ∈ V1,lt y x=true) (h2 : ∀ x ∈ U1,∀ y ∈ V2,lt y x=false)
    (s1:Srt lt M1) (s2:Srt lt M2) (e1:SameE lt (U1 ++ V1) M1) (e2:SameE lt (U2 ++ V2) M2):Srt lt (M1 ++ M2)∧SameE lt ((U1 ++ U2) ++ (V1 ++ V2)) (M1 ++ M2):=by
 constructor
 · refine s1.app s2 fun x hx y hy=>?_
   rcases List.mem_append.1 (e1.symm.mem H hx) with hx | hx
   · rcases List.mem_append.1 (e2.symm.mem H hy) with hy | hy
     · exact hU.across x hx y hy
     · exact h2 x hx y hy
   · rcases List.mem_append.1 (e2.symm.mem H hy) with hy | hy
     · exact H.asym _ _ (h1 y hy x hx)
     · exact hV.across x hx y hy
 · refine SameE.trans ?_ (e1.app e2)
   have:=SameE.turn H h1
   have h3:=((SameE.refl U1).app (this.app (SameE.refl V2)));simpa [List.append_assoc] using h3
end Go.Proofs.YtecffghcpknmjaaGreatDoor
namespace Go.Proofs.YtecffghcpknmjaaGreatDoor
open Go Go.RowKit
structure Cmpr {α:Type} (c:α→α→Int):Prop where
 flip : ∀ a b,c b a = - c a b
 le : ∀ a b d,c a b≤0→c b d≤0→c a d≤0
def lexC {α:Type} (c d:α→α→Int) (a b:α):Int:=if c a b≠0 then c a b else d a b
theorem Cmpr.ltle {α:Type} {c:α→α→Int} (h:Cmpr c) {a b d:α} (h1:c a b<0) (h2:c b d≤0):c a d<0:=by
 have h3:=h.le a b d (by omega) h2;by_cases h4:c a d=0
 · have h5:c d a≤0:=by rw [h.flip]; omega
   have h6:=h.le b d a h2 h5;rw [h.flip] at h6; omega
 · omega
theorem Cmpr.lelt {α:Type} {c:α→α→Int} (h:Cmpr c) {a b d:α} (h1:c a b≤0) (h2:c b d<0):c a d<0:=by
 have h3:=h.le a b d h1 (by omega);by_cases h4:c a d=0
 · have h5:c d a≤0:=by rw [h.flip]; omega
   have h6:=h.le d a b h5 h1;rw [h.flip] at h6; omega
 · omega
theorem Cmpr.lex {α:Type} {c d:α→α→Int} (h:Cmpr c) (g:Cmpr d):Cmpr (lexC c d):=by
 constructor
 · intro a b
   unfold lexC;rw [h.flip a b];by_cases e:c a b=0
   · rw [e]; simp [g.flip a b]
   · rw [if_pos (by omega),if_pos e]
 · intro a b e h1 h2
   unfold lexC at h1 h2 ⊢;by_cases e1:c a b=0
   · rw [if_neg (by simpa using e1)] at h1
     by_cases e2:c b e=0
     · rw [if_neg (by simpa using e2)] at h2
       have h3:=h.le a b e (by omega) (by omega)
       have h4:c a e=0:=by
        have h5:=h.le e b a (by rw [h.flip]; omega) (by rw [h.flip]; omega);rw [h.flip] at h5; omega
       rw [if_neg (by simpa using h4)];exact g.le a b e h1 h2
     · rw [if_pos e2] at h2
       have h3:=h.lelt (a:=a) (b:=b) (d:=e) (by omega) (by omega);rw [if_pos (by omega)]; omega
   · rw [if_pos e1] at h1
     have h2':c b e≤0:=by
      by_cases e2:c b e=0
      · omega
      · rw [if_pos e2] at h2; exact h2
     have h3:=h.ltle (a:=a) (b:=b) (d:=e) (by omega) h2';rw [if_pos (by omega)]; omega
theorem Cmpr.via {α β:Type} {c:β→β→Int} (h:Cmpr c) (f:α→β):Cmpr (fun a b=>c (f a) (f b)):=⟨fun _ _=>h.flip _ _,fun _ _ _=>h.le _ _ _⟩
theorem Cmpr.none {α:Type}:Cmpr (fun _ _:α=>(0:Int)):=⟨fun _ _=>rfl,fun _ _ _ _ _=>Int.le_refl _⟩
theorem Cmpr.eq {α:Type} {c d:α→α→Int} (h:Cmpr c) (e : ∀ a b,d a b=c a b):Cmpr d:=by
 have:d=c:=funext fun a=>funext fun b=>e a b
 rw [this]; exact h
theorem sgn_cmpr:Cmpr sgnV:=by
 constructor
 · intro a b
   unfold sgnV;by_cases h1:a<b <;> by_cases h2:b<a <;> simp [h1,h2] <;> omega
 · intro a b d h1 h2
   unfold sgnV at *;split at h1 <;> split at h2 <;> split <;> (try split at h1) <;> (try split at h2) <;> (try split) <;> omega
theorem bytes_cmpr:Cmpr Lib.compareBytes:=by
 refine ⟨fun a b=>cmpB_anti a b,fun a b d h1 h2=>?_⟩
 rcases cmpB_range a b with e1 | e1 | e1
 · rcases cmpB_range b d with e2 | e2 | e2
   · rw [cmpB_trans e1 e2]; omega
   · rw [← cmpB_eq e2]; omega
   · omega
 · rw [cmpB_eq e1]; exact h2
 · omega
def lenK (p:PartV):Int:=if 7<rankV p then p.text.length else 0
def txtK (p:PartV):Bs:=if 7≤rankV p then p.text else []
theorem cmpV_lex (p q:PartV):cmpV p q=lexC (fun a b=>sgnV (rankV a) (rankV b)) (lexC (fun a b=>sgnV (lenK a) (lenK b)) (fun a b=>Lib.compareBytes (txtK a) (txtK b))) p q:=by
 unfold cmpV lexC;by_cases h:sgnV (rankV p) (rankV q)≠0
 · rw [if_pos h,if_pos h]
 · rw [if_neg h,if_neg h]
   have he:rankV p=rankV q:=by
    have h':sgnV (rankV p) (rankV q)=0:=by simpa using h
    unfold sgnV at h';split at h'
    · omega
    · split at h' <;> omega
   simp only [];unfold lenK txtK;rw [← he];by_cases h7:rankV p=7
   · rw [if_pos h7,h7]; simp [sgnV]
   · rw [if_neg h7]
     by_cases h8:7<rankV p
     · have h9:7≤rankV p:=by omega
       simp only [if_pos h8,if_pos h9]
     · have h9 : ¬ 7≤rankV p:=by omega
       simp only [if_neg h8,if_neg h9];simp [sgnV,cmpB_refl]
theorem cmpV_cmpr:Cmpr cmpV:=Cmpr.eq ((sgn_cmpr.via fun a:PartV=>(rankV a:Int)).lex ((sgn_cmpr.via lenK).lex (bytes_cmpr.via txtK))) cmpV_lex
theorem cmpV_self (p:PartV):cmpV p p=0:=by have:=cmpV_cmpr.flip p p; omega
theorem cmpFrom_cmpr : ∀ n i,Cmpr (fun l m=>cmpFrom l m n i)
 | 0,_=>Cmpr.none
 | n+1,i=>Cmpr.eq ((cmpV_cmpr.via fun l:List PartV=>atV l i).lex (cmpFrom_cmpr n (i+1))) fun _ _=>rfl
theorem atV_out {l:List PartV} {i:Nat} (h:l.length≤i):atV l i=nullV:=by unfold atV; rw [List.getElem?_eq_none h]; rfl
theorem cmpFrom_out {l m:List PartV} : ∀ n i,l.length≤i→m.length≤i→cmpFrom l m n i=0
 | 0,_,_,_=>rfl
 | n+1,i,h1,h2=>by
  unfold cmpFrom;rw [atV_out h1,atV_out h2,cmpV_self];simp
  exact cmpFrom_out n (i+1) (by omega) (by omega)
theorem cmpFrom_more {l m:List PartV} : ∀ n k i,l.length≤i+n→m.length≤i+n→cmpFrom l m (n+k) i=cmpFrom l m n i
 | 0,k,i,h1,h2=>by rw [cmpFrom_out _ i (by omega) (by omega)]; rfl
 | n+1,k,i,h1,h2=>by
  rw [show n+1+k=(n+k)+1 by omega];unfold cmpFrom;rw [cmpFrom_more n k (i+1) (by omega) (by omega)]
theorem compareV_at {a b:Bs} {N:Nat} (h1:(partsV a).length≤N) (h2:(partsV b).length≤N):compareV a b=cmpFrom (partsV a) (partsV b) N 0:=by
 unfold compareV;obtain ⟨k,rfl⟩ : ∃ k,N=max (partsV a).length (partsV b).length+k:=⟨N - max (partsV a).length (partsV b).length,by omega⟩;rw [cmpFrom_more _ k 0 (by omega) (by omega)]
theorem compareV_cmpr:Cmpr compareV:=by
 constructor
 · intro a b
   rw [compareV_at (N:=max (partsV a).length (partsV b).length) (by omega) (by omega),compareV_at (N:=max (partsV a).length (partsV b).length) (by omega) (by omega)];exact (cmpFrom_cmpr _ _).flip _ _
 · intro a b d
   have e : ∀ x y,(x=a∨x=b∨x=d)→(y=a∨y=b∨y=d)→compareV x y=cmpFrom (partsV x) (partsV y) ((partsV a).length+(partsV b).length+(partsV d).length) 0:=fun x y hx hy=>compareV_at (by rcases hx with rfl | rfl | rfl <;> omega) (by rcases hy with rfl | rfl | rfl <;> omega);rw [e a b (by simp) (by simp),e b d (by simp) (by simp),e a d (by simp) (by simp)];exact (cmpFrom_cmpr _ _).le _ _ _
def cmpSV (a b:S):Int:=compareV a.data.toList b.data.toList
def ltSV (a b:S):Bool:=decide (cmpSV a b<0)
theorem Cmpr.weak {α:Type} {c:α→α→Int} (h:Cmpr c):Weak (fun a b=>decide (c a b<0)):=by
 constructor
 · intro a
   have:=h.flip a a
   simp; omega
 · intro a b h1
   have:=h.flip a b
   simp at h1 ⊢; omega
 · intro a b d h1
   simp at h1 ⊢;by_cases h2:c a b<0
   · exact .inl h2
   · right
     have h3:c b a≤0:=by rw [h.flip]; omega
     exact h.lelt h3 h1
theorem cmpSV_cmpr:Cmpr cmpSV:=compareV_cmpr.via _
theorem ltSV_weak:Weak ltSV:=cmpSV_cmpr.weak
theorem bytesLessV : ∀ l m:Bs,Op.bytesLess l m=decide (Lib.compareBytes l m = -1)
 | [],[]=>rfl
 | [],_::_=>rfl
 | _::_,[]=>rfl
 | x::l,y::m=>by
  simp only [Op.bytesLess,Lib.compareBytes];by_cases h1:x<y
  · simp [h1]
  · by_cases h2:y<x
    · have h3 : ¬ x=y:=by intro e; subst e; exact h1 h2
      simp [h1,h2,h3]
    · have:x=y:=by rw [UInt8.lt_iff_toNat_lt] at h1 h2; exact UInt8.toNat_inj.1 (by omega)
      subst this;simp [bytesLessV l m]
theorem cmpV_ne (p q:PartV) (h:rankV p≠rankV q):cmpV p q=if rankV p<rankV q then -1 else 1:=by
 unfold cmpV sgnV;by_cases h1:rankV p<rankV q
 · simp [h1]
 · have h2:rankV q<rankV p:=by omega
   simp [h1,h2]
theorem sgnV_self (a:Int):sgnV a a=0:=by unfold sgnV; simp
theorem cmpV_lo (p q:PartV) (h:rankV p=rankV q) (h7:rankV p<7):cmpV p q=0:=by
 unfold cmpV;rw [h,sgnV_self,if_neg (by simp),if_neg (by omega),if_neg (by omega)]
theorem cmpV_eq (p q:PartV) (h:rankV p=rankV q) (ht:p.text=q.text):cmpV p q=0:=by
 unfold cmpV;rw [h,sgnV_self,if_neg (by simp),ht,sgnV_self,cmpB_refl];simp
theorem cmpV_len (p q:PartV) (h:rankV p=rankV q) (h7:7<rankV p) (hl:p.text.length≠q.text.length):cmpV p q=if p.text.length<q.text.length then -1 else 1:=by
 unfold cmpV;rw [h] at h7;rw [h,sgnV_self,if_neg (by simp),if_neg (by omega),if_pos h7];unfold sgnV;by_cases h1:p.text.length<q.text.length
 · simp [h1]
 · have h2:q.text.length<p.text.length:=by omega
   simp [h1,h2]
theorem cmpV_txt (p q:PartV) (h:rankV p=rankV q) (h7:7≤rankV p) (hl:7<rankV p→p.text.length=q.text.length) (ht:p.text≠q.text):cmpV p q=if Op.bytesLess p.text q.text=true then -1 else 1:=by
 have hc:cmpV p q=Lib.compareBytes p.text q.text:=by
  unfold cmpV;by_cases h8:7<rankV p
  · rw [hl h8,sgnV_self]; rw [h] at h8; rw [h,sgnV_self,if_neg (by simp),if_neg (by omega),if_pos h8,if_neg (by simp)]
  · have:rankV q=7:=by omega
    rw [h,sgnV_self,if_neg (by simp),if_pos this]
 rw [hc,bytesLessV];rcases cmpB_range p.text q.text with e | e | e
 · rw [e]; rfl
 · exact absurd (cmpB_eq e) ht
 · rw [e]; rfl
theorem atV_ga {T:Bs} {k:Nat}:(atV (partsV T) k).number=false→(atV (partsV T) k).text≠wGa:=by
 unfold atV;cases h:(partsV T)[k]? with
 | none=>intro h2; cases h2
 | some p=>exact partsV_ga (List.mem_of_getElem? h)
theorem rankV_le (p:PartV):rankV p≤9:=by
 unfold rankV;split
 · split
   · omega
   · split <;> omega
 · cases h:wordsV.findIdx? (fun w=>decide (p.text=w)) with
   | none=>simp
   | some i=>have:=(List.findIdx?_eq_some_iff_findIdx_eq.1 h).1; change i<7 at this; simp; omega
def RefPartsOk:Prop:=∀ (s:S) (w:World),s.size≤900000→Calls Tryz.prog 37 #[.string s] w fun e w'=>∃ v,e = .returned v∧Owns w.heap.size 87 3 docC w' v (partsV s.data.toList)∧Below w.heap.size w w'
set_option maxRecDepth 100000 in
set_option maxHeartbeats 16000000 in
theorem refCompareV_of (HPT:RefPartsOk) (a b:S) (w:World) (ha:a.size≤900000) (hb:b.size≤900000):Calls Tryz.prog 15 #[.string a,.string b] w fun e w'=>e = .returned (.int .i64 (compareV a.data.toList b.data.toList))∧Below w.heap.size w w':=by
 have HPA:=Lib.hid (HPT a w ha);have HPB:Hid (∀ W,Calls Tryz.prog 37 #[.string b] W fun e w'=>∃ v,e = .returned v∧Owns W.heap.size 87 3 docC w' v (partsV b.data.toList)∧Below W.heap.size W w'):=fun W=>HPT b W hb;have HLA:Hid ((partsV a.data.toList).length≤1000000):=partsV_len a ha;have HLB:Hid ((partsV b.data.toList).length≤1000000):=partsV_len b hb;have HCV:Hid (compareV a.data.toList b.data.toList=cmpFrom (partsV a.data.toList) (partsV b.data.toList) (max (partsV a.data.toList).length (partsV b.data.toList).length) 0):=rfl;have HGA:Hid (∀ k,(atV (partsV a.data.toList) k).number=false→(atV (partsV a.data.toList) k).text≠wGa):=fun _=>atV_ga;have HGB:Hid (∀ k,(atV (partsV b.data.toList) k).number=false→(atV (partsV b.data.toList) k).text≠wGa):=fun _=>atV_ga;clear ha hb HPT;go_enter Tryz.func15,Tryz.ntmps15
 go_wp2_with fail
 refine HPA.out.mono ?_
 rintro e w1 ⟨v1,rfl,hp1,hb1⟩;obtain ⟨ao,ac,rfl⟩:=hp1.shape;have HS1:=Lib.hid (hp1.slice docC_len);have HB1:=Lib.hid hb1;clear hp1 hb1 HPA;go_wp2_with fail
 refine (HPB.out w1).mono ?_
 rintro e w2 ⟨v2,rfl,hp2,hb2⟩;obtain ⟨bo,bc,rfl⟩:=hp2.shape;have HS2:=Lib.hid (hp2.slice docC_len);have HS3:=Lib.hid (HS1.out.below hb2);have HB2:=Lib.hid (HB1.out.trans (hb2.mono HB1.out.size));clear hp2 hb2 HPB HS1 HB1;generalize partsV a.data.toList=l at *;generalize partsV b.data.toList=m at *;obtain ⟨N,hN⟩ : ∃ N:Nat,N=max l.length m.length:=⟨_,rfl⟩;have HNM:=Lib.hid hN;have HNB:Hid (N≤1000000):=by have:=HLA.out; have:=HLB.out; show _≤_; omega
 rw [← hN] at HCV;clear hN;go_wp2
 go_loopw [7] (fun i wr=>∃ k:Nat,i = .int .i64 k∧k≤N∧Hid (Below w2.heap.size w2 wr)∧Hid (compareV a.data.toList b.data.toList=cmpFrom l m (N - k) k)) (fun i _=>N - (intOf i).toNat)
 case atStart=>exact ⟨0,rfl,Nat.zero_le _,Below.refl _ _,HCV⟩
 case round =>
  clear HCV;obtain ⟨k,rfl,hk,HB,HC⟩:=hrel;obtain ⟨qa,hqa⟩ : ∃ q:Bool,decide (k<l.length)=q:=⟨_,rfl⟩;obtain ⟨qb,hqb⟩ : ∃ q:Bool,decide (k<m.length)=q:=⟨_,rfl⟩;have hqaz:decide ((k:Int)<(l.length:Int))=qa:=by rw [← hqa]; congr 1; rw [eq_iff_iff]; omega
  have hqbz:decide ((k:Int)<(m.length:Int))=qb:=by rw [← hqb]; congr 1; rw [eq_iff_iff]; omega
  have HQA:=Lib.hid hqa;have HQB:=Lib.hid hqb;go_upto_region 3 with fail
  go_cut [23] from 14 to 22 (fun x wx=>x = .bool (qa || qb)∧wr=wx)
  case first =>
   cases qa
   · cases qb
     · go_wp2
       go_meet
       case rel=>exact ⟨rfl,rfl⟩
     · go_wp2
       go_meet
       case rel=>exact ⟨rfl,rfl⟩
   · go_wp2
     go_meet
     case rel=>exact ⟨rfl,rfl⟩
  case rest =>
  obtain ⟨rfl,rfl⟩:=hcut;by_cases hlt:k<N
  · have hor:(qa || qb)=true:=by
     have h1:=HQA.out; have h2:=HQB.out; have h3:=HNM.out;change _=_ at h1; change _=_ at h2; change _=_ at h3
     rw [← h1,← h2,Bool.or_eq_true,decide_eq_true_iff,decide_eq_true_iff]; omega
    have wk:IntKind.i64.wrap ((k:Int)+1)=(k:Int)+1:=IntWalk.i64_in _ (by have:=HNB.out; omega)
    have HC2:Hid (compareV a.data.toList b.data.toList=if cmpV (atV l k) (atV m k)≠0 then cmpV (atV l k) (atV m k) else cmpFrom l m (N - (k+1)) (k+1)):=by
     show _=_
     rw [HC.out,show N - k=(N - (k+1))+1 by omega]; rfl
    have HAa:Hid (∀ (h:k<l.length),atV l k=l[k]):=fun h=>by unfold atV; rw [List.getElem?_eq_getElem h]; rfl
    have HAb:Hid (∀ (h:k<m.length),atV m k=m[k]):=fun h=>by unfold atV; rw [List.getElem?_eq_getElem h]; rfl
    have HNa:Hid (¬ k<l.length→atV l k=nullV):=fun h=>atV_out (by omega);have HNb:Hid (¬ k<m.length→atV m k=nullV):=fun h=>atV_out (by omega);clear HC;have HRX:Hid (∀ W,Calls Tryz.prog 38 #[.agg (docC (atV l k)).toArray] W fun e w'=>e = .returned (.int .i64 (rankV (atV l k)))∧Below W.heap.size W w'):=fun W=>refRank_any _ (HGA.out k) W;have HRY:Hid (∀ W,Calls Tryz.prog 38 #[.agg (docC (atV m k)).toArray] W fun e w'=>e = .returned (.int .i64 (rankV (atV m k)))∧Below W.heap.size W w'):=fun W=>refRank_any _ (HGB.out k) W;have HSa:=Lib.hid (HS3.out.below HB.out);have HSb:=Lib.hid (HS2.out.below HB.out);generalize hax:atV l k=x at *;generalize hay:atV m k=y at *;have HK1:=cmpV_ne x y;have HK2:=cmpV_lo x y;have HK3:=cmpV_eq x y;have HK4:=cmpV_len x y;have HK5:=cmpV_txt x y;have hrx:=rankV_le x;have hry:=rankV_le y;generalize hcv:cmpV x y=cv at *;generalize rankV x=rx at *;generalize rankV y=ry at *;replace HK1:=Lib.hid HK1;replace HK2:=Lib.hid HK2;replace HK3:=Lib.hid HK3;replace HK4:=Lib.hid HK4;replace HK5:=Lib.hid HK5;clear hax hay hcv;rw [hor];go_upto_region 6 with fail
    refine wp_world ?_
    intro W hW;obtain ⟨B,hB⟩ : ∃ B,wr.heap.size=B:=⟨_,rfl⟩;have BX:Hid (Box W B [.bool false,.bool false,.string ⟨#[]⟩]):=by show Box _ _ _; rw [hW]; exact (Box.new wr [.bool false,.bool false,.string ⟨#[]⟩] _ _ hB).alloc _
    have BY:Hid (Box W (B+1) [.bool false,.bool false,.string ⟨#[]⟩]):=by show Box _ _ _; rw [hW]; exact Box.new _ [.bool false,.bool false,.string ⟨#[]⟩] _ _ (by simp [hB])
    have hbw:Below wr.heap.size wr W:=by rw [hW]; exact ((Below.refl _ wr).alloc (Nat.le_refl _) _).alloc (by simp) _
    have BB:Hid (Below w2.heap.size w2 W):=HB.out.trans (hbw.mono HB.out.size);have HBl:Hid (w2.heap.size≤B):=by show _≤_; rw [← hB]; exact HB.out.size
    replace HSa:=Lib.hid (HSa.out.below hbw);replace HSb:=Lib.hid (HSb.out.below hbw);rw [hB];clear hW hbw hB HB;go_upto_if 31 with fail
    go_cut [] from 32 to 35 (fun wx=>Hid (Box wx B (docC x)∧Box wx (B+1) [.bool false,.bool false,.string ⟨#[]⟩]∧Below w2.heap.size w2 wx))
    case first =>
     cases qa with
     | true =>
      obtain ⟨b',o,hao,hbl,hc⟩:=HSa.out.at (show k<l.length from of_decide_eq_true HQA.out);cases hao
      rw [← HAa.out (of_decide_eq_true HQA.out)] at hc;have c0:=hc 0 _ rfl;have c1:=hc 1 _ rfl;have c2:=hc 2 _ rfl;rw [Nat.add_zero] at c0;have hkl:(k:Int)<(l.length:Int):=by have:=of_decide_eq_true HQA.out; omega
      clear hc;go_wp2_with ((with_reducible show wpList _ _ _ (Oper.mk none (Op.store 87 (.tmp 8) (.tmp 35)) _ _ _ _::_) _ _); refine wpList_store_box rfl 87 (.tmp 8) (.tmp 35) rfl B _ (docC x) rfl rfl BX.out rfl (by kernel_rfl) (docC_one x) ?_; intro W7 v7 hg7; have HZ7:Hid (Box W7 B (docC x)∧Box W7 (B+1) [.bool false,.bool false,.string ⟨#[]⟩]∧Below w2.heap.size w2 W7):=⟨v7,BY.out.grown hg7 (by simp),BB.out.grown hg7 BB.out.size (fun j hj=>by cases hj; exact HBl.out)⟩)
      go_meet
      case rel=>exact HZ7
     | false =>
      have hx:x=nullV:=HNa.out (of_decide_eq_false HQA.out)
      have HZ7:Hid (Box W B (docC x)∧Box W (B+1) [.bool false,.bool false,.string ⟨#[]⟩]∧Below w2.heap.size w2 W):=by
       refine ⟨?_,BY.out,BB.out⟩
       rw [hx]; exact BX.out
      clear hx;go_wp2
      go_meet
      case rel=>exact HZ7
    case rest =>
    have BX:=Lib.hid hcut.out.1;have BY:=Lib.hid hcut.out.2.1;have BB:=Lib.hid hcut.out.2.2;clear hcut;replace HSb:Hid (SliceOf 3 docC wc (.slice bo m.length bc) m):=HS2.out.below BB.out;clear HSa;generalize wc=W4 at *;go_upto_if 39 with fail
    go_cut [] from 40 to 43 (fun wx=>Hid (Box wx B (docC x)∧Box wx (B+1) (docC y)∧Below w2.heap.size w2 wx))
    case first =>
     cases qb with
     | true =>
      obtain ⟨b',o,hao,hbl,hc⟩:=HSb.out.at (show k<m.length from of_decide_eq_true HQB.out);cases hao
      rw [← HAb.out (of_decide_eq_true HQB.out)] at hc;have c0:=hc 0 _ rfl;have c1:=hc 1 _ rfl;have c2:=hc 2 _ rfl;rw [Nat.add_zero] at c0;have hkl:(k:Int)<(m.length:Int):=by have:=of_decide_eq_true HQB.out; omega
      clear hc;go_wp2_with ((with_reducible show wpList _ _ _ (Oper.mk none (Op.store 87 (.tmp 9) (.tmp 43)) _ _ _ _::_) _ _); refine wpList_store_box rfl 87 (.tmp 9) (.tmp 43) rfl (B+1) _ (docC y) rfl rfl BY.out rfl (by kernel_rfl) (docC_one y) ?_; intro W7 v7 hg7; have HZ7:Hid (Box W7 B (docC x)∧Box W7 (B+1) (docC y)∧Below w2.heap.size w2 W7):=⟨BX.out.grown hg7 (by simp),v7,BB.out.grown hg7 BB.out.size (fun j hj=>by cases hj; exact Nat.le_succ_of_le HBl.out)⟩)
      go_meet
      case rel=>exact HZ7
     | false =>
      have hx:y=nullV:=HNb.out (of_decide_eq_false HQB.out)
      have HZ7:Hid (Box W4 B (docC x)∧Box W4 (B+1) (docC y)∧Below w2.heap.size w2 W4):=by
       refine ⟨BX.out,?_,BB.out⟩
       rw [hx]; exact BY.out
      clear hx;go_wp2
      go_meet
      case rel=>exact HZ7
    case rest =>
    have BX:=Lib.hid hcut.out.1;have BY:=Lib.hid hcut.out.2.1;have BB:=Lib.hid hcut.out.2.2;clear hcut;clear HSb HAa HAb HNa HNb hqaz hqbz hqa hqb;generalize wc=W5 at *;have x0:=BX.out.cell 0 _ rfl;have x1:=BX.out.cell 1 _ rfl;have x2:=BX.out.cell 2 _ rfl;have xl:=BX.out.lt;have y0:=BY.out.cell 0 _ rfl;have y1:=BY.out.cell 1 _ rfl;have y2:=BY.out.cell 2 _ rfl;have yl:=BY.out.lt;have hLL:=@Later.cells W5;have HPX:Hid (∀ z:Later W5,Calls Tryz.prog 38 #[.agg #[.bool (!x.number),.bool x.hyphen,.string (bs x.text)]] z.at_ fun e w''=>e = .returned (.int .i64 rx) ∧ ∃ u:Later W5,w''=u.at_):=fun z=>Later.call (HRX.out _);have HPY:Hid (∀ z:Later W5,Calls Tryz.prog 38 #[.agg #[.bool (!y.number),.bool y.hyphen,.string (bs y.text)]] z.at_ fun e w''=>e = .returned (.int .i64 ry) ∧ ∃ u:Later W5,w''=u.at_):=fun z=>Later.call (HRY.out _);go_upto_region 10 with fail
    refine region_later (by kernel_rfl) (by kernel_rfl) ?_
    repeat (go_big_quiet_step ((go_at_call 38; first | (with_reducible exact HPX.out _) | (with_reducible exact HPY.out _))))
    refine wpQuiet_nil ?_
    rintro _ ⟨nx,rfl⟩;have H2X:=Lib.hid (BX.out.below nx.below BX.out.lt);have H2Y:=Lib.hid (BY.out.below nx.below BY.out.lt);have H2B:=Lib.hid (BB.out.trans (nx.below.mono BB.out.size));clear hLL HPX HPY x0 x1 x2 xl y0 y1 y2 yl BX BY BB;have BX:=H2X;have BY:=H2Y;have BB:=H2B;clear H2X H2Y H2B;generalize nx.at_=W6 at *;by_cases hrr:rx=ry
    · have e1:((rx:Int) == (ry:Int))=true:=by rw [beq_iff_eq]; omega
      have e1n:(rx == ry)=true:=by rw [beq_iff_eq]; exact hrr
      have HRR:=Lib.hid hrr;clear hrr;have x0:=BX.out.cell 0 _ rfl;have x1:=BX.out.cell 1 _ rfl;have x2:=BX.out.cell 2 _ rfl;have xl:=BX.out.lt;have y0:=BY.out.cell 0 _ rfl;have y1:=BY.out.cell 1 _ rfl;have y2:=BY.out.cell 2 _ rfl;have yl:=BY.out.lt;have HP1:Hid (Calls Tryz.prog 38 #[.agg #[.bool (!x.number),.bool x.hyphen,.string (bs x.text)]] W6 fun e w'=>e = .returned (.int .i64 rx)∧Below W6.heap.size W6 w'):=HRX.out W6;go_wp2_with fail
      refine HP1.out.mono ?_
      rintro e wq ⟨rfl,hbq⟩;have H2X:=Lib.hid (BX.out.below hbq BX.out.lt);have H2Y:=Lib.hid (BY.out.below hbq BY.out.lt);have H2B:=Lib.hid (BB.out.trans (hbq.mono BB.out.size));clear HP1 x0 x1 x2 xl y0 y1 y2 yl BX BY BB;have BX:=H2X;have BY:=H2Y;have BB:=H2B;clear H2X H2Y H2B;generalize wq=W7 at *;by_cases h7:rx<7
      · have d1:decide ((rx:Int)<7)=true:=decide_eq_true (by omega)
        have d1n:decide (rx<7)=true:=decide_eq_true h7;have d1p:(rx:Int)<7:=by omega
        have HC3:Hid (compareV a.data.toList b.data.toList=cmpFrom l m (N - (k+1)) (k+1)):=by show _=_; rw [HC2.out,if_neg (by rw [HK2.out HRR.out h7]; simp)]
        clear HC2;go_wp2
        go_roundw
        case rel=>exact ⟨k+1,by first | rfl | go_num,hlt,BB,HC3⟩
        case measure=>simp [intOf]; omega
      · have d1:decide ((rx:Int)<7)=false:=decide_eq_false (by omega)
        have d1n:decide (rx<7)=false:=decide_eq_false h7;have d1p : ¬ (rx:Int)<7:=by omega
        have x0:=BX.out.cell 0 _ rfl;have x1:=BX.out.cell 1 _ rfl;have x2:=BX.out.cell 2 _ rfl;have xl:=BX.out.lt;have y0:=BY.out.cell 0 _ rfl;have y1:=BY.out.cell 1 _ rfl;have y2:=BY.out.cell 2 _ rfl;have yl:=BY.out.lt;by_cases ht:x.text=y.text
        · have q1:((bs x.text).toList == (bs y.text).toList)=true:=by rw [ht,beq_iff_eq]
          have HC3:Hid (compareV a.data.toList b.data.toList=cmpFrom l m (N - (k+1)) (k+1)):=by show _=_; rw [HC2.out,if_neg (by rw [HK3.out HRR.out ht]; simp)]
          clear HC2 ht;go_wp2
          go_roundw
          case rel=>exact ⟨k+1,by first | rfl | go_num,hlt,BB,HC3⟩
          case measure=>simp [intOf]; omega
        · have q1:((bs x.text).toList == (bs y.text).toList)=false:=by rw [bs_toList,bs_toList,beq_eq_false_iff_ne]; exact ht
          have HT:=Lib.hid ht;clear ht;have HP2:Hid (Calls Tryz.prog 38 #[.agg #[.bool (!x.number),.bool x.hyphen,.string (bs x.text)]] W7 fun e w'=>e = .returned (.int .i64 rx)∧Below W7.heap.size W7 w'):=HRX.out W7;go_wp2_with fail
          refine HP2.out.mono ?_
          rintro e wq ⟨rfl,hbq⟩;clear q1 d1 d1n d1p;have H2X:=Lib.hid (BX.out.below hbq BX.out.lt);have H2Y:=Lib.hid (BY.out.below hbq BY.out.lt);have H2B:=Lib.hid (BB.out.trans (hbq.mono BB.out.size));clear HP2 x0 x1 x2 xl y0 y1 y2 yl BX BY BB;have BX:=H2X;have BY:=H2Y;have BB:=H2B;clear H2X H2Y H2B;generalize wq=W8 at *;have x0:=BX.out.cell 0 _ rfl;have x1:=BX.out.cell 1 _ rfl;have x2:=BX.out.cell 2 _ rfl;have xl:=BX.out.lt;have y0:=BY.out.cell 0 _ rfl;have y1:=BY.out.cell 1 _ rfl;have y2:=BY.out.cell 2 _ rfl;have yl:=BY.out.lt;have HTL:Hid ((∀ W,W=W8→7<rx→x.text.length=y.text.length)→cv=if Op.bytesLess x.text y.text=true then -1 else 1):=fun h=>HK5.out HRR.out (by omega) (h W8 rfl) HT.out;by_cases h8:7<rx
          · have d1:decide ((7:Int)<(rx:Int))=true:=decide_eq_true (by omega)
            have d1n:decide (7<rx)=true:=decide_eq_true h8;have d1p:(7:Int)<(rx:Int):=by omega
            by_cases hl:x.text.length=y.text.length
            · have q2:(((bs x.text).size:Int) == ((bs y.text).size:Int))=true:=by rw [bs_size,bs_size,beq_iff_eq]; omega
              have q2n:((bs x.text).size == (bs y.text).size)=true:=by rw [bs_size,bs_size,beq_iff_eq]; exact hl
              have HCW:=Lib.hid (HTL.out fun _ _ _=>hl);clear hl;have q4:Op.bytesLess (bs x.text).toList (bs y.text).toList=Op.bytesLess x.text y.text:=by rw [bs_toList,bs_toList]
              cases hq5:Op.bytesLess x.text y.text with
              | true =>
               rw [hq5] at q4;have HCV:Hid (cv = -1):=by show _=_; rw [HCW.out,hq5]; rfl
               clear HCW hq5 HTL
               have HZ:Hid (compareV a.data.toList b.data.toList = -1):=by
                show _=_
                rw [HC2.out,if_pos (by rw [HCV.out]; decide),HCV.out]
               clear HCV;go_wp2
               go_ret
               exact ⟨by rw [HZ.out]; rfl,HB2.out.trans (BB.out.mono HB2.out.size)⟩
              | false =>
               rw [hq5] at q4;have HCV:Hid (cv=1):=by show _=_; rw [HCW.out,hq5]; rfl
               clear HCW hq5 HTL
               have HZ:Hid (compareV a.data.toList b.data.toList=1):=by
                show _=_
                rw [HC2.out,if_pos (by rw [HCV.out]; decide),HCV.out]
               clear HCV;go_wp2
               go_ret
               exact ⟨by rw [HZ.out]; rfl,HB2.out.trans (BB.out.mono HB2.out.size)⟩
            · have q2:(((bs x.text).size:Int) == ((bs y.text).size:Int))=false:=by rw [bs_size,bs_size,beq_eq_false_iff_ne]; omega
              have q2n:((bs x.text).size == (bs y.text).size)=false:=by rw [bs_size,bs_size,beq_eq_false_iff_ne]; exact hl
              have HCW:=Lib.hid (HK4.out HRR.out h8 hl);clear hl;by_cases hl2:x.text.length<y.text.length
              · have q3:((bs x.text).size:Int)<((bs y.text).size:Int):=by rw [bs_size,bs_size]; omega
                have q3n:(bs x.text).size<(bs y.text).size:=by rw [bs_size,bs_size]; exact hl2
                have HCV:Hid (cv = -1):=by show _=_; rw [HCW.out,if_pos hl2]
                clear hl2
                have HZ:Hid (compareV a.data.toList b.data.toList = -1):=by
                 show _=_
                 rw [HC2.out,if_pos (by rw [HCV.out]; decide),HCV.out]
                clear HCV;go_wp2
                go_ret
                exact ⟨by rw [HZ.out]; rfl,HB2.out.trans (BB.out.mono HB2.out.size)⟩
              · have q3 : ¬ ((bs x.text).size:Int)<((bs y.text).size:Int):=by rw [bs_size,bs_size]; omega
                have q3n : ¬ (bs x.text).size<(bs y.text).size:=by rw [bs_size,bs_size]; exact hl2
                have HCV:Hid (cv=1):=by show _=_; rw [HCW.out,if_neg hl2]
                clear hl2
                have HZ:Hid (compareV a.data.toList b.data.toList=1):=by
                 show _=_
                 rw [HC2.out,if_pos (by rw [HCV.out]; decide),HCV.out]
                clear HCV;go_wp2
                go_ret
                exact ⟨by rw [HZ.out]; rfl,HB2.out.trans (BB.out.mono HB2.out.size)⟩
          · have d1:decide ((7:Int)<(rx:Int))=false:=decide_eq_false (by omega)
            have d1n:decide (7<rx)=false:=decide_eq_false h8;have d1p : ¬ (7:Int)<(rx:Int):=by omega
            have HCW:=Lib.hid (HTL.out fun _ _ h=>absurd h h8);have q4:Op.bytesLess (bs x.text).toList (bs y.text).toList=Op.bytesLess x.text y.text:=by rw [bs_toList,bs_toList]
            cases hq5:Op.bytesLess x.text y.text with
            | true =>
             rw [hq5] at q4;have HCV:Hid (cv = -1):=by show _=_; rw [HCW.out,hq5]; rfl
             clear HCW hq5 HTL
             have HZ:Hid (compareV a.data.toList b.data.toList = -1):=by
              show _=_
              rw [HC2.out,if_pos (by rw [HCV.out]; decide),HCV.out]
             clear HCV;go_wp2
             go_ret
             exact ⟨by rw [HZ.out]; rfl,HB2.out.trans (BB.out.mono HB2.out.size)⟩
            | false =>
             rw [hq5] at q4;have HCV:Hid (cv=1):=by show _=_; rw [HCW.out,hq5]; rfl
             clear HCW hq5 HTL
             have HZ:Hid (compareV a.data.toList b.data.toList=1):=by
              show _=_
              rw [HC2.out,if_pos (by rw [HCV.out]; decide),HCV.out]
             clear HCV;go_wp2
             go_ret
             exact ⟨by rw [HZ.out]; rfl,HB2.out.trans (BB.out.mono HB2.out.size)⟩
    · have e1:((rx:Int) == (ry:Int))=false:=by rw [beq_eq_false_iff_ne]; omega
      have e1n:(rx == ry)=false:=by rw [beq_eq_false_iff_ne]; exact hrr
      replace HK1:=Lib.hid (HK1.out hrr);clear hrr;have x0:=BX.out.cell 0 _ rfl;have x1:=BX.out.cell 1 _ rfl;have x2:=BX.out.cell 2 _ rfl;have xl:=BX.out.lt;have y0:=BY.out.cell 0 _ rfl;have y1:=BY.out.cell 1 _ rfl;have y2:=BY.out.cell 2 _ rfl;have yl:=BY.out.lt;have hLL:=@Later.cells W6;have HPX:Hid (∀ z:Later W6,Calls Tryz.prog 38 #[.agg #[.bool (!x.number),.bool x.hyphen,.string (bs x.text)]] z.at_ fun e w''=>e = .returned (.int .i64 rx) ∧ ∃ u:Later W6,w''=u.at_):=fun z=>Later.call (HRX.out _);have HPY:Hid (∀ z:Later W6,Calls Tryz.prog 38 #[.agg #[.bool (!y.number),.bool y.hyphen,.string (bs y.text)]] z.at_ fun e w''=>e = .returned (.int .i64 ry) ∧ ∃ u:Later W6,w''=u.at_):=fun z=>Later.call (HRY.out _);go_upto_region 11 with fail
      refine region_later (by kernel_rfl) (by kernel_rfl) ?_
      repeat (go_big_quiet_step ((go_at_call 38; first | (with_reducible exact HPX.out _) | (with_reducible exact HPY.out _))))
      refine wpQuiet_nil ?_
      rintro _ ⟨nx,rfl⟩;have H2X:=Lib.hid (BX.out.below nx.below BX.out.lt);have H2Y:=Lib.hid (BY.out.below nx.below BY.out.lt);have H2B:=Lib.hid (BB.out.trans (nx.below.mono BB.out.size));clear hLL HPX HPY x0 x1 x2 xl y0 y1 y2 yl BX BY BB;have BX:=H2X;have BY:=H2Y;have BB:=H2B;clear H2X H2Y H2B;generalize nx.at_=W7 at *;by_cases hlr:rx<ry
      · have d1:(rx:Int)<(ry:Int):=by omega
        have HCV:Hid (cv = -1):=by show _=_; rw [HK1.out,if_pos hlr]
        have HZ:Hid (compareV a.data.toList b.data.toList = -1):=by
         show _=_
         rw [HC2.out,if_pos (by rw [HCV.out]; decide),HCV.out]
        clear HCV;go_wp2
        go_ret
        exact ⟨by rw [HZ.out]; rfl,HB2.out.trans (BB.out.mono HB2.out.size)⟩
      · have d1 : ¬ (rx:Int)<(ry:Int):=by omega
        have HCV:Hid (cv=1):=by show _=_; rw [HK1.out,if_neg hlr]
        have HZ:Hid (compareV a.data.toList b.data.toList=1):=by
         show _=_
         rw [HC2.out,if_pos (by rw [HCV.out]; decide),HCV.out]
        clear HCV;go_wp2
        go_ret
        exact ⟨by rw [HZ.out]; rfl,HB2.out.trans (BB.out.mono HB2.out.size)⟩
  · obtain rfl:k=N:=by omega
    have hor:(qa || qb)=false:=by
     have h1:=HQA.out; have h2:=HQB.out; have h3:=HNM.out;change _=_ at h1; change _=_ at h2; change _=_ at h3
     rw [← h1,← h2,Bool.or_eq_false_iff,decide_eq_false_iff_not,decide_eq_false_iff_not]; omega
    have HC4:Hid (compareV a.data.toList b.data.toList=0):=by show _=_; rw [HC.out,Nat.sub_self]; rfl
    clear HC;rw [hor];go_wp2
    go_ret
    exact ⟨by rw [HC4.out]; rfl,HB2.out.trans (HB.out.mono HB2.out.size)⟩
def isSnapP (p:PartV):Bool:=!p.number && decide (p.text=wSnapshot)
theorem snapV_any (T:Bs):snapV T=(partsV T).any isSnapP:=rfl
theorem snap_lit (t:Bs):((bs t).toList == [115,110,97,112,115,104,111,116])=decide (t=wSnapshot):=by
 rw [bs_toList,Bool.eq_iff_iff,beq_iff_eq,decide_eq_true_iff]; rfl
theorem snapClo_any (p:PartV) (w:World):Calls Tryz.prog 112 #[.agg #[.bool p.hyphen,.bool p.number,.string (bs p.text)]] w fun e w'=>e = .returned (.bool (isSnapP p))∧Below w.heap.size w w':=by
 have hl:=snap_lit p.text;unfold isSnapP;obtain ⟨hy,nm,t⟩:=p;simp only at hl ⊢;generalize decide (t=wSnapshot)=q at *;cases nm
 · go_enter Tryz.func112,Tryz.ntmps112
   go_wp2
   go_ret
   exact ⟨rfl,(Below.refl _ _).alloc (Nat.le_refl _) _⟩
 · go_enter Tryz.func112,Tryz.ntmps112
   go_wp2
   go_ret
   exact ⟨rfl,(Below.refl _ _).alloc (Nat.le_refl _) _⟩
theorem enters_snap : ∀ (args:Array Value) (w:World),(callFunc 112 args).run Tryz.prog w = .ok (.enter 112 args) w:=fun args w=>by kernel_rfl
set_option maxRecDepth 100000 in
set_option maxHeartbeats 4000000 in
theorem snapIndex_any (l:List PartV) (ao:Option Addr) (c:Nat) (w:World) (h:SliceOf 3 prtC w (.slice ao l.length c) l) (hl:l.length≤1000000) :
    Calls Tryz.prog 131 #[.slice ao l.length c,.func (.func 112) #[] #[]] w fun e w'=>(∃ i:Int,e = .returned (.int .i64 i)∧decide (0≤i)=l.any isSnapP)∧Below w.heap.size w w':=by
 have HS:=Lib.hid h;have hen:=enters_snap;clear h;go_enter Tryz.func131,Tryz.ntmps131
 go_wp2
 go_loopw [8] (fun i wr=>∃ k:Nat,i = .int .i64 k∧k≤l.length∧Hid (Below w.heap.size w wr)∧Hid (l.any isSnapP=(l.drop k).any isSnapP)) (fun i _=>l.length - (intOf i).toNat)
 case atStart=>exact ⟨0,rfl,Nat.zero_le _,Below.refl _ _,rfl⟩
 case round =>
  obtain ⟨k,rfl,hk,HB,HA⟩:=hrel;by_cases hlt:k<l.length
  · obtain ⟨b,o,hao,hbl,hc⟩:=(HS.out.below HB.out).at hlt
    cases hao
    have d1:(k:Int)<(l.length:Int):=by omega
    have wk:IntKind.i64.wrap ((k:Int)+1)=(k:Int)+1:=IntWalk.i64_in _ (by omega);have HD:Hid (l.any isSnapP=(isSnapP l[k] || (l.drop (k+1)).any isSnapP)):=by show _=_; rw [HA.out,drop_cons' hlt,List.any_cons]
    have c0:=hc 0 _ rfl;have c1:=hc 1 _ rfl;have c2:=hc 2 _ rfl;rw [Nat.add_zero] at c0;generalize l[k]=p at *;clear hc HA;have hcl:=fun w=>snapClo_any p w;have HCL:=Lib.hid hcl;clear hcl;generalize isSnapP p=q at *;go_wp2_with fail
    refine (HCL.out _).mono ?_
    rintro e w' ⟨rfl,hb⟩;have HB2:=Lib.hid (HB.out.trans (hb.mono HB.out.size));clear hb HB c0 c1 c2;cases q
    · go_wp2
      go_roundw
      case rel=>exact ⟨k+1,by first | rfl | go_num,hlt,HB2,HD⟩
      case measure=>simp [intOf]; omega
    · go_wp2
      go_ret
      exact ⟨⟨k,rfl,by rw [HD.out]; simp⟩,HB2.out⟩
  · obtain rfl:k=l.length:=by omega
    have d1 : ¬ (l.length:Int)<(l.length:Int):=by omega
    have HD:Hid (l.any isSnapP=false):=by show _=_; rw [HA.out,List.drop_length]; rfl
    clear HA;go_wp2
    go_ret
    exact ⟨⟨-1,rfl,by rw [HD.out]; rfl⟩,HB.out⟩
set_option maxRecDepth 100000 in
theorem snapContains_any (l:List PartV) (ao:Option Addr) (c:Nat) (w:World) (h:SliceOf 3 prtC w (.slice ao l.length c) l) (hl:l.length≤1000000) :
    Calls Tryz.prog 111 #[.slice ao l.length c,.func (.func 112) #[] #[]] w fun e w'=>e = .returned (.bool (l.any isSnapP))∧Below w.heap.size w w':=by
 have HI:=Lib.hid (snapIndex_any l ao c w h hl);clear h hl;go_enter Tryz.func111,Tryz.ntmps111
 go_wp2_with fail
 refine HI.out.mono ?_
 rintro e w' ⟨⟨i,rfl,hi⟩,hb⟩;have HB:=Lib.hid hb;have HQ:=Lib.hid hi;clear hb hi;go_wp2
 go_ret
 exact ⟨by rw [← HQ.out]; rfl,HB.out⟩
set_option maxRecDepth 100000 in
theorem isSnapshot_any (s:S) (w:World) (hs:s.size≤900000):Calls Tryz.prog 79 #[.string s] w fun e w'=>e = .returned (.bool (snapV s.data.toList))∧Below w.heap.size w w':=by
 have HP:=Lib.hid (parts_any s w hs);have HL:Hid ((partsV s.data.toList).length≤1000000):=partsV_len s hs;clear hs;go_enter Tryz.func79,Tryz.ntmps79
 go_wp2_with fail
 refine HP.out.mono ?_
 rintro e w1 ⟨v1,rfl,hp1,hb1⟩;obtain ⟨ao,ac,rfl⟩:=hp1.shape;have HC:=Lib.hid (snapContains_any _ ao ac w1 (hp1.slice prtC_len) HL.out);have HB:=Lib.hid hb1;clear hp1 hb1 HP;go_wp2_with fail
 refine HC.out.mono ?_
 rintro e w2 ⟨rfl,hb2⟩;have HB2:=Lib.hid (HB.out.trans (hb2.mono HB.out.size));clear hb2 HC;go_wp2
 go_ret
 exact ⟨rfl,HB2.out⟩
set_option maxRecDepth 100000 in
set_option maxHeartbeats 4000000 in
theorem refIsSnapshot_of (HPT:RefPartsOk) (s:S) (w:World) (hs:s.size≤900000):Calls Tryz.prog 39 #[.string s] w fun e w'=>e = .returned (.bool (snapV s.data.toList))∧Below w.heap.size w w':=by
 have HP:=Lib.hid (HPT s w hs);have HL:Hid ((partsV s.data.toList).length≤1000000):=partsV_len s hs;have HV:=Lib.hid (snapV_any s.data.toList);clear hs HPT;go_enter Tryz.func39,Tryz.ntmps39
 go_wp2_with fail
 refine HP.out.mono ?_
 rintro e w1 ⟨v1,rfl,hp1,hb1⟩;obtain ⟨ao,ac,rfl⟩:=hp1.shape;have HS:=Lib.hid (hp1.slice docC_len);have HB1:=Lib.hid hb1;clear hp1 hb1 HP;generalize partsV s.data.toList=l at *;go_wp2
 go_loopw [8] (fun i wr=>∃ k:Nat,i = .int .i64 k∧k≤l.length∧Hid (Below w1.heap.size w1 wr)∧Hid (l.any isSnapP=(l.drop k).any isSnapP)) (fun i _=>l.length - (intOf i).toNat)
 case atStart=>exact ⟨0,rfl,Nat.zero_le _,Below.refl _ _,rfl⟩
 case round =>
  obtain ⟨k,rfl,hk,HB,HA⟩:=hrel;by_cases hlt:k<l.length
  · obtain ⟨b,o,hao,hbl,hc⟩:=(HS.out.below HB.out).at hlt
    cases hao
    have d1:(k:Int)<(l.length:Int):=by omega
    have wk:IntKind.i64.wrap ((k:Int)+1)=(k:Int)+1:=IntWalk.i64_in _ (by have:=HL.out; omega);have HD:Hid (l.any isSnapP=(isSnapP l[k] || (l.drop (k+1)).any isSnapP)):=by show _=_; rw [HA.out,drop_cons' hlt,List.any_cons]
    have c0:=hc 0 _ rfl;have c1:=hc 1 _ rfl;have c2:=hc 2 _ rfl;rw [Nat.add_zero] at c0;generalize l[k]=p at *;obtain ⟨hy,nm,t⟩:=p;have hl:=snap_lit t;have HX:Hid (isSnapP ⟨hy,nm,t⟩=(!nm && decide (t=wSnapshot))):=rfl;simp only at c0 c1 c2;clear hc HA;rw [show isSnapP ⟨hy,nm,t⟩=_ from HX.out] at HD;generalize decide (t=wSnapshot)=q at *;have HB2:Hid (Below w1.heap.size w1 (wr.alloc (.cells #[.bool (!nm),.bool hy,.string (bs t)] 87))):=HB.out.alloc HB.out.size _;clear HX;cases nm
    · cases q
      · go_wp2
        go_roundw
        case rel=>exact ⟨k+1,by first | rfl | go_num,hlt,HB2,HD⟩
        case measure=>simp [intOf]; omega
      · go_wp2
        go_ret
        exact ⟨by rw [HV.out,HD.out]; rfl,HB1.out.trans (HB2.out.mono HB1.out.size)⟩
    · go_wp2
      go_roundw
      case rel=>exact ⟨k+1,by first | rfl | go_num,hlt,HB2,HD⟩
      case measure=>simp [intOf]; omega
  · obtain rfl:k=l.length:=by omega
    have d1 : ¬ (l.length:Int)<(l.length:Int):=by omega
    have HD:Hid (l.any isSnapP=false):=by show _=_; rw [HA.out,List.drop_length]; rfl
    clear HA;go_wp2
    go_ret
    exact ⟨by rw [HV.out,HD.out]; rfl,HB1.out.trans (HB.out.mono HB1.out.size)⟩
end Go.Proofs.YtecffghcpknmjaaGreatDoor
namespace Go.Proofs.YtecffghcpknmjaaGreatDoor
open Go Go.RowKit Go.Shelf
attribute [local go_sem] Oper.semAt_some
abbrev SmallS:={ x:S // x.size≤900000 }
def noSmall:SmallS:=⟨⟨#[]⟩,by decide⟩
def backAt (zs:List SmallS) (k:Nat):Nat × SmallS:=(zs.length - 1 - k,zs[zs.length - 1 - k]?.getD noSmall)
def backUpto (zs:List SmallS) (k:Nat):List (Nat × SmallS):=(List.range k).map (backAt zs)
theorem backUpto_succ (zs:List SmallS) (k:Nat):backUpto zs (k+1)=backUpto zs k ++ [backAt zs k]:=by simp [backUpto,List.range_succ]
theorem backUpto_length (zs:List SmallS) (k:Nat):(backUpto zs k).length=k:=by simp [backUpto]
def SmallIn (n₀:Nat) (W:World) (ao:Option Addr) (zs:List SmallS):Prop:=∀ j (hj:j<zs.length),∃ b o,ao=some ⟨b,o,none⟩∧b<n₀∧W.cell? ⟨b,o+j,none⟩=some (.string zs[j].1)
theorem SmallIn.below {n₀:Nat} {A B:World} {ao:Option Addr} {zs:List SmallS} (h:SmallIn n₀ A ao zs) (hb:Below n₀ A B):SmallIn n₀ B ao zs:=fun j hj=>by
 obtain ⟨b,o,h1,h2,h3⟩:=h j hj;exact ⟨b,o,h1,h2,(hb.cell (p:=⟨b,o+j,none⟩) h2).trans h3⟩
set_option maxRecDepth 100000 in
set_option maxHeartbeats 2000000 in
theorem back1_in (F:Fence) (n:Nat) (hf:F.fn 110) (hro:F.round=none) (hn:1≤n) (l Bs n₀ cap:Nat) (ao:Option Addr) (zs:List SmallS) (hlen:zs.length≤1000000) (J Jx:List (Nat × SmallS)→World→Prop)
    (hY : ∀ pre x W,J pre W→pre.length<zs.length→YieldAt F (n - 1) Tryz.prog l #[.int .i64 (x.1:Int),.string x.2.1] W fun e W' =>
     (e = .returned (.bool true)∧J (pre ++ [x]) W'∧Below n₀ W W')∨(e = .returned (.bool false)∧Jx (pre ++ [x]) W'))
    (W:World) (hBl:Bs<n₀) (hBs:W.cell? ⟨Bs,0,none⟩=some (.slice ao zs.length cap)) (hc:SmallIn n₀ W ao zs) (h0:J [] W) :
    CallsIn F n Tryz.prog 110 #[.func (.yield l) #[] #[],.pointer (some ⟨Bs,0,none⟩)] W fun e W'=>(∃ v,e = .returned v) ∧
     ((∃ ys,ys=backUpto zs zs.length∧J ys W')∨(∃ pre,(∃ k,k≤zs.length∧pre=backUpto zs k)∧Jx pre W')):=by
 have wl:IntKind.i64.wrap ((zs.length:Int) - 1)=(zs.length:Int) - 1:=IntWalk.i64_in _ (by omega);refine callsIn_of_wp Tryz.func110 rfl hf ?_ hro
 simp only [Tryz.ntmps110,List.size_toArray,List.length_cons,List.length_nil,Nat.reduceAdd,Nat.reduceSub,Array.replicate_succ,Array.replicate_zero,List.push_toArray,List.append_toArray,List.nil_append,List.cons_append];gi_wp2
 clear wl;gi_loopw [3] (fun i wr=>∃ m k:Nat,m+k=zs.length∧i = .int .i64 ((m:Int) - 1)∧J (backUpto zs k) wr∧Below n₀ W wr) (fun i _=>(intOf i+1).toNat)
 case atStart=>exact ⟨zs.length,0,rfl,rfl,h0,Below.refl _ _⟩
 case round =>
  obtain ⟨m,k,hmk,rfl,hJs,hnx⟩:=hrel;cases m with
  | zero =>
   have d1 : ¬ (0:Int)≤((0:Nat):Int) - 1:=by omega
   have d2 : ¬ (0:Int) ≤ -1:=by omega
   gi_wp2
   go_end0
   obtain rfl:k=zs.length:=by omega
   first | exact ⟨⟨_,rfl⟩,.inl ⟨_,rfl,hJs⟩⟩ | exact ⟨⟨_,rfl⟩,.inl hJs⟩
  | succ m =>
   have hkz:k<zs.length:=by omega
   have hat:backAt zs k=(m,zs[m]'(by omega)):=by
    unfold backAt;rw [show zs.length - 1 - k=m by omega,List.getElem?_eq_getElem (by omega)]; rfl
   obtain ⟨fn,tmps,assign,body,hy,hR⟩:=hY _ (backAt zs k) wr hJs (by rw [backUpto_length]; exact hkz);obtain ⟨b,o,rfl,hb,hcell⟩:=(hc.below hnx) m (by omega);have hBs':=(hnx.cell (p:=⟨Bs,0,none⟩) hBl).trans hBs;rw [hat] at hy;dsimp only at hy
   have em:((m+1:Nat):Int) - 1=(m:Int):=by omega
   have d1:(0:Int)≤(m:Int):=by omega
   have lm:(m:Int)<(zs.length:Int):=by omega
   have wm:IntKind.i64.wrap ((m:Int) - 1)=(m:Int) - 1:=IntWalk.i64_in _ (by omega);rw [em];have HMK:=Lib.hid hmk;have hml:m<zs.length:=by omega
   generalize zs[m]'hml=x at *;clear em hat hmk hml;gi_wp2
   refine hR.mono ?_
   rintro e W3 (⟨rfl,hJ3,hk3⟩ | ⟨rfl,hJx3⟩)
   · gi_wp2
     go_roundw
     case rel=>exact ⟨m,k+1,by have:=HMK.out; change _=_ at this; omega,rfl,by rw [backUpto_succ]; exact hJ3,hnx.trans hk3⟩
     case measure=>simp [intOf]
   · gi_wp2
     refine bodyPost_ret (results_none rfl _ _ _) rfl ?_
     exact ⟨⟨_,rfl⟩,.inr ⟨_,⟨k+1,by omega,(backUpto_succ _ _).symm⟩,hJx3⟩⟩
theorem backward_in (F:Fence) (n:Nat) (hf:F.fn 78) (hro:F.round=none) (a:Option Addr) (len cap:Nat) (w:World) :
    CallsIn F n Tryz.prog 78 #[.slice a len cap] w fun e w'=>e = .returned (.func (.func 110) #[] #[.pointer (some ⟨w.heap.size,0,none⟩)])∧w'=w.alloc (.cells #[.slice a len cap] 24):=by
 refine callsIn_of_wp Tryz.func78 rfl hf ?_ hro
 simp only [Tryz.ntmps78,List.size_toArray,List.length_cons,List.length_nil,Nat.reduceAdd,Nat.reduceSub,Array.replicate_succ,Array.replicate_zero,List.push_toArray,List.append_toArray,List.nil_append,List.cons_append];gi_wp2
 go_ret
 exact ⟨rfl,rfl⟩
theorem back_stops (F:Fence) (n:Nat) (hf:F.fn 110) (hro:F.round=none) (hn:1≤n) (Bs n₀ cap:Nat) (ao:Option Addr) (zs:List SmallS) (hlen:zs.length≤1000000) (w:World) (hBs:Bs<n₀) (hn₀:n₀≤w.heap.size)
    (hc:w.cell? ⟨Bs,0,none⟩=some (.slice ao zs.length cap)) (hI:SmallIn n₀ w ao zs) :
    SeqStopsK F n Tryz.prog 110 #[.pointer (some ⟨Bs,0,none⟩)] (fun x:Nat × SmallS=>#[Value.int .i64 (x.1:Int),Value.string x.2.1]) (Below n₀) (fun ys=>ys=backUpto zs zs.length) (fun pre=>∃ k,k≤zs.length∧pre=backUpto zs k) zs.length w:=fun l J Jx W hW _ _ hY h0 =>
 back1_in F n hf hro hn l Bs n₀ cap ao zs hlen J Jx hY W hBs ((hW.cell (p:=⟨Bs,0,none⟩) (Nat.lt_of_lt_of_le hBs hn₀)).trans hc) (hI.below (hW.mono hn₀)) h0
def relV (l:List S):S:=(l.reverse.find? fun v=>!snapV v.data.toList).getD ⟨#[]⟩
def snapX (x:Nat × SmallS):Bool:=snapV x.2.1.data.toList
theorem backUpto_texts (zs:List SmallS) (k:Nat) (hk:k≤zs.length):(backUpto zs k).map (fun x=>x.2.1)=(zs.map (·.1)).reverse.take k:=by
 apply List.ext_getElem
 · simp [backUpto,hk]
 · intro i h1 h2
   have hi:i<k:=by simpa [backUpto] using h1
   have e:zs.length - 1 - i<zs.length:=by omega
   simp [backUpto,backAt,List.getElem_reverse,List.getElem?_eq_getElem e]
theorem find_none {zs:List SmallS} (h : ∀ p ∈ backUpto zs zs.length,snapX p=true):relV (zs.map (·.1))=⟨#[]⟩:=by
 have e:=backUpto_texts zs zs.length (Nat.le_refl _);rw [List.take_of_length_le (by simp)] at e;unfold relV;rw [← e,List.find?_map];rw [List.find?_eq_none.2 (fun p hp=>by have:=h p hp; unfold snapX at this; simp [this])];rfl
theorem find_some {zs:List SmallS} {k:Nat} (hk:k≤zs.length) {ini:List (Nat × SmallS)} {last:Nat × SmallS} (e:backUpto zs k=ini ++ [last]) (h : ∀ p ∈ ini,snapX p=true) (hl:snapX last=false):relV (zs.map (·.1))=last.2.1:=by
 have e1:=backUpto_texts zs k hk;rw [e,List.map_append] at e1;unfold relV
 rw [← List.take_append_drop k (zs.map (·.1)).reverse,← e1,List.find?_append,List.find?_append,List.find?_eq_none.2 (fun s hs=>by
  obtain ⟨p,hp,rfl⟩:=List.mem_map.1 hs;have:=h p hp
  unfold snapX at this; simp [this])]
 unfold snapX at hl;simp [hl]
set_option maxRecDepth 100000 in
set_option maxHeartbeats 2000000 in
theorem release_any (zs:List SmallS) (ao:Option Addr) (cap:Nat) (w:World) (hS:SliceOf 1 strC w (.slice ao zs.length cap) (zs.map (·.1))) (hlen:zs.length≤1000000) :
    Calls Tryz.prog 50 #[.slice ao zs.length cap] w fun e w'=>e = .returned (.string (relV (zs.map (·.1))))∧Below w.heap.size w w':=by
 have hI:SmallIn w.heap.size w ao zs:=fun j hj=>by
  obtain ⟨ao',cap',h1,h2,hm,h3,h4⟩:=hS;rw [List.length_map] at h1;cases h1
  obtain ⟨b,o,e1,e2,e3⟩:=h4 j zs[j].1 (by simp [hj]);exact ⟨b,o,e1,e2,by simpa using e3 0 _ rfl⟩
 clear hS;refine (callsIn_wide (n:=3)).1 ?_
 refine callsIn_of_wp_marks Tryz.func50 rfl trivial ?_ rfl
 simp only [Tryz.ntmps50,List.size_toArray,List.length_cons,List.length_nil,Nat.reduceAdd,Nat.reduceSub,Array.replicate_succ,Array.replicate_zero,List.push_toArray,List.append_toArray,List.nil_append,List.cons_append];gi_wp2_with (refine ⟨trivial,?_⟩; gi_at_call 78; refine (backward_in Fence.wide 2 trivial rfl _ _ _ _).mono ?_; rintro e w' ⟨rfl,rfl⟩)
 have bS:=Boxed.new w 9 (.string ⟨#[]⟩);have bN:=Boxed.new (w.alloc (.cells #[.string ⟨#[]⟩] 9)) 24 (.slice ao zs.length cap);rw [World.size_alloc] at bN;have hB0:Below w.heap.size w ((w.alloc (.cells #[.string ⟨#[]⟩] 9)).alloc (.cells #[.slice ao zs.length cap] 24)):=((Below.refl _ w).alloc (Nat.le_refl _) _).alloc (by simp) _
 have hI2:SmallIn (w.heap.size+1+1) ((w.alloc (.cells #[.string ⟨#[]⟩] 9)).alloc (.cells #[.slice ao zs.length cap] 24)) ao zs:=fun j hj=>by
  obtain ⟨b,o,e1,e2,e3⟩:=(hI.below hB0) j hj;exact ⟨b,o,e1,by omega,e3⟩
 refine wpIn_rangeFunc_ownG rfl (by decide) (gf:=110) (lb:=#[.pointer (some ⟨w.heap.size+1,0,none⟩)]) rfl trivial (enters_of Tryz.func110 (by kernel_rfl) rfl)
  (back_stops Fence.wide 2 trivial rfl (by decide) (w.heap.size+1) (w.heap.size+1+1) cap ao zs hlen _ (by omega) (by simp) bN.cell hI2) belowK_t (belowK_b (by simp)) (Below.refl _ _) (fun _=>rfl)
  (fun pre W=>((∀ p ∈ pre,snapX p=true)∧W.cell? ⟨w.heap.size,0,none⟩=some (.string ⟨#[]⟩)∧W.frozen? ⟨w.heap.size,0,none⟩=false)∧(Below w.heap.size w W∧w.heap.size+2≤W.heap.size))
  (fun c pre W=>(c = .ret ∧ ∃ ini last,pre=ini ++ [last]∧(∀ p ∈ ini,snapX p=true)∧snapX last=false∧W.cell? ⟨w.heap.size,0,none⟩=some (.string last.2.1))∧Below w.heap.size w W)
  (OwnFrom.and (Own.from (fun s A B row hs hg hr=>⟨hs.1,cell_kept hs.2.1 hg hr,(frozen_kept hs.2.1 hg hr).trans hs.2.2⟩) _) (OwnFrom.and (ownFrom_below (Nat.le_refl _) (by simp; omega)) (Own.from (fun s A B row hs hg hr=>Nat.le_trans hs hg.size) _)))
  (fun c=>OwnFrom.and (Own.from (fun s A B row hs hg hr=>by obtain ⟨hc,ini,last,e1,e2,e3,e4⟩:=hs; exact ⟨hc,ini,last,e1,e2,e3,cell_kept e4 hg hr⟩) _) (ownFrom_below (Nat.le_refl _) (by simp; omega)))
  ⟨⟨by simp,(bS.alloc _).cell,(bS.alloc _).frozen⟩,hB0,by simp⟩
  (fun x=>{ tmps:=#[.slice ao zs.length cap,undef,.pointer (some ⟨w.heap.size,0,none⟩),undef,.string x.2.1,.slice ao zs.length cap,.func (.func 110) #[] #[.pointer (some ⟨w.heap.size+1,0,none⟩)],.int .i64 (x.1:Int),.string x.2.1,undef,undef,undef,undef],defers:=[] }) ?assign ?body ?done ?stop
 case assign =>
  intro l x W K hK;gi_wp2
  exact hK
 case body =>
  rintro l pre x W ⟨⟨hp,hcr,hfr⟩,hB,hsz⟩ _;have HS : ∀ V:World,Calls Tryz.prog 79 #[.string x.2.1] V fun e w'=>e = .returned (.bool (snapX x))∧Below V.heap.size V w':=fun V=>isSnapshot_any x.2.1 V x.2.2;have HSN:=Lib.hid HS;clear HS;cases hq:snapX x with
  | true =>
   rw [hq] at HSN;have HQ:=Lib.hid hq;clear hq;gi_wp2_with (refine ⟨trivial,?_⟩; gi_at_call 79; refine (CallsIn.inRound l (callsIn_wide.2 (HSN.out _))).mono ?_; rintro e w' ⟨rfl,hb⟩)
   have hg:W.grownBy w' none:=⟨hb.os,hb.tape,hb.output,hb.size,fun k hk _=>hb.block k hk⟩;refine ⟨(KeepsOthers.of_grownBy hg (fun j o ej hj=>by cases ej)).from _,hb.mono (by omega),⟨fun p hp'=>(List.mem_append.1 hp').elim (hp p) (fun e=>by rw [List.mem_singleton.1 e]; exact HQ.out),(hb.cell (p:=⟨w.heap.size,0,none⟩) (by show w.heap.size<_; omega)).trans hcr,(hb.frozen (p:=⟨w.heap.size,0,none⟩) (by show w.heap.size<_; omega)).trans hfr⟩,hB.trans (hb.mono hB.size),Nat.le_trans hsz hb.size⟩
  | false =>
   rw [hq] at HSN;have HQ:=Lib.hid hq;clear hq;gi_wp2_with (refine ⟨trivial,?_⟩; gi_at_call 79; refine (CallsIn.inRound l (callsIn_wide.2 (HSN.out _))).mono ?_; rintro e w' ⟨rfl,hb⟩; have hcr':=(hb.cell (p:=⟨w.heap.size,0,none⟩) (by show w.heap.size<_; omega)).trans hcr; have hfr':=(hb.frozen (p:=⟨w.heap.size,0,none⟩) (by show w.heap.size<_; omega)).trans hfr)
   have hg:W.grownBy w' none:=⟨hb.os,hb.tape,hb.output,hb.size,fun k hk _=>hb.block k hk⟩;exact ⟨((KeepsOthers.of_grownBy hg (fun j o ej hj=>by cases ej)).trans (KeepsOthers.setCell _ _ _)).from _,⟨rfl,pre,x,rfl,hp,HQ.out,World.cell?_setCell_same' _ _ _ (by rw [hcr']; rfl)⟩,(hB.trans (hb.mono hB.size)).setCell (p:=⟨w.heap.size,0,none⟩) (Nat.le_refl _) _⟩
 case done =>
  rintro D ys W hD rfl ⟨⟨hne,hcr,hfr⟩,hB,hsz⟩ hK;gi_wp2
  have hK':=(KeepsOthers.setCell W ⟨w.heap.size,0,none⟩ (.string ⟨#[]⟩)).same D _ hK rfl;refine ⟨by simp,.inl ⟨_,_,rfl,run_takeDeferred hK',?_⟩⟩
  have hc5:=cell_kept (World.cell?_setCell_same' W ⟨w.heap.size,0,none⟩ (.string ⟨#[]⟩) (by rw [hcr]; rfl)) (grownBy_putObj' _ D (.deferred none)) (fun r e=>by cases e; exact ⟨_,hK',rfl⟩);refine ⟨.string ⟨#[]⟩,?_,by rw [find_none hne],(hB.setCell (p:=⟨w.heap.size,0,none⟩) (Nat.le_refl _) _).trans (belowK_b (w:=w) (Nat.le_refl _) _ D _ _ (by simp at hD; omega) hK' rfl rfl)⟩
  simp [results,Tryz.f50,go_sem,hc5]
 case stop =>
  rintro D c pre W hD ⟨k,hk,rfl⟩ ⟨⟨rfl,ini,last,e1,e2,e3,hcr⟩,hB⟩ hK;gi_wp2
  refine ⟨by simp,.inl ⟨_,_,rfl,run_takeDeferred hK,?_⟩⟩
  have hc5:=cell_kept hcr (grownBy_putObj' _ D (.deferred none)) (fun r e=>by cases e; exact ⟨_,hK,rfl⟩);refine ⟨.string last.2.1,?_,by rw [find_some hk e1 e2 e3],hB.trans (belowK_b (w:=w) (Nat.le_refl _) W D _ _ (by simp at hD; omega) hK rfl rfl)⟩
  simp [results,Tryz.f50,go_sem,hc5]
end Go.Proofs.YtecffghcpknmjaaGreatDoor
namespace Go.Proofs.YtecffghcpknmjaaGreatDoor
open Go Go.RowKit
structure MetaD where
 id:Id
 vers:List S
 latest:S
 rel:S
 deriving DecidableEq
def metaC (m:MetaD) (v:Value):List Value:=[.string m.id.group,.string m.id.artifact,v,.string m.latest,.string m.rel]
def metaAg (m:MetaD) (v:Value):Value:=.agg (metaC m v).toArray
theorem str_beqV (a b:S):(a.toList == b.toList)=decide (a=b):=by
 rw [Bool.eq_iff_iff,beq_iff_eq,decide_eq_true_iff,ByteArray.toList_eq,ByteArray.toList_eq];constructor
 · intro h
   obtain ⟨⟨x⟩⟩:=a;obtain ⟨⟨y⟩⟩:=b;simpa using h
 · rintro rfl; rfl
theorem eqg_idV:Tryz.prog.eqGuardType Tryz.prog.depth 23=false:=by kernel_rfl
theorem eqs_idV:Tryz.prog.stoodInHeld 23=false:=by kernel_rfl
theorem eql_idV (a0 a1 b0 b1:S) (w:World):(binOp .eql 23 (.agg #[.string a0,.string a1]) (.agg #[.string b0,.string b1])).run Tryz.prog w = .ok (.bool (decide (a0=b0) && decide (a1=b1))) w:=by
 have h:=eqs_idV;by_cases h0:a0=b0 <;> by_cases h1:a1=b1 <;> simp [go_sem,h,h0,h1,str_beqV]
theorem neq_idV (a0 a1 b0 b1:S) (w:World):(binOp .neq 23 (.agg #[.string a0,.string a1]) (.agg #[.string b0,.string b1])).run Tryz.prog w = .ok (.bool (!(decide (a0=b0) && decide (a1=b1)))) w:=by
 have h:=eqs_idV;by_cases h0:a0=b0 <;> by_cases h1:a1=b1 <;> simp [go_sem,h,h0,h1,str_beqV]
theorem cellsOf {w:World} {b o n cap:Nat} {l:List S} (h:SliceOf 1 strC w (.slice (some ⟨b,o,none⟩) n cap) l) : ∀ j,j<l.length→w.cell? ⟨b,o+j,none⟩=some (.string (l.getD j ByteArray.empty)):=fun j hj=>by
 obtain ⟨ao',cap',h1,h2,hm,h3,h4⟩:=h;cases h1
 obtain ⟨b',o',e,_,hc'⟩:=h4 j l[j] (List.getElem?_eq_getElem hj);cases e
 have:=hc' 0 _ rfl
 rw [Nat.mul_one,Nat.add_zero] at this;rw [this,List.getD_eq_getElem?_getD,List.getElem?_eq_getElem hj]; rfl
theorem metaD_eq (a b:MetaD):decide (a=b)=(((decide (a.id.group=b.id.group) && decide (a.id.artifact=b.id.artifact)) && decide (a.vers=b.vers)) && decide (a.latest=b.latest) && decide (a.rel=b.rel)):=by
 obtain ⟨⟨ag,aa⟩,av,al,ar⟩:=a;obtain ⟨⟨bg,ba⟩,bv,bl,br⟩:=b;rw [Bool.eq_iff_iff];simp [and_assoc]
theorem eq_drop {l m:List S} (h:l.length=m.length) (k:Nat) (hk:k<l.length):(l.drop k=m.drop k)↔(l[k]=m[k]'(h ▸ hk)∧l.drop (k+1)=m.drop (k+1)):=by
 have e2:m.drop k=m[k]'(h ▸ hk)::m.drop (k+1):=drop_cons' _;rw [drop_cons' hk,e2,List.cons.injEq]
attribute [local go_sem ↓] eqg_idV eql_idV neq_idV str_beqV in
set_option maxRecDepth 100000 in
set_option maxHeartbeats 4000000 in
theorem refMetaSame_any (a b:MetaD) (va vb:Value) (w:World) (ha:SliceOf 1 strC w va a.vers) (hb:SliceOf 1 strC w vb b.vers) (la:a.vers.length≤1000000) :
    Calls Tryz.prog 12 #[metaAg a va,metaAg b vb] w fun e w'=>e = .returned (.bool (decide (a=b)))∧Below w.heap.size w w':=by
 have HD:=Lib.hid (metaD_eq a b);obtain ⟨ao,ac,rfl⟩:=ha.shape;obtain ⟨bo,bc,rfl⟩:=hb.shape;have HA:=Lib.hid ha;have HBB:=Lib.hid hb;have HLA:=Lib.hid la;clear ha hb la;obtain ⟨⟨ag,aa⟩,av,al,ar⟩:=a;obtain ⟨⟨bg,ba⟩,bv,bl,br⟩:=b;unfold metaAg metaC;simp only at HD HA HBB HLA ⊢;generalize h1:decide (ag=bg)=q1 at *;generalize h2:decide (aa=ba)=q2 at *;generalize h4:decide (al=bl)=q4 at *;generalize h5:decide (ar=br)=q5 at *;go_enter Tryz.func12,Tryz.ntmps12
 go_upto_region 1 with fail
 refine wp_world ?_
 intro W hW;have x1:Box W w.heap.size [.string ag,.string aa,.slice ao av.length ac,.string al,.string ar]:=by rw [hW]; exact (Box.new w [.string ag,.string aa,.slice ao av.length ac,.string al,.string ar] _ _ rfl).alloc _
 have y1:Box W (w.heap.size+1) [.string bg,.string ba,.slice bo bv.length bc,.string bl,.string br]:=by rw [hW]; exact Box.new _ [.string bg,.string ba,.slice bo bv.length bc,.string bl,.string br] _ _ (by simp)
 have hb:Below w.heap.size w W:=by rw [hW]; exact ((Below.refl _ w).alloc (Nat.le_refl _) _).alloc (by simp) _
 clear hW;have HB:=Lib.hid hb;have HSA:=Lib.hid (HA.out.below hb);have HSB:=Lib.hid (HBB.out.below hb);have x0:=x1.cell 0 _ rfl;have x1':=x1.cell 1 _ rfl;have x2:=x1.cell 2 _ rfl;have x3:=x1.cell 3 _ rfl;have x4:=x1.cell 4 _ rfl;have xl:=x1.lt;have y0:=y1.cell 0 _ rfl;have y1':=y1.cell 1 _ rfl;have y2:=y1.cell 2 _ rfl;have y3:=y1.cell 3 _ rfl;have y4:=y1.cell 4 _ rfl;have yl:=y1.lt;clear x1 y1 hb HA HBB;cases hq:(q1 && q2) with
 | false =>
  rw [hq] at HD;go_wp2
  go_ret
  exact ⟨by rw [HD.out]; simp,HB.out⟩
 | true =>
  rw [hq] at HD;cases q4 with
  | false =>
   go_wp2
   go_ret
   exact ⟨by rw [HD.out]; simp,HB.out⟩
  | true =>
   cases q5 with
   | false =>
    go_wp2
    go_ret
    exact ⟨by rw [HD.out]; simp,HB.out⟩
   | true =>
    by_cases hlm:av.length=bv.length
    · have e1:((av.length:Int) == (bv.length:Int))=true:=by rw [beq_iff_eq]; omega
      have e1n:(av.length == bv.length)=true:=by rw [beq_iff_eq]; exact hlm
      have HL:=Lib.hid hlm;have hbl : ∀ k:Nat,k<av.length→(k:Int)<(bv.length:Int):=fun k hk=>by omega
      clear hlm;go_wp2
      go_loopw [37] (fun i wr=>∃ k:Nat,i = .int .i64 k∧k≤av.length∧Hid (Below W.heap.size W wr)∧Hid (decide (av=bv)=decide (av.drop k=bv.drop k))) (fun i _=>av.length - (intOf i).toNat)
      case atStart=>exact ⟨0,rfl,Nat.zero_le _,Below.refl _ _,rfl⟩
      case round =>
       obtain ⟨k,rfl,hk,HBr,HE⟩:=hrel;by_cases hlt:k<av.length
       · obtain ⟨b1,o1,ha1,hl1,hc1⟩:=(HSA.out.below HBr.out).at1 hlt
         obtain ⟨b2,o2,ha2,hl2,hc2⟩:=(HSB.out.below HBr.out).at1 (show k<bv.length from HL.out ▸ hlt);cases ha1
         cases ha2
         have d1:(k:Int)<(av.length:Int):=by omega
         have d2:=hbl k hlt;have wk:IntKind.i64.wrap ((k:Int)+1)=(k:Int)+1:=IntWalk.i64_in _ (by have:=HLA.out; change _≤_ at this; omega);have z2:=(HBr.out.cell (p:=⟨w.heap.size,2,none⟩) xl).trans x2;have t2:=(HBr.out.cell (p:=⟨w.heap.size+1,2,none⟩) yl).trans y2;have HDD:=Lib.hid (eq_drop HL.out k hlt);generalize av[k]=x at *;generalize bv[k]'(HL.out ▸ hlt)=y at *;generalize hxy:decide (x=y)=q at *;cases q with
         | true =>
          have HE2:Hid (decide (av=bv)=decide (av.drop (k+1)=bv.drop (k+1))):=by
           show _=_
           rw [HE.out,decide_eq_decide,HDD.out];simp [of_decide_eq_true hxy]
          clear HDD HE;have xw:=Nat.lt_of_lt_of_le xl HBr.out.size;have yw:=Nat.lt_of_lt_of_le yl HBr.out.size;go_wp2_with fail
          have hLL:=@Later.cells wr;refine region_later (by kernel_rfl) (by kernel_rfl) ?_
          repeat (go_big_quiet_step (fail))
          refine wpQuiet_nil ?_
          rintro _ ⟨nx,rfl⟩;have HBn:=Lib.hid (HBr.out.trans (nx.below.mono HBr.out.size));clear hLL xw yw;generalize nx.at_=wn at *;go_wp2
          go_roundw
          case rel=>exact ⟨k+1,by first | rfl | go_num,hlt,HBn,HE2⟩
          case measure=>simp [intOf]; omega
         | false =>
          have HE2:Hid (decide (av=bv)=false):=by
           show _=_
           rw [HE.out,decide_eq_false_iff_not,HDD.out];simp [of_decide_eq_false hxy]
          clear HDD HE;have xw:=Nat.lt_of_lt_of_le xl HBr.out.size;have yw:=Nat.lt_of_lt_of_le yl HBr.out.size;go_wp2_with fail
          have hLL:=@Later.cells wr;refine region_later (by kernel_rfl) (by kernel_rfl) ?_
          repeat (go_big_quiet_step (fail))
          refine wpQuiet_nil ?_
          rintro _ ⟨nx,rfl⟩;have HBn:=Lib.hid (HBr.out.trans (nx.below.mono HBr.out.size));clear hLL xw yw;generalize nx.at_=wn at *;go_wp2
          go_ret
          exact ⟨by rw [HD.out,HE2.out]; simp,HB.out.trans (HBn.out.mono HB.out.size)⟩
       · obtain rfl:k=av.length:=by omega
         have d1 : ¬ (av.length:Int)<(av.length:Int):=by omega
         have HE2:Hid (decide (av=bv)=true):=by show _=_; rw [HE.out,List.drop_length,HL.out,List.drop_length]; simp
         clear HE;go_wp2
         go_ret
         exact ⟨by first | (rw [HD.out,HE2.out]; simp) | (rw [HE2.out]; rfl),HB.out.trans (HBr.out.mono HB.out.size)⟩
    · have e1:((av.length:Int) == (bv.length:Int))=false:=by rw [beq_eq_false_iff_ne]; omega
      have e1n:(av.length == bv.length)=false:=by rw [beq_eq_false_iff_ne]; exact hlm
      have HN:Hid (decide (av=bv)=false):=by show _=_; rw [decide_eq_false_iff_not]; intro e; exact hlm (by rw [e])
      clear hlm;go_wp2
      go_ret
      exact ⟨by rw [HD.out,HN.out]; simp,HB.out⟩
end Go.Proofs.YtecffghcpknmjaaGreatDoor
namespace Go.Proofs.YtecffghcpknmjaaGreatDoor
open Go Go.RowKit
variable {P:Program} {ops:Array Oper} {md:Region.Mode} {C:World→Prop}
def anyQL (P:Program) (md:Region.Mode) (ops:Array Oper) (C:World→Prop) (n:Nat) (L:Array Bool→Act→Prop):Nat→Array Bool→Act→Prop
 | 0,listed,a=>L listed a
 | f+1,listed,a=>Region.ready md ops listed≠[] ∧ ∀ i ∈ Region.ready md ops listed,i<n∧qOp P ops C i (anyQL P md ops C n L f (listed.setIfInBounds i true)) a
theorem any_of_head {n g:Nat} {L:Array Bool→Act→Prop} {Q':Exit→Act→World→Prop} (hL : ∀ listed a w,C w→L listed a→wpAny P md ops Q' g listed a w) :
    ∀ (f:Nat) (listed:Array Bool) (a:Act) (w:World),C w→anyQL P md ops C n L f listed a→wpAny P md ops Q' (f+g) listed a w
 | 0,listed,a,w,hw,h=>by rw [Nat.zero_add]; exact hL _ _ _ hw h
 | f+1,listed,a,w,hw,h=>by
  rw [show f+1+g=(f+g)+1 by omega];exact ⟨fun h0=>absurd h0 h.1,fun i hi=>wpOp_of_qOp hw (fun a' w' hw' h'=>any_of_head hL f _ a' w' hw' h') (h.2 i hi).2⟩
theorem anyQL_first {n i:Nat} {oi:Oper} {v:Value} {L:Array Bool→Act→Prop} (hi:ops[i]? = some oi) (hsel : ∀ (j:Nat) (o:Oper) cs b,ops[j]? = some o→o.op ≠ .select cs b)
    (hs:Region.sinkB md ops n=true) (hc:Region.chainB md ops n=true) (hn:n<ops.size) (hin:i<n) (hdone : ∀ listed a,L listed a → ∀ j ∈ Region.ready md ops listed,n≤j) :
    ∀ (f:Nat) (listed:Array Bool) (a:Act),HeadInv md ops n listed →
     (∀ j oj,ops[j]? = some oj→j≠i→listed.getD j true=false→(∀ e ∈ oj.after,Region.binds md e=true→e.on≠i)→oi.apart ops oj=true) →
     i ∈ Region.ready md ops listed→YieldsIn P ops C oi v a→anyQL P md ops C n L f (listed.setIfInBounds i true) (a.put oi.dst v)→anyQL P md ops C n L (f+1) listed a:=by
 intro f;induction f with
 | zero =>
  intro listed a inv _ hr hy H;have hun:=(mem_ready.1 hr).1;refine ⟨fun h=>(by rw [h] at hr; cases hr),fun j hj=>?_⟩
  have hjn:j<n:=by
   rcases Nat.lt_or_ge j n with h | h
   · exact h
   · exact absurd hj (tail_waits hs hc hn inv _ i rfl hin hun j h)
  refine ⟨hjn,?_⟩
  by_cases hji:j=i
  · subst hji; exact hy.qOp hi H
  · have:=hdone _ _ H j (ready_mono hj hji)
    omega
 | succ f ih =>
  intro listed a inv hfree hr hy H;have hun:=(mem_ready.1 hr).1;refine ⟨fun h=>(by rw [h] at hr; cases hr),fun j hj=>?_⟩
  have hjn:j<n:=by
   rcases Nat.lt_or_ge j n with h | h
   · exact h
   · exact absurd hj (tail_waits hs hc hn inv _ i rfl hin hun j h)
  refine ⟨hjn,?_⟩
  by_cases hji:j=i
  · subst hji; exact hy.qOp hi H
  · have h1:=(H.2 j (ready_mono hj hji)).2
    obtain ⟨hjun,oj,hoj,hall⟩:=mem_ready.1 hj
    have hnot : ∀ e ∈ oj.after,Region.binds md e=true→e.on≠i:=fun e he hb heq=>by
     have h1:=hall e he hb;rw [heq,getD_both hun] at h1;cases h1
    have h2:=qOp_put hoj (hfree j oj hoj hji hjun hnot) (fun cs b=>hsel i oi cs b hi) (fun cs b=>hsel j oj cs b hoj) hy h1
    have hfree' : ∀ k ok,ops[k]? = some ok→k≠i→(listed.setIfInBounds j true).getD k true=false →
        (∀ e ∈ ok.after,Region.binds md e=true→e.on≠i)→oi.apart ops ok=true:=fun k ok hk hki hun hno=>by
     refine hfree k ok hk hki ?_ hno
     by_cases hjk:j=k
     · subst hjk; exact hjun
     · rw [getD_set_ne true hjk] at hun; exact hun
    refine qOp_mono (fun a' h3=>ih (listed.setIfInBounds j true) a' (inv.set hj hjn) hfree' (ready_mono hr (Ne.symm hji)) h3.1 ?_) h2
    rw [Array.setIfInBounds_comm _ _ hji];exact h3.2
theorem anyQL_lex {n g:Nat} {Lq:Act→Prop} (hsel:Region.noSelect ops=true) (hs:Region.sinkB md ops n=true) (hc:Region.chainB md ops n=true) (hn:n<ops.size) :
    ∀ (l:List Oper) (k:Nat) (listed:Array Bool) (a:Act),(∀ j,j<l.length→l[j]? = ops[k+j]?)→k+l.length=n→HeadInv md ops n listed →
    Region.lexHead md ops g l.length k listed=true→wpQuiet P ops C Lq l a→anyQL P md ops C n (fun listed' a'=>Region.seqB md ops g n listed'=true∧Lq a') l.length listed a
 | [],k,listed,a,_,hk,_,hB,h=>by
  have:k=n:=by simpa using hk
  subst this;exact ⟨by simpa [Region.lexHead] using hB,h⟩
 | o::l,k,listed,a,hl,hk,inv,hB,h=>by
  have h0:ops[k]? = some o:=by simpa using (hl 0 (by simp)).symm
  simp only [List.length_cons,Region.lexHead,Bool.and_eq_true] at hB;obtain ⟨⟨hr,hf⟩,hB'⟩:=hB;have hkn:k<n:=by simp only [List.length_cons] at hk; omega
  have hr':k ∈ Region.ready md ops listed:=by simpa using hr
  have hst:qOp P ops C k (wpQuiet P ops C Lq l) a:=by unfold qOp; simp only [h0]; exact h
  obtain ⟨v,hy,hK⟩:=yieldsIn_of_qOp h0 hst
  exact anyQL_first h0 (Region.noSelect_spec hsel) hs hc hn hkn (fun listed' a' hL=>seqB_ready hL.1) l.length listed a inv (Region.free_spec h0 hf) hr' hy
   (anyQL_lex hsel hs hc hn l (k+1) _ _ (fun j hj=>by have:=hl (j+1) (by simp; omega); simpa [Nat.add_assoc,Nat.add_comm 1 j] using this) (by simp only [List.length_cons] at hk; omega) (inv.set hr' hkn) hB' hK)
theorem region_quiet_tail {id:Nat} {Q:Exit→Act→World→Prop} {a:Act} {w:World} {l:List Oper} (n:Nat) (hm:P.follows .mixedOrders=true) (hB:Region.lexTailB .any l.toArray n=true) (hC:C { w with drawn:=w.drawn+1 })
    (h:wpQuiet P l.toArray C (fun a'=>∀ w',C w'→wpList P l.toArray Q (l.drop n) a' w') (l.take n) a):(Code.region id l.toArray true).wp P Q a w:=by
 simp only [Region.lexTailB,Bool.and_eq_true,decide_eq_true_eq] at hB;obtain ⟨⟨⟨⟨hsel,hn⟩,hs⟩,hc⟩,hlex⟩:=hB;have hn':n<l.length:=by simpa using hn
 have htl:(l.take n).length=n:=by simp; omega
 have hdl:(l.drop n).length=l.toArray.size - n:=by simp
 have inv0:HeadInv .any l.toArray n (Array.replicate l.toArray.size false) :=
  ⟨by simp,fun j oj _ hl=>(by rw [getD_replicate_false] at hl; cases hl),fun t _ ht=>getD_in (by simpa using ht) (getD_replicate_false _ _)⟩
 have H:=anyQL_lex (md:=.any) (g:=l.toArray.size - n) hsel hs hc hn (l.take n) 0 _ a (fun j hj=>by
  have hj':j<n:=by rw [htl] at hj; exact hj
  simp [hj']) (by simpa using htl) inv0 (by rw [htl]; exact hlex) h
 refine wp_region_any hm ?_
 have:=any_of_head (Q':=Q) (g:=l.toArray.size - n) (fun listed a' w' hw' hL=>by
  have:=wpAny_of_seq (md:=.any) (Q':=Q) (l.drop n) n listed a' w' (fun j=>by simp [List.getElem?_drop]) (by rw [hdl]; exact hL.1) (hL.2 w' hw')
  rwa [hdl] at this) _ _ _ _ hC H
 rw [htl,show n+(l.toArray.size - n)=l.toArray.size by omega] at this;exact this
theorem region_later_tail {id:Nat} {Q:Exit→Act→World→Prop} {a:Act} {w:World} {l:List Oper} (n:Nat) (hm:P.follows .mixedOrders=true) (hB:Region.lexTailB .any l.toArray n=true)
    (h:wpQuiet P l.toArray (fun w'=>∃ x:Later w,w'=x.at_) (fun a'=>∀ w',(∃ x:Later w,w'=x.at_)→wpList P l.toArray Q (l.drop n) a' w') (l.take n) a):(Code.region id l.toArray true).wp P Q a w :=
 region_quiet_tail n hm hB ⟨⟨{ w with drawn:=w.drawn+1 },⟨rfl,rfl,rfl,Nat.le_refl _,fun _ _=>rfl⟩⟩,rfl⟩ h
end Go.Proofs.YtecffghcpknmjaaGreatDoor
namespace Go.Proofs.YtecffghcpknmjaaGreatDoor
open Go Go.RowKit
theorem strC_lV (x:S):(strC x).length=1:=rfl
structure SF (B g cap N:Nat) (w0 W:World) (l:List S):Prop where
 len:l.length=N
 own:Owns B 9 1 strC W (.slice (some ⟨g,0,none⟩) l.length cap) l
 grown:w0.grownBy W (some g)
section
variable {B g cap N:Nat} {w0 W W':World} {l:List S}
theorem SF.cell (h:SF B g cap N w0 W l) {k:Nat} {x:S} (hk:l[k]? = some x):W.cell? ⟨g,k,none⟩=some (.string x)∧W.frozen? ⟨g,k,none⟩=false∧g<W.heap.size:=by
 obtain ⟨g',e,-,h2,h3,h4,h5,-⟩:=own_store strC_lV h.own hk (j:=0) (by decide);cases e
 rw [Nat.mul_one,Nat.add_zero] at h3 h4;exact ⟨h3,h4,h2⟩
theorem SF.set (h:SF B g cap N w0 W l) {k:Nat} {x:S} (hk:l[k]? = some x) (y:S):SF B g cap N w0 (W.setCell ⟨g,k,none⟩ (.string y)) (l.set k y):=by
 obtain ⟨g',e,-,h2,h3,h4,h5,h6⟩:=own_store strC_lV h.own hk (j:=0) (by decide);cases e
 have h7:=h6 (.string y) y rfl;rw [Nat.mul_one,Nat.add_zero] at h7;exact ⟨by rw [List.length_set]; exact h.len,by rw [List.length_set]; exact h7,h.grown.trans (setCell_grown _ _ _ _)⟩
theorem SF.drew (h:SF B g cap N w0 W l):SF B g cap N w0 W.drew l:=⟨h.len,h.own.below ⟨rfl,rfl,rfl,Nat.le_refl _,fun _ _=>rfl⟩,h.grown.trans ⟨rfl,rfl,rfl,Nat.le_refl _,fun _ _ _=>rfl⟩⟩
theorem SF.swap (h:SF B g cap N w0 W l) {i j:Nat} {x y:S} (hi:l[i]? = some x) (hj:l[j]? = some y) (hne:i≠j) :
    SF B g cap N w0 ((W.setCell ⟨g,i,none⟩ (.string y)).setCell ⟨g,j,none⟩ (.string x)).drew ((l.set i y).set j x) :=
 ((h.set hi y).set (x:=y) (by rw [List.getElem?_set_ne hne]; exact hj) x).drew
theorem SF.later (h:SF B g cap N w0 W l) (hb:Below W.heap.size W W'):SF B g cap N w0 W' l :=
 ⟨h.len,h.own.below hb,h.grown.trans ⟨hb.os,hb.tape,hb.output,hb.size,fun k hk _=>hb.block k hk⟩⟩
theorem SF.from (h:SF B g cap N w0 W l) {l':List S} (h':SF B g cap N W W' l'):SF B g cap N w0 W' l':=⟨h'.len,h'.own,h.grown.trans h'.grown⟩
end
theorem swap_mid {α:Type} (p:List α) (x:α) (y:List α) (z:α) (q:List α):((p ++ x::(y ++ z::q)).set p.length z).set (p.length+1+y.length) x=p ++ z::(y ++ x::q):=by
 rw [List.set_append_right _ _ (Nat.le_refl _),Nat.sub_self,List.set_cons_zero,List.set_append_right _ _ (by omega),show p.length+1+y.length - p.length=y.length+1 by omega,List.set_cons_succ,List.set_append_right _ _ (Nat.le_refl _),Nat.sub_self,List.set_cons_zero]
theorem at_mid {α:Type} (p:List α) (x:α) (q:List α) {k:Nat} (hk:k=p.length):(p ++ x::q)[k]? = some x:=by rw [hk,List.getElem?_append_right (Nat.le_refl _),Nat.sub_self]; rfl
theorem at_mid2 {α:Type} (p:List α) (x:α) (y:List α) (z:α) (q:List α) {k:Nat} (hk:k=p.length+1+y.length):(p ++ x::(y ++ z::q))[k]? = some z:=by
 rw [show p ++ x::(y ++ z::q)=(p ++ x::y) ++ z::q by simp];exact at_mid _ _ _ (by simp; omega)
set_option maxRecDepth 100000 in
set_option maxHeartbeats 4000000 in
theorem swapRange_any {B g cap N a b n:Nat} {w0:World} (cm:Value) (P X Y Z Q:List S) (hN:N≤1000000) (ha:a=P.length) (hx:X.length=n) (hz:Z.length=n) (hb:b=P.length+n+Y.length) (w:World) (h:SF B g cap N w0 w (P ++ (X ++ (Y ++ (Z ++ Q))))) :
    Calls Tryz.prog 154 #[.slice (some ⟨g,0,none⟩) N cap,.int .i64 a,.int .i64 b,.int .i64 n,cm] w fun e w'=>e = .returned (.tuple #[])∧SF B g cap N w0 w' (P ++ (Z ++ (Y ++ (X ++ Q)))):=by
 have hlen:=h.len;simp only [List.length_append] at hlen;have hlt:b+n≤N:=by omega
 have HA:=Lib.hid ha;have HB:=Lib.hid hb;have HX:=Lib.hid hx;have HZ:=Lib.hid hz;have hab:a+n≤b:=by omega
 have HS:=Lib.hid h;clear h hlen ha hb hx hz;go_enter Tryz.func154,Tryz.ntmps154
 go_wp2
 go_loopw [10] (fun vi wr=>∃ (i:Nat) (X1 X2 Z1 Z2:List S),vi = .int .i64 i∧i≤n∧Hid (X=X1 ++ X2)∧Hid (Z=Z1 ++ Z2)∧Hid (X1.length=i)∧Hid (Z1.length=i)∧Hid (SF B g cap N w0 wr (P ++ (Z1 ++ (X2 ++ (Y ++ (X1 ++ (Z2 ++ Q)))))))) (fun vi _=>n - (intOf vi).toNat)
 case atStart=>exact ⟨0,[],X,[],Z,rfl,Nat.zero_le _,rfl,rfl,rfl,rfl,(by show SF _ _ _ _ _ _ _; simpa using HS.out)⟩
 case round =>
  clear HS;obtain ⟨i,X1,X2,Z1,Z2,rfl,hi,HX2,HZ2,HX1,HZ1,HR⟩:=hrel;by_cases hlti:i<n
  · obtain ⟨x,X3,rfl⟩ : ∃ x X3,X2=x::X3:=by
     cases X2 with
     | nil=>have:=HX.out; rw [HX2.out] at this; have:=HX1.out; simp at *; omega
     | cons x X3=>exact ⟨x,X3,rfl⟩
    obtain ⟨z,Z3,rfl⟩ : ∃ z Z3,Z2=z::Z3:=by
     cases Z2 with
     | nil=>have:=HZ.out; rw [HZ2.out] at this; have:=HZ1.out; simp at *; omega
     | cons z Z3=>exact ⟨z,Z3,rfl⟩
    have HR':Hid (SF B g cap N w0 wr ((P ++ Z1) ++ x::((X3 ++ (Y ++ X1)) ++ z::(Z3 ++ Q)))):=by show SF _ _ _ _ _ _ _; have:=HR.out; simpa using this
    have hXl:X3.length+i+1=n:=by have:=HX.out; rw [HX2.out] at this; have:=HX1.out; simp at *; omega
    have hp1:Hid (a+i=(P ++ Z1).length):=by show _=_; have:=HA.out; have:=HZ1.out; simp at *; omega
    have hp2:Hid (b+i=(P ++ Z1).length+1+(X3 ++ (Y ++ X1)).length):=by show _=_; have:=HB.out; have:=HZ1.out; have:=HX1.out; simp at *; omega
    have g1:=at_mid (P ++ Z1) x ((X3 ++ (Y ++ X1)) ++ z::(Z3 ++ Q)) hp1.out;have g2:=at_mid2 (P ++ Z1) x (X3 ++ (Y ++ X1)) z (Z3 ++ Q) hp2.out;have c1:=(HR'.out.cell g1).1;have f1:=(HR'.out.cell g1).2.1;have c2:=(HR'.out.cell g2).1;have f2:=(HR'.out.cell g2).2.1
    have HS2:Hid (SF B g cap N w0 ((wr.setCell ⟨g,a+i,none⟩ (.string z)).setCell ⟨g,b+i,none⟩ (.string x)).drew (P ++ (Z1 ++ [z] ++ (X3 ++ (Y ++ (X1 ++ [x] ++ (Z3 ++ Q))))))):=by
     have:=HR'.out.swap g1 g2 (by omega)
     rw [hp1.out,hp2.out,swap_mid] at this;show SF _ _ _ _ _ _ _
     rw [hp1.out,hp2.out];simpa using this
    have c3:(wr.setCell ⟨g,a+i,none⟩ (.string z)).cell? ⟨g,b+i,none⟩=some (.string z):=by rw [World.cell?_setCell_other _ _ _ _ (by simp only [Addr.mk.injEq,not_and,ne_eq]; omega)]; exact c2
    clear g1 g2 HR HR' hXl hp1 hp2;have ra:IntKind.i64.wrap ((a:Int)+(i:Int))=(a:Int)+(i:Int):=IntWalk.i64_in _ (by omega);have rb:IntKind.i64.wrap ((b:Int)+(i:Int))=(b:Int)+(i:Int):=IntWalk.i64_in _ (by omega);have ri:IntKind.i64.wrap ((i:Int)+1)=(i:Int)+1:=IntWalk.i64_in _ (by omega);have pa:(0:Int)≤(a:Int)+(i:Int):=by omega
    have pb:(0:Int)≤(b:Int)+(i:Int):=by omega
    have la:(a:Int)+(i:Int)<(N:Int):=by omega
    have lb:(b:Int)+(i:Int)<(N:Int):=by omega
    have ta:((a:Int)+(i:Int)).toNat=a+i:=by omega
    have tb:((b:Int)+(i:Int)).toNat=b+i:=by omega
    go_wp2_with fail
    go_big_region
    clear c1 c2 c3 f1 f2;generalize ((wr.setCell ⟨g,a+i,none⟩ (.string z)).setCell ⟨g,b+i,none⟩ (.string x)).drew=w3 at *;go_wp2
    go_roundw
    case rel=>exact ⟨i+1,X1 ++ [x],X3,Z1 ++ [z],Z3,by go_num,hlti,by show _=_; rw [HX2.out]; simp,by show _=_; rw [HZ2.out]; simp,by show _=_; rw [List.length_append,HX1.out]; rfl,by show _=_; rw [List.length_append,HZ1.out]; rfl,by show SF _ _ _ _ _ _ _; simpa using HS2.out⟩
    case measure=>simp [intOf]; omega
  · obtain rfl:i=n:=by omega
    have hX2:X2=[]:=List.eq_nil_of_length_eq_zero (by have h1:=HX.out; have h2:=HX1.out; rw [show X=_ from HX2.out,List.length_append] at h1; change _=_ at h2; omega);have hZ2:Z2=[]:=List.eq_nil_of_length_eq_zero (by have h1:=HZ.out; have h2:=HZ1.out; rw [show Z=_ from HZ2.out,List.length_append] at h1; change _=_ at h2; omega)
    have HE:Hid (SF B g cap N w0 wr (P ++ (Z ++ (Y ++ (X ++ Q))))):=by
     show SF _ _ _ _ _ _ _
     have:=HR.out
     rw [HX2.out,HZ2.out,hX2,hZ2];rw [hX2,hZ2] at this;simpa using this
    clear HR HX2 HZ2 hX2 hZ2;go_wp2
    go_end0
    exact ⟨rfl,HE.out⟩
end Go.Proofs.YtecffghcpknmjaaGreatDoor
