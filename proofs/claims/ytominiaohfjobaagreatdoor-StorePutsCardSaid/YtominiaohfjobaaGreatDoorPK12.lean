/- The walk of the document's rank; the conditions stand in the theorem. -/
import Derived.Test.YtominiaohfjobaaGreatDoorPK11
import Derived.Test.YtominiaohfjobaaGreatDoorPK07
import Derived.LoopTactic
import Derived.Test.YtominiaohfjobaaGreatDoorPK08
import Derived.Deep.CutRange
import Derived.KernelRfl
import Derived.Laws.StructEq
import Derived.Test.YtominiaohfjobaaGreatDoorPK01
import Derived.StillTailTactics
import Derived.Test.YtominiaohfjobaaGreatDoorPK02
import Derived.Test.YtominiaohfjobaaGreatDoorProg
import Derived.BigRegion
import Derived.IntWalk
import Derived.Deep.QuietTactic
import Derived.BigQuiet
set_option maxRecDepth 100000
set_option maxHeartbeats 64000000
namespace Go.Proofs.YtominiaohfjobaaGreatDoor
open Go Go.RowKit
def jl:List Bs:=[np,rI,fQ,BS,pu,xz,B2]
theorem yi (hy:Bool) : ∀ (k:Nat) (t:Bs),jl[k]? = some t→t≠xz→aO ⟨hy,false,t⟩=k
 | 0,t,h,_=>by cases h; rfl
 | 1,t,h,_=>by cases h; rfl
 | 2,t,h,_=>by cases h; rfl
 | 3,t,h,_=>by cases h; rfl
 | 4,t,h,_=>by cases h; rfl
 | 5,t,h,g=>by cases h; exact absurd rfl g
 | 6,t,h,_=>by cases h; rfl
 | k+7,t,h,_=>by simp [jl] at h
theorem yh (hy:Bool) (t:Bs) (h0:t≠[]) (h : ∀ (j:Nat) (x:Bs),jl[j]? = some x→x≠t):aO ⟨hy,false,t⟩=7:=by
 have I:=h 0 _ rfl;have a1:=h 1 _ rfl;have a2:=h 2 _ rfl;have a3:=h 3 _ rfl;have D:=h 4 _ rfl;have A:=h 6 _ rfl;unfold aO kq;simp [List.findIdx?_cons,Ne.symm I,Ne.symm a1,Ne.symm a2,Ne.symm a3,Ne.symm D,Ne.symm A,h0]
theorem dG (t:Bs):(bs t).toList=t:=by rw [ByteArray.toList_eq]; simp [bs]
def th:List Value:=jl.map fun t=>.string (bs t)
theorem mw (p:aM) (I:p.number=false→p.text≠xz) (w:World):Calls Tryz.prog 33 #[.agg (br p).toArray] w fun e w'=>e = .returned (.int .i64 (aO p))∧Below w.heap.size w w':=by
 obtain ⟨hy,nm,t⟩:=p;simp only at I;have he:((bs t).toList == [])=t.isEmpty:=by rw [dG]; cases t <;> rfl
 have U:(bs t).toList.isEmpty=t.isEmpty:=by rw [dG]
 cases D:t.isEmpty with
 | true =>
  have h0:t=[]:=List.isEmpty_iff.1 D
  have J:Hid (aO ⟨hy,nm,t⟩=5):=by
   show _=_
   subst h0;cases nm <;> rfl
  rw [D] at he U;rw [J.out];clear J D h0 I;unfold br;go_enter Tryz.func33,Tryz.ntmps33
  go_wp2
  go_ret
  exact ⟨rfl,(Below.refl _ _).alloc (Nat.le_refl _) _⟩
 | false =>
  have h0:t≠[]:=fun e=>by rw [e] at D; cases D
  rw [D] at he U;cases nm with
  | true =>
   have J:Hid (aO ⟨hy,true,t⟩=if hy then 8 else 9):=by show _=_; unfold aO; simp only [if_true]; rw [if_neg (by rw [D]; simp)]
   rw [J.out];clear J D h0 I;unfold br;cases hy
   all_goals
    go_enter Tryz.func33,Tryz.ntmps33
    go_wp2
    go_ret
    exact ⟨rfl,(Below.refl _ _).alloc (Nat.le_refl _) _⟩
  | false =>
   have a7:Hid (∀ (k:Nat) (x:Bs),jl[k]? = some x→x=t→aO ⟨hy,false,t⟩=k):=fun k x h e=>by subst e; exact yi hy k _ h (I rfl)
   have a4:Hid ((∀ (j:Nat) (x:Bs),jl[j]? = some x→x≠t)→aO ⟨hy,false,t⟩=7):=fun h=>yh hy t h0 h;generalize aO ⟨hy,false,t⟩=R at *;clear D h0 I;unfold br;go_enter Tryz.func33,Tryz.ntmps33
   go_upto_region 5 with fail
   refine ai fun W O=>?_
   have x1:ak W w.heap.size [.bool true,.bool hy,.string (bs t)]:=by rw [O]; exact (ak.new w [.bool true,.bool hy,.string (bs t)] _ _ rfl).alloc _
   have Z:ak W (w.heap.size+1) th:=by rw [O]; exact ak.new _ th _ _ (by simp)
   have hb:Below w.heap.size w W:=by rw [O]; exact ((Below.refl _ w).alloc (Nat.le_refl _) _).alloc (by simp) _
   clear O;have HY:=zH Z;have HB:=zH hb;have x2:=x1.cell 2 _ rfl;have xl:=x1.lt;have yl:=Z.lt;clear x1 Z hb;go_wp2
   go_loopw [14] (fun i wr=>∃ k:Nat,i = .int .i64 k∧k≤7∧W=wr∧Hid (∀ (j:Nat) (x:Bs),j<k→jl[j]? = some x→x≠t)) (fun i _=>7 - (intOf i).toNat)
   case atStart=>exact ⟨0,rfl,Nat.zero_le _,rfl,fun j x h=>by omega⟩
   case round =>
    obtain ⟨k,rfl,hk,rfl,HN⟩:=hrel;by_cases hlt:k<7
    · have d1:(k:Int)<7:=by omega
      obtain ⟨x,hx⟩ : ∃ x,jl[k]? = some x:=⟨_,List.getElem?_eq_getElem (by exact hlt)⟩;have c1:=HY.out.cell k (.string (bs x)) (by unfold th; rw [List.getElem?_map,hx]; rfl)
      have hq:((bs t).toList == (bs x).toList)=decide (x=t):=by
       rw [dG,dG];by_cases e:x=t
       · rw [decide_eq_true e,beq_iff_eq]; exact e.symm
       · rw [decide_eq_false e,beq_eq_false_iff_ne]; exact fun h=>e h.symm
      have HX:=zH hx;have wk:IntKind.i64.wrap ((k:Int)+1)=(k:Int)+1:=IntWalk.i64_in _ (by omega);clear hx;by_cases A:x=t
      · rw [decide_eq_true A] at hq
        have HR:=zH (a7.out k x HX.out A);clear A;go_wp2
        go_ret
        exact ⟨by rw [HR.out]; rfl,HB.out⟩
      · rw [decide_eq_false A] at hq
        have al:=zH A;clear A;go_wp2
        go_roundw
        case rel =>
         refine ⟨k+1,by first | rfl | go_num,hlt,(by trivial),fun j y hj hy=>?_⟩
         by_cases ag:j=k
         · subst ag; rw [HX.out] at hy; cases hy; exact al.out
         · exact HN.out j y (by omega) hy
        case measure=>simp [intOf]; omega
    · have d1 : ¬ (k:Int)<7:=by omega
      have HR:Hid (R=7):=a4.out fun j x hx=>HN.out j x (by have:=(List.getElem?_eq_some_iff.1 hx).1; change j<7 at this; omega) hx;go_wp2
      go_ret
      exact ⟨by rw [HR.out]; try rfl,HB.out⟩
theorem oI : ∀ l m:Bs,Op.bytesLess l m=decide (Lib.compareBytes l m = -1)
 | [],[]=>rfl
 | [],_::_=>rfl
 | _::_,[]=>rfl
 | x::l,y::m=>by
  simp only [Op.bytesLess,Lib.compareBytes];by_cases h1:x<y
  · simp [h1]
  · by_cases h2:y<x
    · have h3 : ¬ x=y:=by intro e; subst e; exact h1 h2
      simp [h1,h2,h3]
    · have:x=y:=by rw [UInt8.lt_iff_toNat_lt] at h1 h2; exact UInt8.toNat_inj.1 (by omega)
      subst this;simp [oI l m]
theorem AM (p q:aM) (h:aO p≠aO q):fm p q=if aO p<aO q then -1 else 1:=by
 unfold fm fd;by_cases h1:aO p<aO q
 · simp [h1]
 · have h2:aO q<aO p:=by omega
   simp [h1,h2]
theorem eX (a:Int):fd a a=0:=by unfold fd; simp
theorem AN (p q:aM) (h:aO p=aO q) (A:aO p<7):fm p q=0:=by
 unfold fm;rw [h,eX,if_neg (by simp),if_neg (by omega),if_neg (by omega)]
theorem AO (p q:aM) (h:aO p=aO q) (A:p.text=q.text):fm p q=0:=by
 unfold fm;rw [h,eX,if_neg (by simp),A,eX,ip];simp
theorem zd (p q:aM) (h:aO p=aO q) (A:7<aO p) (D:p.text.length≠q.text.length):fm p q=if p.text.length<q.text.length then -1 else 1:=by
 unfold fm;rw [h] at A;rw [h,eX,if_neg (by simp),if_neg (by omega),if_pos A];unfold fd;by_cases h1:p.text.length<q.text.length
 · simp [h1]
 · have h2:q.text.length<p.text.length:=by omega
   simp [h1,h2]
theorem zb (p q:aM) (h:aO p=aO q) (O:7≤aO p) (I:7<aO p→p.text.length=q.text.length) (D:p.text≠q.text):fm p q=if Op.bytesLess p.text q.text=true then -1 else 1:=by
 have J:fm p q=Lib.compareBytes p.text q.text:=by
  unfold fm;by_cases A:7<aO p
  · rw [I A,eX]; rw [h] at A; rw [h,eX,if_neg (by simp),if_neg (by omega),if_pos A,if_neg (by simp)]
  · have:aO q=7:=by omega
    rw [h,eX,if_neg (by simp),if_pos this]
 rw [J,oI];rcases gf p.text q.text with e | e | e
 · rw [e]; rfl
 · exact absurd (jW e) D
 · rw [e]; rfl
theorem zo {T:Bs} {k:Nat}:(gS (aL T) k).number=false→(gS (aL T) k).text≠xz:=by
 unfold gS;cases h:(aL T)[k]? with
 | none=>intro h2; cases h2
 | some p=>exact wm (List.mem_of_getElem? h)
theorem se (p:aM):aO p≤9:=by
 unfold aO;split
 · split
   · omega
   · split <;> omega
 · cases h:kq.findIdx? (fun w=>decide (p.text=w)) with
   | none=>simp
   | some i=>have:=(List.findIdx?_eq_some_iff_findIdx_eq.1 h).1; change i<7 at this; simp; omega
def gk:Prop:=∀ (s:S) (w:World),s.size≤900000→Calls Tryz.prog 32 #[.string s] w fun e w'=>∃ v,e = .returned v∧aj w.heap.size 98 3 br w' v (aL s.data.toList)∧Below w.heap.size w w'
theorem nD (eg:gk) (a b:S) (w:World) (ha:a.size≤900000) (hb:b.size≤900000):Calls Tryz.prog 18 #[.string a,.string b] w fun e w'=>e = .returned (.int .i64 (bC a.data.toList b.data.toList))∧Below w.heap.size w w':=by
 have ga:=zH (eg a w ha);have fz:Hid (∀ W,Calls Tryz.prog 32 #[.string b] W fun e w'=>∃ v,e = .returned v∧aj W.heap.size 98 3 br w' v (aL b.data.toList)∧Below W.heap.size W w'):=fun W=>eg b W hb;have hM:Hid ((aL a.data.toList).length≤1000000):=iz a ha;have hL:Hid ((aL b.data.toList).length≤1000000):=iz b hb;have A:Hid (bC a.data.toList b.data.toList=cR (aL a.data.toList) (aL b.data.toList) (max (aL a.data.toList).length (aL b.data.toList).length) 0):=rfl;have hP:Hid (∀ k,(gS (aL a.data.toList) k).number=false→(gS (aL a.data.toList) k).text≠xz):=fun _=>zo;have hO:Hid (∀ k,(gS (aL b.data.toList) k).number=false→(gS (aL b.data.toList) k).text≠xz):=fun _=>zo;clear ha hb eg;go_enter Tryz.func18,Tryz.ntmps18
 go_wp2_with fail
 refine ga.out.mono ?_
 rintro e w1 ⟨v1,rfl,d6,e7⟩;obtain ⟨ao,ac,rfl⟩:=d6.shape;have e9:=zH (d6.slice bI);have eU:=zH e7;clear d6 e7 ga;go_wp2_with fail
 refine (fz.out w1).mono ?_
 rintro e w2 ⟨v2,rfl,d5,d8⟩;obtain ⟨bo,bc,rfl⟩:=d5.shape;have e8:=zH (d5.slice bI);have hJ:=zH (e9.out.below d8);have O:=zH (eU.out.trans (d8.mono eU.out.size));clear d5 d8 fz e9 eU;generalize aL a.data.toList=l at *;generalize aL b.data.toList=m at *;obtain ⟨N,hN⟩ : ∃ N:Nat,N=max l.length m.length:=⟨_,rfl⟩;have g4:=zH hN;have hK:Hid (N≤1000000):=by have:=hM.out; have:=hL.out; show _≤_; omega
 rw [← hN] at A;clear hN;go_wp2
 go_loopw [7] (fun i wr=>∃ k:Nat,i = .int .i64 k∧k≤N∧Hid (Below w2.heap.size w2 wr)∧Hid (bC a.data.toList b.data.toList=cR l m (N - k) k)) (fun i _=>N - (intOf i).toNat)
 case atStart=>exact ⟨0,rfl,Nat.zero_le _,Below.refl _ _,A⟩
 case round =>
  clear A;obtain ⟨k,rfl,hk,HB,HC⟩:=hrel;obtain ⟨qa,d4⟩ : ∃ q:Bool,decide (k<l.length)=q:=⟨_,rfl⟩;obtain ⟨qb,d3⟩ : ∃ q:Bool,decide (k<m.length)=q:=⟨_,rfl⟩;have hg:decide ((k:Int)<(l.length:Int))=qa:=by rw [← d4]; congr 1; rw [eq_iff_iff]; omega
  have hd:decide ((k:Int)<(m.length:Int))=qb:=by rw [← d3]; congr 1; rw [eq_iff_iff]; omega
  have bg:=zH d4;have bb:=zH d3;go_upto_region 3 with fail
  go_cut [23] from 14 to 22 (fun x wx=>x = .bool (qa || qb)∧wr=wx)
  case first =>
   cases qa
   · cases qb
     · go_wp2
       go_meet
       case rel=>exact ⟨rfl,rfl⟩
     · go_wp2
       go_meet
       case rel=>exact ⟨rfl,rfl⟩
   · go_wp2
     go_meet
     case rel=>exact ⟨rfl,rfl⟩
  case rest =>
  obtain ⟨rfl,rfl⟩:=hcut;by_cases hlt:k<N
  · have d7:(qa || qb)=true:=by
     have h1:=bg.out; have h2:=bb.out; have h3:=g4.out;change _=_ at h1; change _=_ at h2; change _=_ at h3
     rw [← h1,← h2,Bool.or_eq_true,decide_eq_true_iff,decide_eq_true_iff]; omega
    have wk:IntKind.i64.wrap ((k:Int)+1)=(k:Int)+1:=IntWalk.i64_in _ (by have:=hK.out; omega)
    have aa:Hid (bC a.data.toList b.data.toList=if fm (gS l k) (gS m k)≠0 then fm (gS l k) (gS m k) else cR l m (N - (k+1)) (k+1)):=by
     show _=_
     rw [HC.out,show N - k=(N - (k+1))+1 by omega]; rfl
    have g7:Hid (∀ (h:k<l.length),gS l k=l[k]):=fun h=>by unfold gS; rw [List.getElem?_eq_getElem h]; rfl
    have g6:Hid (∀ (h:k<m.length),gS m k=m[k]):=fun h=>by unfold gS; rw [List.getElem?_eq_getElem h]; rfl
    have g1:Hid (¬ k<l.length→gS l k=lu):=fun h=>ni (by omega);have g0:Hid (¬ k<m.length→gS m k=lu):=fun h=>ni (by omega);clear HC;have dk:Hid (∀ W,Calls Tryz.prog 33 #[.agg (br (gS l k)).toArray] W fun e w'=>e = .returned (.int .i64 (aO (gS l k)))∧Below W.heap.size W w'):=fun W=>mw _ (hP.out k) W;have fv:Hid (∀ W,Calls Tryz.prog 33 #[.agg (br (gS m k)).toArray] W fun e w'=>e = .returned (.int .i64 (aO (gS m k)))∧Below W.heap.size W w'):=fun W=>mw _ (hO.out k) W;have dg:=zH (hJ.out.below HB.out);have b9:=zH (e8.out.below HB.out);generalize hG:gS l k=x at *;generalize hF:gS m k=y at *;have bl:=AM x y;have en:=AN x y;have em:=AO x y;have el:=zd x y;have ei:=zb x y;have hX:=se x;have hV:=se y;generalize hC:fm x y=cv at *;generalize aO x=rx at *;generalize aO y=ry at *;replace bl:=zH bl;replace en:=zH en;replace em:=zH em;replace el:=zH el;replace ei:=zH ei;clear hG hF hC;rw [d7];go_upto_region 6 with fail
    refine ai fun W hW=>?_
    obtain ⟨B,hB⟩ : ∃ B,wr.heap.size=B:=⟨_,rfl⟩;have J:Hid (ak W B [.bool false,.bool false,.string ⟨#[]⟩]):=by show ak _ _ _; rw [hW]; exact (ak.new wr [.bool false,.bool false,.string ⟨#[]⟩] _ _ hB).alloc _
    have I:Hid (ak W (B+1) [.bool false,.bool false,.string ⟨#[]⟩]):=by show ak _ _ _; rw [hW]; exact ak.new _ [.bool false,.bool false,.string ⟨#[]⟩] _ _ (by simp [hB])
    have cT:Below wr.heap.size wr W:=by rw [hW]; exact ((Below.refl _ wr).alloc (Nat.le_refl _) _).alloc (by simp) _
    have D:Hid (Below w2.heap.size w2 W):=HB.out.trans (cT.mono HB.out.size);have g5:Hid (w2.heap.size≤B):=by show _≤_; rw [← hB]; exact HB.out.size
    replace dg:=zH (dg.out.below cT);replace b9:=zH (b9.out.below cT);rw [hB];clear hW cT hB HB;go_upto_if 31 with fail
    go_cut [] from 32 to 35 (fun wx=>Hid (ak wx B (br x)∧ak wx (B+1) [.bool false,.bool false,.string ⟨#[]⟩]∧Below w2.heap.size w2 wx))
    case first =>
     cases qa with
     | true =>
      obtain ⟨b',o,d9,hE,hc⟩:=dg.out.at (show k<l.length from of_decide_eq_true bg.out);cases d9
      rw [← g7.out (of_decide_eq_true bg.out)] at hc;have c0:=hc 0 _ rfl;have c1:=hc 1 _ rfl;have c2:=hc 2 _ rfl;rw [Nat.add_zero] at c0;have hA:(k:Int)<(l.length:Int):=by have:=of_decide_eq_true bg.out; omega
      clear hc;go_wp2_with ((with_reducible show wpList _ _ _ (Oper.mk none (Op.store 98 (.tmp 8) (.tmp 35)) _ _ _ _::_) _ _); refine bn rfl 98 (.tmp 8) (.tmp 35) rfl B _ (br x) rfl rfl J.out rfl (by kernel_rfl) (fZ x) ?_; intro W7 v7 b8; have a7:Hid (ak W7 B (br x)∧ak W7 (B+1) [.bool false,.bool false,.string ⟨#[]⟩]∧Below w2.heap.size w2 W7):=⟨v7,I.out.grown b8 (by simp),D.out.grown b8 D.out.size (fun j hj=>by cases hj; exact g5.out)⟩)
      go_meet
      case rel=>exact a7
     | false =>
      have hx:x=lu:=g1.out (of_decide_eq_false bg.out)
      have a7:Hid (ak W B (br x)∧ak W (B+1) [.bool false,.bool false,.string ⟨#[]⟩]∧Below w2.heap.size w2 W):=by
       refine ⟨?_,I.out,D.out⟩
       rw [hx]; exact J.out
      clear hx;go_wp2
      go_meet
      case rel=>exact a7
    case rest =>
    have J:=zH hcut.out.1;have I:=zH hcut.out.2.1;have D:=zH hcut.out.2.2;clear hcut;replace b9:Hid (af 3 br wc (.slice bo m.length bc) m):=e8.out.below D.out;clear dg;generalize wc=W4 at *;go_upto_if 39 with fail
    go_cut [] from 40 to 43 (fun wx=>Hid (ak wx B (br x)∧ak wx (B+1) (br y)∧Below w2.heap.size w2 wx))
    case first =>
     cases qb with
     | true =>
      obtain ⟨b',o,d9,hE,hc⟩:=b9.out.at (show k<m.length from of_decide_eq_true bb.out);cases d9
      rw [← g6.out (of_decide_eq_true bb.out)] at hc;have c0:=hc 0 _ rfl;have c1:=hc 1 _ rfl;have c2:=hc 2 _ rfl;rw [Nat.add_zero] at c0;have hA:(k:Int)<(m.length:Int):=by have:=of_decide_eq_true bb.out; omega
      clear hc;go_wp2_with ((with_reducible show wpList _ _ _ (Oper.mk none (Op.store 98 (.tmp 9) (.tmp 43)) _ _ _ _::_) _ _); refine bn rfl 98 (.tmp 9) (.tmp 43) rfl (B+1) _ (br y) rfl rfl I.out rfl (by kernel_rfl) (fZ y) ?_; intro W7 v7 b8; have a7:Hid (ak W7 B (br x)∧ak W7 (B+1) (br y)∧Below w2.heap.size w2 W7):=⟨J.out.grown b8 (by simp),v7,D.out.grown b8 D.out.size (fun j hj=>by cases hj; exact Nat.le_succ_of_le g5.out)⟩)
      go_meet
      case rel=>exact a7
     | false =>
      have hx:y=lu:=g0.out (of_decide_eq_false bb.out)
      have a7:Hid (ak W4 B (br x)∧ak W4 (B+1) (br y)∧Below w2.heap.size w2 W4):=by
       refine ⟨J.out,?_,D.out⟩
       rw [hx]; exact I.out
      clear hx;go_wp2
      go_meet
      case rel=>exact a7
    case rest =>
    have J:=zH hcut.out.1;have I:=zH hcut.out.2.1;have D:=zH hcut.out.2.2;clear hcut;clear b9 g7 g6 g1 g0 hg hd d4 d3;generalize wc=W5 at *;obtain ⟨x0,x1,x2⟩:=ej J.out;have xl:=J.out.lt;obtain ⟨y0,y1,y2⟩:=ej I.out;have yl:=I.out.lt;have ed:=@aJ.cells W5;have cm:Hid (∀ z:aJ W5,Calls Tryz.prog 33 #[.agg #[.bool (!x.number),.bool x.hyphen,.string (bs x.text)]] z.at_ fun e a4=>e = .returned (.int .i64 rx) ∧ ∃ u:aJ W5,a4=u.at_):=fun z=>aJ.call (dk.out _);have cf:Hid (∀ z:aJ W5,Calls Tryz.prog 33 #[.agg #[.bool (!y.number),.bool y.hyphen,.string (bs y.text)]] z.at_ fun e a4=>e = .returned (.int .i64 ry) ∧ ∃ u:aJ W5,a4=u.at_):=fun z=>aJ.call (fv.out _);go_upto_region 10 with fail
    refine cG (by kernel_rfl) (by kernel_rfl) ?_
    repeat (go_big_quiet_step ((go_at_call 33; first | (with_reducible exact cm.out _) | (with_reducible exact cf.out _))))
    refine wpQuiet_nil ?_
    rintro _ ⟨nx,rfl⟩;have ag:=zH (J.out.below nx.below J.out.lt);have ad:=zH (I.out.below nx.below I.out.lt);have ah:=zH (D.out.trans (nx.below.mono D.out.size));clear ed cm cf x0 x1 x2 xl y0 y1 y2 yl J I D;have J:=ag;have I:=ad;have D:=ah;clear ag ad ah;generalize nx.at_=W6 at *;by_cases a8:rx=ry
    · have e1:((rx:Int) == (ry:Int))=true:=by rw [beq_iff_eq]; omega
      have hH:(rx == ry)=true:=by rw [beq_iff_eq]; exact a8
      have dl:=zH a8;clear a8;obtain ⟨x0,x1,x2⟩:=ej J.out;have xl:=J.out.lt;obtain ⟨y0,y1,y2⟩:=ej I.out;have yl:=I.out.lt;have gv:Hid (Calls Tryz.prog 33 #[.agg #[.bool (!x.number),.bool x.hyphen,.string (bs x.text)]] W6 fun e w'=>e = .returned (.int .i64 rx)∧Below W6.heap.size W6 w'):=dk.out W6;go_wp2_with fail
      refine gv.out.mono ?_
      rintro e wq ⟨rfl,a6⟩;have ag:=zH (J.out.below a6 J.out.lt);have ad:=zH (I.out.below a6 I.out.lt);have ah:=zH (D.out.trans (a6.mono D.out.size));clear gv x0 x1 x2 xl y0 y1 y2 yl J I D;have J:=ag;have I:=ad;have D:=ah;clear ag ad ah;generalize wq=W7 at *;by_cases h7:rx<7
      · have d1:decide ((rx:Int)<7)=true:=decide_eq_true (by omega)
        have c9:decide (rx<7)=true:=decide_eq_true h7;have c8:(rx:Int)<7:=by omega
        have ex:Hid (bC a.data.toList b.data.toList=cR l m (N - (k+1)) (k+1)):=by show _=_; rw [aa.out,if_neg (by rw [en.out dl.out h7]; simp)]
        clear aa;go_wp2
        go_roundw
        case rel=>exact ⟨k+1,by first | rfl | go_num,hlt,D,ex⟩
        case measure=>simp [intOf]; omega
      · have d1:decide ((rx:Int)<7)=false:=decide_eq_false (by omega)
        have c9:decide (rx<7)=false:=decide_eq_false h7;have c8 : ¬ (rx:Int)<7:=by omega
        obtain ⟨x0,x1,x2⟩:=ej J.out;have xl:=J.out.lt;obtain ⟨y0,y1,y2⟩:=ej I.out;have yl:=I.out.lt;by_cases ht:x.text=y.text
        · have q1:((bs x.text).toList == (bs y.text).toList)=true:=by rw [ht,beq_iff_eq]
          have ex:Hid (bC a.data.toList b.data.toList=cR l m (N - (k+1)) (k+1)):=by show _=_; rw [aa.out,if_neg (by rw [em.out dl.out ht]; simp)]
          clear aa ht;go_wp2
          go_roundw
          case rel=>exact ⟨k+1,by first | rfl | go_num,hlt,D,ex⟩
          case measure=>simp [intOf]; omega
        · have q1:((bs x.text).toList == (bs y.text).toList)=false:=by rw [dG,dG,beq_eq_false_iff_ne]; exact ht
          have HT:=zH ht;clear ht;have gc:Hid (Calls Tryz.prog 33 #[.agg #[.bool (!x.number),.bool x.hyphen,.string (bs x.text)]] W7 fun e w'=>e = .returned (.int .i64 rx)∧Below W7.heap.size W7 w'):=dk.out W7;go_wp2_with fail
          refine gc.out.mono ?_
          rintro e wq ⟨rfl,a6⟩;clear q1 d1 c9 c8;have ag:=zH (J.out.below a6 J.out.lt);have ad:=zH (I.out.below a6 I.out.lt);have ah:=zH (D.out.trans (a6.mono D.out.size));clear gc x0 x1 x2 xl y0 y1 y2 yl J I D;have J:=ag;have I:=ad;have D:=ah;clear ag ad ah;generalize wq=W8 at *;obtain ⟨x0,x1,x2⟩:=ej J.out;have xl:=J.out.lt;obtain ⟨y0,y1,y2⟩:=ej I.out;have yl:=I.out.lt;have ba:Hid ((∀ W,W=W8→7<rx→x.text.length=y.text.length)→cv=if Op.bytesLess x.text y.text=true then -1 else 1):=fun h=>ei.out dl.out (by omega) (h W8 rfl) HT.out;by_cases h8:7<rx
          · have d1:decide ((7:Int)<(rx:Int))=true:=decide_eq_true (by omega)
            have c9:decide (7<rx)=true:=decide_eq_true h8;have c8:(7:Int)<(rx:Int):=by omega
            by_cases hl:x.text.length=y.text.length
            · have q2:(((bs x.text).size:Int) == ((bs y.text).size:Int))=true:=by rw [ax,ax,beq_iff_eq]; omega
              have hw:((bs x.text).size == (bs y.text).size)=true:=by rw [ax,ax,beq_iff_eq]; exact hl
              have Z:=zH (ba.out fun _ _ _=>hl);clear hl;have q4:Op.bytesLess (bs x.text).toList (bs y.text).toList=Op.bytesLess x.text y.text:=by rw [dG,dG]
              cases U:Op.bytesLess x.text y.text with
              | true =>
               rw [U] at q4;have A:Hid (cv = -1):=by show _=_; rw [Z.out,U]; rfl
               clear Z U ba
               have HZ:Hid (bC a.data.toList b.data.toList = -1):=by
                show _=_
                rw [aa.out,if_pos (by rw [A.out]; decide),A.out]
               clear A;go_wp2
               go_ret
               exact ⟨by rw [HZ.out]; rfl,O.out.trans (D.out.mono O.out.size)⟩
              | false =>
               rw [U] at q4;have A:Hid (cv=1):=by show _=_; rw [Z.out,U]; rfl
               clear Z U ba
               have HZ:Hid (bC a.data.toList b.data.toList=1):=by
                show _=_
                rw [aa.out,if_pos (by rw [A.out]; decide),A.out]
               clear A;go_wp2
               go_ret
               exact ⟨by rw [HZ.out]; rfl,O.out.trans (D.out.mono O.out.size)⟩
            · have q2:(((bs x.text).size:Int) == ((bs y.text).size:Int))=false:=by rw [ax,ax,beq_eq_false_iff_ne]; omega
              have hw:((bs x.text).size == (bs y.text).size)=false:=by rw [ax,ax,beq_eq_false_iff_ne]; exact hl
              have Z:=zH (el.out dl.out h8 hl);clear hl;by_cases a9:x.text.length<y.text.length
              · have q3:((bs x.text).size:Int)<((bs y.text).size:Int):=by rw [ax,ax]; omega
                have hv:(bs x.text).size<(bs y.text).size:=by rw [ax,ax]; exact a9
                have A:Hid (cv = -1):=by show _=_; rw [Z.out,if_pos a9]
                clear a9
                have HZ:Hid (bC a.data.toList b.data.toList = -1):=by
                 show _=_
                 rw [aa.out,if_pos (by rw [A.out]; decide),A.out]
                clear A;go_wp2
                go_ret
                exact ⟨by rw [HZ.out]; rfl,O.out.trans (D.out.mono O.out.size)⟩
              · have q3 : ¬ ((bs x.text).size:Int)<((bs y.text).size:Int):=by rw [ax,ax]; omega
                have hv : ¬ (bs x.text).size<(bs y.text).size:=by rw [ax,ax]; exact a9
                have A:Hid (cv=1):=by show _=_; rw [Z.out,if_neg a9]
                clear a9
                have HZ:Hid (bC a.data.toList b.data.toList=1):=by
                 show _=_
                 rw [aa.out,if_pos (by rw [A.out]; decide),A.out]
                clear A;go_wp2
                go_ret
                exact ⟨by rw [HZ.out]; rfl,O.out.trans (D.out.mono O.out.size)⟩
          · have d1:decide ((7:Int)<(rx:Int))=false:=decide_eq_false (by omega)
            have c9:decide (7<rx)=false:=decide_eq_false h8;have c8 : ¬ (7:Int)<(rx:Int):=by omega
            have Z:=zH (ba.out fun _ _ h=>absurd h h8);have q4:Op.bytesLess (bs x.text).toList (bs y.text).toList=Op.bytesLess x.text y.text:=by rw [dG,dG]
            cases U:Op.bytesLess x.text y.text with
            | true =>
             rw [U] at q4;have A:Hid (cv = -1):=by show _=_; rw [Z.out,U]; rfl
             clear Z U ba
             have HZ:Hid (bC a.data.toList b.data.toList = -1):=by
              show _=_
              rw [aa.out,if_pos (by rw [A.out]; decide),A.out]
             clear A;go_wp2
             go_ret
             exact ⟨by rw [HZ.out]; rfl,O.out.trans (D.out.mono O.out.size)⟩
            | false =>
             rw [U] at q4;have A:Hid (cv=1):=by show _=_; rw [Z.out,U]; rfl
             clear Z U ba
             have HZ:Hid (bC a.data.toList b.data.toList=1):=by
              show _=_
              rw [aa.out,if_pos (by rw [A.out]; decide),A.out]
             clear A;go_wp2
             go_ret
             exact ⟨by rw [HZ.out]; rfl,O.out.trans (D.out.mono O.out.size)⟩
    · have e1:((rx:Int) == (ry:Int))=false:=by rw [beq_eq_false_iff_ne]; omega
      have hH:(rx == ry)=false:=by rw [beq_eq_false_iff_ne]; exact a8
      replace bl:=zH (bl.out a8);clear a8;obtain ⟨x0,x1,x2⟩:=ej J.out;have xl:=J.out.lt;obtain ⟨y0,y1,y2⟩:=ej I.out;have yl:=I.out.lt;have ed:=@aJ.cells W6;have cm:Hid (∀ z:aJ W6,Calls Tryz.prog 33 #[.agg #[.bool (!x.number),.bool x.hyphen,.string (bs x.text)]] z.at_ fun e a4=>e = .returned (.int .i64 rx) ∧ ∃ u:aJ W6,a4=u.at_):=fun z=>aJ.call (dk.out _);have cf:Hid (∀ z:aJ W6,Calls Tryz.prog 33 #[.agg #[.bool (!y.number),.bool y.hyphen,.string (bs y.text)]] z.at_ fun e a4=>e = .returned (.int .i64 ry) ∧ ∃ u:aJ W6,a4=u.at_):=fun z=>aJ.call (fv.out _);go_upto_region 11 with fail
      refine cG (by kernel_rfl) (by kernel_rfl) ?_
      repeat (go_big_quiet_step ((go_at_call 33; first | (with_reducible exact cm.out _) | (with_reducible exact cf.out _))))
      refine wpQuiet_nil ?_
      rintro _ ⟨nx,rfl⟩;have ag:=zH (J.out.below nx.below J.out.lt);have ad:=zH (I.out.below nx.below I.out.lt);have ah:=zH (D.out.trans (nx.below.mono D.out.size));clear ed cm cf x0 x1 x2 xl y0 y1 y2 yl J I D;have J:=ag;have I:=ad;have D:=ah;clear ag ad ah;generalize nx.at_=W7 at *;by_cases e6:rx<ry
      · have d1:(rx:Int)<(ry:Int):=by omega
        have A:Hid (cv = -1):=by show _=_; rw [bl.out,if_pos e6]
        have HZ:Hid (bC a.data.toList b.data.toList = -1):=by
         show _=_
         rw [aa.out,if_pos (by rw [A.out]; decide),A.out]
        clear A;go_wp2
        go_ret
        exact ⟨by rw [HZ.out]; rfl,O.out.trans (D.out.mono O.out.size)⟩
      · have d1 : ¬ (rx:Int)<(ry:Int):=by omega
        have A:Hid (cv=1):=by show _=_; rw [bl.out,if_neg e6]
        have HZ:Hid (bC a.data.toList b.data.toList=1):=by
         show _=_
         rw [aa.out,if_pos (by rw [A.out]; decide),A.out]
        clear A;go_wp2
        go_ret
        exact ⟨by rw [HZ.out]; rfl,O.out.trans (D.out.mono O.out.size)⟩
  · obtain rfl:k=N:=by omega
    have d7:(qa || qb)=false:=by
     have h1:=bg.out; have h2:=bb.out; have h3:=g4.out;change _=_ at h1; change _=_ at h2; change _=_ at h3
     rw [← h1,← h2,Bool.or_eq_false_iff,decide_eq_false_iff_not,decide_eq_false_iff_not]; omega
    have hR:Hid (bC a.data.toList b.data.toList=0):=by show _=_; rw [HC.out,Nat.sub_self]; rfl
    clear HC;rw [d7];go_wp2
    go_ret
    exact ⟨by rw [hR.out]; rfl,O.out.trans (HB.out.mono O.out.size)⟩
theorem jn (a b:S):(a.toList == b.toList)=decide (a=b):=by
 rw [Bool.eq_iff_iff,beq_iff_eq,decide_eq_true_iff,ByteArray.toList_eq,ByteArray.toList_eq];constructor
 · intro h
   obtain ⟨⟨x⟩⟩:=a;obtain ⟨⟨y⟩⟩:=b;simpa using h
 · rintro rfl; rfl
theorem ro {w:World} {b o n cap:Nat} {l:List S} (h:af 1 gq w (.slice (some ⟨b,o,none⟩) n cap) l) : ∀ j,j<l.length→w.cell? ⟨b,o+j,none⟩=some (.string (l.getD j ByteArray.empty)):=fun j A=>by
 obtain ⟨O,J,h1,h2,hm,h3,I⟩:=h;cases h1
 obtain ⟨b',o',e,_,D⟩:=I j l[j] (List.getElem?_eq_getElem A);cases e
 have:=D 0 _ rfl
 rw [Nat.mul_one,Nat.add_zero] at this;rw [this,List.getD_eq_getElem?_getD,List.getElem?_eq_getElem A]; rfl
end Go.Proofs.YtominiaohfjobaaGreatDoor
namespace Go.Proofs.YtominiaohfjobaaGreatDoor
open Go Go.RowKit
variable {P:Program} {ops:Array Oper} {md:Region.Mode} {C:World→Prop}
def s7 (P:Program) (md:Region.Mode) (ops:Array Oper) (C:World→Prop) (n:Nat) (L:Array Bool→Act→Prop):Nat→Array Bool→Act→Prop
 | 0,A,a=>L A a
 | f+1,A,a=>Region.ready md ops A≠[] ∧ ∀ i ∈ Region.ready md ops A,i<n∧qOp P ops C i (s7 P md ops C n L f (A.setIfInBounds i true)) a
theorem mJ {n g:Nat} {L:Array Bool→Act→Prop} {Q':Exit→Act→World→Prop} (J : ∀ A a w,C w→L A a→wpAny P md ops Q' g A a w) :
    ∀ (f:Nat) (A:Array Bool) (a:Act) (w:World),C w→s7 P md ops C n L f A a→wpAny P md ops Q' (f+g) A a w
 | 0,A,a,w,D,h=>by rw [Nat.zero_add]; exact J _ _ _ D h
 | f+1,A,a,w,D,h=>by
  rw [show f+1+g=(f+g)+1 by omega];exact ⟨fun h0=>absurd h0 h.1,fun i O=>wpOp_of_qOp D (fun a' w' I h'=>mJ J f _ a' w' I h') (h.2 i O).2⟩
theorem s6 {n i:Nat} {oi:Oper} {v:Value} {L:Array Bool→Act→Prop} (hi:ops[i]? = some oi) (ag : ∀ (j:Nat) (o:Oper) cs b,ops[j]? = some o→o.op ≠ .select cs b)
    (hs:Region.sinkB md ops n=true) (hc:Region.chainB md ops n=true) (hn:n<ops.size) (a6:i<n) (a4 : ∀ A a,L A a → ∀ j ∈ Region.ready md ops A,n≤j) :
    ∀ (f:Nat) (A:Array Bool) (a:Act),HeadInv md ops n A →
     (∀ j O,ops[j]? = some O→j≠i→A.getD j true=false→(∀ e ∈ O.after,Region.binds md e=true→e.on≠i)→oi.apart ops O=true) →
     i ∈ Region.ready md ops A→YieldsIn P ops C oi v a→s7 P md ops C n L f (A.setIfInBounds i true) (a.put oi.dst v)→s7 P md ops C n L (f+1) A a:=by
 intro f;induction f with
 | zero =>
  intro A a Z _ J hy H;have I:=(mem_ready.1 J).1;refine ⟨fun h=>(by rw [h] at J; cases J),fun j U=>?_⟩
  have aa:j<n:=by
   rcases Nat.lt_or_ge j n with h | h
   · exact h
   · exact absurd U (tail_waits hs hc hn Z _ i rfl a6 I j h)
  refine ⟨aa,?_⟩
  by_cases D:j=i
  · subst D; exact hy.qOp hi H
  · have:=a4 _ _ H j (ready_mono U D)
    omega
 | succ f ih =>
  intro A a Z ac J hy H;have I:=(mem_ready.1 J).1;refine ⟨fun h=>(by rw [h] at J; cases J),fun j U=>?_⟩
  have aa:j<n:=by
   rcases Nat.lt_or_ge j n with h | h
   · exact h
   · exact absurd U (tail_waits hs hc hn Z _ i rfl a6 I j h)
  refine ⟨aa,?_⟩
  by_cases D:j=i
  · subst D; exact hy.qOp hi H
  · have h1:=(H.2 j (ready_mono U D)).2
    obtain ⟨al,O,ah,a9⟩:=mem_ready.1 U
    have a7 : ∀ e ∈ O.after,Region.binds md e=true→e.on≠i:=fun e he hb bg=>by
     have h1:=a9 e he hb;rw [bg,getD_both I] at h1;cases h1
    have h2:=qOp_put ah (ac j O ah D al a7) (fun cs b=>ag i oi cs b hi) (fun cs b=>ag j O cs b ah) hy h1
    have a0 : ∀ k ok,ops[k]? = some ok→k≠i→(A.setIfInBounds j true).getD k true=false →
        (∀ e ∈ ok.after,Region.binds md e=true→e.on≠i)→oi.apart ops ok=true:=fun k ok hk bc I bb=>by
     refine ac k ok hk bc ?_ bb
     by_cases a5:j=k
     · subst a5; exact al
     · rw [getD_set_ne true a5] at I; exact I
    refine qOp_mono (fun a' h3=>ih (A.setIfInBounds j true) a' (Z.set U aa) a0 (ready_mono J (Ne.symm D)) h3.1 ?_) h2
    rw [Array.setIfInBounds_comm _ _ D];exact h3.2
theorem qx {n g:Nat} {Z:Act→Prop} (I:Region.noSelect ops=true) (hs:Region.sinkB md ops n=true) (hc:Region.chainB md ops n=true) (hn:n<ops.size) :
    ∀ (l:List Oper) (k:Nat) (A:Array Bool) (a:Act),(∀ j,j<l.length→l[j]? = ops[k+j]?)→k+l.length=n→HeadInv md ops n A →
    Region.lexHead md ops g l.length k A=true→wpQuiet P ops C Z l a→s7 P md ops C n (fun D a'=>Region.seqB md ops g n D=true∧Z a') l.length A a
 | [],k,A,a,_,hk,_,hB,h=>by
  have:k=n:=by simpa using hk
  subst this;exact ⟨by simpa [Region.lexHead] using hB,h⟩
 | o::l,k,A,a,hl,hk,J,hB,h=>by
  have h0:ops[k]? = some o:=by simpa using (hl 0 (by simp)).symm
  simp only [List.length_cons,Region.lexHead,Bool.and_eq_true] at hB;obtain ⟨⟨hr,hf⟩,ah⟩:=hB;have U:k<n:=by simp only [List.length_cons] at hk; omega
  have O:k ∈ Region.ready md ops A:=by simpa using hr
  have aa:qOp P ops C k (wpQuiet P ops C Z l) a:=by unfold qOp; simp only [h0]; exact h
  obtain ⟨v,hy,hK⟩:=yieldsIn_of_qOp h0 aa
  exact s6 h0 (Region.noSelect_spec I) hs hc hn U (fun D a' hL=>seqB_ready hL.1) l.length A a J (Region.free_spec h0 hf) O hy
   (qx I hs hc hn l (k+1) _ _ (fun j hj=>by have:=hl (j+1) (by simp; omega); simpa [Nat.add_assoc,Nat.add_comm 1 j] using this) (by simp only [List.length_cons] at hk; omega) (J.set O U) ah hK)
theorem lf {id:Nat} {Q:Exit→Act→World→Prop} {a:Act} {w:World} {l:List Oper} (n:Nat) (hm:P.follows .mixedOrders=true) (hB:Region.lexTailB .any l.toArray n=true) (hC:C { w with drawn:=w.drawn+1 })
    (h:wpQuiet P l.toArray C (fun a'=>∀ w',C w'→wpList P l.toArray Q (l.drop n) a' w') (l.take n) a):(Code.region id l.toArray true).wp P Q a w:=by
 simp only [Region.lexTailB,Bool.and_eq_true,decide_eq_true_eq] at hB;obtain ⟨⟨⟨⟨O,hn⟩,hs⟩,hc⟩,U⟩:=hB;have a5:n<l.length:=by simpa using hn
 have A:(l.take n).length=n:=by simp; omega
 have I:(l.drop n).length=l.toArray.size - n:=by simp
 have J:HeadInv .any l.toArray n (Array.replicate l.toArray.size false) :=
  ⟨by simp,fun j oj _ hl=>(by rw [getD_replicate_false] at hl; cases hl),fun t _ ht=>getD_in (by simpa using ht) (getD_replicate_false _ _)⟩
 have H:=qx (md:=.any) (g:=l.toArray.size - n) O hs hc hn (l.take n) 0 _ a (fun j hj=>by
  have ac:j<n:=by rw [A] at hj; exact hj
  simp [ac]) (by simpa using A) J (by rw [A]; exact U) h
 refine wp_region_any hm ?_
 have:=mJ (Q':=Q) (g:=l.toArray.size - n) (fun D a' w' Z hL=>by
  have:=wpAny_of_seq (md:=.any) (Q':=Q) (l.drop n) n D a' w' (fun j=>by simp [List.getElem?_drop]) (by rw [I]; exact hL.1) (hL.2 w' Z)
  rwa [I] at this) _ _ _ _ hC H
 rw [A,show n+(l.toArray.size - n)=l.toArray.size by omega] at this;exact this
theorem lh {id:Nat} {Q:Exit→Act→World→Prop} {a:Act} {w:World} {l:List Oper} (n:Nat) (hm:P.follows .mixedOrders=true) (hB:Region.lexTailB .any l.toArray n=true)
    (h:wpQuiet P l.toArray (fun w'=>∃ x:aJ w,w'=x.at_) (fun a'=>∀ w',(∃ x:aJ w,w'=x.at_)→wpList P l.toArray Q (l.drop n) a' w') (l.take n) a):(Code.region id l.toArray true).wp P Q a w :=
 lf n hm hB ⟨⟨{ w with drawn:=w.drawn+1 },⟨rfl,rfl,rfl,Nat.le_refl _,fun _ _=>rfl⟩⟩,rfl⟩ h
end Go.Proofs.YtominiaohfjobaaGreatDoor
namespace Go.Proofs.YtominiaohfjobaaGreatDoor
open Go Go.RowKit
theorem kU (x:S):(gq x).length=1:=rfl
structure SF (B g cap N:Nat) (w0 W:World) (l:List S):Prop where
 len:l.length=N
 own:aj B 9 1 gq W (.slice (some ⟨g,0,none⟩) l.length cap) l
 grown:w0.grownBy W (some g)
section
variable {B g cap N:Nat} {w0 W W':World} {l:List S}
theorem SF.cell (h:SF B g cap N w0 W l) {k:Nat} {x:S} (hk:l[k]? = some x):W.cell? ⟨g,k,none⟩=some (.string x)∧W.frozen? ⟨g,k,none⟩=false∧g<W.heap.size:=by
 obtain ⟨I,e,-,h2,h3,A,D,-⟩:=bO kU h.own hk (j:=0) (by decide);cases e
 rw [Nat.mul_one,Nat.add_zero] at h3 A;exact ⟨h3,A,h2⟩
theorem SF.set (h:SF B g cap N w0 W l) {k:Nat} {x:S} (hk:l[k]? = some x) (y:S):SF B g cap N w0 (W.setCell ⟨g,k,none⟩ (.string y)) (l.set k y):=by
 obtain ⟨O,e,-,h2,h3,J,I,D⟩:=bO kU h.own hk (j:=0) (by decide);cases e
 have A:=D (.string y) y rfl;rw [Nat.mul_one,Nat.add_zero] at A;exact ⟨by rw [List.length_set]; exact h.len,by rw [List.length_set]; exact A,h.grown.trans (ab _ _ _ _)⟩
theorem SF.drew (h:SF B g cap N w0 W l):SF B g cap N w0 W.drew l:=⟨h.len,h.own.below ⟨rfl,rfl,rfl,Nat.le_refl _,fun _ _=>rfl⟩,h.grown.trans ⟨rfl,rfl,rfl,Nat.le_refl _,fun _ _ _=>rfl⟩⟩
theorem SF.swap (h:SF B g cap N w0 W l) {i j:Nat} {x y:S} (I:l[i]? = some x) (D:l[j]? = some y) (A:i≠j) :
    SF B g cap N w0 ((W.setCell ⟨g,i,none⟩ (.string y)).setCell ⟨g,j,none⟩ (.string x)).drew ((l.set i y).set j x) :=
 ((h.set I y).set (x:=y) (by rw [List.getElem?_set_ne A]; exact D) x).drew
theorem SF.later (h:SF B g cap N w0 W l) (A:Below W.heap.size W W'):SF B g cap N w0 W' l :=
 ⟨h.len,h.own.below A,h.grown.trans ⟨A.os,A.tape,A.output,A.size,fun k hk _=>A.block k hk⟩⟩
theorem SF.from (h:SF B g cap N w0 W l) {l':List S} (h':SF B g cap N W W' l'):SF B g cap N w0 W' l':=⟨h'.len,h'.own,h.grown.trans h'.grown⟩
end
theorem xS {α:Type} (p:List α) (x:α) (y:List α) (z:α) (q:List α):((p ++ x::(y ++ z::q)).set p.length z).set (p.length+1+y.length) x=p ++ z::(y ++ x::q):=by
 rw [List.set_append_right _ _ (Nat.le_refl _),Nat.sub_self,List.set_cons_zero,List.set_append_right _ _ (by omega),show p.length+1+y.length - p.length=y.length+1 by omega,List.set_cons_succ,List.set_append_right _ _ (Nat.le_refl _),Nat.sub_self,List.set_cons_zero]
theorem iN {α:Type} (p:List α) (x:α) (q:List α) {k:Nat} (hk:k=p.length):(p ++ x::q)[k]? = some x:=by rw [hk,List.getElem?_append_right (Nat.le_refl _),Nat.sub_self]; rfl
theorem vw {α:Type} (p:List α) (x:α) (y:List α) (z:α) (q:List α) {k:Nat} (hk:k=p.length+1+y.length):(p ++ x::(y ++ z::q))[k]? = some z:=by
 rw [show p ++ x::(y ++ z::q)=(p ++ x::y) ++ z::q by simp];exact iN _ _ _ (by simp; omega)
theorem gL {B g cap N a b n:Nat} {w0:World} (cm:Value) (P X Y Z Q:List S) (hN:N≤1000000) (ha:a=P.length) (hx:X.length=n) (hz:Z.length=n) (hb:b=P.length+n+Y.length) (w:World) (h:SF B g cap N w0 w (P ++ (X ++ (Y ++ (Z ++ Q))))) :
    Calls Tryz.prog 180 #[.slice (some ⟨g,0,none⟩) N cap,.int .i64 a,.int .i64 b,.int .i64 n,cm] w fun e w'=>e = .returned (.tuple #[])∧SF B g cap N w0 w' (P ++ (Z ++ (Y ++ (X ++ Q)))):=by
 have a4:=h.len;simp only [List.length_append] at a4;have hlt:b+n≤N:=by omega
 have HA:=zH ha;have HB:=zH hb;have HX:=zH hx;have HZ:=zH hz;have b5:a+n≤b:=by omega
 have HS:=zH h;clear h a4 ha hb hx hz;go_enter Tryz.func180,Tryz.ntmps180
 go_wp2
 go_loopw [10] (fun vi wr=>∃ (i:Nat) (I X2 A Z2:List S),vi = .int .i64 i∧i≤n∧Hid (X=I ++ X2)∧Hid (Z=A ++ Z2)∧Hid (I.length=i)∧Hid (A.length=i)∧Hid (SF B g cap N w0 wr (P ++ (A ++ (X2 ++ (Y ++ (I ++ (Z2 ++ Q)))))))) (fun vi _=>n - (intOf vi).toNat)
 case atStart=>exact ⟨0,[],X,[],Z,rfl,Nat.zero_le _,rfl,rfl,rfl,rfl,(by show SF _ _ _ _ _ _ _; simpa using HS.out)⟩
 case round =>
  clear HS;obtain ⟨i,I,X2,A,Z2,rfl,hi,J,aa,ad,ac,HR⟩:=hrel;by_cases ba:i<n
  · obtain ⟨x,D,rfl⟩ : ∃ x D,X2=x::D:=by
     cases X2 with
     | nil=>have:=HX.out; rw [J.out] at this; have:=ad.out; simp at *; omega
     | cons x D=>exact ⟨x,D,rfl⟩
    obtain ⟨z,U,rfl⟩ : ∃ z U,Z2=z::U:=by
     cases Z2 with
     | nil=>have:=HZ.out; rw [aa.out] at this; have:=ac.out; simp at *; omega
     | cons z U=>exact ⟨z,U,rfl⟩
    have O:Hid (SF B g cap N w0 wr ((P ++ A) ++ x::((D ++ (Y ++ I)) ++ z::(U ++ Q)))):=by show SF _ _ _ _ _ _ _; have:=HR.out; simpa using this
    have bg:D.length+i+1=n:=by have:=HX.out; rw [J.out] at this; have:=ad.out; simp at *; omega
    have ah:Hid (a+i=(P ++ A).length):=by show _=_; have:=HA.out; have:=ac.out; simp at *; omega
    have ag:Hid (b+i=(P ++ A).length+1+(D ++ (Y ++ I)).length):=by show _=_; have:=HB.out; have:=ac.out; have:=ad.out; simp at *; omega
    have g1:=iN (P ++ A) x ((D ++ (Y ++ I)) ++ z::(U ++ Q)) ah.out;have g2:=vw (P ++ A) x (D ++ (Y ++ I)) z (U ++ Q) ag.out;have c1:=(O.out.cell g1).1;have f1:=(O.out.cell g1).2.1;have c2:=(O.out.cell g2).1;have f2:=(O.out.cell g2).2.1
    have bo:Hid (SF B g cap N w0 ((wr.setCell ⟨g,a+i,none⟩ (.string z)).setCell ⟨g,b+i,none⟩ (.string x)).drew (P ++ (A ++ [z] ++ (D ++ (Y ++ (I ++ [x] ++ (U ++ Q))))))):=by
     have:=O.out.swap g1 g2 (by omega)
     rw [ah.out,ag.out,xS] at this;show SF _ _ _ _ _ _ _
     rw [ah.out,ag.out];simpa using this
    have c3:(wr.setCell ⟨g,a+i,none⟩ (.string z)).cell? ⟨g,b+i,none⟩=some (.string z):=by rw [World.cell?_setCell_other _ _ _ _ (by simp only [Addr.mk.injEq,not_and,ne_eq]; omega)]; exact c2
    clear g1 g2 HR O bg ah ag;have ra:IntKind.i64.wrap ((a:Int)+(i:Int))=(a:Int)+(i:Int):=IntWalk.i64_in _ (by omega);have rb:IntKind.i64.wrap ((b:Int)+(i:Int))=(b:Int)+(i:Int):=IntWalk.i64_in _ (by omega);have ri:IntKind.i64.wrap ((i:Int)+1)=(i:Int)+1:=IntWalk.i64_in _ (by omega);have pa:(0:Int)≤(a:Int)+(i:Int):=by omega
    have pb:(0:Int)≤(b:Int)+(i:Int):=by omega
    have la:(a:Int)+(i:Int)<(N:Int):=by omega
    have lb:(b:Int)+(i:Int)<(N:Int):=by omega
    have ta:((a:Int)+(i:Int)).toNat=a+i:=by omega
    have tb:((b:Int)+(i:Int)).toNat=b+i:=by omega
    go_wp2_with fail
    go_big_region
    clear c1 c2 c3 f1 f2;generalize ((wr.setCell ⟨g,a+i,none⟩ (.string z)).setCell ⟨g,b+i,none⟩ (.string x)).drew=w3 at *;go_wp2
    go_roundw
    case rel=>exact ⟨i+1,I ++ [x],D,A ++ [z],U,by go_num,ba,by show _=_; rw [J.out]; simp,by show _=_; rw [aa.out]; simp,by show _=_; rw [List.length_append,ad.out]; rfl,by show _=_; rw [List.length_append,ac.out]; rfl,by show SF _ _ _ _ _ _ _; simpa using bo.out⟩
    case measure=>simp [intOf]; omega
  · obtain rfl:i=n:=by omega
    have a6:X2=[]:=List.eq_nil_of_length_eq_zero (by have h1:=HX.out; have h2:=ad.out; rw [show X=_ from J.out,List.length_append] at h1; change _=_ at h2; omega);have a5:Z2=[]:=List.eq_nil_of_length_eq_zero (by have h1:=HZ.out; have h2:=ac.out; rw [show Z=_ from aa.out,List.length_append] at h1; change _=_ at h2; omega)
    have HE:Hid (SF B g cap N w0 wr (P ++ (Z ++ (Y ++ (X ++ Q))))):=by
     show SF _ _ _ _ _ _ _
     have:=HR.out
     rw [J.out,aa.out,a6,a5];rw [a6,a5] at this;simpa using this
    clear HR J aa a6 a5;go_wp2
    go_end0
    exact ⟨rfl,HE.out⟩
end Go.Proofs.YtominiaohfjobaaGreatDoor
namespace Go.Proofs.YtominiaohfjobaaGreatDoor
open Go Go.RowKit
theorem rc {α:Type} {l:List α} {k:Nat} (h:k≤l.length) : ∃ a b,l=a ++ b∧a.length=k:=⟨l.take k,l.drop k,by simp,by simp; omega⟩
theorem tK {B g cap N a m b:Nat} {w0:World} (cm:Value) (P U V Q:List S) (hN:N≤1000000) (ha:a=P.length) (hm:m=a+U.length) (hb:b=m+V.length) (hu:U≠[]) (hv:V≠[]) (w:World) (h:SF B g cap N w0 w (P ++ (U ++ (V ++ Q)))) :
    Calls Tryz.prog 142 #[.slice (some ⟨g,0,none⟩) N cap,.int .i64 a,.int .i64 m,.int .i64 b,cm] w fun e w'=>e = .returned (.tuple #[])∧SF B g cap N w0 w' (P ++ (V ++ (U ++ Q))):=by
 have ag:=h.len;simp only [List.length_append] at ag;have b7:0<U.length:=List.length_pos_iff.2 hu;have b5:0<V.length:=List.length_pos_iff.2 hv;have HS:=zH h;obtain ⟨i0,a8⟩ : ∃ i0,i0=U.length:=⟨_,rfl⟩;obtain ⟨j0,a7⟩ : ∃ j0,j0=V.length:=⟨_,rfl⟩;have r1:(m:Int) - (a:Int)=(i0:Int):=by omega
 have r2:(b:Int) - (m:Int)=(j0:Int):=by omega
 have w1:IntKind.i64.wrap ((m:Int) - (a:Int))=(i0:Int):=by rw [r1]; exact IntWalk.i64_in _ (by omega)
 have w2:IntKind.i64.wrap ((b:Int) - (m:Int))=(j0:Int):=by rw [r2]; exact IntWalk.i64_in _ (by omega)
 have HI:Hid (i0=U.length):=a8;have HJ:Hid (j0=V.length):=a7;have D:Hid (m=P.length+i0):=by show _=_; omega
 have d8:m≤1000000:=by omega
 have h1:0<i0:=by omega
 have h2:0<j0:=by omega
 clear h hu hv ag ha hm hb b7 b5 a8 a7 r1 r2;go_enter Tryz.func142,Tryz.ntmps142
 go_wp2
 clear w1 w2;go_loopw [10,11] (fun vi vj wr=>∃ (i j:Nat) (A X Y Q':List S),vi = .int .i64 i∧vj = .int .i64 j∧0<i∧0<j∧Hid (X.length=i)∧Hid (Y.length=j)∧Hid (m=A.length+i)∧Hid (P ++ (V ++ (U ++ Q))=A ++ (Y ++ (X ++ Q')))∧Hid (SF B g cap N w0 wr (A ++ (X ++ (Y ++ Q'))))) (fun vi vj _=>(intOf vi).toNat+(intOf vj).toNat)
 case atStart=>exact ⟨i0,j0,P,U,V,Q,rfl,rfl,h1,h2,HI.out.symm,HJ.out.symm,D,rfl,HS.out⟩
 case round =>
  clear HS D HI HJ;obtain ⟨i,j,A,X,Y,Q',rfl,rfl,hi,hj,HX,HY,D,HG,HR⟩:=hrel
  have HL:Hid (A.length+i+j+Q'.length=N):=by
   show _=_
   have:=HR.out.len
   simp only [List.length_append] at this;rw [HX.out,HY.out] at this; omega
  have dk:i+j≤1000000:=by have:=HL.out; omega
  have d7:m+j≤1000000:=by have h1:=HL.out; have h2:=D.out; change _=_ at h1; change _=_ at h2; omega
  have d9:i≤m:=by have h2:=D.out; change _=_ at h2; omega
  obtain ⟨p,hp⟩ : ∃ p,p=A.length:=⟨_,rfl⟩;have a6:(m:Int) - (i:Int)=(p:Int):=by have h2:=D.out; change _=_ at h2; omega
  have d6:IntKind.i64.wrap ((m:Int) - (i:Int))=(p:Int):=by rw [a6]; exact IntWalk.i64_in _ (by omega)
  have Z:=zH hp;clear hp a6;by_cases J:i=j
  · have e1:((i:Int) == (j:Int))=true:=by rw [beq_iff_eq]; omega
    have e2:(i == j)=true:=by rw [beq_iff_eq]; exact J
    have O:=gL cm A X [] Y Q' hN Z.out HX.out (HY.out.trans J.symm) (b:=m) (by have h2:=D.out; change _=_ at h2; simpa using h2) wr (by have:=HR.out; simpa using this);clear J;go_wp2_with fail
    refine O.mono ?_
    rintro e w9 ⟨rfl,I⟩;have HE:Hid (SF B g cap N w0 w9 (P ++ (V ++ (U ++ Q)))):=by show SF _ _ _ _ _ _ _; rw [HG.out]; simpa using I
    clear I;go_wp2
    go_end0
    exact ⟨rfl,HE.out⟩
  · have e1:((i:Int) == (j:Int))=false:=by rw [beq_eq_false_iff_ne]; omega
    have e2:(i == j)=false:=by rw [beq_eq_false_iff_ne]; exact J
    by_cases hlt:j<i
    · have d1:decide ((i:Int) > (j:Int))=true:=decide_eq_true (by omega)
      have d2:(j:Int)<(i:Int):=by omega
      obtain ⟨X1,X2,rfl,ba⟩:=rc (l:=X) (k:=j) (by have:=HX.out; change _=_ at this; omega);obtain ⟨k,hk⟩ : ∃ k:Nat,k=i - j:=⟨_,rfl⟩;have wk:IntKind.i64.wrap ((i:Int) - (j:Int))=(k:Int):=by rw [show (i:Int) - (j:Int)=(k:Int) by omega]; exact IntWalk.i64_in _ (by omega)
      have bc:Hid (X2.length=k):=by have:=HX.out; change _=_ at this; rw [List.length_append] at this; show _=_; omega
      have O:=gL cm A X1 X2 Y Q' hN Z.out ba HY.out (b:=m) (by have h2:=D.out; have h3:=bc.out; have h4:=Z.out; change _=_ at h2; change _=_ at h3; change _=_ at h4; omega) wr (by have:=HR.out; simpa using this);have HK:=zH hk;clear J hk ba;go_wp2_with fail
      refine O.mono ?_
      rintro e w9 ⟨rfl,I⟩;have HS:=zH I;clear I O;go_wp2
      go_roundw
      case rel =>
       have hk:k=i - j:=HK.out;have h3:X2.length=k:=bc.out;have h4:p=A.length:=Z.out;have h5:m=A.length+i:=D.out;refine ⟨k,j,A ++ Y,X2,X1,Q',by first | rfl | go_num,rfl,by omega,hj,h3,?_,?_,?_,?_⟩
       · have:=HX.out; change _=_ at this; rw [List.length_append] at this; show _=_; omega
       · show _=_; rw [List.length_append,HY.out]; omega
       · show _=_; rw [HG.out]; simp
       · show SF _ _ _ _ _ _ _; have:=HS.out; simpa using this
      case measure=>have hk:k=i - j:=HK.out; simp [intOf]; omega
    · have d1:decide ((i:Int) > (j:Int))=false:=decide_eq_false (by omega)
      have d2 : ¬ (j:Int)<(i:Int):=by omega
      obtain ⟨k,hk⟩ : ∃ k:Nat,k=j - i:=⟨_,rfl⟩;obtain ⟨Y1,Y2,rfl,a9⟩:=rc (l:=Y) (k:=k) (by have:=HY.out; change _=_ at this; omega);have bb:Hid (Y2.length=i):=by have:=HY.out; change _=_ at this; rw [List.length_append] at this; show _=_; omega
      have w1:IntKind.i64.wrap ((m:Int)+(j:Int))=(m:Int)+(j:Int):=IntWalk.i64_in _ (by omega);obtain ⟨q,hq⟩ : ∃ q:Nat,q=m+j - i:=⟨_,rfl⟩;have w2:IntKind.i64.wrap ((m:Int)+(j:Int) - (i:Int))=(q:Int):=by rw [show (m:Int)+(j:Int) - (i:Int)=(q:Int) by omega]; exact IntWalk.i64_in _ (by omega)
      have wk:IntKind.i64.wrap ((j:Int) - (i:Int))=(k:Int):=by rw [show (j:Int) - (i:Int)=(k:Int) by omega]; exact IntWalk.i64_in _ (by omega)
      have O:=gL cm A X Y1 Y2 Q' hN Z.out HX.out bb.out (b:=q) (by have h2:=D.out; have h4:=Z.out; change _=_ at h2; change _=_ at h4; omega) wr (by have:=HR.out; simpa using this);have HK:=zH hk;have co:=zH a9;clear hk a9 hq;go_wp2_with fail
      refine O.mono ?_
      rintro e w9 ⟨rfl,I⟩;have HS:=zH I;clear I O;go_wp2
      go_roundw
      case rel =>
       have hk:k=j - i:=HK.out;have h4:p=A.length:=Z.out;have h5:m=A.length+i:=D.out;refine ⟨i,k,A,Y2,Y1,X ++ Q',rfl,by first | rfl | go_num,hi,by omega,bb,co,D,?_,?_⟩
       · show _=_; rw [HG.out]; simp
       · show SF _ _ _ _ _ _ _; have:=HS.out; simpa using this
      case measure=>have hk:k=j - i:=HK.out; simp [intOf]; omega
def mL (A:S→S→Int):Prop:=∀ (a b:S) (W:World),a.size≤900000→b.size≤900000→Calls Tryz.prog 49 #[.string a,.string b] W fun e w'=>e = .returned (.int .i64 (A a b))∧Below W.heap.size W w'
def dO (A:S→S→Int) (a b:S):Bool:=decide (A a b<0)
theorem iF : ∀ (args:Array Value) (w:World),(callFunc 49 args).run Tryz.prog w = .ok (.enter 49 args) w:=fun args w=>by kernel_rfl
def fo:Value:=.func (.func 49) #[] #[]
def ci (l:List S):Prop:=∀ x ∈ l,x.size≤900000
theorem pz {α:Type} (p:List α) (y x:α) (q:List α) {k:Nat} (hk:k=p.length):((p ++ y::x::q).set (k+1) y).set k x=p ++ x::y::q:=by
 subst hk;rw [List.set_append_right _ _ (by omega),show p.length+1 - p.length=1 by omega,List.set_append_right _ _ (Nat.le_refl _),Nat.sub_self];rfl
theorem uQ {α:Type} {l:List α} (h:l≠[]) : ∃ a x,l=a ++ [x]:=⟨l.dropLast,l.getLast h,(List.dropLast_concat_getLast h).symm⟩
theorem og {B g cap N a b:Nat} {w0:World} {A:S→S→Int} (hC:mL A) (hW:eG (dO A)) (P R0 Q:List S) (hN:N≤1000000) (ha:a=P.length) (hb:b=a+R0.length) (hs:ci R0) (w:World) (h:SF B g cap N w0 w (P ++ (R0 ++ Q))) :
    Calls Tryz.prog 108 #[.slice (some ⟨g,0,none⟩) N cap,.int .i64 a,.int .i64 b,fo] w fun e w'=>e = .returned (.tuple #[]) ∧ ∃ M,dL (dO A) M∧aH (dO A) R0 M∧SF B g cap N w0 w' (P ++ (M ++ Q)):=by
 have bl:=h.len;simp only [List.length_append] at bl;have HS:=zH h;have HC:=zH hC;have HA:=zH ha;have cm:=zH hs;have e9:b≤1000000:=by omega
 have fv:b≤N:=by omega
 have wa:IntKind.i64.wrap ((a:Int)+1)=(a:Int)+1:=IntWalk.i64_in _ (by omega);clear h hC bl ha hs;have e8:=iF;unfold fo;cases R0 with
 | nil =>
  have d1 : ¬ (a:Int)+1<(b:Int):=by simp at hb; omega
  clear hb;go_enter Tryz.func108,Tryz.ntmps108
  go_wp2
  refine wp_loop_rounds 1 ?_
  rw [rounds_succ];go_wp2
  go_end0
  exact ⟨rfl,[],mV,aH.refl _,HS.out⟩
 | cons x0 R1 =>
  have c8:Hid (b=a+1+R1.length):=by show _=_; rw [hb,List.length_cons]; omega
  have ed:a+1≤b:=by rw [hb,List.length_cons]; omega
  clear hb;go_enter Tryz.func108,Tryz.ntmps108
  go_wp2
  clear wa;go_loopw [8] (fun vi wr=>∃ (i:Nat) (O M R:List S),vi = .int .i64 i∧i≤b∧a<i∧Hid (x0::R1=O ++ R)∧Hid (i=a+M.length)∧Hid (dL (dO A) M)∧Hid (aH (dO A) O M)∧Hid (SF B g cap N w0 wr (P ++ (M ++ (R ++ Q))))) (fun vi _=>b - (intOf vi).toNat)
  case atStart=>exact ⟨a+1,[x0],[x0],R1,by first | rfl | go_num,ed,by omega,rfl,rfl,Ab _,aH.refl _,(by show SF _ _ _ _ _ _ _; simpa using HS.out)⟩
  case round =>
   clear HS;obtain ⟨i,O,M,R,rfl,e7,ga,Z,HI,a9,a4,HR⟩:=hrel;have cT:Hid (M.length=O.length):=(a4.out.perm hW).length_eq.symm;by_cases hlt:i<b
   · have ex:(i:Int)<(b:Int):=by omega
     obtain ⟨x,R,rfl⟩ : ∃ x R',R=x::R':=by
      cases R with
      | nil =>
       have h1:=congrArg List.length (show x0::R1=O ++ [] from Z.out);have h2:=c8.out; have h3:=HI.out; have h4:=cT.out;change _=_ at h2; change _=_ at h3; change _=_ at h4
       simp at h1; omega
      | cons x R'=>exact ⟨x,R',rfl⟩
     go_wp2
     go_loopw [9] (fun vj dr=>∃ (j:Nat) (M1 D:List S),vj = .int .i64 j∧a≤j∧j≤i∧Hid (M=M1 ++ D)∧Hid (j=a+M1.length)∧Hid (∀ y ∈ D,dO A x y=true)∧Hid (SF B g cap N w0 dr (P ++ (M1 ++ x::(D ++ (R ++ Q)))))) (fun vj _=>(intOf vj).toNat)
     case atStart=>exact ⟨i,M,[],rfl,by omega,Nat.le_refl _,(by show _=_; simp),HI,(by show ∀ _,_; simp),(by show SF _ _ _ _ _ _ _; simpa using HR.out)⟩
     case round =>
      clear HR;obtain ⟨j,M1,D,rfl,fz,e6,HM,HJ,a6,HR⟩:=hrel
      have out:(∀ y ∈ M1,dO A x y=false)→Hid (∃ I,dL (dO A) I∧aH (dO A) (O ++ [x]) I∧I.length=M.length+1∧SF B g cap N w0 wr (P ++ (I ++ (R ++ Q)))):=fun hy=>by
       have e:M=M1 ++ D:=HM.out;refine ⟨M1 ++ x::D,lC hW (e ▸ a9.out) hy a6.out,?_,by rw [e]; simp; omega,?_⟩
       · refine aH.trans (a4.out.app (aH.refl [x])) ?_
         rw [e]; exact jz hW a6.out
       · have:=HR.out; simpa using this
      have a8:=zH out;clear out;by_cases d9:a<j
      · obtain ⟨J,y,rfl⟩:=uQ (l:=M1) (fun e=>by have:=HJ.out; change _=_ at this; rw [e] at this; simp at this; omega)
        obtain ⟨jp,d8⟩ : ∃ jp,j=jp+1:=⟨j - 1,by omega⟩;subst d8;have d1:decide ((jp:Int)+1 > (a:Int))=true:=decide_eq_true (by omega);have d2:(a:Int)<(jp:Int)+1:=by omega
        have d3:decide (a<jp+1)=true:=decide_eq_true d9;have w1:IntKind.i64.wrap ((jp:Int)+1 - 1)=(jp:Int):=by rw [show (jp:Int)+1 - 1=(jp:Int) by omega]; exact IntWalk.i64_in _ (by omega)
        have U:Hid (SF B g cap N w0 wr ((P ++ J) ++ y::([] ++ x::(D ++ (R ++ Q))))):=by show SF _ _ _ _ _ _ _; have:=HR.out; simpa using this
        have bc:Hid (jp=(P ++ J).length):=by show _=_; have h1:=HA.out; have h2:=HJ.out; change _=_ at h1; change _=_ at h2; simp at *; omega
        have g1:=iN (P ++ J) y ([] ++ x::(D ++ (R ++ Q))) bc.out;have g2:=vw (P ++ J) y [] x (D ++ (R ++ Q)) (k:=jp+1) (by have:=bc.out; change _=_ at this; simp at *; omega);have c1:=(U.out.cell g1).1;have f1:=(U.out.cell g1).2.1;have c2:=(U.out.cell g2).1;have f2:=(U.out.cell g2).2.1;have gl:=(U.out.cell g2).2.2;have sy:y.size≤900000:=cm.out y (by rw [show x0::R1=_ from Z.out]; exact List.mem_append_left _ (a4.out.symm.mem hW (by rw [show M=_ from HM.out]; simp)));have sx:x.size≤900000:=cm.out x (by rw [show x0::R1=_ from Z.out]; simp);have l1:(jp:Int)+1<(N:Int):=by omega
        have l2:(jp:Int)<(N:Int):=by omega
        have t1:((jp:Int)+1).toNat=jp+1:=by omega
        have p1:(0:Int)≤(jp:Int)+1:=by omega
        have ef:=@aJ.cells wr;have co:Hid (∀ z:aJ wr,Calls Tryz.prog 49 #[.string x,.string y] z.at_ fun e d4=>e = .returned (.int .i64 (A x y)) ∧ ∃ u:aJ wr,d4=u.at_):=fun z=>aJ.call (HC.out _ _ _ sx sy);go_wp2_with fail
        refine cG (by kernel_rfl) (by kernel_rfl) ?_
        repeat (go_big_quiet_step ((first | (go_at_call 49; with_reducible exact co.out _))))
        refine wpQuiet_nil ?_
        rintro _ ⟨nx,rfl⟩;have aa:Hid (SF B g cap N w0 nx.at_ ((P ++ J) ++ y::x::(D ++ (R ++ Q)))):=U.out.later nx.below;clear ef co c1 c2 f1 f2 gl sy sx HR U;generalize nx.at_=w2 at *;have hq:dO A x y=decide (A x y<0):=rfl;generalize decide (A x y<0)=q at *;cases q with
        | true =>
         have em:=zH hq;clear hq a8;have c1:=(aa.out.cell g1).1;have f1:=(aa.out.cell g1).2.1;have c2:=(aa.out.cell g2).1;have f2:=(aa.out.cell g2).2.1;have c3:(w2.setCell ⟨g,jp+1,none⟩ (.string y)).cell? ⟨g,jp,none⟩=some (.string y):=by rw [World.cell?_setCell_other _ _ _ _ (by simp only [Addr.mk.injEq,not_and,ne_eq]; omega)]; exact c1
         have el:Hid (SF B g cap N w0 ((w2.setCell ⟨g,jp+1,none⟩ (.string y)).setCell ⟨g,jp,none⟩ (.string x)).drew ((P ++ J) ++ x::y::(D ++ (R ++ Q)))):=by
          have:=aa.out.swap g2 g1 (by omega)
          rw [pz _ _ _ _ bc.out] at this;exact this
         clear g1 g2;go_wp2_with fail
         go_big_region
         clear c1 c2 c3 f1 f2;generalize ((w2.setCell ⟨g,jp+1,none⟩ (.string y)).setCell ⟨g,jp,none⟩ (.string x)).drew=w3 at *;go_wp2
         go_roundw
         case rel =>
          refine ⟨jp,J,y::D,by first | rfl | go_num,by omega,by omega,?_,?_,?_,?_⟩
          · show _=_; rw [HM.out]; simp
          · show _=_; have:=HJ.out; change _=_ at this; simp at this; omega
          · intro z hz
            rcases List.mem_cons.1 hz with rfl | hz
            · exact em.out
            · exact a6.out z hz
          · show SF _ _ _ _ _ _ _; have:=el.out; simpa using this
         case measure=>simp [intOf]
        | false =>
         have bg:Hid (∃ I,dL (dO A) I∧aH (dO A) (O ++ [x]) I∧I.length=M.length+1∧SF B g cap N w0 w2 (P ++ (I ++ (R ++ Q)))):=by
          have e:M=(J ++ [y]) ++ D:=HM.out;have hy : ∀ z ∈ J ++ [y],dO A x z=false:=rU hW (e ▸ a9.out:dL (dO A) ((J ++ [y]) ++ D)).left hq;refine ⟨(J ++ [y]) ++ x::D,lC hW (e ▸ a9.out) hy a6.out,?_,by rw [e]; simp; omega,by have:=aa.out; simpa using this⟩
          refine aH.trans (a4.out.app (aH.refl [x])) ?_
          rw [e]; exact jz hW a6.out
         obtain ⟨I,al,ah,ag,ad⟩:=bg.out;have b4:=zH al;have b3:=zH ah;have b2:=zH ag;have b0:=zH ad;clear bg al ah ag ad hq a8;have d0:IntKind.i64.wrap ((i:Int)+1)=(i:Int)+1:=IntWalk.i64_in _ (by omega);go_wp2
         go_roundw
         case rel=>exact ⟨i+1,O ++ [x],I,R,by first | rfl | go_num,hlt,by omega,(by show _=_; rw [Z.out]; simp),(by show _=_; rw [b2.out,HI.out]; omega),b4,b3,b0⟩
         case measure=>simp [intOf]; omega
      · obtain rfl:j=a:=by omega
        have b9:M1=[]:=List.eq_nil_of_length_eq_zero (by have:=HJ.out; change _=_ at this; omega);have d1:decide ((j:Int) > (j:Int))=false:=decide_eq_false (by omega);have d2 : ¬ (j:Int)<(j:Int):=by omega
        have d3:decide (j<j)=false:=decide_eq_false (by omega);obtain ⟨I,al,ah,ag,ad⟩:=(a8.out (fun y hy=>by rw [b9] at hy; cases hy)).out;have b4:=zH al;have b3:=zH ah;have b2:=zH ag;clear al ah ag a8 b9 HR;go_wp2_with fail
        refine cG (by kernel_rfl) (by kernel_rfl) ?_
        repeat (go_big_quiet_step (fail))
        refine wpQuiet_nil ?_
        rintro _ ⟨nx,rfl⟩;have b0:=zH (ad.later nx.below);clear ad;generalize nx.at_=w2 at *;have d0:IntKind.i64.wrap ((i:Int)+1)=(i:Int)+1:=IntWalk.i64_in _ (by omega);go_wp2
        go_roundw
        case rel=>exact ⟨i+1,O ++ [x],I,R,by first | rfl | go_num,hlt,by omega,(by show _=_; rw [Z.out]; simp),(by show _=_; rw [b2.out,HI.out]; omega),b4,b3,b0⟩
        case measure=>simp [intOf]; omega
   · obtain rfl:i=b:=by omega
     have hR:R=[]:=List.eq_nil_of_length_eq_zero (by
      have h1:=congrArg List.length (show x0::R1=O ++ R from Z.out);have h2:=c8.out; have h3:=HI.out; have h4:=cT.out;change _=_ at h2; change _=_ at h3; change _=_ at h4
      rw [List.length_cons,List.length_append] at h1; omega)
     subst hR;have d2 : ¬ (i:Int)<(i:Int):=by omega
     go_wp2
     go_end0
     exact ⟨rfl,M,a9.out,(by rw [show x0::R1=O ++ [] from Z.out,List.append_nil]; exact a4.out),HR.out⟩
theorem yY {α:Type} {l:List α} {k:Nat} (h:k<l.length) : ∃ a x b,l=a ++ x::b∧a.length=k:=⟨l.take k,l[k],l.drop (k+1),by rw [← List.drop_eq_getElem_cons h,List.take_append_drop],by simp; omega⟩
theorem tE {α:Type} (p:List α) (y x:α) (q:List α) {k:Nat} (hk:k=p.length):((p ++ y::x::q).set k x).set (k+1) y=p ++ x::y::q:=by
 subst hk;rw [List.set_append_right _ _ (Nat.le_refl _),Nat.sub_self,List.set_cons_zero,List.set_append_right _ _ (by omega),show p.length+1 - p.length=1 by omega];rfl
theorem vv {α:Type} (p:List α) (y x:α) (q:List α) {k:Nat} (hk:k=p.length):(p ++ y::x::q)[k+1]? = some x:=by
 subst hk;rw [List.getElem?_append_right (by omega),show p.length+1 - p.length=1 by omega]; rfl
def oN (A:S→S→Int) (B g cap N:Nat) (w0:World) (P U V Q:List S) (e:Ending) (w':World):Prop:=e = .returned (.tuple #[]) ∧ ∃ M,dL (dO A) M∧aH (dO A) (U ++ V) M∧SF B g cap N w0 w' (P ++ (M ++ Q))
theorem rQ {B g cap N a m b:Nat} {w0:World} {J:S→S→Int} (hC:mL J) (hW:eG (dO J)) (P:List S) (x:S) (V Q:List S) (hN:N≤1000000) (ha:a=P.length) (hm:m=a+1) (hb:b=m+V.length) (co:x.size≤900000) (cT:ci V) (hV:dL (dO J) V) (w:World) (h:SF B g cap N w0 w (P ++ x::(V ++ Q))) :
    Calls Tryz.prog 109 #[.slice (some ⟨g,0,none⟩) N cap,.int .i64 a,.int .i64 m,.int .i64 b,fo] w (oN J B g cap N w0 P [x] V Q):=by
 have a5:=h.len;simp only [List.length_append,List.length_cons] at a5;have HS:=zH h;have HC:=zH hC;have HA:=zH ha;have HM:=zH hm;have d7:Hid (b=a+1+V.length):=by show _=_; omega
 have e5:b≤N:=by omega
 have c9:m≤b:=by omega
 have e6:a<N:=by omega
 have em:0<m:=by omega
 have e1:IntKind.i64.wrap ((m:Int) - (a:Int))=1:=by rw [show (m:Int) - (a:Int)=1 by omega]; exact IntWalk.i64_in _ (by omega)
 clear h hC a5 ha hb hm;have e4:=iF;unfold fo;go_enter Tryz.func109,Tryz.ntmps109
 go_wp2
 clear e1;go_loopw [10,11] (fun vi vj wr=>∃ (i j:Nat) (I V2 D:List S),vi = .int .i64 i∧vj = .int .i64 j∧m≤i∧i≤j∧j≤b∧Hid (V=I ++ (V2 ++ D))∧Hid (I.length+m=i)∧Hid (V2.length+i=j)∧Hid (∀ v ∈ I,dO J v x=true)∧Hid (∀ v ∈ D,dO J v x=false)∧Hid (SF B g cap N w0 wr (P ++ x::(V ++ Q)))) (fun vi vj _=>(intOf vj).toNat - (intOf vi).toNat)
 case atStart=>exact ⟨m,b,[],V,[],rfl,rfl,Nat.le_refl _,c9,Nat.le_refl _,(by show _=_; simp),(by show _=_; simp),(by show _=_; rw [d7.out,HM.out]; omega),(by show ∀ _,_; simp),(by show ∀ _,_; simp),HS⟩
 case round =>
  clear HS;obtain ⟨i,j,I,V2,D,rfl,rfl,c8,dl,dg,HV,HI,HJ,HL,HG,U⟩:=hrel;by_cases hlt:i<j
  · obtain ⟨k,hk⟩ : ∃ k:Nat,k=(i+j) / 2:=⟨_,rfl⟩
    have dk:i≤k:=by omega
    have ex:k<j:=by omega
    have en:((i:Int)+(j:Int)) / 2=(k:Int):=by omega
    obtain ⟨A,v,C,rfl,d3⟩:=yY (l:=V2) (k:=k - i) (by have:=HJ.out; change _=_ at this; omega);have al:Hid (A.length+i=k):=by show _=_; omega
    have g1:(P ++ x::(V ++ Q))[k]? = some v:=by
     have h1:=HV.out; have h2:=HA.out; have h3:=HI.out; have h4:=al.out; have h5:=HM.out;change _=_ at h1; change _=_ at h2; change _=_ at h3; change _=_ at h4; change _=_ at h5
     rw [h1,show P ++ x::((I ++ ((A ++ v::C) ++ D)) ++ Q)=(P ++ x::(I ++ A)) ++ v::(C ++ D ++ Q) by simp];exact iN _ _ _ (by simp; omega)
    have g2:(P ++ x::(V ++ Q))[a]? = some x:=iN _ _ _ HA.out;have sv:v.size≤900000:=cT v (by rw [show V=_ from HV.out]; simp);have b2:=zH g1;have d6:=zH g2;have bv:Hid (dL (dO J) (I ++ ((A ++ v::C) ++ D))):=by have:=hV; rw [show V=_ from HV.out] at this; exact this
    have lk:(k:Int)<(N:Int):=by omega
    have la:(a:Int)<(N:Int):=by omega
    clear hk d3 g1 g2;have c1:=(U.out.cell b2.out).1;have c2:=(U.out.cell d6.out).1;have gl:=(U.out.cell b2.out).2.2;have d0:=@aJ.cells wr;have b3:Hid (∀ z:aJ wr,Calls Tryz.prog 49 #[.string v,.string x] z.at_ fun e b9=>e = .returned (.int .i64 (J v x)) ∧ ∃ u:aJ wr,b9=u.at_):=fun z=>aJ.call (HC.out _ _ _ sv co);go_wp2_with fail
    refine cG (by kernel_rfl) (by kernel_rfl) ?_
    repeat (go_big_quiet_step ((first | (go_at_call 49; with_reducible exact b3.out _))))
    refine wpQuiet_nil ?_
    rintro _ ⟨nx,rfl⟩;have b0:=zH (U.out.later nx.below);clear d0 b3 c1 c2 gl U;generalize nx.at_=w2 at *;have hq:dO J v x=decide (J v x<0):=rfl;generalize decide (J v x<0)=q at *;cases q with
    | true =>
     have HQ:=zH hq;have wk:IntKind.i64.wrap ((k:Int)+1)=(k:Int)+1:=IntWalk.i64_in _ (by omega);clear hq;go_wp2
     go_roundw
     case rel =>
      refine ⟨k+1,j,I ++ (A ++ [v]),C,D,by first | rfl | go_num,rfl,by omega,by omega,dg,?_,?_,?_,?_,HG,b0⟩
      · show _=_; rw [show V=_ from HV.out]; simp
      · have h3:=HI.out; have h4:=al.out; change _=_ at h3; change _=_ at h4; show _=_; simp; omega
      · have h3:=HJ.out; have h4:=al.out; change _=_ at h3; change _=_ at h4; show _=_; simp at h3; omega
      · intro y hy
        rcases List.mem_append.1 hy with hy | hy
        · exact HL.out y hy
        · have hs:dL (dO J) (A ++ v::C):=bv.out.right.left
          rcases List.mem_append.1 hy with hy | hy
          · exact hW.of_lt (hs.across y hy v List.mem_cons_self) HQ.out
          · rw [List.mem_singleton.1 hy]; exact HQ.out
     case measure=>simp [intOf]; omega
    | false =>
     have HQ:=zH hq;clear hq;go_wp2
     go_roundw
     case rel =>
      refine ⟨i,k,I,A,v::(C ++ D),rfl,by first | rfl | go_num,c8,dk,by omega,?_,HI,al,HL,?_,b0⟩
      · show _=_; rw [show V=_ from HV.out]; simp
      · intro y hy
        rcases List.mem_cons.1 hy with rfl | hy
        · exact HQ.out
        · rcases List.mem_append.1 hy with hy | hy
          · have hs:dL (dO J) (v::C):=bv.out.right.left.right
            exact hW.leT (HQ.out) ((List.pairwise_cons.1 hs).1 y hy)
          · exact HG.out y hy
     case measure=>simp [intOf]; omega
  · obtain rfl:i=j:=by omega
    have dn:V2=[]:=List.eq_nil_of_length_eq_zero (by have:=HJ.out; change _=_ at this; omega);subst dn;clear HJ dl hlt;have w1:IntKind.i64.wrap ((i:Int) - 1)=(i:Int) - 1:=IntWalk.i64_in _ (by omega);go_wp2
    go_loopw [13] (fun vk wr=>∃ (k:Nat) (O Vb:List S),vk = .int .i64 k∧k≤N∧Hid (I=O ++ Vb)∧Hid (k=a+O.length)∧Hid (SF B g cap N w0 wr (P ++ (O ++ x::(Vb ++ (D ++ Q)))))) (fun vk _=>i - (intOf vk).toNat)
    case atStart=>exact ⟨a,[],I,rfl,by omega,rfl,rfl,(by show SF _ _ _ _ _ _ _; have:=U.out; rw [show V=_ from HV.out] at this; simpa using this)⟩
    case round =>
     clear U;obtain ⟨k,O,Vb,rfl,eV,ac,HK,U⟩:=hrel;cases Vb with
     | nil =>
      have d1 : ¬ (k:Int)<(i:Int) - 1:=by
       have h1:=ac.out; have h2:=HK.out; have h3:=HI.out; have h4:=HM.out;change _=_ at h1; change _=_ at h2; change _=_ at h3; change _=_ at h4
       rw [h1] at h3; simp at h3; omega
      go_wp2
      go_end0
      have e:I=O ++ []:=ac.out;rw [List.append_nil] at e;subst e;have hs:dL (dO J) (I ++ D):=by have:=hV; rw [show V=_ from HV.out] at this; simpa using this
      refine ⟨rfl,I ++ x::D,?_,?_,(by have:=U.out; simpa using this)⟩
      · refine dL.app hs.left (List.pairwise_cons.2 ⟨HG.out,hs.right⟩) fun y hy z hz=>?_
        rcases List.mem_cons.1 hz with rfl | hz
        · exact hW.asym _ _ (HL.out y hy)
        · exact hs.across y hy z hz
      · rw [show V=_ from HV.out]
        have:=(aH.turn hW (u:=[x]) (v:=I) (fun p hp q hq=>by rw [List.mem_singleton.1 hp]; exact HL.out q hq)).app (aH.refl D)
        simpa using this
     | cons y Vc =>
      have eU:k+1<i:=by
       have h1:=ac.out; have h2:=HK.out; have h3:=HI.out; have h4:=HM.out;change _=_ at h1; change _=_ at h2; change _=_ at h3; change _=_ at h4
       rw [h1] at h3; simp at h3; omega
      have d1:(k:Int)<(i:Int) - 1:=by omega
      have a4:Hid (k=(P ++ O).length):=by show _=_; have h1:=HA.out; have h2:=HK.out; change _=_ at h1; change _=_ at h2; simp; omega
      have Z:Hid (SF B g cap N w0 wr ((P ++ O) ++ x::y::(Vc ++ (D ++ Q)))):=by show SF _ _ _ _ _ _ _; have:=U.out; simpa using this
      have g1:=iN (P ++ O) x (y::(Vc ++ (D ++ Q))) a4.out;have g2:=vv (P ++ O) x y (Vc ++ (D ++ Q)) a4.out;have c1:=(Z.out.cell g1).1;have f1:=(Z.out.cell g1).2.1;have c2:=(Z.out.cell g2).1;have f2:=(Z.out.cell g2).2.1;have c3:(wr.setCell ⟨g,k,none⟩ (.string y)).cell? ⟨g,k+1,none⟩=some (.string y):=by rw [World.cell?_setCell_other _ _ _ _ (by simp only [Addr.mk.injEq,not_and,ne_eq]; omega)]; exact c2
      have d4:Hid (SF B g cap N w0 ((wr.setCell ⟨g,k,none⟩ (.string y)).setCell ⟨g,k+1,none⟩ (.string x)).drew ((P ++ O) ++ y::x::(Vc ++ (D ++ Q)))):=by
       have:=Z.out.swap g1 g2 (by omega)
       rw [tE _ _ _ _ a4.out] at this;exact this
      have el:(k:Int)+1<(N:Int):=by omega
      have lk:(k:Int)<(N:Int):=by omega
      have wk:IntKind.i64.wrap ((k:Int)+1)=(k:Int)+1:=IntWalk.i64_in _ (by omega);have tk:((k:Int)+1).toNat=k+1:=by omega
      have pk:(0:Int)≤(k:Int)+1:=by omega
      clear g1 g2 U Z;go_wp2_with fail
      go_big_region
      clear c1 c2 c3 f1 f2;generalize ((wr.setCell ⟨g,k,none⟩ (.string y)).setCell ⟨g,k+1,none⟩ (.string x)).drew=w3 at *;go_wp2
      go_roundw
      case rel=>exact ⟨k+1,O ++ [y],Vc,by first | rfl | go_num,by omega,(by show _=_; rw [show I=_ from ac.out]; simp),(by show _=_; rw [List.length_append,← Nat.add_assoc,← show k=_ from HK.out]; rfl),(by show SF _ _ _ _ _ _ _; have:=d4.out; simpa using this)⟩
      case measure=>simp [intOf]; omega
theorem qF {B g cap N a m b:Nat} {w0:World} {I:S→S→Int} (hC:mL I) (hW:eG (dO I)) (P U:List S) (x:S) (Q:List S) (hN:N≤1000000) (ha:a=P.length) (hm:m=a+U.length) (hb:b=m+1) (hu:U.length≠1) (cT:x.size≤900000) (c8:ci U) (hU:dL (dO I) U) (w:World) (h:SF B g cap N w0 w (P ++ (U ++ x::Q))) :
    Calls Tryz.prog 109 #[.slice (some ⟨g,0,none⟩) N cap,.int .i64 a,.int .i64 m,.int .i64 b,fo] w (oN I B g cap N w0 P U [x] Q):=by
 have a5:=h.len;simp only [List.length_append,List.length_cons] at a5;have HS:=zH h;have HC:=zH hC;have HA:=zH ha;have HM:=zH hm;have em:m<N:=by omega
 have dr:a≤m:=by omega
 obtain ⟨n,hn⟩ : ∃ n,n=U.length:=⟨_,rfl⟩;have e1:IntKind.i64.wrap ((m:Int) - (a:Int))=(n:Int):=by rw [show (m:Int) - (a:Int)=(n:Int) by omega]; exact IntWalk.i64_in _ (by omega)
 have e2:((n:Int) == 1)=false:=by rw [beq_eq_false_iff_ne]; omega
 have d7:(n == 1)=false:=by rw [beq_eq_false_iff_ne]; omega
 have e3:IntKind.i64.wrap ((b:Int) - (m:Int))=1:=by rw [show (b:Int) - (m:Int)=1 by omega]; exact IntWalk.i64_in _ (by omega)
 clear h hC a5 ha hb hm hn hu;have e4:=iF;unfold fo;go_enter Tryz.func109,Tryz.ntmps109
 go_wp2
 clear e1 e2 d7 e3;go_loopw [14,15] (fun vi vj wr=>∃ (i j:Nat) (D U2 J:List S),vi = .int .i64 i∧vj = .int .i64 j∧a≤i∧i≤j∧j≤m∧Hid (U=D ++ (U2 ++ J))∧Hid (D.length+a=i)∧Hid (U2.length+i=j)∧Hid (∀ v ∈ D,dO I x v=false)∧Hid (∀ v ∈ J,dO I x v=true)∧Hid (SF B g cap N w0 wr (P ++ (U ++ x::Q)))) (fun vi vj _=>(intOf vj).toNat - (intOf vi).toNat)
 case atStart=>exact ⟨a,m,[],U,[],rfl,rfl,Nat.le_refl _,dr,Nat.le_refl _,(by show _=_; simp),(by show _=_; simp),(by show _=_; rw [HM.out]; omega),(by show ∀ _,_; simp),(by show ∀ _,_; simp),HS⟩
 case round =>
  clear HS;obtain ⟨i,j,D,U2,J,rfl,rfl,c9,dn,dk,HV,HI,HJ,HL,HG,O⟩:=hrel;by_cases hlt:i<j
  · obtain ⟨k,hk⟩ : ∃ k:Nat,k=(i+j) / 2:=⟨_,rfl⟩
    have dl:i≤k:=by omega
    have ex:k<j:=by omega
    have en:((i:Int)+(j:Int)) / 2=(k:Int):=by omega
    obtain ⟨A,v,C,rfl,d6⟩:=yY (l:=U2) (k:=k - i) (by have:=HJ.out; change _=_ at this; omega);have ag:Hid (A.length+i=k):=by show _=_; omega
    have g1:(P ++ (U ++ x::Q))[k]? = some v:=by
     have h1:=HV.out; have h2:=HA.out; have h3:=HI.out; have h4:=ag.out;change _=_ at h1; change _=_ at h2; change _=_ at h3; change _=_ at h4
     rw [h1,show P ++ ((D ++ ((A ++ v::C) ++ J)) ++ x::Q)=(P ++ (D ++ A)) ++ v::(C ++ J ++ x::Q) by simp];exact iN _ _ _ (by simp; omega)
    have g2:(P ++ (U ++ x::Q))[m]? = some x:=by
     rw [show P ++ (U ++ x::Q)=(P ++ U) ++ x::Q by simp];exact iN _ _ _ (by have h1:=HA.out; have h2:=HM.out; change _=_ at h1; change _=_ at h2; simp; omega)
    have sv:v.size≤900000:=c8 v (by rw [show U=_ from HV.out]; simp);have ed:=zH g1;have b2:=zH g2;have bv:Hid (dL (dO I) (D ++ ((A ++ v::C) ++ J))):=by have:=hU; rw [show U=_ from HV.out] at this; exact this
    have lk:(k:Int)<(N:Int):=by omega
    have la:(m:Int)<(N:Int):=by omega
    clear hk d6 g1 g2;have c1:=(O.out.cell b2.out).1;have c2:=(O.out.cell ed.out).1;have gl:=(O.out.cell b2.out).2.2;have d4:=@aJ.cells wr;have b3:Hid (∀ z:aJ wr,Calls Tryz.prog 49 #[.string x,.string v] z.at_ fun e cm=>e = .returned (.int .i64 (I x v)) ∧ ∃ u:aJ wr,cm=u.at_):=fun z=>aJ.call (HC.out _ _ _ cT sv);go_wp2_with fail
    refine cG (by kernel_rfl) (by kernel_rfl) ?_
    repeat (go_big_quiet_step ((first | (go_at_call 49; with_reducible exact b3.out _))))
    refine wpQuiet_nil ?_
    rintro _ ⟨nx,rfl⟩;have b0:=zH (O.out.later nx.below);clear d4 b3 c1 c2 gl O;generalize nx.at_=w2 at *;have hq:dO I x v=decide (I x v<0):=rfl;generalize decide (I x v<0)=q at *;cases q with
    | false =>
     have HQ:=zH hq;have wk:IntKind.i64.wrap ((k:Int)+1)=(k:Int)+1:=IntWalk.i64_in _ (by omega);clear hq;go_wp2
     go_roundw
     case rel =>
      refine ⟨k+1,j,D ++ (A ++ [v]),C,J,by first | rfl | go_num,rfl,by omega,by omega,dk,?_,?_,?_,?_,HG,b0⟩
      · show _=_; rw [show U=_ from HV.out]; simp
      · have h3:=HI.out; have h4:=ag.out; change _=_ at h3; change _=_ at h4; show _=_; simp; omega
      · have h3:=HJ.out; have h4:=ag.out; change _=_ at h3; change _=_ at h4; show _=_; simp at h3; omega
      · intro y hy
        rcases List.mem_append.1 hy with hy | hy
        · exact HL.out y hy
        · have hs:dL (dO I) (A ++ v::C):=bv.out.right.left
          rcases List.mem_append.1 hy with hy | hy
          · exact hW.leT (hs.across y hy v List.mem_cons_self) HQ.out
          · rw [List.mem_singleton.1 hy]; exact HQ.out
     case measure=>simp [intOf]; omega
    | true =>
     have HQ:=zH hq;clear hq;go_wp2
     go_roundw
     case rel =>
      refine ⟨i,k,D,A,v::(C ++ J),rfl,by first | rfl | go_num,c9,dl,by omega,?_,HI,ag,HL,?_,b0⟩
      · show _=_; rw [show U=_ from HV.out]; simp
      · intro y hy
        rcases List.mem_cons.1 hy with rfl | hy
        · exact HQ.out
        · rcases List.mem_append.1 hy with hy | hy
          · have hs:dL (dO I) (v::C):=bv.out.right.left.right
            exact hW.lt_of HQ.out ((List.pairwise_cons.1 hs).1 y hy)
          · exact HG.out y hy
     case measure=>simp [intOf]; omega
  · obtain rfl:i=j:=by omega
    have d0:U2=[]:=List.eq_nil_of_length_eq_zero (by have:=HJ.out; change _=_ at this; omega);subst d0;clear HJ dn hlt;go_wp2
    go_loopw [17] (fun vk wr=>∃ (k:Nat) (Ua Ub:List S),vk = .int .i64 k∧k≤m∧Hid (J=Ua ++ Ub)∧Hid (k=i+Ua.length)∧Hid (SF B g cap N w0 wr (P ++ (D ++ (Ua ++ x::(Ub ++ Q)))))) (fun vk _=>(intOf vk).toNat)
    case atStart =>
     refine ⟨m,J,[],rfl,Nat.le_refl _,(by show _=_; simp),?_,?_⟩
     · have h1:=HV.out; have h2:=HM.out; have h3:=HI.out
       change _=_ at h1; change _=_ at h2; change _=_ at h3
       show _=_
       rw [h1] at h2; simp at h2; omega
     · show SF _ _ _ _ _ _ _; have:=O.out; rw [show U=_ from HV.out] at this; simpa using this
    case round =>
     clear O;obtain ⟨k,Ua,Ub,rfl,eV,a8,HK,O⟩:=hrel;by_cases eU:i<k
     · obtain ⟨Uc,y,rfl⟩:=uQ (l:=Ua) (fun e=>by have:=HK.out; change _=_ at this; rw [e] at this; simp at this; omega)
       obtain ⟨jp,dg⟩ : ∃ jp,k=jp+1:=⟨k - 1,by omega⟩;subst dg;have w1:IntKind.i64.wrap ((jp:Int)+1 - 1)=(jp:Int):=by rw [show (jp:Int)+1 - 1=(jp:Int) by omega]; exact IntWalk.i64_in _ (by omega)
       have d1:(i:Int)<(jp:Int)+1:=by omega
       have a4:Hid (jp=(P ++ (D ++ Uc)).length):=by show _=_; have h1:=HA.out; have h2:=HK.out; have h3:=HI.out; change _=_ at h1; change _=_ at h2; change _=_ at h3; simp at *; omega
       have Z:Hid (SF B g cap N w0 wr ((P ++ (D ++ Uc)) ++ y::x::(Ub ++ Q))):=by show SF _ _ _ _ _ _ _; have:=O.out; simpa using this
       have g1:=iN (P ++ (D ++ Uc)) y (x::(Ub ++ Q)) a4.out;have g2:=vv (P ++ (D ++ Uc)) y x (Ub ++ Q) a4.out;have c1:=(Z.out.cell g1).1;have f1:=(Z.out.cell g1).2.1;have c2:=(Z.out.cell g2).1;have f2:=(Z.out.cell g2).2.1;have c3:(wr.setCell ⟨g,jp+1,none⟩ (.string y)).cell? ⟨g,jp,none⟩=some (.string y):=by rw [World.cell?_setCell_other _ _ _ _ (by simp only [Addr.mk.injEq,not_and,ne_eq]; omega)]; exact c1
       have d8:Hid (SF B g cap N w0 ((wr.setCell ⟨g,jp+1,none⟩ (.string y)).setCell ⟨g,jp,none⟩ (.string x)).drew ((P ++ (D ++ Uc)) ++ x::y::(Ub ++ Q))):=by
        have:=Z.out.swap g2 g1 (by omega)
        rw [pz _ _ _ _ a4.out] at this;exact this
       have l1:(jp:Int)+1<(N:Int):=by omega
       have l2:(jp:Int)<(N:Int):=by omega
       have t1:((jp:Int)+1).toNat=jp+1:=by omega
       have p1:(0:Int)≤(jp:Int)+1:=by omega
       clear g1 g2 O Z;go_wp2_with fail
       go_big_region
       clear c1 c2 c3 f1 f2;generalize ((wr.setCell ⟨g,jp+1,none⟩ (.string y)).setCell ⟨g,jp,none⟩ (.string x)).drew=w3 at *;go_wp2
       go_roundw
       case rel=>exact ⟨jp,Uc,y::Ub,by first | rfl | go_num,by omega,(by show _=_; rw [show J=_ from a8.out]; simp),(by have h2:=HK.out; change _=_ at h2; show _=_; simp at h2; omega),(by show SF _ _ _ _ _ _ _; have:=d8.out; simpa using this)⟩
       case measure=>simp [intOf]
     · have d1 : ¬ (i:Int)<(k:Int):=by omega
       have d2:Ua=[]:=List.eq_nil_of_length_eq_zero (by have:=HK.out; change _=_ at this; omega);subst d2;go_wp2
       go_end0
       have e:J=[] ++ Ub:=a8.out;rw [List.nil_append] at e;subst e;have hs:dL (dO I) (D ++ J):=by have:=hU; rw [show U=_ from HV.out] at this; simpa using this
       refine ⟨rfl,D ++ x::J,lC hW hs HL.out HG.out,?_,(by have:=O.out; simpa using this)⟩
       rw [show U=_ from HV.out];have:=jz hW (m1:=D) HG.out
       simpa using this
end Go.Proofs.YtominiaohfjobaaGreatDoor
