/- The walk of All where the text is not too great; its conditions stand in the theorem. -/
import Derived.Test.YtominiaohfjobaaGreatDoorPK05
import Derived.KernelRfl
import Derived.Test.YtominiaohfjobaaGreatDoorPK04
import Derived.StillTailTactics
import Derived.Test.YtominiaohfjobaaGreatDoorPK03
import Derived.Test.YtominiaohfjobaaGreatDoorPK02
import Derived.Lib.Bytealg
import Derived.Test.YtominiaohfjobaaGreatDoorPK01
import Derived.Test.YtominiaohfjobaaGreatDoorShelf
import Derived.Laws.IdiomStrings
import Derived.Laws.BytesArg
import Derived.LoopTactic
import Derived.IntWalk
set_option maxRecDepth 100000
set_option maxHeartbeats 64000000
namespace Go.Proofs.YtominiaohfjobaaGreatDoor
open Go Go.RowKit
structure ji (w wr:World) (s:S) (l:Bs) (ov:Value) (L:List kp) (acc:List (Tk × Bs)) (f:Nat):Prop where
 toks:jJ wr (w.heap.size+4) s l ov L
 vars:iP wr w.heap.size s (.slice none 0 0) (.int .i64 0) (.int .i64 0) (.int .i64 0) (.int .i64 0)
 below:Below w.heap.size w wr
 spec:jI s.data.toList=eR f (decide (aB s l=0)) acc l
 fuel:l.length≤f
 same:L.map (fun x=>(x.t,x.off,x.line,x.col))=acc.map (fun p=>(p.1,(aB s p.2:Int),(0:Int),(0:Int)))
 falls:jM s.data.toList acc l
 num:L.length+l.length≤s.size
theorem ji.drewN {w wr:World} {s:S} {l:Bs} {ov:Value} {L:List kp} {acc:List (Tk × Bs)} {f:Nat} (h:ji w wr s l ov L acc f) (n:Nat):ji w (wr.drewN n) s l ov L acc f :=
 ⟨h.toks.kept (aX _ _ _) (h.toks.rd.drewN n),h.vars.below (aY (Below.refl _ _) n),aY h.below n,h.spec,h.fuel,h.same,h.falls,h.num⟩
theorem ji.next {w wr w2:World} {s:S} {l r:Bs} {ov A av:Value} {L:List kp} {acc:List (Tk × Bs)} {f:Nat} {t:Tk} (h:ji w wr s l ov L acc f) (J:l≠[]) (D:cF (decide (aB s l=0)) l = .ok t r)
    (U:jJ w2 (w.heap.size+4) s r A (L ++ [⟨t,av,aB s l,0,0⟩])) (O:Below (w.heap.size+4) wr w2):ji w w2 s r A (L ++ [⟨t,av,aB s l,0,0⟩]) (acc ++ [(t,l)]) (f - 1):=by
 have hlt:=gw D J;have I:=fO (nw _ l) D;have aa:0<l.length:=List.length_pos_iff.2 J;obtain ⟨Z,rfl⟩ : ∃ Z,f=Z+1:=⟨f - 1,by have:=h.fuel; omega⟩;refine ⟨U,h.vars.belowB O (by omega),h.below.trans (O.mono (by omega)),?_,?_,?_,h.falls.snoc h.toks.rd.suf I hlt t,?_⟩
 · rw [h.spec]
   cases l with
   | nil=>exact absurd rfl J
   | cons c l =>
    simp only [eR];rw [D];simp only [Nat.add_sub_cancel]
    have:decide (aB s r=0)=false:=by
     have h1:=aT h.toks.rd.suf;have h2:=aT U.rd.suf;simp; omega
    rw [this]
 · have:=h.fuel; omega
 · rw [List.map_append,List.map_append,h.same]; rfl
 · have:=h.num; rw [List.length_append,List.length_singleton]; omega
theorem ji.bad {w wr:World} {s:S} {l r:Bs} {ov:Value} {L:List kp} {acc:List (Tk × Bs)} {f:Nat} {x:Int} (h:ji w wr s l ov L acc f) (A:l≠[]) (I:cF (decide (aB s l=0)) l = .bad x r):jI s.data.toList = .bad x r:=by
 have J:0<l.length:=List.length_pos_iff.2 A;obtain ⟨D,rfl⟩ : ∃ D,f=D+1:=⟨f - 1,by have:=h.fuel; omega⟩;rw [h.spec];cases l with
 | nil=>exact absurd rfl A
 | cons c l=>simp only [eR]; rw [I]
theorem ji.done {w wr:World} {s:S} {ov:Value} {L:List kp} {acc:List (Tk × Bs)} {f:Nat} (h:ji w wr s [] ov L acc f):jI s.data.toList = .ok acc []:=by
 rw [h.spec]; cases f <;> rfl
theorem ji.start {w W:World} {s:S} (hx:ak W (w.heap.size+4) [.string s,.int .i64 0,.slice none 0 0]) (D:iP W w.heap.size s (.slice none 0 0) (.int .i64 0) (.int .i64 0) (.int .i64 0) (.int .i64 0)) (A:Below w.heap.size w W) :
    ji w W s s.data.toList (.slice none 0 0) [] [] s.size:=by
 have hp:aB s s.data.toList=0:=by unfold aB; rw [au]; omega
 refine ⟨⟨⟨by rw [hp]; exact hx,List.suffix_refl _⟩,aj.nil,by simp⟩,D,A,?_,by rw [au]; exact Nat.le_refl _,rfl,jM.nil _ _,by simp⟩
 rw [hp]; unfold jI; rw [au]; rfl
theorem ji.rises {w wr:World} {s:S} {ov:Value} {L:List kp} {acc:List (Tk × Bs)} {f:Nat} (h:ji w wr s [] ov L acc f) :
    (∀ j (A:j<L.length),∃ o:Nat,L[j].off=o∧o<s.size) ∧ ∀ i j (I:i<j) (A:j<L.length),L[i].off≤L[j].off:=by
 have J:L.length=acc.length:=by have:=congrArg List.length h.same; simpa using this
 have D : ∀ j (A:j<L.length),L[j].off=(aB s (acc[j]'(by omega)).2:Int):=fun j A=>by
  have:=congrArg (·[j]?) h.same
  simp only [List.getElem?_map,List.getElem?_eq_getElem A,List.getElem?_eq_getElem (show j<acc.length by omega),Option.map_some,Option.some.injEq,Prod.mk.injEq] at this;exact this.2.1
 refine ⟨fun j A=>⟨_,D j A,?_⟩,fun i j I A=>?_⟩
 · obtain ⟨-,h2,h3⟩:=h.falls.2 (acc[j]'(by omega)) (List.getElem_mem _)
   have:=aT h3
   simp at h2; omega
 · rw [D i (by omega),D j A]
   have h1:=List.pairwise_iff_getElem.1 h.falls.1 i j (by omega) (by omega) I;obtain ⟨-,-,h3⟩:=h.falls.2 (acc[i]'(by omega)) (List.getElem_mem _);obtain ⟨-,-,O⟩:=h.falls.2 (acc[j]'(by omega)) (List.getElem_mem _);have:=aT h3
   have:=aT O
   have:=h1.2
   omega
theorem ji.places {w wr:World} {s:S} {l:Bs} {ov:Value} {L:List kp} {acc:List (Tk × Bs)} {f:Nat} (h:ji w wr s l ov L acc f) :
    (L.map (cN s)).map (fun x=>(x.t,x.off,x.line,x.col))=acc.map (fun p=>(p.1,(aB s p.2:Int),((az (s.data.toList.take (aB s p.2))).1:Int),((az (s.data.toList.take (aB s p.2))).2:Int))):=by
 have h1:=congrArg (List.map (fun q:Tk × Int × Int × Int=>(q.1,q.2.1,((az (s.data.toList.take q.2.1.toNat)).1:Int),((az (s.data.toList.take q.2.1.toNat)).2:Int)))) h.same;rw [List.map_map,List.map_map] at h1;rw [List.map_map];refine Eq.trans ?_ (h1.trans ?_)
 · rfl
 · rfl
theorem nJ {α:Type} {base E n:Nat} {C:α→List Value} {W:World} {B:Nat} {v:Value} {l:List α} (h:aj base E n C W v l) (hB:B+3<base) (u1 u2 A q1 q2:Value):aj base E n C (((((W.setCell ⟨B+1,0,none⟩ u1).setCell ⟨B+2,0,none⟩ u2).setCell ⟨B+3,0,none⟩ A).setCell ⟨B+3,1,none⟩ q1).setCell ⟨B+3,2,none⟩ q2) v l :=
 ((((h.keptR (ab _ _ _ _) (by omega)).keptR (ab _ _ _ _) (by omega)).keptR (ab _ _ _ _) (by omega)).keptR (ab _ _ _ _) (by omega)).keptR (ab _ _ _ _) (by omega)
theorem qy (s:S) (m:Int) (w:World) (hs:s.size≤65536) (hm:w.cell? ⟨0,0,none⟩=some (.int .i64 m)) :
    Calls Tryz.prog 82 #[.string s] w (kM s w (jI s.data.toList)):=by
 have hu : ¬ (65536:Int)<(s.size:Int):=by omega
 have en:0<w.heap.size:=World.block_lt_of_cell? w _ hm;have HM:=zH hm;clear hm;have eU : ∀ (fn:Fn) (first cap:Array Value) (w:World),(Instr.makeFunc fn first cap).run Tryz.prog w = .ok (.func fn first cap) w:=fun _ _ _ _=>rfl;go_enter_defers Tryz.func82,Tryz.ntmps82
 go_wp2
 refine ai fun W hW=>?_
 have hV:iP W w.heap.size s (.slice none 0 0) (.int .i64 0) (.int .i64 0) (.int .i64 0) (.int .i64 0):=by rw [hW]; exact (iP.made w s).below ((Below.refl _ _).alloc (Nat.le_refl _) _)
 have hB:Below w.heap.size w W:=by rw [hW]; exact (((((Below.refl _ _).alloc (Nat.le_refl _) _).alloc (by simp) _).alloc (by simp; omega) _).alloc (by simp; omega) _).alloc (by simp; omega) _
 have hx:ak W (w.heap.size+4) [.string s,.int .i64 0,.slice none 0 0]:=by rw [hW]; exact ak.new _ _ _ _ (by simp)
 have hA:=zH (ji.start hx hV hB);clear hW hV hB hx eU;go_loopw [] (fun wr=>∃ l ov L acc f,ji w wr s l ov L acc f) (fun wr=>s.size - (fE wr (w.heap.size+4)).toNat)
 case atStart=>exact ⟨_,_,_,_,_,hA.out⟩
 case round =>
  clear hA;obtain ⟨l,ov,L,acc,f,hA⟩:=hrel;have A:=zH hA;have hm:wr.cell? ⟨0,0,none⟩=some (.int .i64 m):=(hA.below.cell (by simpa using en)).trans HM.out;have g4:=hA.num;have g6:=hA.toks.rd.box.lt;clear hA;by_cases hl:l=[]
  · subst hl
    have HN:Hid (Calls Tryz.prog 120 #[.pointer (some ⟨w.heap.size+4,0,none⟩)] wr (Qt (.bool true) wr)):=ch (w.heap.size+4) s [] ov wr A.out.toks.rd;obtain ⟨ao,cap,rfl⟩:=A.out.toks.own.shape;have c2:=A.out.toks.rd.c2;go_wp2_with fail
    refine HN.out.mono ?_
    rintro e w1 ⟨rfl,n,rfl⟩;obtain ⟨bv,a8⟩:=A.out.rises;have ei:=zH bv;have fz:=zH a8;have hP:oL w (wr.drewN n) s ao cap L 0:=⟨(A.out.drewN n).toks.rd,(A.out.drewN n).vars,(A.out.drewN n).below,by simpa using (A.out.drewN n).toks.own,by simpa using (A.out.drewN n).toks.att⟩;have D:=zH hP;have hI:L.length≤65536:=by omega
    clear bv a8 hP;go_wp2
    clear c2;go_loopw [6,7,8,9,32] (fun li ah _ _ i wr=>∃ k a:Nat,k≤L.length∧i = .int .i64 k∧a≤s.size∧ah = .int .i64 a∧li = .int .i64 (az (s.data.toList.take a)).1∧Hid (∀ j (hj:j<L.length),k≤j→(a:Int)≤L[j].off)∧oL w wr s ao cap L k) (fun _ _ _ _ i _=>L.length - (intOf i).toNat)
    case atStart=>exact ⟨0,0,Nat.zero_le _,rfl,Nat.zero_le _,rfl,by simp [az],fun j hj _=>by obtain ⟨o,h1,-⟩:=ei.out j hj; omega,D.out⟩
    case round =>
     clear D;obtain ⟨k,a,hk,rfl,ha,rfl,rfl,HR,hP⟩:=hrel;have D:=zH hP;have g5:=hP.rd.box.lt;have c2:=hP.rd.c2;have cT:=hP.vars.x0.cell 0 _ rfl;clear hP;by_cases O:k<L.length
     · have a9:((L.take k).map (cN s) ++ L.drop k).length=L.length:=by simp; omega
       have al:aj (w.heap.size+5) 162 7 cz wr (.slice ao ((L.take k).map (cN s) ++ L.drop k).length cap) ((L.take k).map (cN s) ++ L.drop k):=by rw [a9]; exact D.out.own
       obtain ⟨g,rfl,d2,hC,-,d9,J,-⟩:=bO (j:=5) df al (lE O) (by decide);obtain ⟨g2,e2,-,-,-,d8,-,-⟩:=bO (j:=6) df al (lE O) (by decide);cases e2
       have d4:=J 4 _ rfl;have d5:wr.cell? ⟨g,k*7+4+1,none⟩=some (.int .i64 L[k].line):=J 5 _ rfl;have d6:wr.cell? ⟨g,k*7+4+2,none⟩=some (.int .i64 L[k].col):=J 6 _ rfl;have g8:wr.frozen? ⟨g,k*7+4+1,none⟩=false:=d9;have g7:wr.frozen? ⟨g,k*7+4+2,none⟩=false:=d8;obtain ⟨o,ho,hv⟩:=ei.out k O;have e7:=HR.out k O (Nat.le_refl _);have b4:a≤o:=by omega
       rw [ho] at d4;have cm:=zH ho
       have e9:Hid (∀ j (hj:j<L.length),k+1≤j→(o:Int)≤L[j].off):=fun j hj hw=>by
        rw [← cm.out]; exact fz.out k j (by omega) hj
       have hG:=zH d2;clear al J a9 ho e7 d2 d9 d8;generalize e4:L[k].line=l5 at *;generalize eV:L[k].col=l6 at *;clear e4 eV;go_wp2
       go_loop [6,7] (fun li ah=>∃ a':Nat,a'≤o∧ah = .int .i64 a'∧li = .int .i64 (az (s.data.toList.take a')).1) (fun _ ah=>o - (intOf ah).toNat)
       case atStart=>exact ⟨a,b4,rfl,rfl⟩
       case round =>
        clear b4 ha;obtain ⟨a',hH,rfl,rfl⟩:=hrel;have ed:=(jv (s.data.toList.take a')).2.2.1;rw [List.length_take] at ed;have hF:(az (s.data.toList.take a')).1≤65537:=by omega
        clear ed;by_cases hlt:a'<o
        · have has:a'<s.size:=by omega
          have a7:s.data.toList.take (a'+1)=s.data.toList.take a' ++ [s[a']]:=by
           rw [List.take_succ_eq_append_getElem (by rw [au]; exact has)]; rfl
          by_cases U:s[a']=10
          · have e1:(((s[a'].toNat:Nat):Int) == 10)=true:=by rw [U]; decide
            have HL:Hid ((az (s.data.toList.take (a'+1))).1=(az (s.data.toList.take a')).1+1):=by show _=_; rw [a7,eO,if_pos U]
            clear a7 U;generalize (az (s.data.toList.take a')).1=li at *;go_wp2
            go_round
            case rel=>exact ⟨a'+1,hlt,by go_num,by rw [HL.out]; go_num⟩
            case measure=>simp [intOf]; omega
          · have e1:(((s[a'].toNat:Nat):Int) == 10)=false:=by
             rw [beq_eq_false_iff_ne]; intro e; exact U (UInt8.toNat_inj.1 (by simpa using (by omega:s[a'].toNat=10)))
            have HL:Hid ((az (s.data.toList.take (a'+1))).1=(az (s.data.toList.take a')).1):=by show _=_; rw [a7,eO,if_neg U]
            clear a7 U;generalize (az (s.data.toList.take a')).1=li at *;go_wp2
            go_round
            case rel=>exact ⟨a'+1,hlt,by go_num,by rw [HL.out]⟩
            case measure=>simp [intOf]; omega
        · obtain rfl:a'=o:=by omega
          have b3:(s.extract 0 a').data.toList=s.data.toList.take a':=by rw [Lib.extract_data]; simp
          have b2:(s.extract 0 a').size=a':=by rw [← au,b3,List.length_take,au]; omega
          have el:=zH (fun w=>lA (s.extract 0 a') w (by rw [b2]; omega));rw [b3,b2] at el;have Z:=(jv (s.data.toList.take a')).2.2.2;rw [List.length_take] at Z;have hE:(az (s.data.toList.take a')).2≤65537:=by omega
          have cf:=zH (D.out.step O hG.out);have d3:(cN s L[k]).line=((az (s.data.toList.take a')).1:Int):=by unfold cN; rw [cm.out,Int.toNat_natCast]
          have d7:(cN s L[k]).col=((az (s.data.toList.take a')).2:Int):=by unfold cN; rw [cm.out,Int.toNat_natCast]
          rw [d3,d7] at cf;clear b3 b2 Z d3 d7;have e5:a'≤s.size:=by omega
          generalize d0:(az (s.data.toList.take a')).1=li at *;generalize e6:(az (s.data.toList.take a')).2=co at *;have ga:=zH d0;clear d0 e6;go_wp2_with fail
          refine (el.out _).mono ?_
          rintro e w' ⟨rfl,rfl⟩;go_wp2
          go_roundw
          case rel=>exact ⟨k+1,a',O,by go_num,e5,rfl,by rw [ga.out],e9,by first | exact cf.out | (rw [show (a':Int) - ((a':Int) - (co:Int))=(co:Int) by omega]; exact cf.out)⟩
          case measure=>simp [intOf]; omega
     · obtain rfl:k=L.length:=by omega
       have a1:=D.out.vars.x1.cell 0 _ rfl;have a2:=D.out.vars.x2.cell 0 _ rfl;obtain ⟨a3,a4,a5⟩:=ej D.out.vars.x3;have f1:=D.out.vars.x1.free 0;have f2:=D.out.vars.x2.free 0;have f3:=D.out.vars.x3.free 0;have f4:=D.out.vars.x3.free 1;have f5:=D.out.vars.x3.free 2;have l3:=D.out.vars.x3.lt;go_wp2
       have ba:=D.out.vars.store (.slice ao L.length cap) (.int .i64 0) (.int .i64 0) (.int .i64 0) (.int .i64 0);have bb:=sX D.out.below (.slice ao L.length cap) (.int .i64 0) (.int .i64 0) (.int .i64 0) (.int .i64 0);have b5:=nJ (B:=w.heap.size) D.out.own (by omega) (.slice ao L.length cap) (.int .i64 0) (.int .i64 0) (.int .i64 0) (.int .i64 0);have b6:=fun x hx=>nJ (B:=w.heap.size) (D.out.att x hx) (by omega) (.slice ao L.length cap) (.int .i64 0) (.int .i64 0) (.int .i64 0) (.int .i64 0);rw [List.take_length,List.drop_length,List.append_nil] at b5 b6;clear a1 a2 a3 a4 a5 f1 f2 f3 f4 f5 l3 c2 cT;generalize (((((wr.setCell ⟨w.heap.size+1,0,none⟩ (.slice ao L.length cap)).setCell ⟨w.heap.size+2,0,none⟩ (.int .i64 0)).setCell ⟨w.heap.size+3,0,none⟩ (.int .i64 0)).setCell ⟨w.heap.size+3,1,none⟩ (.int .i64 0)).setCell ⟨w.heap.size+3,2,none⟩ (.int .i64 0))=W3 at *;rw [A.out.done];refine leaves_cons (f:=119) (args:=#[.pointer (some ⟨w.heap.size,0,none⟩),.pointer (some ⟨w.heap.size+1,0,none⟩),.pointer (some ⟨w.heap.size+2,0,none⟩),.pointer (some ⟨w.heap.size+3,0,none⟩)]) (by simp) (by simp [go_sem]) ?_
       refine (ut _ _ _ _ W3).mono ?_
       rintro e u' w4 ⟨rfl,rfl,rfl⟩;have a1:=ba.x1.cell 0 _ rfl;have a2:=ba.x2.cell 0 _ rfl;obtain ⟨a3,a4,a5⟩:=ej ba.x3;refine ⟨.tuple #[.slice ao L.length cap,.int .i64 0,eT],?_,_,L.map (cN s),rfl,⟨b5.base_mono (by omega),fun x hx=>(b6 x hx).base_mono (by omega),A.out.places⟩,bb⟩
       clear ba bb b5 b6;simp [results,Tryz.results82,go_sem,a1,a2,a3,a4,a5,eT]
  · have HN:Hid (Calls Tryz.prog 120 #[.pointer (some ⟨w.heap.size+4,0,none⟩)] wr (Qt (.bool false) wr)):=by
     have:=ch (w.heap.size+4) s l ov wr A.out.toks.rd
     rw [show l.isEmpty=false by cases l with | nil=>exact absurd rfl hl | cons c r=>rfl] at this; exact this
    have I:=fun n=>vF (w.heap.size+4) s l ov L m (wr.drewN n) (A.out.drewN n).toks hs hm (by omega);have HL:=zH hl;clear hl;cases ht:cF (decide (aB s l=0)) l with
    | bad x r =>
     rw [ht] at I;have ag:=zH I;have HT:=zH ht;clear I ht;go_wp2_with fail
     refine HN.out.mono ?_
     rintro e w1 ⟨rfl,n,rfl⟩;go_wp2_with fail
     refine (ag.out n).mono ?_
     intro e w2 hO;obtain ⟨rfl,hb⟩:e = .panicked [{ v:=kF x (aB s r),recovered:=false }]∧Below (w.heap.size+4) _ w2:=hO;go_wp2
     rw [A.out.bad HL.out HT.out];have aa:=(A.out.drewN n).vars.belowB hb (by omega);have eg:=(A.out.drewN n).below.trans (hb.mono (by omega));have ex:aB s r≤s.size:=by unfold aB; omega
     clear hb ag HN;refine leaves_cons (f:=119) (args:=#[.pointer (some ⟨w.heap.size,0,none⟩),.pointer (some ⟨w.heap.size+1,0,none⟩),.pointer (some ⟨w.heap.size+2,0,none⟩),.pointer (some ⟨w.heap.size+3,0,none⟩)]) (by simp) (by simp [go_sem]) ?_
     refine (mS w.heap.size s x (aB s r) [] _ _ _ _ _ w2 ex (by omega) aa.x0 aa.x1 aa.x2 aa.x3).mono ?_
     rintro e u' w3 ⟨rfl,rfl,dr,dn,⟨q0,q1,q2,hq,dl⟩,Z⟩;have a1:=dr.cell 0 _ rfl;have a2:=dn.cell 0 _ rfl;obtain ⟨a3,a4,a5⟩:=ej dl;have bb:=eg.trans Z;clear dr dn dl Z eg aa;refine ⟨.tuple #[.slice none 0 0,.int .i64 x,eM s.data.toList (aB s r)],?_,rfl,bb⟩
     rw [hq];simp [results,Tryz.results82,go_sem,a1,a2,a3,a4,a5]
    | ok t r =>
     rw [ht] at I;have ag:=zH I;have HT:=zH ht;clear I ht;go_wp2_with fail
     refine HN.out.mono ?_
     rintro e w1 ⟨rfl,n,rfl⟩;go_wp2_with fail
     refine (ag.out n).mono ?_
     intro e w2 hO;obtain ⟨rfl,dk,av,ef,hb⟩:e = .returned (.tuple #[]) ∧ ∃ dk av,jJ w2 (w.heap.size+4) s r dk (L ++ [(⟨t,av,((aB s l:Nat):Int),0,0⟩:kp)])∧Below (w.heap.size+4) (wr.drewN n) w2:=hO;have a0:=(A.out.drewN n).next HL.out HT.out ef hb;clear ef hb ag HN;go_wp2
     go_roundw
     case rel=>exact ⟨_,_,_,_,_,a0⟩
     case measure =>
      rw [A.out.toks.rd.place,a0.toks.rd.place];have:=aT A.out.toks.rd.suf
      have:=aT a0.toks.rd.suf
      have:=gw HT.out HL.out
      omega
theorem qA.len {base:Nat} {w:World} {s:S} {ov:Value} {L:List kp} {acc:List (Tk × Bs)} (h:qA base w s ov L acc):L.length=acc.length:=by
 have:=congrArg List.length h.is; simpa using this
theorem qA.at {base:Nat} {w:World} {s:S} {ov:Value} {L:List kp} {acc:List (Tk × Bs)} (h:qA base w s ov L acc) {i:Nat} {t:Tk} {r:Bs} (I:acc[i]? = some (t,r)) :
    ∃ g o cap av,ov = .slice (some ⟨g,o,none⟩) acc.length cap∧g<w.heap.size∧w.cell? ⟨g,o+i*7,none⟩=some (.int .i64 t.kind)∧w.cell? ⟨g,o+i*7+1,none⟩=some (.string (bs t.name))∧w.cell? ⟨g,o+i*7+2,none⟩=some av∧w.cell? ⟨g,o+i*7+3,none⟩=some (.string (bs t.text)) ∧
     w.cell? ⟨g,o+i*7+4,none⟩=some (.int .i64 (aB s r:Nat))∧w.cell? ⟨g,o+i*7+5,none⟩=some (.int .i64 (az (s.data.toList.take (aB s r))).1)∧w.cell? ⟨g,o+i*7+6,none⟩=some (.int .i64 (az (s.data.toList.take (aB s r))).2)∧aj base 166 2 gJ w av t.attrs:=by
 have D:=h.len;have hlt:i<L.length:=by rw [D]; exact (List.getElem?_eq_some_iff.1 I).1
 have his:=congrArg (·[i]?) h.is;simp only [List.getElem?_map,List.getElem?_eq_getElem hlt,I,Option.map_some,Option.some.injEq,Prod.mk.injEq] at his;obtain ⟨h1,h2,h3,O⟩:=his;obtain ⟨ao,cap,rfl⟩:=h.own.shape;obtain ⟨g,o,rfl,J,A⟩:=(h.own.slice df).at hlt;have ha:=h.att L[i] (List.getElem_mem hlt);rw [h1] at ha;refine ⟨g,o,cap,L[i].av,by rw [D],J,?_,?_,A 2 _ rfl,?_,?_,?_,?_,ha⟩
 · rw [← h1]; simpa using A 0 _ rfl
 · rw [← h1]; exact A 1 _ rfl
 · rw [← h1]; exact A 3 _ rfl
 · rw [← h2]; exact A 4 _ rfl
 · rw [← h3]; exact A 5 _ rfl
 · rw [← O]; exact A 6 _ rfl
theorem Bm (s:S) (m:Int) (w:World) {acc:List (Tk × Bs)} {r:Bs} (A:s.size≤65536) (hm:w.cell? ⟨0,0,none⟩=some (.int .i64 m)) (h:jI s.data.toList = .ok acc r) :
    Calls Tryz.prog 82 #[.string s] w (kM s w (.ok acc r)):=by rw [← h]; exact qy s m w A hm
theorem AV (s:S) (m:Int) (w:World) {x:Int} {r:Bs} (A:s.size≤65536) (hm:w.cell? ⟨0,0,none⟩=some (.int .i64 m)) (h:jI s.data.toList = .bad x r) :
    Calls Tryz.prog 82 #[.string s] w (kM s w (.bad x r)):=by rw [← h]; exact qy s m w A hm
end Go.Proofs.YtominiaohfjobaaGreatDoor
namespace Go.Proofs.YtominiaohfjobaaGreatDoor
open Go Go.RowKit
variable {lo:Nat}
theorem vQ {st:lM} {t:Tk} {x:Int} (h:dQ st t = .bad x):x≠0:=by
 have A : ∀ {y:Int},cb st t = .bad y→y≠0:=fun hy=>by rcases kK hy with rfl | rfl <;> decide
 unfold dQ at h;split at h
 · unfold bU at h
   split at h
   · split at h
     · cases h
     · cases h; decide
   · split at h
     · cases h
     · split at h
       · cases h
       · split at h
         · cases h; decide
         · cases h
 · split at h
   · exact A h
   · split at h
     · cases hB:cb st t with
       | bad y=>rw [hB] at h; cases h; exact A hB
       | ok D =>
        rw [hB,qu hB] at h;cases h
     · split at h
       · unfold ul at h
         split at h
         · cases h; decide
         · split at h
           · cases h
           · cases h; decide
       · cases h
theorem qE {first:Bool} {l:Bs} {t:Tk} {r:Bs} (h:cF first l = .ok t r):t.kind=1∨t.kind=2∨t.kind=3∨t.kind=4∨t.kind=5∨t.kind=6:=by
 have hm : ∀ {α:Type} {x:cO α} {f:α→Tk} {k:Int} {t:Tk} {r:Bs},(∀ a,(f a).kind=k)→x.map f = .ok t r→t.kind=k:=by
  intro α x f k t r hf hx;cases x with
  | ok a r'=>simp only [cO.map,cO.ok.injEq] at hx; rw [← hx.1]; exact hf a
  | bad e r'=>simp [cO.map] at hx
 unfold cF at h;split at h
 · exact .inr (.inr (.inr (.inr (.inl (hm (fun _=>rfl) h)))))
 · split at h
   · exact .inr (.inr (.inr (.inl (hm (fun _=>rfl) h))))
   · split at h
     · exact .inr (.inr (.inr (.inr (.inr (hm (fun _=>rfl) h)))))
     · split at h
       · exact .inr (.inr (.inl (sU h)))
       · rcases nN h with e | e
         · exact .inl e
         · exact .inr (.inl e)
       · exact .inr (.inr (.inr (.inl (hm (fun _=>rfl) h))))
theorem vI (l:List Tk):20*l.length≤lO l:=by
 induction l with
 | nil=>simp [lO]
 | cons t l A =>
  simp only [lO,List.map_cons,List.sum_cons,List.length_cons] at A ⊢;unfold xA at *;omega
theorem tv {T:Bs} {acc:List (Tk × Bs)} {r:Bs} (h:jI T = .ok acc r) (D:T.length≤65536):acc.length≤100000∧(∀ k (hk:k<acc.length),acc[k].1.text.length≤2000000) ∧ ∀ k (hk:k<acc.length),acc[k].1.kind=1∨acc[k].1.kind=2∨acc[k].1.kind=3∨acc[k].1.kind=4∨acc[k].1.kind=5∨acc[k].1.kind=6:=by
 have h1:=(zr h).2;have h2:=vI (acc.map (·.1));rw [List.length_map] at h2;refine ⟨by omega,fun k hk=>?_,fun k hk=>?_⟩
 · have h3:=xQ (l:=acc.map (·.1)) (k:=k) (by simpa using hk)
   rw [List.getElem_map] at h3;unfold xA at h3;omega
 · obtain ⟨-,first,r',A⟩:=(uC h).2.2.1 acc[k] (List.getElem_mem hk)
   exact qE A
def pM (t:Tr) (av kv:Value):Value:=.agg #[.string (bs t.name),av,kv,.string (bs t.text)]
def iB:Value:=.agg #[.string ⟨#[]⟩,.slice none 0 0,.slice none 0 0,.string ⟨#[]⟩]
def oO (s:S) (w:World):cO Tr→Ending→World→Prop
 | .ok t _=>fun e w'=>∃ av kv,e = .returned (.tuple #[pM t av kv,.int .i64 0,eT])∧dJ w' t av kv∧Below w.heap.size w w'
 | .bad x r=>fun e w'=>e = .returned (.tuple #[iB,.int .i64 x,eM s.data.toList (aB s r)])∧Below w.heap.size w w'
def jK (lo B:Nat) (w:World) (s:S) (ov:Value) (acc:List (Tk × Bs)):Prop :=
 (∃ ao cap,ov = .slice ao acc.length cap) ∧ ∀ i t r,acc[i]? = some (t,r) → ∃ g o cap av,ov = .slice (some ⟨g,o,none⟩) acc.length cap∧g<B∧w.cell? ⟨g,o+i*7,none⟩=some (.int .i64 t.kind)∧w.cell? ⟨g,o+i*7+1,none⟩=some (.string (bs t.name))∧w.cell? ⟨g,o+i*7+2,none⟩=some av∧w.cell? ⟨g,o+i*7+3,none⟩=some (.string (bs t.text)) ∧
  w.cell? ⟨g,o+i*7+4,none⟩=some (.int .i64 (aB s r:Nat))∧w.cell? ⟨g,o+i*7+5,none⟩=some (.int .i64 (az (s.data.toList.take (aB s r))).1)∧w.cell? ⟨g,o+i*7+6,none⟩=some (.int .i64 (az (s.data.toList.take (aB s r))).2)∧jO lo B w av t.attrs
theorem jK.of {base B:Nat} {w:World} {s:S} {ov:Value} {L:List kp} {acc:List (Tk × Bs)} (h:qA base w s ov L acc) (D:lo≤base) (hB:w.heap.size≤B):jK lo B w s ov acc:=by
 refine ⟨?_,fun i t r A=>?_⟩
 · obtain ⟨ao,cap,e⟩:=h.own.shape
   exact ⟨ao,cap,by rw [e,h.len]⟩
 · obtain ⟨g,o,cap,av,e,I,c0,c1,c2,c3,c4,c5,c6,ha⟩:=h.at A
   exact ⟨g,o,cap,av,e,by omega,c0,c1,c2,c3,c4,c5,c6,ha.toX nj (fun k hk hx=>by have:=ha.lt k hk; omega)⟩
theorem jK.mono {B A:Nat} {w:World} {s:S} {ov:Value} {acc:List (Tk × Bs)} (h:jK lo B w s ov acc) (hB:B≤A):jK lo A w s ov acc:=by
 refine ⟨h.1,fun i t r D=>?_⟩
 obtain ⟨g,o,cap,av,e,I,c0,c1,c2,c3,c4,c5,c6,ha⟩:=h.2 i t r D;exact ⟨g,o,cap,av,e,by omega,c0,c1,c2,c3,c4,c5,c6,bJ.keep ha (aK.refl _ _) (fun k _ hk=>hk.imp (fun hk=>Nat.le_trans hB hk) id)⟩
theorem jK.below {B:Nat} {w w':World} {s:S} {ov:Value} {acc:List (Tk × Bs)} (h:jK lo B w s ov acc) (I:Below B w w'):jK lo B w' s ov acc:=by
 refine ⟨h.1,fun i t r J=>?_⟩
 obtain ⟨g,o,cap,av,e,D,c0,c1,c2,c3,c4,c5,c6,ha⟩:=h.2 i t r J;have A : ∀ j,w'.cell? ⟨g,j,none⟩=w.cell? ⟨g,j,none⟩:=fun j=>I.cell (p:=⟨g,j,none⟩) (by exact D);exact ⟨g,o,cap,av,e,D,(A _).trans c0,(A _).trans c1,(A _).trans c2,(A _).trans c3,(A _).trans c4,(A _).trans c5,(A _).trans c6,ha.below I⟩
end Go.Proofs.YtominiaohfjobaaGreatDoor
namespace Go.Proofs.YtominiaohfjobaaGreatDoor
open Go Go.RowKit
theorem bj.kid {X:Nat→Prop} {w:World} {t:Tr} {av kv:Value} (h:bj X w t av kv) : ∃ ao cap,kv = .slice ao t.kids.length cap∧t.kids.length≤maxLen ∧ ∀ k (hk:k<t.kids.length),∃ g o a b,ao=some ⟨g,o,none⟩∧g<w.heap.size∧w.cell? ⟨g,o+k*4,none⟩=some (.string (bs t.kids[k].name))∧w.cell? ⟨g,o+k*4+1,none⟩=some a∧w.cell? ⟨g,o+k*4+2,none⟩=some b∧w.cell? ⟨g,o+k*4+3,none⟩=some (.string (bs t.kids[k].text))∧bj X w t.kids[k] a b:=by
 obtain ⟨L,his,-,ho,hn⟩:=h.parts;obtain ⟨ao,cap,h1,h2,h3,O,J⟩:=ho;have I:L.length=t.kids.length:=by rw [← his]; simp
 refine ⟨ao,cap,by rw [h1,I],by omega,fun k hk=>?_⟩
 have D:k<L.length:=by omega
 obtain ⟨g,o,e1,e2,-,e3⟩:=J k L[k] (List.getElem?_eq_getElem D)
 have A:t.kids[k]=L[k].1:=by
  have:(L.map (·.1))[k]'(by simpa using D)=L[k].1:=by simp
  rw [← this];congr 1
  exact his.symm
 refine ⟨g,o,L[k].2.1,L[k].2.2,e1,e2,?_,e3 1 _ rfl,e3 2 _ rfl,?_,?_⟩
 · rw [A]; simpa using e3 0 _ rfl
 · rw [A]; exact e3 3 _ rfl
 · rw [A]; exact hn _ (List.getElem_mem D)
theorem bj.att {X:Nat→Prop} {w:World} {t:Tr} {av kv:Value} (h:bj X w t av kv):af 2 gJ w av t.attrs:=by
 obtain ⟨_,-,h1,-⟩:=h.parts;exact h1.slice
theorem bj.kid2 {X:Nat→Prop} {w:World} {t:Tr} {av kv:Value} (h:bj X w t av kv) : ∃ ao cap,kv = .slice ao t.kids.length cap∧t.kids.length≤maxLen ∧ ∀ k (hk:k<t.kids.length),∃ g o a b,ao=some ⟨g,o,none⟩∧g<w.heap.size ∧ ¬ X g∧w.cell? ⟨g,o+k*4,none⟩=some (.string (bs t.kids[k].name))∧w.cell? ⟨g,o+k*4+1,none⟩=some a∧w.cell? ⟨g,o+k*4+2,none⟩=some b∧w.cell? ⟨g,o+k*4+3,none⟩=some (.string (bs t.kids[k].text))∧bj X w t.kids[k] a b ∧ ∃ a1 a2 a3 J,a = .slice a1 t.kids[k].attrs.length a2∧b = .slice a3 t.kids[k].kids.length J:=by
 obtain ⟨L,his,-,ho,hn⟩:=h.parts;obtain ⟨ao,cap,h1,h2,h3,h4,Z⟩:=ho;have U:L.length=t.kids.length:=by rw [← his]; simp
 refine ⟨ao,cap,by rw [h1,U],by omega,fun k hk=>?_⟩
 have I:k<L.length:=by omega
 obtain ⟨g,o,e1,e2,O,e3⟩:=Z k L[k] (List.getElem?_eq_getElem I)
 have A:t.kids[k]=L[k].1:=by
  have:(L.map (·.1))[k]'(by simpa using I)=L[k].1:=by simp
  rw [← this];congr 1
  exact his.symm
 have D:=hn _ (List.getElem_mem I);refine ⟨g,o,L[k].2.1,L[k].2.2,e1,e2,O,?_,e3 1 _ rfl,e3 2 _ rfl,?_,?_,?_⟩
 · rw [A]; simpa using e3 0 _ rfl
 · rw [A]; exact e3 3 _ rfl
 · rw [A]; exact D
 · rw [A]
   obtain ⟨a1,a2,e1⟩:=D.att.shape;obtain ⟨a3,J,e2,-⟩:=D.kid;exact ⟨a1,a2,a3,J,e1,e2⟩
end Go.Proofs.YtominiaohfjobaaGreatDoor
namespace Go.Proofs.YtominiaohfjobaaGreatDoor
open Go Go.RowKit
theorem bj.at {X:Nat→Prop} {w:World} {t:Tr} {av:Value} {D:Option Addr} {m kc:Nat} (h:bj X w t av (.slice D m kc)) (k:Nat) (hk:k<t.kids.length) : ∃ g o a1 a2 a3 A,D=some ⟨g,o,none⟩∧g<w.heap.size ∧ ¬ X g∧w.cell? ⟨g,o+k*4,none⟩=some (.string (bs t.kids[k].name))∧w.cell? ⟨g,o+k*4+1,none⟩=some (.slice a1 t.kids[k].attrs.length a2)∧w.cell? ⟨g,o+k*4+2,none⟩=some (.slice a3 t.kids[k].kids.length A)∧w.cell? ⟨g,o+k*4+3,none⟩=some (.string (bs t.kids[k].text))∧bj X w t.kids[k] (.slice a1 t.kids[k].attrs.length a2) (.slice a3 t.kids[k].kids.length A):=by
 obtain ⟨ao,cap,e,-,h2⟩:=h.kid2;simp only [Value.slice.injEq] at e;obtain ⟨rfl,-,-⟩:=e;obtain ⟨g,o,a,b,h3,h4,h5,Z,U,O,J,I,a1,a2,a3,A,rfl,rfl⟩:=h2 k hk;exact ⟨g,o,a1,a2,a3,A,h3,h4,h5,Z,U,O,J,I⟩
theorem bj.shape {X:Nat→Prop} {w:World} {t:Tr} {av kv:Value} (h:bj X w t av kv) : ∃ ao D A kc,av = .slice ao t.attrs.length D∧kv = .slice A t.kids.length kc∧t.attrs.length≤9223372036854775807∧t.kids.length≤9223372036854775807:=by
 obtain ⟨ao,D,e1,h1,h2,-⟩:=h.att;obtain ⟨A,kc,e2,h3,-⟩:=h.kid2;unfold maxLen at h2 h3;exact ⟨ao,D,A,kc,e1,e2,by omega,by omega⟩
mutual
def Tr.dep:Tr→Nat
 | .mk _ _ ks _=>Tr.depL ks+1
def Tr.depL:List Tr→Nat
 | []=>0
 | t::l=>max (if t.name=[] then 0 else t.dep) (Tr.depL l)
end
end Go.Proofs.YtominiaohfjobaaGreatDoor
namespace Go.Proofs.YtominiaohfjobaaGreatDoor
open Go Go.RowKit
def ij (m:Bs) (t:Tr):Bool:=!t.name.isEmpty && (m.isEmpty || decide (t.name=m))
def bV (m:Bs) (l:List Tr):List Tr:=l.filter (ij m)
def cJ:List Tr→Bs
 | []=>[]
 | t::l=>(if t.name.isEmpty then t.text else []) ++ cJ l
theorem ua {m:Bs} {l:List Tr} {k:Nat} (h:k<l.length):bV m (l.take (k+1))=bV m (l.take k) ++ if ij m l[k] then [l[k]] else []:=by
 unfold bV;rw [List.take_succ_eq_append_getElem h,List.filter_append];congr 1
 by_cases hk:ij m l[k]=true
 · simp [hk]
 · simp [hk]
theorem kS : ∀ (l r:List Tr),cJ (l ++ r)=cJ l ++ cJ r
 | [],r=>by simp [cJ]
 | t::l,r=>by rw [List.cons_append,cJ,cJ,kS l r,List.append_assoc]
theorem tC {l:List Tr} {k:Nat} (h:k<l.length):cJ (l.take (k+1))=cJ (l.take k) ++ if l[k].name.isEmpty then l[k].text else []:=by
 rw [List.take_succ_eq_append_getElem h,kS]; simp [cJ]
theorem ke : ∀ (l:List Tr) (k:Nat),(cJ (l.take k)).length≤(cJ l).length
 | [],k=>by simp
 | t::l,0=>by simp [cJ]
 | t::l,k+1=>by have:=ke l k; simp only [List.take_succ_cons,cJ,List.length_append]; omega
structure Bq (B:Nat) (w wr:World) (v:Value) (L:List iq):Prop where
 below:Below B w wr
 own:aj B 114 4 fu wr v L
 nodes : ∀ y ∈ L,bj (fun j=>B≤j) wr y.1 y.2.1 y.2.2
structure gK (X:Nat→Prop) (B:Nat) (w wr:World) (v:Value) (L:List iq):Prop where
 below:Below B w wr
 own:aj B 114 4 fu wr v L
 nodes : ∀ y ∈ L,bj (fun j=>X j∨B≤j) wr y.1 y.2.1 y.2.2
theorem gK.coll {X:Nat→Prop} {B:Nat} {w wr:World} {v:Value} {L:List iq} (h:gK X B w wr v L):Bq B w wr v L :=
 ⟨h.below,h.own,fun y hy=>(h.nodes y hy).keep (aK.refl _ _) (fun _ _ h=>.inr h)⟩
theorem gK.alloc {X:Nat→Prop} {B:Nat} {w wr:World} {v:Value} {L:List iq} (h:gK X B w wr v L) (hB:B≤wr.heap.size) (o:Obj):gK X B w (wr.alloc o) v L :=
 ⟨h.below.alloc hB o,h.own.alloc o,fun y hy=>(h.nodes y hy).later ((Below.refl _ _).alloc (Nat.le_refl _) _)⟩
theorem gK.push {X:Nat→Prop} {B:Nat} {w wr D:World} {v I:Value} {L:List iq} {y:iq} (h:gK X B w wr v L) (hy:bj (fun j=>X j∨B≤j) wr y.1 y.2.1 y.2.2) (ho:aj B 114 4 fu D I (L ++ [y])) (A:wr.grownBy D v.ownBlock) (hB:B≤wr.heap.size):gK X B w D I (L ++ [y]):=by
 have J : ∀ g,v.ownBlock=some g→B≤g:=fun g e=>(h.own.rowOf e).1;have hk:aK (fun j=>X j∨B≤j) wr D:=aK.grown A (fun g e=>.inr (J g e));have O:Below B wr D:=⟨A.os,A.tape,A.output,by have:=A.size; omega,fun k hk=>A.block k (by omega) (fun e=>by have:=J k e.symm; omega)⟩;refine ⟨h.below.trans O,ho,fun z hz=>?_⟩
 rcases List.mem_append.1 hz with hz | hz
 · exact (h.nodes z hz).keep hk (fun _ _ h=>h)
 · obtain rfl:=List.mem_singleton.1 hz
   exact hy.keep hk (fun _ _ h=>h)
theorem Aq (y:iq) (W:World) (H:Nat) (A:W.heap.size=H):af 4 fu (W.alloc (.cells (fu y).toArray 114)) (.slice (some ⟨H,0,none⟩) 1 1) [y]:=by
 have h:=cd bY W [y] 114 H 1 A rfl (by unfold maxLen; simp);simpa using h
theorem Am (t:Tr) (a1 a3:Option Addr) (I D a2 J:Nat) : ∀ y ∈ [((t,.slice a1 I a2,.slice a3 D J):iq)],∀ u ∈ fu y,u.oneCell'=true:=by
 intro y hy u A;obtain rfl:=List.mem_singleton.1 hy;simp only [fu,kh,List.mem_cons,List.not_mem_nil,or_false] at A;rcases A with rfl | rfl | rfl | rfl <;> rfl
theorem uk (m:Bs) (l:List Tr) (k:Nat):(bV m (l.take k)).length≤k:=by
 have h1:=List.length_filter_le (ij m) (l.take k);have h2:(l.take k).length≤k:=List.length_take_le _ _;unfold bV; omega
theorem t9 {X:Nat→Prop} (t:Tr) (m:Bs) (w:World) (av kv:Value) (ht:bj X w t av kv) (d7:t.kids.length≤100000) :
    Calls Tryz.prog 133 #[pM t av kv,.string (bs m)] w fun e w'=>∃ v L,e = .returned v∧L.map (·.1)=bV m t.kids∧gK X w.heap.size w w' v L:=by
 obtain ⟨ao,ac,ko,kc,rfl,rfl,d9,-⟩:=ht.shape;have HT:=zH ht;clear ht;unfold pM;go_enter Tryz.func133,Tryz.ntmps133
 go_wp2
 go_loopw [4,10] (fun v i wr=>∃ (k:Nat) (L:List iq) (v':Value),k≤t.kids.length∧i = .int .i64 k∧v=v'∧Hid (w.heap.size<wr.heap.size∧gK X w.heap.size w wr v' L∧L.map (·.1)=bV m (t.kids.take k))) (fun _ i _=>t.kids.length - (intOf i).toNat)
 case atStart=>exact ⟨0,[],_,Nat.zero_le _,rfl,rfl,by simp,⟨(Below.refl _ w).alloc (Nat.le_refl _) _,aj.nil,by simp⟩,by simp [bV]⟩
 case round =>
  obtain ⟨k,L,v,hk,rfl,rfl,A⟩:=hrel;obtain ⟨la,lc,co⟩:=A.out.2.1.own.shape;subst co;by_cases hlt:k<t.kids.length
  · obtain ⟨g,o,a1,a2,a3,a4,rfl,hg,-,c0,c1,c2,c3,cm⟩:=(HT.out.later A.out.2.1.below).at k hlt
    have a8:bj (fun j=>X j∨w.heap.size≤j) w t (.slice ao t.attrs.length ac) (.slice (some ⟨g,o,none⟩) t.kids.length kc):=HT.out.keep (aK.refl _ _) (fun k h1 h2=>h2.elim id (fun h=>by omega));obtain ⟨g',o',b1,b2,b3,b4,e1,-,-,d0,d1,d2,d3,a9⟩:=(a8.keep (aK.below A.out.2.1.below) (fun _ _ h=>h)).at k hlt;simp only [Option.some.injEq,Addr.mk.injEq,and_true] at e1;obtain ⟨rfl,rfl⟩:=e1;rw [c1] at d1;rw [c2] at d2;simp only [Option.some.injEq,Value.slice.injEq,true_and] at d1 d2;obtain ⟨rfl,rfl⟩:=d1;obtain ⟨rfl,rfl⟩:=d2;have d8:(k:Int)<(t.kids.length:Int):=by omega
    have HD:=zH (ua (m:=m) hlt);have HC:=zH (fun o=>A.out.2.1.alloc (Nat.le_of_lt A.out.1) o);have O:=zH (fun o=>(show w.heap.size<(wr.alloc o).heap.size by have:=A.out.1; simp; omega));have HN:=zH a9;have hE:=fJ t.kids[k].name m
    have bg:L.length≤k:=by
     have h1:=uk m t.kids k;rw [← A.out.2.2] at h1;simpa using h1
    clear d0 d3 cm a9 a8;by_cases I:t.kids[k].name=[]
    · have he:(bs t.kids[k].name:S).toList.isEmpty=true:=by rw [bH,ax,I]; rfl
      have cT:(!(bs t.kids[k].name:S).toList.isEmpty)=false:=by rw [he]; rfl
      have D:ij m t.kids[k]=false:=by unfold ij; rw [I]; rfl
      rw [D] at HD;clear I hE D;go_wp2
      go_roundw
      case rel=>exact ⟨k+1,L,_,hlt,by go_num,rfl,O.out _,HC.out _,by rw [HD.out,A.out.2.2]; simp⟩
      case measure=>simp [intOf]; omega
    · have he:(bs t.kids[k].name:S).toList.isEmpty=false:=by rw [bH,ax]; simpa using I
      have cT:(!(bs t.kids[k].name:S).toList.isEmpty)=true:=by rw [he]; rfl
      have bc:t.kids[k].name.isEmpty=false:=by simpa using I
      have ba:(bs m:S).toList.isEmpty=m.isEmpty:=by rw [bH,ax]; cases m <;> simp
      have D:ij m t.kids[k]=(m.isEmpty || decide (t.kids[k].name=m)):=by unfold ij; rw [bc]; rfl
      clear I
      have hcs:(ij m t.kids[k]=false∧(bs m:S).toList.isEmpty=false∧((bs t.kids[k].name:S).toList == (bs m:S).toList)=false)∨(ij m t.kids[k]=true∧(bs m:S).toList.isEmpty=true)∨(ij m t.kids[k]=true∧(bs m:S).toList.isEmpty=false∧((bs t.kids[k].name:S).toList == (bs m:S).toList)=true):=by
       rw [D,ba,hE];cases m.isEmpty <;> cases decide (t.kids[k].name=m) <;> simp
      clear D ba hE bc;rcases hcs with ⟨D,bb,hE⟩ | hcs
      · rw [D] at HD
        clear D;go_wp2
        go_roundw
        case rel=>exact ⟨k+1,L,_,hlt,by go_num,rfl,O.out _,HC.out _,by rw [HD.out,A.out.2.2]; simp⟩
        case measure=>simp [intOf]; omega
      · have ad:ij m t.kids[k]=true:=by rcases hcs with ⟨h,-⟩ | ⟨h,-⟩ <;> exact h
        rw [ad] at HD;have c9:Hid (∀ o o2,aj w.heap.size 114 4 fu ((wr.alloc o).alloc o2) (.slice la L.length lc) L):=fun o o2=>((HC.out o).own).alloc o2
        have dl:Hid (∀ o o2 v8 Z,aj w.heap.size 114 4 fu Z v8 (L ++ [(t.kids[k],.slice a1 t.kids[k].attrs.length a2,.slice a3 t.kids[k].kids.length a4)])→((wr.alloc o).alloc o2).grownBy Z (Value.slice la L.length lc).ownBlock→w.heap.size<Z.heap.size∧gK X w.heap.size w Z v8 (L ++ [(t.kids[k],.slice a1 t.kids[k].attrs.length a2,.slice a3 t.kids[k].kids.length a4)])):=fun o o2 v8 Z h1 h2 =>
         ⟨by have:=h2.size; have:=O.out o; simp at *; omega,((HC.out o).alloc (Nat.le_of_lt (O.out o)) o2).push ((HN.out.later ((Below.refl _ _).alloc (Nat.le_refl _) _)).later ((Below.refl _ _).alloc (Nat.le_refl _) _)) h1 h2 (by have:=O.out o; simp at *; omega)⟩
        have b7:Hid (∀ o o2,w.heap.size≤((wr.alloc o).alloc o2).heap.size):=fun o o2=>by have:=O.out o; simp at *; omega
        have dn:Hid (∀ y:iq,(L.length+[y].length)*80≤140737488355328):=fun y=>by simp only [List.length_cons,List.length_nil]; omega
        have ed:=zH bg;have dk:=zH A.out.2.2
        have c8:((bs m:S).toList.isEmpty=true)∨((bs m:S).toList.isEmpty=false∧((bs t.kids[k].name:S).toList == (bs m:S).toList)=true):=by
         rcases hcs with ⟨-,h⟩ | ⟨-,h⟩
         · exact .inl h
         · exact .inr h
        clear hcs ad A HT HN HC O bg;generalize hkk:t.kids[k]=y at *;obtain ⟨yn,ya,yk,yx⟩:=y;simp only [Tr.name,Tr.attrs,Tr.kids,Tr.text] at *;rcases c8 with bb | ⟨bb,hE⟩
        all_goals
         go_wp2_with (at_builtin; go_loud ((refine ay _ rfl _ _ 112 rfl w.heap.size 114 Tryz.underlying112 lX rfl (by decide) bY (.slice la L.length lc) L rfl (c9.out _ _) _ [((.mk yn ya yk yx,.slice a1 ya.length a2,.slice a3 yk.length a4):iq)] rfl (Aq (.mk yn ya yk yx,.slice a1 ya.length a2,.slice a3 yk.length a4) _ _ (by simp)) (Am _ _ _ _ _ _ _) (dn.out _) (by decide) (b7.out _ _) ?_; intro v8 Z U J a6; have bl:=zH (dl.out _ _ _ _ U J); clear U J a6)))
         go_wp2
         go_roundw
         case rel=>exact ⟨k+1,_,_,hlt,by go_num,rfl,bl.out.1,bl.out.2,by rw [HD.out,List.map_append,dk.out]; rfl⟩
         case measure=>simp [intOf]; omega
  · obtain rfl:k=t.kids.length:=by omega
    have HF:Hid (L.map (·.1)=bV m t.kids):=by show _=_; rw [A.out.2.2,List.take_length]
    go_wp2
    go_ret
    exact ⟨_,L,rfl,HF.out,A.out.2.1⟩
theorem sF (t:Tr) (m:Bs) (w:World) (av kv:Value) (D:dJ w t av kv) (A:t.kids.length≤100000) :
    Calls Tryz.prog 133 #[pM t av kv,.string (bs m)] w fun e w'=>∃ v L,e = .returned v∧L.map (·.1)=bV m t.kids∧Bq w.heap.size w w' v L :=
 (t9 t m w av kv D A).mono fun _ _ ⟨v,L,h1,h2,h3⟩=>⟨v,L,h1,h2,h3.coll⟩
theorem xR (t:Tr) (w:World) (av kv:Value) (Z:dJ w t av kv) (hx:(cJ t.kids).length≤1000000000) :
    Calls Tryz.prog 171 #[pM t av kv] w fun e w'=>e = .returned (.string (bs (gW (cJ t.kids))))∧Below w.heap.size w w':=by
 obtain ⟨ao,ac,ko,kc,rfl,rfl,-,a5⟩:=Z.shape;have HT:=zH Z;have U:=zH hx;clear Z hx;unfold pM;go_enter Tryz.func171,Tryz.ntmps171
 go_wp2
 go_loopw [3,9] (fun a i wr=>∃ (k:Nat) (s:S),k≤t.kids.length∧i = .int .i64 k∧a = .string s∧Hid (Below w.heap.size w wr∧s=bs (cJ (t.kids.take k)))) (fun _ i _=>t.kids.length - (intOf i).toNat)
 case atStart=>exact ⟨0,⟨#[]⟩,Nat.zero_le _,rfl,rfl,(Below.refl _ w).alloc (Nat.le_refl _) _,by simp [cJ]; rfl⟩
 case round =>
  obtain ⟨k,s,hk,rfl,rfl,I⟩:=hrel;by_cases hlt:k<t.kids.length
  · obtain ⟨g,o,a1,a2,a3,a4,rfl,hg,-,c0,c1,c2,c3,-⟩:=(HT.out.later I.out.1).at k hlt
    have a6:(k:Int)<(t.kids.length:Int):=by omega
    have O:=zH (tC hlt);have HB:=zH (fun o=>I.out.1.alloc I.out.1.size o);by_cases A:t.kids[k].name=[]
    · have he:(bs t.kids[k].name:S).toList.isEmpty=true:=by rw [bH,ax,A]; rfl
      have D:t.kids[k].name.isEmpty=true:=by rw [A]; rfl
      rw [D] at O;obtain ⟨X,hX⟩ : ∃ X:S,X=bs t.kids[k].text:=⟨_,rfl⟩;rw [← hX] at c3;have J:Hid (s ++ X=bs (cJ (t.kids.take (k+1)))):=by show _=_; rw [I.out.2,hX,cU,O.out]; rfl
      have a0 : ¬ 9223372036854775807<s.size+X.size:=by
       have h1:=ke t.kids (k+1);have h2:=U.out;have h3:(s ++ X).size=(cJ (t.kids.take (k+1))).length:=by rw [J.out,ax]
       have h4:(s ++ X).size=s.size+X.size:=by simp
       omega
      clear A hX D O;go_wp2
      go_roundw
      case rel=>exact ⟨k+1,s ++ X,hlt,by go_num,rfl,HB.out _,J.out⟩
      case measure=>simp [intOf]; omega
    · have he:(bs t.kids[k].name:S).toList.isEmpty=false:=by rw [bH,ax]; simpa using A
      have D:t.kids[k].name.isEmpty=false:=by simpa using A
      rw [D] at O;have J:Hid (s=bs (cJ (t.kids.take (k+1)))):=by show _=_; rw [O.out,I.out.2]; simp
      clear A D O;go_wp2
      go_roundw
      case rel=>exact ⟨k+1,s,hlt,by go_num,rfl,HB.out _,J.out⟩
      case measure=>simp [intOf]; omega
  · obtain rfl:k=t.kids.length:=by omega
    have hs:s=bs (cJ t.kids):=by have:=I.out.2; rwa [List.take_length] at this
    have ag:=zH (rK s wr (by rw [hs,ax]; exact U.out));have J:Hid (s.data.toList=cJ t.kids):=by show _=_; rw [hs]; rfl
    clear hs;go_wp2_with fail
    refine ag.out.mono ?_
    rintro e w4 ⟨x,rfl,hx,rfl⟩;have U:Hid (x=bs (gW (cJ t.kids))):=by show _=_; rw [← J.out,← hx,ng]
    clear hx;go_wp2
    go_ret
    exact ⟨by rw [← U.out]; rfl,I.out.1⟩
def ck (c:UInt8):Bool:=(decide (97≤c.toNat) && decide (c.toNat≤122)) || (decide (65≤c.toNat) && decide (c.toNat≤90)) || (decide (48≤c.toNat) && decide (c.toNat≤57)) || c.toNat == 46 || c.toNat == 45 || c.toNat == 95
def bX (c:UInt8):Bool:=ck c || c.toNat == 43
theorem kC {c:UInt8}:ck c=true↔(97≤c.toNat∧c.toNat≤122)∨(65≤c.toNat∧c.toNat≤90)∨(48≤c.toNat∧c.toNat≤57)∨c.toNat=46∨c.toNat=45∨c.toNat=95:=by
 simp [ck,or_assoc]
theorem jm {c:UInt8}:bX c=true↔(97≤c.toNat∧c.toNat≤122)∨(65≤c.toNat∧c.toNat≤90)∨(48≤c.toNat∧c.toNat≤57)∨c.toNat=46∨c.toNat=45∨c.toNat=95∨c.toNat=43:=by
 simp [bX,ck,or_assoc]
theorem pY {c:UInt8} (h:ck c=false) : ¬ ((97≤c.toNat∧c.toNat≤122)∨(65≤c.toNat∧c.toNat≤90)∨(48≤c.toNat∧c.toNat≤57)∨c.toNat=46∨c.toNat=45∨c.toNat=95):=by
 rw [← kC,h]; simp
theorem ns {c:UInt8} (h:bX c=false) : ¬ ((97≤c.toNat∧c.toNat≤122)∨(65≤c.toNat∧c.toNat≤90)∨(48≤c.toNat∧c.toNat≤57)∨c.toNat=46∨c.toNat=45∨c.toNat=95∨c.toNat=43):=by
 rw [← jm,h]; simp
def isIdB (s:S):Bool:=s.data.toList.all ck && decide (1≤s.size) && decide (s.size≤64)
def iu (s:S):Bool:=s.data.toList.all bX && decide (1≤s.size) && decide (s.size≤64)
def dI (g:bp):Bool:=isIdB g.group && isIdB g.artifact && iu g.version
theorem gf : ∀ a b:Bs,Lib.compareBytes a b = -1∨Lib.compareBytes a b=0∨Lib.compareBytes a b=1
 | [],[]=>.inr (.inl rfl)
 | [],_::_=>.inl rfl
 | _::_,[]=>.inr (.inr rfl)
 | a::ats,b::bs=>by
  unfold Lib.compareBytes;by_cases h1:a<b
  · rw [if_pos h1]; exact .inl rfl
  · rw [if_neg h1]
    by_cases h2:b<a
    · rw [if_pos h2]; exact .inr (.inr rfl)
    · rw [if_neg h2]; exact gf ats bs
theorem ip : ∀ a:Bs,Lib.compareBytes a a=0
 | []=>rfl
 | a::ats=>by unfold Lib.compareBytes; rw [if_neg (by simp),if_neg (by simp)]; exact ip ats
theorem jW : ∀ {a b:Bs},Lib.compareBytes a b=0→a=b
 | [],[],_=>rfl
 | [],_::_,h=>by cases h
 | _::_,[],h=>by cases h
 | a::ats,b::bs,h=>by
  unfold Lib.compareBytes at h;by_cases h1:a<b
  · rw [if_pos h1] at h; cases h
  · rw [if_neg h1] at h
    by_cases h2:b<a
    · rw [if_pos h2] at h; cases h
    · rw [if_neg h2] at h
      have:a=b:=by
       rw [UInt8.lt_iff_toNat_lt] at h1 h2;exact UInt8.toNat_inj.1 (by omega)
      rw [this,jW h]
theorem qq : ∀ a b:Bs,Lib.compareBytes b a = - Lib.compareBytes a b
 | [],[]=>rfl
 | [],_::_=>rfl
 | _::_,[]=>rfl
 | a::ats,b::bs=>by
  unfold Lib.compareBytes;by_cases h1:a<b
  · have h2 : ¬ b<a:=by rw [UInt8.lt_iff_toNat_lt] at *; omega
    rw [if_neg h2,if_pos h1,if_pos h1]; rfl
  · by_cases h2:b<a
    · rw [if_pos h2,if_neg h1,if_pos h2]
    · rw [if_neg h2,if_neg h1,if_neg h1,if_neg h2]; exact qq ats bs
theorem oE : ∀ {a b c:Bs},Lib.compareBytes a b = -1→Lib.compareBytes b c = -1→Lib.compareBytes a c = -1
 | [],[],_,h,_=>by cases h
 | [],_::_,[],_,h=>by cases h
 | [],_::_,_::_,_,_=>rfl
 | _::_,[],_,h,_=>by cases h
 | _::_,_::_,[],_,h=>by cases h
 | a::ats,b::bs,c::cs,h,h'=>by
  unfold Lib.compareBytes at h h' ⊢;by_cases h1:a<b
  · by_cases h2:b<c
    · rw [if_pos (by rw [UInt8.lt_iff_toNat_lt] at *; omega)]
    · rw [if_neg h2] at h'
      by_cases h3:c<b
      · rw [if_pos h3] at h'; cases h'
      · rw [if_pos (by rw [UInt8.lt_iff_toNat_lt] at *; omega)]
  · rw [if_neg h1] at h
    by_cases A:b<a
    · rw [if_pos A] at h; cases h
    · rw [if_neg A] at h
      by_cases h2:b<c
      · rw [if_pos (by rw [UInt8.lt_iff_toNat_lt] at *; omega)]
      · rw [if_neg h2] at h'
        by_cases h3:c<b
        · rw [if_pos h3] at h'; cases h'
        · rw [if_neg h3] at h'
          rw [if_neg (by rw [UInt8.lt_iff_toNat_lt] at *; omega),if_neg (by rw [UInt8.lt_iff_toNat_lt] at *; omega)];exact oE h h'
structure Pc where
 text:Bs
 hyphen:Bool
 close:Bool
structure aM where
 hyphen:Bool
 number:Bool
 text:Bs
 deriving DecidableEq
def du (c:UInt8):UInt8:=if 65≤c.toNat∧c.toNat≤90 then c+32 else c
def fV (c:UInt8):Bool:=c.toNat == 46 || c.toNat == 45
def cw:Bs→Bs→Bool→List Pc
 | [],A,hy=>[⟨A,hy,false⟩]
 | c::r,A,hy=>if fV c then ⟨A,hy,false⟩::cw r [] (c.toNat == 45)
  else if !A.isEmpty && (cDigit c != cDigit (A.getLastD 0)) then ⟨A,hy,true⟩::cw r [c] true
  else cw r (A ++ [c]) hy
def xz:Bs:=[103,97]
def ti:Bs:=[102,105,110,97,108]
def nn:Bs:=[114,101,108,101,97,115,101]
def BT:Bs:=[99,114]
def BS:Bs:=[114,99]
def np:Bs:=[97,108,112,104,97]
def rI:Bs:=[98,101,116,97]
def fQ:Bs:=[109,105,108,101,115,116,111,110,101]
def pu:Bs:=[115,110,97,112,115,104,111,116]
def B2:Bs:=[115,112]
def dc (s:Bs) (n:Bool):Bs :=
 if s=xz∨s=ti∨s=nn then [] else if s=BT then BS else if n=true∧s=[97] then np else if n=true∧s=[98] then rI else if n=true∧s=[109] then fQ else s
def ep (s:Bs):Bool:=s.all cDigit
def cB (s:Bs):Bs:=s.dropWhile fun c=>c.toNat == 48
def bS (p:Pc):aM:=if ep p.text then ⟨p.hyphen,true,cB p.text⟩ else ⟨p.hyphen,false,dc p.text p.close⟩
def gE (p:aM) (r:List aM):Bool:=p.text.isEmpty && (r.isEmpty || (r.head?.map (·.hyphen)).getD false)
def cC:List aM→List aM
 | []=>[]
 | p::r=>if gE p (cC r) then cC r else p::cC r
def jc (T:Bs):List aM:=(cw (T.map du) [] false).map bS
def aL (T:Bs):List aM:=match jc T with
 | []=>[]
 | p::r=>p::cC r
theorem yZ (T A:Bs) (hy:Bool):cw T A hy≠[]:=by
 induction T generalizing A hy with
 | nil=>simp [cw]
 | cons c r D =>
  unfold cw;split
  · simp
  · split
    · simp
    · exact D _ _
def eA (l:List aM) (j:Nat):Bool:=match l[j]? with
 | none=>false
 | some p=>p.text.isEmpty && (decide (j+1=l.length) || ((l[j+1]?).map (·.hyphen)).getD false)
theorem xd {p:aM} {r:List aM} (h:p.hyphen=true):(cC (p::r)).isEmpty=true∨(((cC (p::r)).head?).map (·.hyphen)).getD false=true:=by
 induction r generalizing p with
 | nil =>
  unfold cC;split
  · exact .inl rfl
  · exact .inr (by simpa using h)
 | cons q r D =>
  unfold cC;split
  · rename_i A
    unfold gE at A;simp only [Bool.and_eq_true,Bool.or_eq_true] at A;exact A.2
  · exact .inr (by simpa using h)
theorem kG : ∀ {l:List aM} {j:Nat},eA l j=true→cC (l.eraseIdx j)=cC l
 | [],j,h=>by simp [eA] at h
 | p::r,0,h=>by
  simp only [eA,List.getElem?_cons_zero,Bool.and_eq_true,Bool.or_eq_true,decide_eq_true_eq] at h;rw [List.eraseIdx_cons_zero];conv=>rhs; unfold cC
  rw [if_pos];unfold gE;rw [h.1,Bool.true_and,Bool.or_eq_true];rcases h.2 with h2 | h2
  · have:r=[]:=by simpa using h2
    subst this;exact .inl rfl
  · cases r with
    | nil=>simp at h2
    | cons q r=>exact xd (by simpa using h2)
 | p::r,j+1,h=>by
  have h':eA r j=true:=by
   simp only [eA,List.getElem?_cons_succ,List.length_cons] at h ⊢;simpa using h
  rw [List.eraseIdx_cons_succ];conv=>lhs; unfold cC
  conv=>rhs; unfold cC
  rw [kG h']
theorem qn : ∀ {l:List aM},(∀ j,eA l j=false)→cC l=l
 | [],_=>rfl
 | p::r,h=>by
  have h' : ∀ j,eA r j=false:=fun j=>by
   have:=h (j+1)
   simp only [eA,List.getElem?_cons_succ,List.length_cons] at this ⊢;simpa using this
  have A:=qn h';unfold cC;rw [A,if_neg];have:=h 0
  simp only [eA,List.getElem?_cons_zero] at this;unfold gE;cases r with
  | nil=>simpa using this
  | cons q r=>simpa using this
def kq:List Bs:=[np,rI,fQ,BS,pu,[],B2]
def aO (p:aM):Nat:=if p.number then (if p.text.isEmpty then 5 else if p.hyphen then 8 else 9) else (kq.findIdx? (fun w=>decide (p.text=w))).getD 7
theorem xF (s:Bs) (n:Bool):dc s n≠xz:=by
 unfold dc;split
 · decide
 · rename_i h
   split
   · decide
   · split
     · decide
     · split
       · decide
       · split
         · decide
         · exact fun e=>h (.inl e)
theorem yq (p:Pc):(bS p).number=false→(bS p).text≠xz:=by
 unfold bS;split
 · simp
 · exact fun _=>xF _ _
theorem oA : ∀ {l:List aM} {p:aM},p ∈ cC l→p ∈ l
 | [],_,h=>h
 | q::r,p,h=>by
  unfold cC at h;split at h
  · exact List.mem_cons_of_mem _ (oA h)
  · rcases List.mem_cons.1 h with h | h
    · rw [h]; exact List.mem_cons_self
    · exact List.mem_cons_of_mem _ (oA h)
theorem wm {T:Bs} {p:aM} (h:p ∈ aL T):p.number=false→p.text≠xz:=by
 have h2:p ∈ jc T:=by
  unfold aL at h;split at h
  · cases h
  · rename_i q r e
    rw [e];rcases List.mem_cons.1 h with h | h
    · rw [h]; exact List.mem_cons_self
    · exact List.mem_cons_of_mem _ (oA h)
 obtain ⟨x,-,rfl⟩:=List.mem_map.1 h2;exact yq x
theorem za (w:World) (A:List Int) (l:Bs) (h:A.map (fun n=>UInt8.ofNat n.toNat)=l) (C:Array Value) (I:C=(A.map (Value.int .u8)).toArray) (k:Nat) (hk:k=A.length) :
    (convert 120 9 (.slice (some ⟨w.heap.size,0,none⟩) k k)).run Tryz.prog (w.alloc (.cells C 5)) = .ok (.string (bs l)) (w.alloc (.cells C 5)):=by
 subst hk I;rw [run_convert_bytes_arg (P:=Tryz.prog) (w.alloc (.cells (A.map (Value.int .u8)).toArray 5)) 120 5 Tryz.underlying120 Tryz.underlying5 w.heap.size 0 A.length A.length A rfl ?_ 9 Tryz.underlying9]
 · rw [← h]; rfl
 · intro i D
   rw [World.cell?_alloc_mark];simp [List.getElem?_eq_getElem D]
def eo (P:UInt8→Bool) (s:S):Bool:=s.data.toList.all P && decide (1≤s.size) && decide (s.size≤64)
theorem q8 (n:Nat) (k:Nat) (j:Int) (h:j=k):((n:Int) == j)=decide (n=k):=by
 rw [h,Bool.eq_iff_iff]; simp; omega
theorem Cb (n:Nat) (k:Nat) (j:Int) (h:j=k):((n:Int) != j)=!decide (n=k):=by
 rw [bne,q8 n k j h]
theorem lw {P:UInt8→Bool} {s:S} {k:Nat} (h:k<s.size) (A:P s[k]=false):eo P s=false:=by
 have:s.data.toList.all P=false:=by
  rw [List.all_eq_false];exact ⟨s[k],List.getElem_mem (l:=s.data.toList) (n:=k) (by rw [au]; exact h),by rw [A]; simp⟩
 unfold eo; rw [this]; rfl
theorem lv {P:UInt8→Bool} {s:S} (h:(s.data.toList.take s.size).all P=true):eo P s=(decide (1≤s.size) && decide (s.size≤64)):=by
 rw [List.take_of_length_le (by rw [au]; exact Nat.le_refl _)] at h;unfold eo; rw [h]; rfl
theorem jH {P:UInt8→Bool} {s:S} {k:Nat} (h:k<s.size) (ha:(s.data.toList.take k).all P=true) (A:P s[k]=true):(s.data.toList.take (k+1)).all P=true:=by
 rw [vL s k h,List.all_append,ha]; simpa using A
theorem oe (c:UInt8) (w:World):Calls Tryz.prog 100 #[.int .u8 c.toNat] w fun e w'=>e = .returned (.bool (ck c))∧w=w':=by
 have O:=q8 c.toNat 46 46 rfl;have U:=q8 c.toNat 45 45 rfl;have I:=q8 c.toNat 95 95 rfl;have J:=Cb c.toNat 58 58 rfl;cases A:ck c
 · have h:=pY A
   clear A;go_enter Tryz.func100,Tryz.ntmps100
   go_wp2
   all_goals first | (exfalso; omega) | (exfalso; rename_i hx; simp at hx; omega) | (go_ret; exact ⟨aD (by simp <;> omega),rfl⟩)
 · have h:=kC.1 A
   clear A;have D : ¬ c.toNat=58:=by omega
   go_enter Tryz.func100,Tryz.ntmps100
   go_wp2
   all_goals first | (exfalso; omega) | (exfalso; rename_i hx; simp at hx; omega) | (go_ret; exact ⟨aD (by simp <;> omega),rfl⟩)
theorem sb (s:S) (w:World) (hs:s.size≤9223372036854775807):Calls Tryz.prog 64 #[.string s] w fun e w'=>e = .returned (.bool (isIdB s))∧w=w':=by
 rw [show isIdB s=eo ck s from rfl];go_enter Tryz.func64,Tryz.ntmps64
 go_wp2
 go_loop [3,4] (fun i _=>∃ k:Nat,k≤s.size∧i = .int .i64 k∧Hid ((s.data.toList.take k).all ck=true)) (fun i _=>s.size - (intOf i).toNat)
 case atStart=>exact ⟨0,Nat.zero_le _,rfl,rfl⟩
 case round =>
  obtain ⟨k,hk,rfl,HA⟩:=hrel;by_cases hlt:k<s.size
  · cases I:ck s[k]
    · have O:Hid (eo ck s=false):=lw hlt I
      have h:=pY I;clear I;have Z:(((s[k].toNat:Nat):Int) == 46)=false:=by rw [q8 _ 46 46 rfl,decide_eq_false_iff_not]; omega
      have aa:(((s[k].toNat:Nat):Int) == 45)=false:=by rw [q8 _ 45 45 rfl,decide_eq_false_iff_not]; omega
      have U:(((s[k].toNat:Nat):Int) == 95)=false:=by rw [q8 _ 95 95 rfl,decide_eq_false_iff_not]; omega
      skip
      go_wp2
      all_goals first | (exfalso; omega) | (exfalso; rename_i hx; simp at hx; omega) | (go_ret; exact ⟨aD O.out.symm,rfl⟩)
    · have O:Hid ((s.data.toList.take (k+1)).all ck=true):=jH hlt HA.out I
      have h:=kC.1 I;clear I;have Z:=q8 s[k].toNat 46 46 rfl;have aa:=q8 s[k].toNat 45 45 rfl;have U:=q8 s[k].toNat 95 95 rfl;have ad:=q8 s[k].toNat 43 43 rfl;rcases h with h | h | h | h | h | h
      all_goals
       go_wp2
       all_goals first | (exfalso; omega) | (exfalso; rename_i hx; simp at hx; omega) | skip
       go_round
       case rel=>exact ⟨k+1,by omega,by go_num,O⟩
       case measure=>simp [intOf]; omega
  · obtain rfl:k=s.size:=by omega
    have J:Hid (eo ck s=(decide (1≤s.size) && decide (s.size≤64))):=lv HA.out;by_cases h1:1≤s.size
    · have D:Hid (eo ck s=decide (s.size≤64)):=by show _=_; rw [J.out,decide_eq_true h1]; rfl
      clear J;by_cases h2:s.size≤64
      · have A:Hid (eo ck s=true):=by show _=_; rw [D.out,decide_eq_true h2]
        clear D;go_wp2
        all_goals first | (exfalso; omega) | (exfalso; rename_i hx; simp at hx; omega) | (go_ret; exact ⟨aD (by rw [A.out] <;> (try simp) <;> (try omega)),rfl⟩)
      · have A:Hid (eo ck s=false):=by show _=_; rw [D.out,decide_eq_false h2]
        clear D;go_wp2
        all_goals first | (exfalso; omega) | (exfalso; rename_i hx; simp at hx; omega) | (go_ret; exact ⟨aD (by rw [A.out] <;> (try simp) <;> (try omega)),rfl⟩)
    · have A:Hid (eo ck s=false):=by show _=_; rw [J.out,decide_eq_false h1]; rfl
      clear J;go_wp2
      all_goals first | (exfalso; omega) | (exfalso; rename_i hx; simp at hx; omega) | (go_ret; exact ⟨aD (by rw [A.out] <;> (try simp) <;> (try omega)),rfl⟩)
theorem tL (s:S) (w:World) (hs:s.size≤9223372036854775807):Calls Tryz.prog 65 #[.string s] w fun e w'=>e = .returned (.bool (iu s))∧w=w':=by
 rw [show iu s=eo bX s from rfl];go_enter Tryz.func65,Tryz.ntmps65
 go_wp2
 go_loop [3,4] (fun i _=>∃ k:Nat,k≤s.size∧i = .int .i64 k∧Hid ((s.data.toList.take k).all bX=true)) (fun i _=>s.size - (intOf i).toNat)
 case atStart=>exact ⟨0,Nat.zero_le _,rfl,rfl⟩
 case round =>
  obtain ⟨k,hk,rfl,HA⟩:=hrel;by_cases hlt:k<s.size
  · cases I:bX s[k]
    · have O:Hid (eo bX s=false):=lw hlt I
      have h:=ns I;clear I;have Z:(((s[k].toNat:Nat):Int) == 46)=false:=by rw [q8 _ 46 46 rfl,decide_eq_false_iff_not]; omega
      have aa:(((s[k].toNat:Nat):Int) == 45)=false:=by rw [q8 _ 45 45 rfl,decide_eq_false_iff_not]; omega
      have U:(((s[k].toNat:Nat):Int) == 95)=false:=by rw [q8 _ 95 95 rfl,decide_eq_false_iff_not]; omega
      have ac:(((s[k].toNat:Nat):Int) == 43)=false:=by rw [q8 _ 43 43 rfl,decide_eq_false_iff_not]; omega
      go_wp2
      all_goals first | (exfalso; omega) | (exfalso; rename_i hx; simp at hx; omega) | (go_ret; exact ⟨aD O.out.symm,rfl⟩)
    · have O:Hid ((s.data.toList.take (k+1)).all bX=true):=jH hlt HA.out I
      have h:=jm.1 I;clear I;have Z:=q8 s[k].toNat 46 46 rfl;have aa:=q8 s[k].toNat 45 45 rfl;have U:=q8 s[k].toNat 95 95 rfl;have ac:=q8 s[k].toNat 43 43 rfl;rcases h with h | h | h | h | h | h | h
      all_goals
       go_wp2
       all_goals first | (exfalso; omega) | (exfalso; rename_i hx; simp at hx; omega) | skip
       go_round
       case rel=>exact ⟨k+1,by omega,by go_num,O⟩
       case measure=>simp [intOf]; omega
  · obtain rfl:k=s.size:=by omega
    have J:Hid (eo bX s=(decide (1≤s.size) && decide (s.size≤64))):=lv HA.out;by_cases h1:1≤s.size
    · have D:Hid (eo bX s=decide (s.size≤64)):=by show _=_; rw [J.out,decide_eq_true h1]; rfl
      clear J;by_cases h2:s.size≤64
      · have A:Hid (eo bX s=true):=by show _=_; rw [D.out,decide_eq_true h2]
        clear D;go_wp2
        all_goals first | (exfalso; omega) | (exfalso; rename_i hx; simp at hx; omega) | (go_ret; exact ⟨aD (by rw [A.out] <;> (try simp) <;> (try omega)),rfl⟩)
      · have A:Hid (eo bX s=false):=by show _=_; rw [D.out,decide_eq_false h2]
        clear D;go_wp2
        all_goals first | (exfalso; omega) | (exfalso; rename_i hx; simp at hx; omega) | (go_ret; exact ⟨aD (by rw [A.out] <;> (try simp) <;> (try omega)),rfl⟩)
    · have A:Hid (eo bX s=false):=by show _=_; rw [J.out,decide_eq_false h1]; rfl
      clear J;go_wp2
      all_goals first | (exfalso; omega) | (exfalso; rename_i hx; simp at hx; omega) | (go_ret; exact ⟨aD (by rw [A.out] <;> (try simp) <;> (try omega)),rfl⟩)
theorem lB (s:S) (w:World) (hs:s.size≤9223372036854775807):Calls Tryz.prog 62 #[.string s] w fun e w'=>e = .returned (.bool (isIdB s))∧Below w.heap.size w w':=by
 rw [show isIdB s=eo ck s from rfl];have al:=fun (w:World)=>iG w s;go_enter Tryz.func62,Tryz.ntmps62
 go_wp2_with fail
 clear al;refine ai fun W hW=>?_
 have D:=fun j h=>gH w s j h;have U:=fI w s w.heap.size (Nat.le_refl _);have ad:=gG w s;rw [← hW] at D U ad;have HC:=zH D;have aa:=zH U;have I:w.heap.size<W.heap.size:=by omega
 clear hW D U ad;generalize ew w s=cap at *;go_loopw [4,8] (fun _ i wr=>∃ k:Nat,k≤s.size∧i = .int .i64 k∧Below W.heap.size W wr∧Hid ((s.data.toList.take k).all ck=true)) (fun _ i _=>s.size - (intOf i).toNat)
 case atStart=>exact ⟨0,Nat.zero_le _,rfl,Below.refl _ _,rfl⟩
 case round =>
  obtain ⟨k,hk,rfl,A,HA⟩:=hrel;have O:=zH A;have a7:=A.size;have a5:w.heap.size<wr.heap.size:=by omega
  by_cases hlt:k<s.size
  · have c0:wr.cell? ⟨w.heap.size,k,none⟩=some (.int .u8 (s[k].toNat:Nat)):=(A.cell (by exact I)).trans (HC.out k hlt)
    clear A;cases A:ck s[k]
    · have HB:Hid (eo ck s=false):=lw hlt A
      have HI:=zH (fun w=>A ▸ oe s[k] w : ∀ w,Calls Tryz.prog 100 #[.int .u8 s[k].toNat] w fun e w'=>e = .returned (.bool false)∧w=w');clear A;go_wp2_with fail
      refine (HI.out _).mono ?_
      rintro e w' ⟨rfl,rfl⟩;go_wp2
      go_ret
      exact ⟨aD HB.out.symm,aa.out.trans (O.out.mono (Nat.le_of_lt I))⟩
    · have HB:Hid ((s.data.toList.take (k+1)).all ck=true):=jH hlt HA.out A
      have HI:=zH (fun w=>A ▸ oe s[k] w : ∀ w,Calls Tryz.prog 100 #[.int .u8 s[k].toNat] w fun e w'=>e = .returned (.bool true)∧w=w');clear A;go_wp2_with fail
      refine (HI.out _).mono ?_
      rintro e w' ⟨rfl,rfl⟩;go_wp2
      go_roundw
      case rel=>exact ⟨k+1,by omega,by go_num,O.out,HB⟩
      case measure=>simp [intOf]; omega
  · obtain rfl:k=s.size:=by omega
    clear A;have HE:Hid (eo ck s=(decide (1≤s.size) && decide (s.size≤64))):=lv HA.out;by_cases h1:1≤s.size
    · have Z:Hid (eo ck s=decide (s.size≤64)):=by show _=_; rw [HE.out,decide_eq_true h1]; rfl
      clear HE;by_cases h2:s.size≤64
      · have J:Hid (eo ck s=true):=by show _=_; rw [Z.out,decide_eq_true h2]
        clear Z;go_wp2
        all_goals first | (exfalso; omega) | (exfalso; rename_i hx; simp at hx; omega) | (go_ret; exact ⟨aD (by rw [J.out] <;> (try simp) <;> (try omega)),aa.out.trans (O.out.mono (Nat.le_of_lt I))⟩)
      · have J:Hid (eo ck s=false):=by show _=_; rw [Z.out,decide_eq_false h2]
        clear Z;go_wp2
        all_goals first | (exfalso; omega) | (exfalso; rename_i hx; simp at hx; omega) | (go_ret; exact ⟨aD (by rw [J.out] <;> (try simp) <;> (try omega)),aa.out.trans (O.out.mono (Nat.le_of_lt I))⟩)
    · have J:Hid (eo ck s=false):=by show _=_; rw [HE.out,decide_eq_false h1]; rfl
      clear HE;go_wp2
      all_goals first | (exfalso; omega) | (exfalso; rename_i hx; simp at hx; omega) | (go_ret; exact ⟨aD (by rw [J.out] <;> (try simp) <;> (try omega)),aa.out.trans (O.out.mono (Nat.le_of_lt I))⟩)
theorem iE (c:UInt8) (b:Bool) (A:(decide (48≤c.toNat) && decide (c.toNat≤57))=b) (w:World):Calls Tryz.prog 101 #[.int .u8 c.toNat] w fun e w'=>e = .returned (.bool b)∧w=w':=by
 subst A;by_cases h1:48≤c.toNat
 all_goals
  go_enter Tryz.func101,Tryz.ntmps101
  go_wp2
  all_goals first | (exfalso; omega) | (go_ret; exact ⟨aD (by simp [h1] <;> omega),rfl⟩)
theorem sK (c:UInt8):decide (0≤Lib.indexByte [46,45,95,43] c)=(c.toNat == 46 || c.toNat == 45 || c.toNat == 95 || c.toNat == 43):=by
 have h : ∀ n:Fin 256,decide (0≤Lib.indexByte [46,45,95,43] (UInt8.ofNat n))=((UInt8.ofNat n).toNat == 46 || (UInt8.ofNat n).toNat == 45 || (UInt8.ofNat n).toNat == 95 || (UInt8.ofNat n).toNat == 43):=by decide +kernel
 have:=h ⟨c.toNat,c.toNat_lt⟩
 simpa only [UInt8.ofNat_toNat] using this
theorem pO (c:UInt8) (b:Bool) (A:(c.toNat == 46 || c.toNat == 45 || c.toNat == 95 || c.toNat == 43)=b) (w:World):Calls Tryz.prog 102 #[.string ⟨#[46,45,95,43]⟩,.string (bs [c])] w fun e w'=>e = .returned (.bool b)∧w=w' :=
 (Tryz.strings_Contains_one ⟨#[46,45,95,43]⟩ c w).mono fun _ _ ⟨h1,h2⟩=>⟨by rw [h1,← A]; exact congrArg (fun x=>Ending.returned (.bool x)) (sK c),h2.symm⟩
theorem uL (s:S) (w:World) (hs:s.size≤9223372036854775807):Calls Tryz.prog 63 #[.string s] w fun e w'=>e = .returned (.bool (iu s))∧Below w.heap.size w w':=by
 rw [show iu s=eo bX s from rfl];have a4:=fun (w:World)=>iG w s;go_enter Tryz.func63,Tryz.ntmps63
 go_wp2_with fail
 clear a4;refine ai fun W hW=>?_
 have D:=fun j h=>gH w s j h;have U:=fI w s w.heap.size (Nat.le_refl _);have ah:=gG w s;rw [← hW] at D U ah;have HC:=zH D;have aa:=zH U;have J:w.heap.size<W.heap.size:=by omega
 clear hW D U ah;generalize ew w s=cap at *;go_loopw [4,5,9] (fun _ _ i wr=>∃ k:Nat,k≤s.size∧i = .int .i64 k∧Below W.heap.size W wr∧Hid ((s.data.toList.take k).all bX=true)) (fun _ _ i _=>s.size - (intOf i).toNat)
 case atStart=>exact ⟨0,Nat.zero_le _,rfl,Below.refl _ _,rfl⟩
 case round =>
  obtain ⟨k,hk,rfl,A,HA⟩:=hrel;have I:=zH A;have al:=A.size;have a7:w.heap.size<wr.heap.size:=by omega
  by_cases hlt:k<s.size
  · have c0:wr.cell? ⟨w.heap.size,k,none⟩=some (.int .u8 (s[k].toNat:Nat)):=(A.cell (by exact J)).trans (HC.out k hlt)
    clear A
    have hcs:(convert 120 9 (.slice (some ⟨wr.heap.size,0,none⟩) 1 1)).run Tryz.prog (wr.alloc (.cells #[.int .u8 (s[k].toNat:Nat)] 5)) = .ok (.string (bs [s[k]])) (wr.alloc (.cells #[.int .u8 (s[k].toNat:Nat)] 5)) :=
     za wr [(s[k].toNat:Int)] [s[k]] (by simp) _ rfl 1 rfl
    cases A:bX s[k]
    · have HB:Hid (eo bX s=false):=lw hlt A
      have h:=ns A;have HM:=zH (fun w=>pO s[k] false (by rw [Bool.eq_false_iff]; intro h; simp at h; omega) w);have HD:=zH (fun w=>iE s[k] false (by rw [Bool.eq_false_iff]; intro h; simp at h; omega) w);clear A;go_wp2_with (first | (go_at_call 101; refine (HD.out _).mono ?_; rintro e w' ⟨rfl,rfl⟩) | (go_at_call 102; refine (HM.out _).mono ?_; rintro e w' ⟨rfl,rfl⟩))
      all_goals first | (exfalso; omega) | (exfalso; rename_i hx; simp at hx; omega) | (go_ret; exact ⟨aD HB.out.symm,aa.out.trans ((I.out.alloc al _).mono (Nat.le_of_lt J))⟩)
    · have HB:Hid ((s.data.toList.take (k+1)).all bX=true):=jH hlt HA.out A
      have h:=jm.1 A;clear A;by_cases hm:(97≤s[k].toNat∧s[k].toNat≤122)∨(65≤s[k].toNat∧s[k].toNat≤90)
      · clear h hcs
        rcases hm with h | h
        all_goals
         go_wp2
         all_goals first | (exfalso; omega) | (exfalso; rename_i hx; simp at hx; omega) | skip
         go_roundw
         case rel=>exact ⟨k+1,by omega,by go_num,I.out,HB⟩
         case measure=>simp [intOf]; omega
      · by_cases hd:48≤s[k].toNat∧s[k].toNat≤57
        · have HD:=zH (fun w=>iE s[k] true (by simp; omega) w)
          clear h hcs hm;go_wp2_with (go_at_call 101; refine (HD.out _).mono ?_; rintro e w' ⟨rfl,rfl⟩)
          all_goals first | (exfalso; omega) | (exfalso; rename_i hx; simp at hx; omega) | skip
          go_roundw
          case rel=>exact ⟨k+1,by omega,by go_num,I.out,HB⟩
          case measure=>simp [intOf]; omega
        · have HM:=zH (fun w=>pO s[k] true (by simp; omega) w)
          have HD:=zH (fun w=>iE s[k] false (by rw [Bool.eq_false_iff]; intro h; simp at h; omega) w);go_wp2_with (first | (go_at_call 101; refine (HD.out _).mono ?_; rintro e w' ⟨rfl,rfl⟩) | (go_at_call 102; refine (HM.out _).mono ?_; rintro e w' ⟨rfl,rfl⟩))
          all_goals first | (exfalso; omega) | (exfalso; rename_i hx; simp at hx; omega) | skip
          all_goals
           go_roundw
           case rel=>exact ⟨k+1,by omega,by go_num,I.out.alloc al _,HB⟩
           case measure=>simp [intOf]; omega
  · obtain rfl:k=s.size:=by omega
    clear A;have HE:Hid (eo bX s=(decide (1≤s.size) && decide (s.size≤64))):=lv HA.out;by_cases h1:1≤s.size
    · have Z:Hid (eo bX s=decide (s.size≤64)):=by show _=_; rw [HE.out,decide_eq_true h1]; rfl
      clear HE;by_cases h2:s.size≤64
      · have O:Hid (eo bX s=true):=by show _=_; rw [Z.out,decide_eq_true h2]
        clear Z;go_wp2
        all_goals first | (exfalso; omega) | (exfalso; rename_i hx; simp at hx; omega) | (go_ret; exact ⟨aD (by rw [O.out] <;> (try simp) <;> (try omega)),aa.out.trans (I.out.mono (Nat.le_of_lt J))⟩)
      · have O:Hid (eo bX s=false):=by show _=_; rw [Z.out,decide_eq_false h2]
        clear Z;go_wp2
        all_goals first | (exfalso; omega) | (exfalso; rename_i hx; simp at hx; omega) | (go_ret; exact ⟨aD (by rw [O.out] <;> (try simp) <;> (try omega)),aa.out.trans (I.out.mono (Nat.le_of_lt J))⟩)
    · have O:Hid (eo bX s=false):=by show _=_; rw [HE.out,decide_eq_false h1]; rfl
      clear HE;go_wp2
      all_goals first | (exfalso; omega) | (exfalso; rename_i hx; simp at hx; omega) | (go_ret; exact ⟨aD (by rw [O.out] <;> (try simp) <;> (try omega)),aa.out.trans (I.out.mono (Nat.le_of_lt J))⟩)
theorem od (c:UInt8) (w:World):Calls Tryz.prog 143 #[.int .u8 c.toNat] w fun e w'=>e = .returned (.bool (fV c))∧w=w':=by
 go_enter Tryz.func143,Tryz.ntmps143
 go_wp2
 all_goals (go_ret; exact ⟨aD (by rw [Bool.eq_iff_iff]; simp [fV]; omega),rfl⟩)
theorem dt {s:S} {l:Bs} (h:s.data.toList=l):(s.toList == l)=true:=by rw [ByteArray.toList_eq,h]; simp
theorem ev {s:S} {l:Bs} (h : ¬ s.data.toList=l):(s.toList == l)=false:=by
 rw [ByteArray.toList_eq,beq_eq_false_iff_ne]; exact h
theorem gI (s:S):bs s.data.toList=s:=by
 obtain ⟨⟨x⟩⟩:=s;rfl
theorem vC (s:S) (n:Bool) (w:World):Calls Tryz.prog 114 #[.string s,.bool n] w fun e w'=>e = .returned (.string (bs (dc s.data.toList n)))∧w=w':=by
 by_cases h0:s.data.toList=xz
 · have O:(s.toList == [103,97])=true:=dt h0
   have A:Hid (bs (dc s.data.toList n)=⟨#[]⟩):=by show _=_; rw [h0]; cases n <;> rfl
   rw [A.out];clear A h0;go_enter Tryz.func114,Tryz.ntmps114
   go_wp2
   go_ret
   exact ⟨rfl,rfl⟩
 have O:(s.toList == [103,97])=false:=ev h0;by_cases h1:s.data.toList=ti
 · have q1:(s.toList == [102,105,110,97,108])=true:=dt h1
   have A:Hid (bs (dc s.data.toList n)=⟨#[]⟩):=by show _=_; rw [h1]; cases n <;> rfl
   rw [A.out];clear A h1 h0;go_enter Tryz.func114,Tryz.ntmps114
   go_wp2
   go_ret
   exact ⟨rfl,rfl⟩
 have q1:(s.toList == [102,105,110,97,108])=false:=ev h1;by_cases h2:s.data.toList=nn
 · have q2:(s.toList == [114,101,108,101,97,115,101])=true:=dt h2
   have A:Hid (bs (dc s.data.toList n)=⟨#[]⟩):=by show _=_; rw [h2]; cases n <;> rfl
   rw [A.out];clear A h2 h0 h1;go_enter Tryz.func114,Tryz.ntmps114
   go_wp2
   go_ret
   exact ⟨rfl,rfl⟩
 have q2:(s.toList == [114,101,108,101,97,115,101])=false:=ev h2;by_cases h3:s.data.toList=BT
 · have q3:(s.toList == [99,114])=true:=dt h3
   have A:Hid (bs (dc s.data.toList n)=⟨#[114,99]⟩):=by show _=_; rw [h3]; cases n <;> rfl
   rw [A.out];clear A h3 h0 h1 h2;go_enter Tryz.func114,Tryz.ntmps114
   go_wp2
   go_ret
   exact ⟨rfl,rfl⟩
 have q3:(s.toList == [99,114])=false:=ev h3
 have J:Hid (dc s.data.toList n=if n=true∧s.data.toList=[97] then np else if n=true∧s.data.toList=[98] then rI else if n=true∧s.data.toList=[109] then fQ else s.data.toList):=by
  show _=_
  unfold dc;rw [if_neg (fun e=>by rcases e with e | e | e; exact h0 e; exact h1 e; exact h2 e),if_neg h3]
 clear h0 h1 h2 h3;cases n with
 | false =>
  have A:Hid (bs (dc s.data.toList false)=s):=by show _=_; rw [J.out]; simp [gI]
  rw [A.out];clear A J;go_enter Tryz.func114,Tryz.ntmps114
  go_wp2
  go_ret
  exact ⟨rfl,rfl⟩
 | true =>
  by_cases D:s.data.toList=[97]
  · have p0:(s.toList == [97])=true:=dt D
    have A:Hid (bs (dc s.data.toList true)=⟨#[97,108,112,104,97]⟩):=by show _=_; rw [D]; rfl
    rw [A.out];clear A J D;go_enter Tryz.func114,Tryz.ntmps114
    go_wp2
    go_ret
    exact ⟨rfl,rfl⟩
  have p0:(s.toList == [97])=false:=ev D;by_cases I:s.data.toList=[98]
  · have p1:(s.toList == [98])=true:=dt I
    have A:Hid (bs (dc s.data.toList true)=⟨#[98,101,116,97]⟩):=by show _=_; rw [I]; rfl
    rw [A.out];clear A J I D;go_enter Tryz.func114,Tryz.ntmps114
    go_wp2
    go_ret
    exact ⟨rfl,rfl⟩
  have p1:(s.toList == [98])=false:=ev I;by_cases g2:s.data.toList=[109]
  · have p2:(s.toList == [109])=true:=dt g2
    have A:Hid (bs (dc s.data.toList true)=⟨#[109,105,108,101,115,116,111,110,101]⟩):=by show _=_; rw [g2]; rfl
    rw [A.out];clear A J g2 D I;go_enter Tryz.func114,Tryz.ntmps114
    go_wp2
    go_ret
    exact ⟨rfl,rfl⟩
  have p2:(s.toList == [109])=false:=ev g2;have A:Hid (bs (dc s.data.toList true)=s):=by show _=_; rw [J.out,if_neg (fun e=>D e.2),if_neg (fun e=>I e.2),if_neg (fun e=>g2 e.2),gI]
  rw [A.out];clear A J D I g2;go_enter Tryz.func114,Tryz.ntmps114
  go_wp2
  go_ret
  exact ⟨rfl,rfl⟩
theorem qT (s:S) (w:World) (hs:s.size≤9223372036854775807):Calls Tryz.prog 112 #[.string s] w fun e w'=>e = .returned (.bool (ep s.data.toList))∧Below w.heap.size w w':=by
 have ad:=fun (w:World)=>iG w s;go_enter Tryz.func112,Tryz.ntmps112
 go_wp2_with fail
 clear ad;refine ai fun W hW=>?_
 have D:=fun j h=>gH w s j h;have I:=fI w s w.heap.size (Nat.le_refl _);have U:=gG w s;rw [← hW] at D I U;have HC:=zH D;have Z:=zH I;have J:w.heap.size<W.heap.size:=by omega
 clear hW D I U;generalize ew w s=cap at *;go_loopw [8] (fun i wr=>∃ k:Nat,k≤s.size∧i = .int .i64 k∧Below W.heap.size W wr∧Hid ((s.data.toList.take k).all cDigit=true)) (fun i _=>s.size - (intOf i).toNat)
 case atStart=>exact ⟨0,Nat.zero_le _,rfl,Below.refl _ _,rfl⟩
 case round =>
  obtain ⟨k,hk,rfl,A,HA⟩:=hrel;have O:=zH A;have a5:=A.size;have al:w.heap.size<wr.heap.size:=by omega
  by_cases hlt:k<s.size
  · have c0:wr.cell? ⟨w.heap.size,k,none⟩=some (.int .u8 (s[k].toNat:Nat)):=(A.cell (by exact J)).trans (HC.out k hlt)
    clear A;cases A:cDigit s[k]
    · have HB:Hid (ep s.data.toList=false):=by
       show _=_
       rw [Bool.eq_false_iff];intro e;have:=List.all_eq_true.1 e s[k] (by rw [show s[k]=s.data.toList[k]'(by simpa using hlt) from rfl]; exact List.getElem_mem _)
       rw [A] at this; cases this
      have HI:=zH (fun w=>A ▸ cu s[k] w : ∀ w,Calls Tryz.prog 101 #[.int .u8 s[k].toNat] w fun e w'=>e = .returned (.bool false)∧w=w');clear A;go_wp2_with fail
      refine (HI.out _).mono ?_
      rintro e w' ⟨rfl,rfl⟩;go_wp2
      go_ret
      exact ⟨aD HB.out.symm,Z.out.trans (O.out.mono (Nat.le_of_lt J))⟩
    · have HB:Hid ((s.data.toList.take (k+1)).all cDigit=true):=jH hlt HA.out A
      have HI:=zH (fun w=>A ▸ cu s[k] w : ∀ w,Calls Tryz.prog 101 #[.int .u8 s[k].toNat] w fun e w'=>e = .returned (.bool true)∧w=w');clear A;go_wp2_with fail
      refine (HI.out _).mono ?_
      rintro e w' ⟨rfl,rfl⟩;go_wp2
      go_roundw
      case rel=>exact ⟨k+1,by omega,by go_num,O.out,HB⟩
      case measure=>simp [intOf]; omega
  · obtain rfl:k=s.size:=by omega
    have HE:Hid (ep s.data.toList=true):=by
     have h:=HA.out;rw [List.take_of_length_le (by rw [au]; exact Nat.le_refl _)] at h;exact h
    clear A;go_wp2
    go_ret
    exact ⟨aD HE.out.symm,Z.out.trans (O.out.mono (Nat.le_of_lt J))⟩
theorem sV (w:World) (s:S) (j:Nat) (h:j<s.size):(kH w s).frozen? ⟨w.heap.size,j,none⟩=false:=by
 have hh:(kH w s).heap[w.heap.size]? = some (.cells (bytesRow s (ew w s)) 5 ((bytesRow s (ew w s)).size,(bytesRow s (ew w s)).size+1)):=by
  show (w.heap.push _)[w.heap.size]? = _
  simp
 have A:j<s.data.size:=h;have D:s.data.size≤(bytesRow s (ew w s)).size:=by unfold bytesRow; simp
 simp only [World.frozen?,hh];simp; omega
def jL (w:World) (H:Nat) (s:S) (k:Nat):Prop:=∀ j (h:j<s.size),w.cell? ⟨H,j,none⟩=some (.int .u8 ((if j<k then du s[j] else s[j]).toNat:Nat))∧w.frozen? ⟨H,j,none⟩=false
theorem nZ {c:UInt8} (h:65≤c.toNat∧c.toNat≤90):(du c).toNat=c.toNat+32:=by
 unfold du;rw [if_pos h,UInt8.toNat_add];show (c.toNat+32) % 256=_
 omega
theorem m8 {c:UInt8} (h : ¬ (65≤c.toNat∧c.toNat≤90)):du c=c:=by unfold du; rw [if_neg h]
theorem jL.keep {w:World} {H:Nat} {s:S} {k:Nat} (h:jL w H s k) (hk:k<s.size) (D:du s[k]=s[k]):jL w H s (k+1):=fun j A=>by
 refine ⟨?_,(h j A).2⟩
 rw [(h j A).1];by_cases h1:j<k
 · rw [if_pos h1,if_pos (by omega)]
 · by_cases h2:j=k
   · subst h2; rw [if_neg h1,if_pos (by omega),D]
   · rw [if_neg h1,if_neg (by omega)]
theorem jL.set {w:World} {H:Nat} {s:S} {k:Nat} (h:jL w H s k) (hk:k<s.size):jL (w.setCell ⟨H,k,none⟩ (.int .u8 ((du s[k]).toNat:Nat))) H s (k+1):=fun j A=>by
 by_cases h2:j=k
 · subst h2
   refine ⟨?_,by simpa using (h j A).2⟩
   rw [if_pos (by omega)];exact World.cell?_setCell_same _ _ _ (h j A).1
 · refine ⟨(World.cell?_setCell_other _ _ _ _ (fun e=>h2 (by cases e; rfl))).trans ((h j A).1.trans ?_),by simpa using (h j A).2⟩
   by_cases h1:j<k
   · rw [if_pos h1,if_pos (by omega)]
   · rw [if_neg h1,if_neg (by omega)]
theorem wG (s:S) (w:World) (hs:s.size≤9223372036854775807):Calls Tryz.prog 111 #[.string s] w fun e w'=>e = .returned (.string (bs (s.data.toList.map du)))∧Below w.heap.size w w':=by
 have ag:=fun (w:World)=>iG w s;go_enter Tryz.func111,Tryz.ntmps111
 go_wp2_with fail
 clear ag;refine ai fun W hW=>?_
 have O:jL W w.heap.size s 0:=fun j hj=>by
  rw [hW];exact ⟨by rw [if_neg (by omega)]; exact gH w s j hj,sV w s j hj⟩
 have I:=fI w s w.heap.size (Nat.le_refl _);have J:=gG w s;rw [← hW] at I J;have a4:=zH O;have a6:=zH I;have al:w.heap.size<W.heap.size:=by omega
 clear hW O I J;generalize ew w s=cap at *;go_loopw [10] (fun i wr=>∃ k:Nat,k≤s.size∧i = .int .i64 k∧Hid (Below w.heap.size w wr)∧w.heap.size<wr.heap.size∧Hid (jL wr w.heap.size s k)) (fun i _=>s.size - (intOf i).toNat)
 case atStart=>exact ⟨0,Nat.zero_le _,rfl,a6,al,a4⟩
 case round =>
  obtain ⟨k,hk,rfl,HB,U,A⟩:=hrel;by_cases hlt:k<s.size
  · have c0:=(A.out k hlt).1
    rw [if_neg (Nat.lt_irrefl k)] at c0;have z0:=(A.out k hlt).2;by_cases h1:65≤s[k].toNat
    · by_cases h2:s[k].toNat≤90
      · have hl:=nZ ⟨h1,h2⟩
        have a8:IntKind.u8.wrap ((s[k].toNat:Int)+97)=(s[k].toNat:Int)+97:=IntWalk.u8_in _ (by omega);have a7:IntKind.u8.wrap ((s[k].toNat:Int)+97 - 65)=((du s[k]).toNat:Nat):=by rw [IntWalk.u8_in _ (by omega),hl]; omega
        have Z:=zH (A.out.set hlt);have a5:=zH (HB.out.setCell (p:=⟨w.heap.size,k,none⟩) (by simp) (.int .u8 ((du s[k]).toNat:Nat)));have J:w.heap.size<(wr.setCell ⟨w.heap.size,k,none⟩ (.int .u8 ((du s[k]).toNat:Nat))).heap.size:=by simpa [World.setCell] using U
        clear hl A HB;go_wp2
        go_roundw
        case rel=>exact ⟨k+1,by omega,by go_num,a5,J,Z⟩
        case measure=>simp [intOf]; omega
      · have Z:=zH (A.out.keep hlt (m8 (fun e=>h2 e.2)))
        clear A;go_wp2
        go_roundw
        case rel=>exact ⟨k+1,by omega,by go_num,HB,U,Z⟩
        case measure=>simp [intOf]; omega
    · have Z:=zH (A.out.keep hlt (m8 (fun e=>h1 e.1)))
      clear A;go_wp2
      go_roundw
      case rel=>exact ⟨k+1,by omega,by go_num,HB,U,Z⟩
      case measure=>simp [intOf]; omega
  · obtain rfl:k=s.size:=by omega
    have D:(s.data.toList.map du).length=s.size:=by rw [List.length_map,au]
    have ag:(convert 120 9 (.slice (some ⟨w.heap.size,0,none⟩) s.size cap)).run Tryz.prog wr = .ok (.string (bs (s.data.toList.map du))) wr:=by
     rw [← D];refine run_convert_bytes_back (P:=Tryz.prog) wr 120 9 5 ⟨w.heap.size,0,none⟩ cap (s.data.toList.map du) Tryz.underlying120 Tryz.underlying5 Tryz.underlying9 (fun j hj=>?_)
     have ad:j<s.size:=by rw [← D]; exact hj
     have:=(A.out j ad).1
     rw [if_pos ad] at this;rw [Addr.add_lit,Nat.zero_add,this,List.getElem_map];rfl
    clear D;go_wp2
    go_ret
    exact ⟨rfl,HB.out⟩
theorem lY (x:S) (h:0<x.size):x.data.toList=x[0]::(x.extract 1 x.size).data.toList:=by
 rw [lG,List.take_of_length_le (by rw [List.length_drop,au]; exact Nat.le_refl _)];have:=bW x 0 h
 simpa using this
theorem qD (s:S) (w:World):Calls Tryz.prog 144 #[.string s,.int .u8 48] w fun e w'=>∃ x:S,e = .returned (.string x)∧x.data.toList=cB s.data.toList∧w=w':=by
 go_enter Tryz.func144,Tryz.ntmps144
 go_wp2
 go_loop [0] (fun v=>∃ x:S,v = .string x∧x.size≤s.size∧Hid (cB s.data.toList=cB x.data.toList)) (fun v=>mX v)
 case atStart=>exact ⟨_,rfl,Nat.le_refl _,rfl⟩
 case round =>
  obtain ⟨x,rfl,hx,A⟩:=hrel;by_cases h0:0<x.size
  · have J:=zH (lY x h0)
    have d1:decide ((0:Int)<(x.size:Int))=true:=decide_eq_true (by omega);by_cases I:x[0].toNat=48
    · have q1:(((x[0].toNat:Nat):Int) == 48)=true:=by rw [beq_iff_eq]; omega
      have D:Hid (cB s.data.toList=cB (x.extract 1 x.size).data.toList):=by
       show _=_
       rw [A.out,J.out];unfold cB;rw [List.dropWhile_cons,if_pos (by simp [I])]
      have U:(x.extract 1 x.size).size=x.size - 1:=by simp
      clear I A J;go_wp2
      go_round
      case rel=>exact ⟨_,rfl,by omega,D⟩
      case measure=>simp [mX]; omega
    · have q1:(((x[0].toNat:Nat):Int) == 48)=false:=by rw [beq_eq_false_iff_ne]; omega
      have D:Hid (x.data.toList=cB s.data.toList):=by
       show _=_
       rw [A.out,J.out];unfold cB;rw [List.dropWhile_cons,if_neg (by simp [I])]
      clear I A J;go_wp2
      go_ret
      exact ⟨x,rfl,D.out,rfl⟩
  · have O:x.data.toList=[]:=List.eq_nil_of_length_eq_zero (by rw [au]; omega)
    have D:Hid (x.data.toList=cB s.data.toList):=by show _=_; rw [A.out,O]; rfl
    have d1:decide ((0:Int)<(x.size:Int))=false:=decide_eq_false (by omega);clear O A;go_wp2
    go_ret
    exact ⟨x,rfl,D.out,rfl⟩
theorem qC (s:S) (w:World):Calls Tryz.prog 113 #[.string s,.string ⟨#[48]⟩] w fun e w'=>∃ x:S,e = .returned (.string x)∧x.data.toList=cB s.data.toList∧w=w':=by
 by_cases h0:s.size=0
 · have he:(s.toList == [])=true:=dt (List.eq_nil_of_length_eq_zero (by rw [au]; exact h0))
   have D:s.data.toList=[]:=List.eq_nil_of_length_eq_zero (by rw [au]; exact h0);have A:s.toList.isEmpty=true:=by rw [bH]; simpa using h0
   have J:Hid (s.data.toList=cB s.data.toList):=by show _=_; rw [D]; rfl
   clear D h0;go_enter Tryz.func113,Tryz.ntmps113
   go_wp2
   go_ret
   exact ⟨s,rfl,J.out,rfl⟩
 · have he:(s.toList == [])=false:=ev (fun e=>h0 (by rw [← au,e]; rfl))
   have A:s.toList.isEmpty=false:=by rw [bH]; simpa using h0
   have I:=zH (qD s w);clear h0;go_enter Tryz.func113,Tryz.ntmps113
   go_wp2_with fail
   refine I.out.mono ?_
   rintro e w' ⟨x,rfl,hx,rfl⟩;go_wp2
   go_ret
   exact ⟨x,rfl,hx,rfl⟩
end Go.Proofs.YtominiaohfjobaaGreatDoor
