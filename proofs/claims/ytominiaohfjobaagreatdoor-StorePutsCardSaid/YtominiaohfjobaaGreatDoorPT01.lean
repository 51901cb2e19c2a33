/- The walk of cut: at most 40 projects, of small texts; the conditions stand in the theorem. -/
import Derived.Test.YtominiaohfjobaaGreatDoorPK15
import Derived.Test.YtominiaohfjobaaGreatDoorPK14
import Derived.IntWalk
import Derived.Test.YtominiaohfjobaaGreatDoorPK13
import Derived.Test.YtominiaohfjobaaGreatDoorPK08
import Derived.Deep.AppendLies
namespace Go.Proofs.YtominiaohfjobaaGreatDoor
open Go Go.RowKit
def okE (p:bp × S):Bool:=decide (p.2.size≤2000) && (decide (p.1.group.size≤100) && (decide (p.1.artifact.size≤100) && decide (p.1.version.size≤100)))
def cutE (l:List (bp × S)):List (bp × S):=(l.take 40).filter okE
theorem cutE_take {l:List (bp × S)} {k:Nat} (h:k<l.length):cutE (l.take (k+1))=cutE (l.take k) ++ cond (decide (k<40) && okE l[k]) [l[k]] []:=by
 unfold cutE;rw [List.take_take,List.take_take];by_cases h4:k<40
 · rw [show min 40 (k+1)=k+1 by omega,show min 40 k=k by omega,List.take_succ_eq_append_getElem h,List.filter_append]
   cases ho:okE l[k] <;> simp [h4,ho]
 · rw [show min 40 (k+1)=40 by omega,show min 40 k=40 by omega]
   simp [h4]
theorem cutE_len (l:List (bp × S)):(cutE l).length≤40:=by
 unfold cutE;refine Nat.le_trans (List.length_filter_le _ _) ?_
 rw [List.length_take];omega
theorem inC_len (p:bp × S):(Ce p).length=4:=rfl
theorem inC_ones (l:List (bp × S)) : ∀ y ∈ l,∀ u ∈ Ce y,u.oneCell'=true:=by
 intro y _ u h;simp [Ce] at h
 rcases h with rfl | rfl | rfl | rfl <;> rfl
theorem info_ent:(Tryz.prog.info? 48).map (fun i=>(i.zero,i.size,i.bytes))=some (some (.agg #[.string ⟨#[]⟩,.string ⟨#[]⟩,.string ⟨#[]⟩,.string ⟨#[]⟩]),4,64):=by kernel_rfl
def CutOut (l:List (bp × S)) (w:World) (e:Ending) (w':World):Prop:=∃ v,e = .returned v∧aj w.heap.size 48 4 Ce w' v (cutE l)∧Below w.heap.size w w'
set_option maxRecDepth 100000 in
set_option maxHeartbeats 8000000 in
theorem cut_of (v:Value) (l:List (bp × S)) (w:World) (h:af 4 Ce w v l):Calls Tryz.prog 15 #[v] w (CutOut l w):=by
 obtain ⟨lo,lc,rfl⟩:=h.shape;have HML:Hid (l.length≤9223372036854775807):=by obtain ⟨_,_,e,h2,h3,_⟩:=h; show _≤_; unfold maxLen at h3; omega
 have HS:=zH h;clear h;go_enter Tryz.func15,Tryz.ntmps15
 go_wp2
 go_loopw [3,8] (fun v i wr=>∃ (k n:Nat) (mo:Option Addr) (mc:Nat),v = .slice mo n mc∧i = .int .i64 k∧k≤l.length∧Hid (Below w.heap.size w wr)∧Hid (aj w.heap.size 48 4 Ce wr (.slice mo n mc) (cutE (l.take k)))) (fun _ i _=>l.length - (intOf i).toNat)
 case atStart=>exact ⟨0,0,none,0,rfl,rfl,Nat.zero_le _,Below.refl _ _,aj.nil⟩
 case round =>
  obtain ⟨k,n,mo,mc,rfl,rfl,hk,HW,HO⟩:=hrel;by_cases hlt:k<l.length
  · obtain ⟨b1,o1,hao,hbl,c0,c1,c2,c3⟩:=(HS.out.below HW.out).atE hlt
    cases hao
    have d1:(k:Int)<(l.length:Int):=by omega
    have wk:IntKind.i64.wrap ((k:Int)+1)=(k:Int)+1:=IntWalk.i64_in _ (by have:=HML.out; omega);have HT:=zH (cutE_take hlt);have HKL:Hid (k+1≤l.length):=hlt;generalize l[k]=y at *;clear hlt;obtain ⟨⟨yg,ya,yv⟩,ys_⟩:=y;simp only [okE] at c0 c1 c2 c3 HT;go_upto_region 5 with fail
    refine ai fun W1 hW=>?_
    have z1:ak W1 wr.heap.size [.string yg,.string ya,.string yv,.string ys_]:=by rw [hW]; exact ak.new wr [.string yg,.string ya,.string yv,.string ys_] _ _ rfl
    have hb1:Below wr.heap.size wr W1:=by rw [hW]; exact (Below.refl _ wr).alloc (Nat.le_refl _) _
    clear hW c0 c1 c2 c3 hbl d1;have HW1:=zH (HW.out.trans (hb1.mono HW.out.size));have HO1:=zH (HO.out.below hb1);obtain ⟨z0,z2,z3,z4⟩:=xx z1;have zl:=z1.lt;clear z1 hb1 HW HO;generalize hBX:wr.heap.size=bx at *;clear hBX;by_cases h40:k<40
    · have e0:decide ((k:Int)<40)=true:=decide_eq_true (by omega)
      have p0:(k:Int)<40:=by omega
      have n0:decide (k<40)=true:=decide_eq_true h40;by_cases hs0:ys_.size≤2000
      · have e1:decide ((ys_.size:Int)≤2000)=true:=decide_eq_true (by omega)
        have p1:(ys_.size:Int)≤2000:=by omega
        have n1:decide (ys_.size≤2000)=true:=decide_eq_true hs0;by_cases hs1:yg.size≤100
        · have e2:decide ((yg.size:Int)≤100)=true:=decide_eq_true (by omega)
          have p2:(yg.size:Int)≤100:=by omega
          have n2:decide (yg.size≤100)=true:=decide_eq_true hs1;by_cases hs2:ya.size≤100
          · have e3:decide ((ya.size:Int)≤100)=true:=decide_eq_true (by omega)
            have p3:(ya.size:Int)≤100:=by omega
            have n3:decide (ya.size≤100)=true:=decide_eq_true hs2;by_cases hs3:yv.size≤100
            · have e4:decide ((yv.size:Int)≤100)=true:=decide_eq_true (by omega)
              have p4:(yv.size:Int)≤100:=by omega
              have n4:decide (yv.size≤100)=true:=decide_eq_true hs3;have HTN:Hid (cutE (l.take (k+1))=cutE (l.take k) ++ [(⟨yg,ya,yv⟩,ys_)]):=by show _=_; rw [HT.out]; simp only [n0,n1,n2,n3,n4,Bool.and_self,cond_true]
              have HCL:Hid ((cutE (l.take k)).length≤40):=cutE_len _;clear HT h40 hs0 hs1 hs2 hs3;have HBA:Hid (Below W1.heap.size W1 (W1.alloc (.cells #[.string yg,.string ya,.string yv,.string ys_] 48))):=(Below.refl _ W1).alloc (Nat.le_refl _) _
              have HLT:Hid (af 4 Ce (W1.alloc (.cells #[.string yg,.string ya,.string yv,.string ys_] 48)) (.slice (some ⟨W1.heap.size,0,none⟩) 1 1) [((⟨yg,ya,yv⟩,ys_):bp × S)]):=by
               show af _ _ _ _ _
               simpa [Ce] using cd inC_len W1 [((⟨yg,ya,yv⟩,ys_):bp × S)] 48 W1.heap.size 1 rfl rfl (by simp [maxLen])
              have HOA:=zH (HO1.out.below HBA.out);have hnl:n=(cutE (l.take k)).length:=by obtain ⟨_,_,e⟩:=HO1.out.shape; cases e; rfl
              have HNL:=zH hnl;clear hnl;generalize cutE (l.take k)=cl at *;go_upto_region 7 with (at_builtin; go_loud (refine ay _ rfl _ _ 22 rfl w.heap.size 48 Tryz.underlying22 info_ent rfl (by decide) inC_len (.slice mo n mc) cl rfl HOA.out _ [((⟨yg,ya,yv⟩,ys_):bp × S)] rfl HLT.out (inC_ones _) (by have h1:=HCL.out; simp only [List.length_singleton]; omega) (by decide) (by have h1:=HW1.out.size; have h2:=HBA.out.size; omega) ?_; intro v8 w8 ho8 hg8 hl8; obtain ⟨a8,c8,hv8⟩:=ho8.shape; subst hv8; rw [List.length_append,List.length_singleton] at ho8; have HO8:=zH ho8; have HG8:=zH (nM (HW1.out.trans (HBA.out.mono HW1.out.size)) HOA.out hg8 (by have h1:=HW1.out.size; have h2:=HBA.out.size; omega)); clear ho8 hg8 hl8))
              clear HBA HOA HLT;go_wp2
              go_roundw
              case rel=>exact ⟨k+1,cl.length+1,a8,c8,rfl,by first | rfl | go_num,HKL.out,HG8,by show aj _ _ _ _ _ _ _; rw [HTN.out]; exact HO8.out⟩
              case measure=>simp [intOf]; have:=HKL.out; omega
            · have e4:decide ((yv.size:Int)≤100)=false:=decide_eq_false (by omega)
              have p4 : ¬ (yv.size:Int)≤100:=by omega
              have n4:decide (yv.size≤100)=false:=decide_eq_false hs3;have HN:Hid (cutE (l.take (k+1))=cutE (l.take k)):=by show _=_; rw [HT.out]; simp only [n0,n1,n2,n3,n4,Bool.and_false,cond_false,List.append_nil]
              clear HT;go_wp2
              go_roundw
              case rel=>exact ⟨k+1,n,mo,mc,rfl,by first | rfl | go_num,HKL.out,HW1,by show aj _ _ _ _ _ _ _; rw [HN.out]; exact HO1.out⟩
              case measure=>simp [intOf]; have:=HKL.out; omega
          · have e3:decide ((ya.size:Int)≤100)=false:=decide_eq_false (by omega)
            have p3 : ¬ (ya.size:Int)≤100:=by omega
            have n3:decide (ya.size≤100)=false:=decide_eq_false hs2;have HN:Hid (cutE (l.take (k+1))=cutE (l.take k)):=by show _=_; rw [HT.out]; simp only [n0,n1,n2,n3,Bool.false_and,Bool.and_false,cond_false,List.append_nil]
            clear HT;go_wp2
            go_roundw
            case rel=>exact ⟨k+1,n,mo,mc,rfl,by first | rfl | go_num,HKL.out,HW1,by show aj _ _ _ _ _ _ _; rw [HN.out]; exact HO1.out⟩
            case measure=>simp [intOf]; have:=HKL.out; omega
        · have e2:decide ((yg.size:Int)≤100)=false:=decide_eq_false (by omega)
          have p2 : ¬ (yg.size:Int)≤100:=by omega
          have n2:decide (yg.size≤100)=false:=decide_eq_false hs1;have HN:Hid (cutE (l.take (k+1))=cutE (l.take k)):=by show _=_; rw [HT.out]; simp only [n0,n1,n2,Bool.false_and,Bool.and_false,cond_false,List.append_nil]
          clear HT;go_wp2
          go_roundw
          case rel=>exact ⟨k+1,n,mo,mc,rfl,by first | rfl | go_num,HKL.out,HW1,by show aj _ _ _ _ _ _ _; rw [HN.out]; exact HO1.out⟩
          case measure=>simp [intOf]; have:=HKL.out; omega
      · have e1:decide ((ys_.size:Int)≤2000)=false:=decide_eq_false (by omega)
        have p1 : ¬ (ys_.size:Int)≤2000:=by omega
        have n1:decide (ys_.size≤2000)=false:=decide_eq_false hs0;have HN:Hid (cutE (l.take (k+1))=cutE (l.take k)):=by show _=_; rw [HT.out]; simp only [n0,n1,Bool.false_and,Bool.and_false,cond_false,List.append_nil]
        clear HT;go_wp2
        go_roundw
        case rel=>exact ⟨k+1,n,mo,mc,rfl,by first | rfl | go_num,HKL.out,HW1,by show aj _ _ _ _ _ _ _; rw [HN.out]; exact HO1.out⟩
        case measure=>simp [intOf]; have:=HKL.out; omega
    · have e0:decide ((k:Int)<40)=false:=decide_eq_false (by omega)
      have p0 : ¬ (k:Int)<40:=by omega
      have n0:decide (k<40)=false:=decide_eq_false h40;have HN:Hid (cutE (l.take (k+1))=cutE (l.take k)):=by show _=_; rw [HT.out]; simp only [n0,Bool.false_and,cond_false,List.append_nil]
      clear HT;go_wp2
      go_roundw
      case rel=>exact ⟨k+1,n,mo,mc,rfl,by first | rfl | go_num,HKL.out,HW1,by show aj _ _ _ _ _ _ _; rw [HN.out]; exact HO1.out⟩
      case measure=>simp [intOf]; have:=HKL.out; omega
  · obtain rfl:k=l.length:=by omega
    have d1 : ¬ (l.length:Int)<(l.length:Int):=by omega
    have HR:=zH HO.out;rw [List.take_length] at HR;clear HO;go_wp2
    go_ret
    exact ⟨_,rfl,HR.out,HW.out⟩
end Go.Proofs.YtominiaohfjobaaGreatDoor
namespace Go.Proofs.YtominiaohfjobaaGreatDoor
open Go Go.RowKit
theorem gp.putT {G:Nat→Prop} {w W:World} {b:Nat} {vg vt vr v':Value} {gs:List bp} {ts ts':List S} {rs:List Bool} (h:gp G w b vg vt vr gs ts rs) (hO:aj 0 9 1 gq W v' ts') (hg:w.grownBy W vt.ownBlock) (hl:v'.ownBlock=vt.ownBlock∨v'.ownBlock=some w.heap.size) :
    gp (fun k=>G k∨w.heap.size≤k) (W.setCell ⟨b,1,none⟩ v') b vg v' vr gs ts' rs:=by
 have hb:ak W b [vg,vt,vr,.int .i64 0]:=h.box.grown hg (fun e=>(h.gt b e.symm).2 rfl)
 have hn : ∀ j,v'.ownBlock=some j→(G j∨w.heap.size≤j)∧j≠b:=fun j hj=>by
  rcases hl with e | e
  · exact ⟨.inl (h.gt j (e ▸ hj)).1,(h.gt j (e ▸ hj)).2⟩
  · rw [e] at hj; cases hj; exact ⟨.inr (Nat.le_refl _),by have:=h.box.lt; omega⟩
 have hG:=h.g.kept hg (tS h.gtA);have hR:=h.r.kept hg (uW h.trA);refine ⟨hb.setOne rfl (by simp),hG.kept (ab _ _ _ _) (nK fun j hj=>(h.gg j hj).2),hO.kept (ab _ _ _ _) (nK fun j hj=>(hn j hj).2),hR.kept (ab _ _ _ _) (nK fun j hj=>(h.gr j hj).2),.inl h.gb,fun j hj=>⟨.inl (h.gg j hj).1,(h.gg j hj).2⟩,hn,fun j hj=>⟨.inl (h.gr j hj).1,(h.gr j hj).2⟩,fun j hj hn=>?_,h.grA,fun j hj hn=>?_⟩
 · rcases hl with e | e
   · exact h.gtA j hj (e ▸ hn)
   · rw [e] at hn; cases hn; have:=(h.g.lt _ hj).2; omega
 · rcases hl with e | e
   · exact h.trA j (e ▸ hj) hn
   · rw [e] at hj; cases hj; have:=(h.r.lt _ hn).2; omega
theorem gp.putR {G:Nat→Prop} {w W:World} {b:Nat} {vg vt vr v':Value} {gs:List bp} {ts:List S} {rs rs':List Bool} (h:gp G w b vg vt vr gs ts rs) (hO:aj 0 4 1 gi W v' rs') (hg:w.grownBy W vr.ownBlock) (hl:v'.ownBlock=vr.ownBlock∨v'.ownBlock=some w.heap.size) :
    gp (fun k=>G k∨w.heap.size≤k) (W.setCell ⟨b,2,none⟩ v') b vg vt v' gs ts rs':=by
 have hb:ak W b [vg,vt,vr,.int .i64 0]:=h.box.grown hg (fun e=>(h.gr b e.symm).2 rfl)
 have hn : ∀ j,v'.ownBlock=some j→(G j∨w.heap.size≤j)∧j≠b:=fun j hj=>by
  rcases hl with e | e
  · exact ⟨.inl (h.gr j (e ▸ hj)).1,(h.gr j (e ▸ hj)).2⟩
  · rw [e] at hj; cases hj; exact ⟨.inr (Nat.le_refl _),by have:=h.box.lt; omega⟩
 have hG:=h.g.kept hg (tS h.grA);have hT:=h.t.kept hg (tS h.trA);refine ⟨hb.setOne rfl (by simp),hG.kept (ab _ _ _ _) (nK fun j hj=>(h.gg j hj).2),hT.kept (ab _ _ _ _) (nK fun j hj=>(h.gt j hj).2),hO.kept (ab _ _ _ _) (nK fun j hj=>(hn j hj).2),.inl h.gb,fun j hj=>⟨.inl (h.gg j hj).1,(h.gg j hj).2⟩,fun j hj=>⟨.inl (h.gt j hj).1,(h.gt j hj).2⟩,hn,h.gtA,fun j hj hn=>?_,fun j hj hn=>?_⟩
 · rcases hl with e | e
   · exact h.grA j hj (e ▸ hn)
   · rw [e] at hn; cases hn; have:=(h.g.lt _ hj).2; omega
 · rcases hl with e | e
   · exact h.trA j hj (e ▸ hn)
   · rw [e] at hn; cases hn; have:=(h.t.lt _ hj).2; omega
def RefMayOk:Prop:=∀ (g:bp) (w:World),vf g→Calls Tryz.prog 43 #[.agg #[.string g.group,.string g.artifact,.string g.version]] w fun e w'=>e = .returned (.bool (dI g))∧Below w.heap.size w w'
theorem step_append_sliceP {α:Type} {P:Program} {ops:Array Oper} {E:Prop} (w:World) {o:Oper} {a:Act} {K:Act→World→Prop} {Q:Exit→Act→World→Prop} (hgd:o.guard=none) (s x:Operand) (t:TypeId)
    (ho:o.op = .call { callee:=.builtin .append,args:=#[s,x],argTypes:=#[t,t] })
    (base:Nat) (e:TypeId) {z:Value} {size bytes:Nat} (ht:P.underlying t=some (.slice e)) (hinfo:(P.info? e).map (fun i=>(i.zero,i.size,i.bytes))=some (some z,size,bytes)) (hzs:z.cells.size=size) (hsz:0<size) {C:α→List Value} (hC : ∀ y,(C y).length=size)
    (v:Value) (l:List α) (hs:a.eval s=v) (hown:aj base e size C w v l) (v2:Value) (l2:List α) (hx:a.eval x=v2) (hsl:af size C w v2 l2) (h1 : ∀ y ∈ l2,∀ u ∈ C y,u.oneCell'=true)
    (hbytes:(l.length+l2.length)*bytes≤140737488355328) (hb0:0<bytes) (hbase:base≤w.heap.size)
    (h : ∀ ao n cap w',aj base e size C w' (.slice ao n cap) (l ++ l2)→w.grownBy w' v.ownBlock→((Value.slice ao n cap).ownBlock=v.ownBlock∨(Value.slice ao n cap).ownBlock=some w.heap.size)→K (a.put o.dst (.slice ao n cap)) w') :
    if Region.wanted o (yielded ops a.tmps)=true then Oper.wp P o a w K Q else E:=by
 have hw:Region.wanted o (yielded ops a.tmps)=true:=by simp [Region.wanted,hgd]
 rw [if_pos hw];refine mN w s x t ho base e ht hinfo hzs hsz hC v l hs hown v2 l2 hx hsl h1 hbytes hb0 hbase fun v' w' h2 h3 h4=>?_
 obtain ⟨ao,cap,rfl⟩:=h2.shape;exact h ao _ cap w' h2 h3 h4
theorem only_put {G:Nat→Prop} {w w1 W:World} {b c:Nat} {v v':Value} (hb:Below w.heap.size w w1) (hg:w1.grownBy W v.ownBlock) (hv : ∀ j,v.ownBlock=some j→G j) (gb:G b):aV G w (W.setCell ⟨b,c,none⟩ v') :=
 have h2:=ab W b c v';have s1:=hb.size;have s2:=hg.size
 ⟨h2.os.trans (hg.os.trans hb.os),h2.tape.trans (hg.tape.trans hb.tape),h2.output.trans (hg.output.trans hb.output),Nat.le_trans s1 (Nat.le_trans s2 h2.size),fun k hk hn =>
  (h2.block k (by omega) (fun e=>by cases e; exact hn gb)).trans ((hg.block k (by omega) (fun e=>hn (hv k e.symm))).trans (hb.block k hk))⟩
theorem docOut_yes {G F1 F2 G':Nat→Prop} {b:Nat} {gs:List bp} {ts:List S} {g:bp} {s:S} {w w2 w3 w4 w5:World} {vg vt vr:Value} {rs:List Bool} (hp:putG gs g=true) (hb:Below w.heap.size w w2) (o0:aV G w2 w3) (o1:aV F1 w3 w4) (o2:aV F2 w4 w5)
    (hd:gp G' w5 b vg vt vr (gs ++ [g]) (ts ++ [s]) rs) (h1 : ∀ k,k<w.heap.size→F1 k→G k) (h2 : ∀ k,k<w.heap.size→F2 k→G k) (h3 : ∀ k,k<w.heap.size→G' k→G k) (hr:rs.length≤gs.length+1):rG G b gs ts g s w w5 :=
 ⟨(((aV.of (F:=G) hb).trans o0 fun _ _ h=>h).trans o1 h1).trans o2 h2,_,vg,vt,vr,rs,by rw [if_pos hp,if_pos hp]; exact hd,h3,by rw [if_pos hp,List.length_append]; exact hr⟩
set_option maxRecDepth 100000 in
set_option maxHeartbeats 4000000 in
theorem docPutX_of (HRM:RefMayOk) (g:bp) (s:S) (w:World) {G:Nat→Prop} {b:Nat} {vg vt vr:Value} {gs:List bp} {ts:List S} {rs:List Bool} (h:gp G w b vg vt vr gs ts rs) (hl:gs.length≤1000) (ht:ts.length≤gs.length) (hr:rs.length≤gs.length) (hg:vf g) :
    Calls Tryz.prog 23 #[jr b,.agg #[.string g.group,.string g.artifact,.string g.version],.string s] w fun e w'=>e = .returned (.int .i64 (putN gs g))∧rG G b gs ts g s w w':=by
 have HD:=zH h;have HL:=zH hl;have HT:=zH ht;have HR:=zH hr;have HM:Hid (∀ W,Calls Tryz.prog 43 #[.agg #[.string g.group,.string g.artifact,.string g.version]] W fun e w'=>e = .returned (.bool (dI g))∧Below W.heap.size W w'):=fun W=>HRM g W hg;have HA:Hid (∀ W,Below w.heap.size w W→Calls Tryz.prog 10 #[.pointer (some ⟨b,0,none⟩),.agg #[.string g.group,.string g.artifact,.string g.version]] W fun e w'=>∃ i:Int,e = .returned (.int .i64 i)∧(0≤i↔g ∈ gs)∧Below W.heap.size W w'):=fun W hb=>Bu g b _ _ _ _ gs W (h.below hb).box ((h.below hb).g.slice (fun _=>rfl)) (by omega);have HNO:Hid (putG gs g=false → ∀ W,Below w.heap.size w W→rG G b gs ts g s w W):=fun hp W hb=>⟨aV.of hb,G,vg,vt,vr,rs,by rw [hp]; exact h.below hb,fun _ _=>id,by rw [hp]; exact hr⟩;have HPN:Hid (putN gs g=if dI g=false then 1 else if g ∈ gs then 4 else if 1024≤gs.length then 2 else 0):=rfl;have HP:Hid (putG gs g=(dI g && (decide (g ∉ gs) && decide (gs.length<1024)))):=rfl;clear h hl ht hr hg HRM;obtain ⟨q,hq⟩ : ∃ q,dI g=q:=⟨_,rfl⟩;rw [hq] at HM HP HPN;clear hq;unfold jr;obtain ⟨gg,ga,gv⟩:=g;simp only at HM HA ⊢;go_enter Tryz.func23,Tryz.ntmps23
 go_upto_region 1 with fail
 refine ai fun W hW=>?_
 have y1:ak W w.heap.size [.string gg,.string ga,.string gv]:=by rw [hW]; exact ak.new w [.string gg,.string ga,.string gv] _ _ rfl
 have hb:Below w.heap.size w W:=by rw [hW]; exact (Below.refl _ w).alloc (Nat.le_refl _) _
 clear hW;have HY:=zH y1;have HB:=zH hb;obtain ⟨y0,y2,y3⟩:=ej y1;have yl:=y1.lt;clear y1 hb;go_wp2_with fail
 refine (HM.out _).mono ?_
 rintro e w1 ⟨rfl,hb1⟩;have HY1:=zH (HY.out.below hb1 HY.out.lt);have HB1:=zH (HB.out.trans (hb1.mono HB.out.size));clear hb1 y0 y2 y3 yl HY HB;cases q with
 | false =>
  have HF:Hid (putG gs ⟨gg,ga,gv⟩=false):=by show _=_; rw [HP.out]; rfl
  go_wp2
  go_ret
  exact ⟨by rw [HPN.out]; rfl,HNO.out HF.out _ HB1.out⟩
 | true =>
  obtain ⟨y0,y2,y3⟩:=ej HY1.out;have yl:=HY1.out.lt;go_wp2_with fail
  refine (HA.out _ HB1.out).mono ?_
  rintro e w2 ⟨i,rfl,hi,hb1⟩;have HY2:=zH (HY1.out.below hb1 HY1.out.lt);have HB2:=zH (HB1.out.trans (hb1.mono HB1.out.size));clear hb1 y0 y2 y3 yl HY1 HB1;by_cases h0:0≤i
  · have HF:Hid (putG gs ⟨gg,ga,gv⟩=false):=by show _=_; rw [HP.out,show decide ((⟨gg,ga,gv⟩:bp) ∉ gs)=false from decide_eq_false (fun hn=>hn (hi.1 h0))]; rfl
    have e1:decide (0≤i)=true:=decide_eq_true h0;have HN4:Hid (putN gs ⟨gg,ga,gv⟩=4):=by show _=_; rw [HPN.out,if_neg (by simp),if_pos (hi.1 h0)]
    clear hi HA HM;go_wp2
    go_ret
    exact ⟨by rw [HN4.out]; rfl,HNO.out HF.out _ HB2.out⟩
  · have HF:Hid (putG gs ⟨gg,ga,gv⟩=true):=by show _=_; rw [HP.out,show decide ((⟨gg,ga,gv⟩:bp) ∉ gs)=true from decide_eq_true (fun hn=>h0 (hi.2 hn)),decide_eq_true (by have:=HL.out; omega)]; rfl
    have e1:decide (0≤i)=false:=decide_eq_false h0;have HN0:Hid (putN gs ⟨gg,ga,gv⟩=0):=by show _=_; rw [HPN.out,if_neg (by simp),if_neg (fun h=>h0 (hi.2 h)),if_neg (by have:=HL.out; omega)]
    clear hi;have HD2:=zH (HD.out.below HB2.out);obtain ⟨go,gc,rfl⟩:=HD2.out.g.shape;have b0:=HD2.out.box.cell 0 _ rfl;have bl:=HD2.out.box.lt;have e2 : ¬ (1024:Int)≤(gs.length:Int):=by have:=HL.out; omega
    have e3:decide ((1024:Int)≤(gs.length:Int))=false:=decide_eq_false e2;have e4:decide (1024≤gs.length)=false:=decide_eq_false (by have:=HL.out; omega);clear HA HM HNO HD HP;go_upto_region 7 with fail
    clear b0 bl e1 e2 e3 e4
    have HN:Hid (af 3 gu (w2.drew.alloc (.cells #[.string gg,.string ga,.string gv] 26)) (.slice (some ⟨w2.heap.size,0,none⟩) 1 1) [(⟨gg,ga,gv⟩:bp)]):=by
     show af _ _ _ _ _
     simpa [gu] using cd l4 w2.drew [(⟨gg,ga,gv⟩:bp)] 26 w2.heap.size 1 rfl rfl (by simp [maxLen])
    have HBA:Hid (Below w2.heap.size w2 (w2.drew.alloc (.cells #[.string gg,.string ga,.string gv] 26))):=(show Below w2.heap.size w2 w2.drew from ⟨rfl,rfl,rfl,Nat.le_refl _,fun _ _=>rfl⟩).trans ((Below.refl _ w2.drew).alloc (Nat.le_refl _) _);have HDA:=zH (HD2.out.below HBA.out);have b0:=HD2.out.box.cell 0 _ rfl;have bl:=HD2.out.box.lt;have bf_:=HD2.out.box.free 0;obtain ⟨y0,y1,y2⟩:=ej HY2.out;have yl:=HY2.out.lt;go_region_law (refine step_append_sliceP _ rfl (.tmp 24) (.tmp 26) 32 rfl 0 26 Tryz.underlying32 pW rfl (by decide) l4 (.slice go gs.length gc) gs (by simp [Act.eval]) HDA.out.g _ [(⟨gg,ga,gv⟩:bp)] (by simp [Act.eval]) HN.out (om _) (by have h1:=HL.out; have h2:=HT.out; have h3:=HR.out; simp only [List.length_singleton]; omega) (by decide) (Nat.zero_le _) ?_; intro a8 n8 c8 w8 ho8 hg8 hl8; have HO8:=zH ho8; have HG8:=zH hg8; have HL8:=zH hl8; have c8b:w8.cell? ⟨b,0,none⟩=_:=(HDA.out.box.grown hg8 (fun e=>(HDA.out.gg b e.symm).2 rfl)).cell 0 _ rfl; have f8b:w8.frozen? ⟨b,0,none⟩=false:=(HDA.out.box.grown hg8 (fun e=>(HDA.out.gg b e.symm).2 rfl)).free 0; clear ho8 hg8 hl8)
    all_goals
     obtain ⟨w3,hW⟩ : ∃ W,w8.setCell ⟨b,0,none⟩ (.slice a8 n8 c8)=W:=⟨_,rfl⟩;rw [hW];have hd:=HDA.out.putG HO8.out HG8.out HL8.out;rw [hW] at hd;have HD3:=zH hd;have hon:=only_put (c:=0) (v':=.slice a8 n8 c8) HBA.out HG8.out (fun j hj=>(HDA.out.gg j hj).1) HDA.out.gb;rw [hW] at hon;have HON0:=zH hon;clear hd hW hon HN HBA HDA HO8 HG8 HL8 c8b f8b b0 bl bf_ y0 y1 y2 yl;clear HD2;try simp only [Act.put,List.getElem_toArray,List.getElem_cons_succ,List.getElem_cons_zero,List.setIfInBounds_toArray,List.set_cons_succ,List.set_cons_zero]
     go_upto_region 8 with fail
     obtain ⟨tso,tsc,rfl⟩:=HD3.out.t.shape
     have HN:Hid (af 1 gq (w3.alloc (.cells #[.string s] 9)) (.slice (some ⟨w3.heap.size,0,none⟩) 1 1) [s]):=by
      show af _ _ _ _ _
      simpa [gq] using cd kU w3 [s] 9 w3.heap.size 1 rfl rfl (by simp [maxLen])
     have HBA:Hid (Below w3.heap.size w3 (w3.alloc (.cells #[.string s] 9))):=(Below.refl _ w3).alloc (Nat.le_refl _) _;have HDA:=zH (HD3.out.below HBA.out);have b0:=HD3.out.box.cell 1 _ rfl;have bl:=HD3.out.box.lt;have bf_:=HD3.out.box.free 1;go_upto_region 9 with (at_builtin; go_loud (refine ay _ rfl _ _ 36 rfl 0 9 Tryz.underlying36 sI rfl (by decide) kU (.slice tso ts.length tsc) ts rfl HDA.out.t _ [s] rfl HN.out (tF _) (by have h1:=HL.out; have h2:=HT.out; have h3:=HR.out; simp only [List.length_singleton]; omega) (by decide) (Nat.zero_le _) ?_; intro v8 w8 ho8 hg8 hl8; obtain ⟨a8,c8,hv8⟩:=ho8.shape; subst hv8; rw [List.length_append,List.length_singleton] at ho8 hl8; have HO8:=zH ho8; have HG8:=zH hg8; have HL8:=zH hl8; have c8b:w8.cell? ⟨b,1,none⟩=_:=(HDA.out.box.grown hg8 (fun e=>(HDA.out.gt b e.symm).2 rfl)).cell 1 _ rfl; have f8b:w8.frozen? ⟨b,1,none⟩=false:=(HDA.out.box.grown hg8 (fun e=>(HDA.out.gt b e.symm).2 rfl)).free 1; clear ho8 hg8 hl8))
     refine ai fun w4 hW=>?_
     have hd:=HDA.out.putT HO8.out HG8.out HL8.out;rw [← hW] at hd;have HD4:=zH hd;have hon:=only_put (c:=1) (v':=.slice a8 (ts.length+1) c8) HBA.out HG8.out (fun j hj=>(HDA.out.gt j hj).1) HDA.out.gb;rw [← hW] at hon;have HON1:=zH hon;clear hd hW hon HN HBA HDA HO8 HG8 HL8 c8b f8b b0 bl bf_;clear HD3;obtain ⟨ro_,rc_,rfl⟩:=HD4.out.r.shape
     have HN:Hid (af 1 gi (w4.alloc (.cells #[.bool false] 4)) (.slice (some ⟨w4.heap.size,0,none⟩) 1 1) [false]):=by
      show af _ _ _ _ _
      simpa [gi] using cd dW w4 [false] 4 w4.heap.size 1 rfl rfl (by simp [maxLen])
     have HBA:Hid (Below w4.heap.size w4 (w4.alloc (.cells #[.bool false] 4))):=(Below.refl _ w4).alloc (Nat.le_refl _) _;have HDA:=zH (HD4.out.below HBA.out);have b0:=HD4.out.box.cell 2 _ rfl;have bl:=HD4.out.box.lt;have bf_:=HD4.out.box.free 2;go_upto_region 10 with (at_builtin; go_loud (refine ay _ rfl _ _ 38 rfl 0 4 Tryz.underlying38 na rfl (by decide) dW (.slice ro_ rs.length rc_) rs rfl HDA.out.r _ [false] rfl HN.out (iL _) (by have h1:=HL.out; have h2:=HT.out; have h3:=HR.out; simp only [List.length_singleton]; omega) (by decide) (Nat.zero_le _) ?_; intro v8 w8 ho8 hg8 hl8; obtain ⟨a8,c8,hv8⟩:=ho8.shape; subst hv8; rw [List.length_append,List.length_singleton] at ho8 hl8; have HO8:=zH ho8; have HG8:=zH hg8; have HL8:=zH hl8; have c8b:w8.cell? ⟨b,2,none⟩=_:=(HDA.out.box.grown hg8 (fun e=>(HDA.out.gr b e.symm).2 rfl)).cell 2 _ rfl; have f8b:w8.frozen? ⟨b,2,none⟩=false:=(HDA.out.box.grown hg8 (fun e=>(HDA.out.gr b e.symm).2 rfl)).free 2; clear ho8 hg8 hl8))
     refine ai fun w5 hW=>?_
     have hd:=HDA.out.putR HO8.out HG8.out HL8.out;rw [← hW] at hd;have HD5:=zH hd;have hon:=only_put (c:=2) (v':=.slice a8 (rs.length+1) c8) HBA.out HG8.out (fun j hj=>(HDA.out.gr j hj).1) HDA.out.gb;rw [← hW] at hon;have HON2:=zH hon;clear hd hW hon HN HBA HDA HO8 HG8 HL8 c8b f8b b0 bl bf_;clear HD4;go_wp2
     go_ret
     exact ⟨by rw [HN0.out]; rfl,docOut_yes HF.out HB2.out HON0.out HON1.out HON2.out HD5.out (fun k hk h=>by have s1:=HB2.out.size; rcases h with h | h; exact h; simp at h; omega) (fun k hk h=>by have s1:=HB2.out.size; have s2:=HON0.out.size; rcases h with (h | h) | h; exact h; simp at h; omega; simp at h; omega) (fun k hk h=>by have s1:=HB2.out.size; have s2:=HON0.out.size; have s3:=HON1.out.size; rcases h with ((h | h) | h) | h; exact h; simp at h; omega; simp at h; omega; simp at h; omega) (by rw [List.length_append]; have:=HR.out; simp; omega)⟩
end Go.Proofs.YtominiaohfjobaaGreatDoor
