/- The walk of the document's Parts; the conditions stand in the theorem. -/
import Derived.Test.YtominiaohfjobaaGreatDoorPK11
set_option maxRecDepth 100000
set_option maxHeartbeats 64000000
namespace Go.Proofs.YtominiaohfjobaaGreatDoor
open Go Go.RowKit
def uP (w:World) (b o:Nat):Nat:=match w.cell? ⟨b,o,none⟩ with
 | some (.string x)=>x.size
 | _=>0
theorem rS {w:World} {b o:Nat} {x:S} (h:w.cell? ⟨b,o,none⟩=some (.string x)):uP w b o=x.size:=by unfold uP; rw [h]
theorem xZ {α:Type} {l:List α} {k:Nat} {x:α} (h:l[k]? = some x):l.set k x=l:=by
 obtain ⟨hk,rfl⟩:=List.getElem?_eq_some_iff.1 h;exact List.set_getElem_self hk
theorem tu (w:World) (x:Value) (T:TypeId) (A:Nat × Nat):(w.alloc (.cells #[x] T A)).cell? ⟨w.heap.size,0,none⟩=some x:=by
 rw [cell_of_row _ w.heap.size 0 _ T A (heap_alloc_new w _)]; rfl
theorem tt (w:World) (H:Nat) (c:UInt8) (D:w.cell? ⟨H,0,none⟩=some (.int .u8 (c.toNat:Nat))):(convert 120 9 (.slice (some ⟨H,0,none⟩) 1 1)).run Tryz.prog w = .ok (.string (bs [c])) w :=
 run_convert_bytes_back (P:=Tryz.prog) w 120 9 5 ⟨H,0,none⟩ 1 [c] Tryz.underlying120 Tryz.underlying5 Tryz.underlying9 (fun j A=>by
  obtain rfl:j=0:=by simp at A; omega
  simpa [Lib.byteCells,Addr.add] using D)
theorem yr {p0:aM} {M:List aM} {i:Nat} {e:aM} (A:1≤i) (he:(p0::M)[i]? = some e):eA M (i - 1)=(e.text.isEmpty && (decide (i+1=M.length+1) || (((p0::M)[i+1]?).map (·.hyphen)).getD false)):=by
 obtain ⟨j,rfl⟩ : ∃ j,i=j+1:=⟨i - 1,by omega⟩;have h1:M[j]? = some e:=by simpa using he
 unfold eA;rw [Nat.add_sub_cancel,h1];simp
theorem jR {p0:aM} {M:List aM} {i:Nat} (A:1≤i):([] ++ (p0::M).take i) ++ (p0::M).drop (i+1)=p0::M.eraseIdx (i - 1):=by
 obtain ⟨j,rfl⟩ : ∃ j,i=j+1:=⟨i - 1,by omega⟩;rw [List.eraseIdx_eq_take_drop_succ];simp
theorem wt {M:List aM} {j:Nat} (h:M.length≤j):eA M j=false:=by
 unfold eA;rw [List.getElem?_eq_none h]
def qS:Value→Nat
 | .slice _ n _=>n
 | _=>0
def vq:Value→Nat
 | .bool true=>1
 | _=>0
theorem af.dropW {α:Type} {n:Nat} {C:α→List Value} {w:World} {b o len cap:Nat} {l:List α} (h:af n C w (.slice (some ⟨b,o,none⟩) len cap) l) {k:Nat} (hk:k≤l.length):af n C w (.slice (some ⟨b,o+k*n,none⟩) (len - k) (cap - k)) (l.drop k):=by
 obtain ⟨O,J,h1,h2,hm,h3,I⟩:=h;cases h1
 refine ⟨_,_,by rw [List.length_drop],by rw [List.length_drop]; omega,by omega,by simp,fun i x hx=>?_⟩
 rw [List.getElem?_drop] at hx;obtain ⟨b',o',e,hlt,D⟩:=I _ _ hx;cases e
 refine ⟨b,o+k*n,rfl,hlt,fun j u A=>?_⟩
 have:=D j u A
 rw [Nat.add_mul] at this;rw [Nat.add_assoc o]; exact this
def cutW (a:Option Addr) (l m s:Nat):Option Addr:=if m=l then a else a.map (·.add (l*s))
theorem rY (a:Option Addr) (l h m s:Nat):sliced a l h m s = .slice (cutW a l m s) (h - l) (m - l):=rfl
theorem xe (a:Option Addr) (m s:Nat):cutW a 0 m s=a:=by
 unfold cutW;split
 · rfl
 · cases a with
   | none=>rfl
   | some x=>simp [Addr.add]
theorem af.cutW {α:Type} {n:Nat} {C:α→List Value} {w:World} {b o len cap:Nat} {l:List α} (h:af n C w (.slice (some ⟨b,o,none⟩) len cap) l) {k:Nat} (hk:k≤l.length):af n C w (.slice (cutW (some ⟨b,o,none⟩) k cap n) (len - k) (cap - k)) (l.drop k):=by
 unfold Go.Proofs.YtominiaohfjobaaGreatDoor.cutW;by_cases A:cap=k
 · rw [if_pos A]
   obtain ⟨I,D,h1,h2,hm,h3,O⟩:=h;cases h1
   have J:l.length=k:=by omega
   rw [List.drop_of_length_le (by omega)];exact ⟨_,_,by rw [List.length_nil]; congr 1; omega,by simp,by omega,by simp,fun i x hx=>by simp at hx⟩
 · rw [if_neg A]
   rw [Option.map_some,Addr.add_lit];exact h.dropW hk
theorem nL {α:Type} {B:Nat} {w2 A D:World} {E n:Nat} {C:α→List Value} {v:Value} {l:List α} (h:Below B w2 A) (ho:aj B E n C A v l) (J:A.grownBy D v.ownBlock) (hB:B≤A.heap.size):Below B w2 D:=h.grown J hB (fun j I=>(ho.lt j I).1)
theorem af.takeW {α:Type} {n:Nat} {C:α→List Value} {w:World} {ao:Option Addr} {len cap:Nat} {l:List α} (h:af n C w (.slice ao len cap) l) {k:Nat} (hk:k≤l.length):af n C w (.slice ao k cap) (l.take k):=by
 obtain ⟨I,D,h1,h2,hm,h3,A⟩:=h;cases h1
 refine ⟨ao,cap,by rw [List.length_take,Nat.min_eq_left hk],by rw [List.length_take]; omega,hm,h3,fun i x hx=>A i x ?_⟩
 rw [List.getElem?_take] at hx;split at hx
 · exact hx
 · cases hx
theorem af.capW {α:Type} {n:Nat} {C:α→List Value} {w:World} {ao:Option Addr} {len cap:Nat} {l:List α} (h:af n C w (.slice ao len cap) l):l.length≤cap∧len=l.length∧cap≤maxLen:=by
 obtain ⟨D,A,h1,h2,hm,h3,I⟩:=h;cases h1
 exact ⟨h2,rfl,hm⟩
attribute [local go_sem ↓] rY xe in
theorem Ai (s:S) (w:World) (hs:s.size≤900000):Calls Tryz.prog 32 #[.string s] w fun e w'=>∃ v,e = .returned v∧aj w.heap.size 98 3 br w' v (aL s.data.toList)∧Below w.heap.size w w':=by
 obtain ⟨T,hT⟩ : ∃ T,T=s.data.toList.map du:=⟨_,rfl⟩;have d9:Hid (T.length=s.size):=by show _=_; rw [hT,List.length_map,au]
 have l5:Hid (jc s.data.toList=(cw T [] false).map bS):=by show _=_; rw [hT]; rfl
 have hN:Hid (∀ k (hk:k<s.size),T[k]'(by rw [d9.out]; exact hk)=du s[k]):=fun k hk=>by subst hT; exact Ap s k hk
 have pn:Hid (∀ p ∈ cw T [] false,p.text.length≤1000000):=fun p hp=>by
  have:=im _ _ _ p hp
  have h2:=d9.out;simp at this; omega
 have l9:Hid ((cw T [] false).length≤900001):=by
  have:=eC T [] false
  have h2:=d9.out;show _≤_; omega
 clear hT;go_enter Tryz.func32,Tryz.ntmps32
 go_upto_region 4 with fail
 refine ai fun W hW=>?_
 obtain ⟨B,hB⟩ : ∃ B,w.heap.size=B:=⟨_,rfl⟩
 have r6:Hid (aN B w W (.slice none 0 0) (.slice (some ⟨B,0,none⟩) 0 0) [] [] [.bool false,.bool false,.string ⟨#[]⟩]):=by
  show aN _ _ _ _ _ _ _ _
  rw [hW];subst hB;exact ⟨rfl,((Below.refl _ w).alloc (Nat.le_refl _) _).alloc (by simp) _,ak.new _ _ _ _ (by simp),aj.nil,(aj.empty rfl (Nat.le_refl _)).alloc _,fun j hj=>by cases hj; exact Nat.ne_of_lt (Nat.lt_succ_self _),fun j hj=>by cases hj⟩
 rw [hB];have k6:=zH hB;clear hW hB;go_wp2
 go_loopw [3,4,6,7] (fun l n d i wr=>∃ (k f dg ll nl:Nat) (P:List Pc) (hy:Bool) (lo no:Option Addr) (I nc:Nat) (t:Bs),l = .slice lo ll I∧n = .slice no nl nc∧d = .int .i64 dg∧i = .int .i64 k∧Hid (dp T k f P hy)∧Hid (aN B w wr (.slice lo ll I) (.slice no nl nc) (P.map bN) (P.map (·.close)) [.bool false,.bool hy,.string (bs t)])∧Hid (dg=jg t)∧Hid (t=ee T f k)) (fun _ _ _ i _=>s.size+1 - (intOf i).toNat)
 case atStart=>exact ⟨0,0,0,0,0,[],false,none,_,0,_,[],rfl,rfl,rfl,rfl,dp.start _,r6.out,rfl,(ek T 0).symm⟩
 case round =>
  clear r6;obtain ⟨k,f,dg,ll,nl,P,hy,lo,no,I,nc,t,rfl,rfl,rfl,rfl,HC,D,HG,HT⟩:=hrel;have l0:=HC.out.le;rw [d9.out] at l0;have hC:=zH D.out.size;by_cases hk:k≤s.size
  · have fz:Hid ((P.map bN).length≤1000000∧(P.map (·.close)).length≤1000000):=by have:=l0.1; rw [List.length_map,List.length_map]; exact ⟨by omega,by omega⟩
    have wa:f≤k:=l0.2.2 hk
    have ko:Hid (t.length≤1000000):=by
     show _≤_
     rw [HT.out]; unfold ee; rw [List.length_take,List.length_drop,d9.out]; omega
    have hL:IntKind.i64.wrap ((k:Int)+1)=(k:Int)+1:=IntWalk.i64_in _ (by omega);obtain ⟨X,hX⟩ : ∃ X,X=bs t:=⟨_,rfl⟩;have oo:X.size=t.length:=by rw [hX,ax]
    have d8:=zH hX;have l2:decide ((dg:Int)<(X.size:Int))=!ep t:=by rw [← vh,oo,← show dg=jg t from HG.out]; simp
    have hP:decide (dg<X.size)=!ep t:=by rw [← vh,oo,← show dg=jg t from HG.out]
    rw [← hX] at D;clear hX oo;have bx:=D.out.box;obtain ⟨c0,c1,c2⟩:=ej bx;have cl:=bx.lt;clear bx;by_cases nu:k=s.size
    · as_aux_lemma =>
      have e1:((k:Int) == (s.size:Int))=true:=by rw [beq_iff_eq]; omega
      have t4:(k == s.size)=true:=by rw [beq_iff_eq]; omega
      have d1:decide ((k:Int)<(s.size:Int))=false:=decide_eq_false (by omega);have hw:decide (k<s.size)=false:=decide_eq_false (by omega);have HF:=zH (HC.out.fin (by rw [d9.out]; exact nu)).2;rw [← HT.out] at HF;have wo:=zH nu;clear nu;go_upto_region 9 with fail
      refine bK (by kernel_rfl) (by kernel_rfl) ?_
      repeat (go_big_quiet_step (fail))
      refine wpQuiet_nil ?_
      rintro _ ⟨nx,rfl⟩;have D:=zH (D.out.later nx.below);have hC:=zH D.out.size;generalize nx.at_=wn at *;clear c0 c1 c2 cl;have c0:=D.out.box.cell 0 _ rfl;have f0:=D.out.box.free 0;have c1:=D.out.box.cell 1 _ rfl;have c2:=D.out.box.cell 2 _ rfl;have cl:=D.out.box.lt;go_upto_region 12 with fail
      refine ai fun W1 dl=>?_
      have al:Hid (aN B w W1 (.slice lo ll I) (.slice no nl nc) (P.map bN) (P.map (·.close)) [.bool (!ep t),.bool hy,.string X]):=by
       rw [dl];exact D.out.boxed (D.out.box.setOne rfl (by simp)) (ab _ _ _ _)
      clear dl c0 c1 c2 cl f0 l2 hP;have hu:=al.out.size;obtain ⟨k0,k1,A⟩:=ej al.out.box;have kl:=al.out.box.lt
      have dr:Hid (af 3 br (W1.alloc (.cells #[.bool (!ep t),.bool hy,.string X] 98)) (.slice (some ⟨W1.heap.size,0,none⟩) 1 1) [bN (⟨t,hy,false⟩:Pc)]):=by
       have:=cd bI W1 [bN (⟨t,hy,false⟩:Pc)] 98 W1.heap.size 1 rfl rfl (by simp [maxLen])
       show af _ _ _ _ _
       rw [d8.out];simpa [br,bN] using this
      go_upto_region 13 with (at_builtin; go_loud (refine ay _ rfl _ _ 95 rfl (B+2) 98 Tryz.underlying95 gD rfl (by decide) bI (.slice lo ll I) (P.map bN) rfl (al.out.l.alloc _) _ [bN (⟨t,hy,false⟩:Pc)] rfl dr.out (jU _) (by have:=fz.out.1; simp only [List.length_singleton]; omega) (by decide) (by simp; omega) ?_); intro v9 w9 J Z ad; obtain ⟨b4,b5,g8⟩:=J.shape; subst g8)
      have a7:=zH ((al.out.later ((Below.refl _ W1).alloc (Nat.le_refl _) _)).putL J Z ad);clear J Z ad dr k0 k1 A kl hu al;have ht:=a7.out.size
      have d3:Hid (af 1 gi (w9.alloc (.cells #[.bool false] 4)) (.slice (some ⟨w9.heap.size,0,none⟩) 1 1) [false]):=by
       show af _ _ _ _ _
       simpa [gi] using cd dW w9 [false] 4 w9.heap.size 1 rfl rfl (by simp [maxLen])
      go_upto_region 14 with (at_builtin; go_loud (refine ay _ rfl _ _ 38 rfl B 4 Tryz.underlying38 na rfl (by decide) dW (.slice no nl nc) (P.map (·.close)) rfl (a7.out.n.alloc _) _ [false] rfl d3.out (iL _) (by have:=fz.out.2; simp only [List.length_singleton]; omega) (by decide) (by simp; omega) ?_); intro v8 w8 J Z ad; obtain ⟨b0,b3,g9⟩:=J.shape; subst g9)
      have ah:=zH ((a7.out.later ((Below.refl _ w9).alloc (Nat.le_refl _) _)).putN J Z ad);clear J Z ad d3 ht a7;have hr:=ah.out.size;have z0:=ah.out.box.cell 0 _ rfl;have zl:=ah.out.box.lt;go_upto_region 15 with ((with_reducible show wpList _ _ _ (Oper.mk none (Op.store 98 (.tmp 5) (.tmp 89)) _ _ _ _::_) _ _); refine bn rfl 98 (.tmp 5) (.tmp 89) rfl (B+1) _ [.bool false,.bool false,.string ⟨#[]⟩] rfl rfl ah.out.box rfl (by kernel_rfl) (by simp [Value.oneCell']) ?_; intro W7 v7 dk)
      have bo:Hid (aN B w W7 (.slice b4 (P.length+1) b5) (.slice b0 (P.length+1) b3) ((P ++ [(⟨t,hy,false⟩:Pc)]).map bN) ((P ++ [(⟨t,hy,false⟩:Pc)]).map (·.close)) [.bool false,.bool false,.string ⟨#[]⟩]):=by
       have:=ah.out.boxed v7 dk
       have e1:(P.map bN ++ [bN (⟨t,hy,false⟩:Pc)]).length=P.length+1:=by simp
       have e2:(P.map (·.close) ++ [false]).length=P.length+1:=by simp
       rw [e1,e2] at this;show aN _ _ _ _ _ _ _ _
       rw [List.map_append,List.map_append];exact this
      clear v7 dk ah z0 zl hr;have nm:=bo.out.size;go_wp2
      go_roundw
      case rel=>exact ⟨k+1,k+1,0,_,_,_,false,b4,b0,b5,b3,[],rfl,rfl,by go_num,by go_num,HF.out _ _,bo.out,rfl,(ek _ _).symm⟩
      case measure=>simp [intOf]; omega
    · have hJ:k<s.size:=by omega
      have hv:k<T.length:=by rw [d9.out]; exact hJ
      have hV:=hN.out k hJ;have e1:((k:Int) == (s.size:Int))=false:=by rw [beq_eq_false_iff_ne]; omega
      have t4:(k == s.size)=false:=by rw [beq_eq_false_iff_ne]; omega
      have d1:decide ((k:Int)<(s.size:Int))=true:=decide_eq_true (by omega);have hw:decide (k<s.size)=true:=decide_eq_true hJ;cases hm:fV T[k] with
      | true =>
       have d4:=HC.out.mark hv hm;rw [← HT.out,hV,By] at d4;rw [hV,lU] at hm;by_cases n4:s[k].toNat=46
       · as_aux_lemma =>
         have ta:((s[k].toNat:Int) == 46)=true:=by rw [beq_iff_eq]; omega
         have tb:((s[k].toNat:Int) == 45)=false:=by rw [beq_eq_false_iff_ne]; omega
         rw [show (s[k].toNat == 45)=false by rw [beq_eq_false_iff_ne]; omega] at d4;have HN:=zH d4;clear d4 hm n4;go_upto_region 9 with fail
         refine bK (by kernel_rfl) (by kernel_rfl) ?_
         repeat (go_big_quiet_step (fail))
         refine wpQuiet_nil ?_
         rintro _ ⟨nx,rfl⟩;have D:=zH (D.out.later nx.below);have hC:=zH D.out.size;generalize nx.at_=wn at *;clear c0 c1 c2 cl;have c0:=D.out.box.cell 0 _ rfl;have f0:=D.out.box.free 0;have c1:=D.out.box.cell 1 _ rfl;have c2:=D.out.box.cell 2 _ rfl;have cl:=D.out.box.lt;go_upto_region 12 with fail
         refine ai fun W1 dl=>?_
         have al:Hid (aN B w W1 (.slice lo ll I) (.slice no nl nc) (P.map bN) (P.map (·.close)) [.bool (!ep t),.bool hy,.string X]):=by
          rw [dl];exact D.out.boxed (D.out.box.setOne rfl (by simp)) (ab _ _ _ _)
         clear dl c0 c1 c2 cl f0 l2 hP;have hu:=al.out.size;obtain ⟨k0,k1,A⟩:=ej al.out.box;have kl:=al.out.box.lt
         have dr:Hid (af 3 br (W1.alloc (.cells #[.bool (!ep t),.bool hy,.string X] 98)) (.slice (some ⟨W1.heap.size,0,none⟩) 1 1) [bN (⟨t,hy,false⟩:Pc)]):=by
          have:=cd bI W1 [bN (⟨t,hy,false⟩:Pc)] 98 W1.heap.size 1 rfl rfl (by simp [maxLen])
          show af _ _ _ _ _
          rw [d8.out];simpa [br,bN] using this
         go_upto_region 13 with (at_builtin; go_loud (refine ay _ rfl _ _ 95 rfl (B+2) 98 Tryz.underlying95 gD rfl (by decide) bI (.slice lo ll I) (P.map bN) rfl (al.out.l.alloc _) _ [bN (⟨t,hy,false⟩:Pc)] rfl dr.out (jU _) (by have:=fz.out.1; simp only [List.length_singleton]; omega) (by decide) (by simp; omega) ?_); intro v9 w9 J Z ad; obtain ⟨b4,b5,g8⟩:=J.shape; subst g8)
         have a7:=zH ((al.out.later ((Below.refl _ W1).alloc (Nat.le_refl _) _)).putL J Z ad);clear J Z ad dr k0 k1 A kl hu al;have ht:=a7.out.size
         have d3:Hid (af 1 gi (w9.alloc (.cells #[.bool false] 4)) (.slice (some ⟨w9.heap.size,0,none⟩) 1 1) [false]):=by
          show af _ _ _ _ _
          simpa [gi] using cd dW w9 [false] 4 w9.heap.size 1 rfl rfl (by simp [maxLen])
         go_upto_region 14 with (at_builtin; go_loud (refine ay _ rfl _ _ 38 rfl B 4 Tryz.underlying38 na rfl (by decide) dW (.slice no nl nc) (P.map (·.close)) rfl (a7.out.n.alloc _) _ [false] rfl d3.out (iL _) (by have:=fz.out.2; simp only [List.length_singleton]; omega) (by decide) (by simp; omega) ?_); intro v8 w8 J Z ad; obtain ⟨b0,b3,g9⟩:=J.shape; subst g9)
         have ah:=zH ((a7.out.later ((Below.refl _ w9).alloc (Nat.le_refl _) _)).putN J Z ad);clear J Z ad d3 ht a7;have hr:=ah.out.size;have z0:=ah.out.box.cell 0 _ rfl;have zl:=ah.out.box.lt;go_upto_region 15 with ((with_reducible show wpList _ _ _ (Oper.mk none (Op.store 98 (.tmp 5) (.tmp 89)) _ _ _ _::_) _ _); refine bn rfl 98 (.tmp 5) (.tmp 89) rfl (B+1) _ [.bool false,.bool false,.string ⟨#[]⟩] rfl rfl ah.out.box rfl (by kernel_rfl) (by simp [Value.oneCell']) ?_; intro W7 v7 dk)
         have bo:Hid (aN B w W7 (.slice b4 (P.length+1) b5) (.slice b0 (P.length+1) b3) ((P ++ [(⟨t,hy,false⟩:Pc)]).map bN) ((P ++ [(⟨t,hy,false⟩:Pc)]).map (·.close)) [.bool false,.bool false,.string ⟨#[]⟩]):=by
          have:=ah.out.boxed v7 dk
          have e1:(P.map bN ++ [bN (⟨t,hy,false⟩:Pc)]).length=P.length+1:=by simp
          have e2:(P.map (·.close) ++ [false]).length=P.length+1:=by simp
          rw [e1,e2] at this;show aN _ _ _ _ _ _ _ _
          rw [List.map_append,List.map_append];exact this
         clear v7 dk ah z0 zl hr;have nm:=bo.out.size;go_wp2
         go_roundw
         case rel=>exact ⟨k+1,k+1,0,_,_,_,false,b4,b0,b5,b3,[],rfl,rfl,by go_num,by go_num,HN.out,bo.out,rfl,(ek _ _).symm⟩
         case measure=>simp [intOf]; omega
       · as_aux_lemma =>
         have ta:((s[k].toNat:Int) == 46)=false:=by rw [beq_eq_false_iff_ne]; omega
         have rv:s[k].toNat=45:=by simp [fV] at hm; omega
         have tb:((s[k].toNat:Int) == 45)=true:=by rw [beq_iff_eq]; omega
         rw [show (s[k].toNat == 45)=true by rw [beq_iff_eq]; exact rv] at d4;have HN:=zH d4;clear d4 hm n4 rv;go_upto_region 9 with fail
         refine bK (by kernel_rfl) (by kernel_rfl) ?_
         repeat (go_big_quiet_step (fail))
         refine wpQuiet_nil ?_
         rintro _ ⟨nx,rfl⟩;have D:=zH (D.out.later nx.below);have hC:=zH D.out.size;generalize nx.at_=wn at *;clear c0 c1 c2 cl;have c0:=D.out.box.cell 0 _ rfl;have f0:=D.out.box.free 0;have c1:=D.out.box.cell 1 _ rfl;have c2:=D.out.box.cell 2 _ rfl;have cl:=D.out.box.lt;go_upto_region 12 with fail
         refine ai fun W1 dl=>?_
         have al:Hid (aN B w W1 (.slice lo ll I) (.slice no nl nc) (P.map bN) (P.map (·.close)) [.bool (!ep t),.bool hy,.string X]):=by
          rw [dl];exact D.out.boxed (D.out.box.setOne rfl (by simp)) (ab _ _ _ _)
         clear dl c0 c1 c2 cl f0 l2 hP;have hu:=al.out.size;obtain ⟨k0,k1,A⟩:=ej al.out.box;have kl:=al.out.box.lt
         have dr:Hid (af 3 br (W1.alloc (.cells #[.bool (!ep t),.bool hy,.string X] 98)) (.slice (some ⟨W1.heap.size,0,none⟩) 1 1) [bN (⟨t,hy,false⟩:Pc)]):=by
          have:=cd bI W1 [bN (⟨t,hy,false⟩:Pc)] 98 W1.heap.size 1 rfl rfl (by simp [maxLen])
          show af _ _ _ _ _
          rw [d8.out];simpa [br,bN] using this
         go_upto_region 13 with (at_builtin; go_loud (refine ay _ rfl _ _ 95 rfl (B+2) 98 Tryz.underlying95 gD rfl (by decide) bI (.slice lo ll I) (P.map bN) rfl (al.out.l.alloc _) _ [bN (⟨t,hy,false⟩:Pc)] rfl dr.out (jU _) (by have:=fz.out.1; simp only [List.length_singleton]; omega) (by decide) (by simp; omega) ?_); intro v9 w9 J Z ad; obtain ⟨b4,b5,g8⟩:=J.shape; subst g8)
         have a7:=zH ((al.out.later ((Below.refl _ W1).alloc (Nat.le_refl _) _)).putL J Z ad);clear J Z ad dr k0 k1 A kl hu al;have ht:=a7.out.size
         have d3:Hid (af 1 gi (w9.alloc (.cells #[.bool false] 4)) (.slice (some ⟨w9.heap.size,0,none⟩) 1 1) [false]):=by
          show af _ _ _ _ _
          simpa [gi] using cd dW w9 [false] 4 w9.heap.size 1 rfl rfl (by simp [maxLen])
         go_upto_region 14 with (at_builtin; go_loud (refine ay _ rfl _ _ 38 rfl B 4 Tryz.underlying38 na rfl (by decide) dW (.slice no nl nc) (P.map (·.close)) rfl (a7.out.n.alloc _) _ [false] rfl d3.out (iL _) (by have:=fz.out.2; simp only [List.length_singleton]; omega) (by decide) (by simp; omega) ?_); intro v8 w8 J Z ad; obtain ⟨b0,b3,g9⟩:=J.shape; subst g9)
         have ah:=zH ((a7.out.later ((Below.refl _ w9).alloc (Nat.le_refl _) _)).putN J Z ad);clear J Z ad d3 ht a7;have hr:=ah.out.size;have z0:=ah.out.box.cell 0 _ rfl;have zl:=ah.out.box.lt;go_upto_region 15 with ((with_reducible show wpList _ _ _ (Oper.mk none (Op.store 98 (.tmp 5) (.tmp 89)) _ _ _ _::_) _ _); refine bn rfl 98 (.tmp 5) (.tmp 89) rfl (B+1) _ [.bool false,.bool true,.string ⟨#[]⟩] rfl rfl ah.out.box rfl (by kernel_rfl) (by simp [Value.oneCell']) ?_; intro W7 v7 dk)
         have bo:Hid (aN B w W7 (.slice b4 (P.length+1) b5) (.slice b0 (P.length+1) b3) ((P ++ [(⟨t,hy,false⟩:Pc)]).map bN) ((P ++ [(⟨t,hy,false⟩:Pc)]).map (·.close)) [.bool false,.bool true,.string ⟨#[]⟩]):=by
          have:=ah.out.boxed v7 dk
          have e1:(P.map bN ++ [bN (⟨t,hy,false⟩:Pc)]).length=P.length+1:=by simp
          have e2:(P.map (·.close) ++ [false]).length=P.length+1:=by simp
          rw [e1,e2] at this;show aN _ _ _ _ _ _ _ _
          rw [List.map_append,List.map_append];exact this
         clear v7 dk ah z0 zl hr;have nm:=bo.out.size;go_wp2
         go_roundw
         case rel=>exact ⟨k+1,k+1,0,_,_,_,true,b4,b0,b5,b3,[],rfl,rfl,by go_num,by go_num,HN.out,bo.out,rfl,(ek _ _).symm⟩
         case measure=>simp [intOf]; omega
      | false =>
       have vi:((s[k].toNat:Int) == 46)=false:=by
        rw [hV,lU] at hm;rw [beq_eq_false_iff_ne]; intro e; simp [fV] at hm; omega
       have vj:((s[k].toNat:Int) == 45)=false:=by
        rw [hV,lU] at hm;rw [beq_eq_false_iff_ne]; intro e; simp [fV] at hm; omega
       by_cases hf:f<k
       · have ty:k - 1<s.size:=by omega
         have ra:IntKind.i64.wrap ((k:Int) - 1)=((k - 1:Nat):Int):=by rw [IntWalk.i64_in _ (by omega)]; omega
         have ou:0<X.size:=by
          rw [d8.out,ax,HT.out];have:=(lT T hf (by rw [d9.out]; omega)).1
          cases hb:ee T f k with
          | nil=>rw [hb] at this; simp at this
          | cons _ _=>simp
         have d2:decide ((0:Int)<(X.size:Int))=true:=decide_eq_true (by omega);have t5:decide (0<X.size)=true:=decide_eq_true ou
         have l3:(cDigit T[k] != cDigit (T[k - 1]'(by omega)))=(cDigit s[k] != cDigit s[k - 1]):=by
          rw [hV,hN.out (k - 1) ty,gh,gh]
         have l7:Hid (∀ x:aJ wr,Calls Tryz.prog 53 #[.int .u8 s[k].toNat] x.at_ fun e mo=>e = .returned (.bool (cDigit s[k])) ∧ ∃ y:aJ wr,mo=y.at_):=fun x=>aJ.callS ((eK s[k] _).mono fun e w' h=>⟨h.1,h.2 ▸ Below.refl _ _⟩);have l6:Hid (∀ x:aJ wr,Calls Tryz.prog 53 #[.int .u8 s[k - 1].toNat] x.at_ fun e mo=>e = .returned (.bool (cDigit s[k - 1])) ∧ ∃ y:aJ wr,mo=y.at_):=fun x=>aJ.callS ((eK s[k - 1] _).mono fun e w' h=>⟨h.1,h.2 ▸ Below.refl _ _⟩);cases hd:(cDigit s[k] != cDigit s[k - 1]) with
         | true =>
          as_aux_lemma =>
          have nz:(!(cDigit s[k] == cDigit s[k - 1]))=true:=hd;have d4:=HC.out.turn hv hm hf (by rw [l3]; exact hd);rw [← HT.out] at d4;have HN:=zH d4;have fv:Hid (ee T k (k+1)=[] ++ [T[k]]):=by show _=_; rw [eZ T (by omega) hv,ek]
          clear hm l3 d4;have kb:=@aJ.cells wr;go_upto_region 9 with fail
          refine bK (by kernel_rfl) (by kernel_rfl) ?_
          repeat (go_big_quiet_step ((go_at_call 53; first | (with_reducible exact l7.out _) | (with_reducible exact l6.out _))))
          refine wpQuiet_nil ?_
          rintro _ ⟨nx,rfl⟩;have D:=zH (D.out.later nx.below);have hC:=zH D.out.size;clear kb;generalize nx.at_=wn at *;clear c0 c1 c2 cl;have c0:=D.out.box.cell 0 _ rfl;have f0:=D.out.box.free 0;have c1:=D.out.box.cell 1 _ rfl;have c2:=D.out.box.cell 2 _ rfl;have cl:=D.out.box.lt;clear l7 l6 hd nz ra;go_upto_region 12 with fail
          refine ai fun W1 dl=>?_
          have al:Hid (aN B w W1 (.slice lo ll I) (.slice no nl nc) (P.map bN) (P.map (·.close)) [.bool (!ep t),.bool hy,.string X]):=by
           rw [dl];exact D.out.boxed (D.out.box.setOne rfl (by simp)) (ab _ _ _ _)
          clear dl c0 c1 c2 cl f0 l2 hP;have hu:=al.out.size;obtain ⟨k0,k1,A⟩:=ej al.out.box;have kl:=al.out.box.lt
          have dr:Hid (af 3 br (W1.alloc (.cells #[.bool (!ep t),.bool hy,.string X] 98)) (.slice (some ⟨W1.heap.size,0,none⟩) 1 1) [bN (⟨t,hy,true⟩:Pc)]):=by
           have:=cd bI W1 [bN (⟨t,hy,true⟩:Pc)] 98 W1.heap.size 1 rfl rfl (by simp [maxLen])
           show af _ _ _ _ _
           rw [d8.out];simpa [br,bN] using this
          go_upto_region 13 with (at_builtin; go_loud (refine ay _ rfl _ _ 95 rfl (B+2) 98 Tryz.underlying95 gD rfl (by decide) bI (.slice lo ll I) (P.map bN) rfl (al.out.l.alloc _) _ [bN (⟨t,hy,true⟩:Pc)] rfl dr.out (jU _) (by have:=fz.out.1; simp only [List.length_singleton]; omega) (by decide) (by simp; omega) ?_); intro v9 w9 J Z ad; obtain ⟨b4,b5,g8⟩:=J.shape; subst g8)
          have a7:=zH ((al.out.later ((Below.refl _ W1).alloc (Nat.le_refl _) _)).putL J Z ad);clear J Z ad dr k0 k1 A kl hu al;have ht:=a7.out.size
          have d3:Hid (af 1 gi (w9.alloc (.cells #[.bool true] 4)) (.slice (some ⟨w9.heap.size,0,none⟩) 1 1) [true]):=by
           show af _ _ _ _ _
           simpa [gi] using cd dW w9 [true] 4 w9.heap.size 1 rfl rfl (by simp [maxLen])
          go_upto_region 14 with (at_builtin; go_loud (refine ay _ rfl _ _ 38 rfl B 4 Tryz.underlying38 na rfl (by decide) dW (.slice no nl nc) (P.map (·.close)) rfl (a7.out.n.alloc _) _ [true] rfl d3.out (iL _) (by have:=fz.out.2; simp only [List.length_singleton]; omega) (by decide) (by simp; omega) ?_); intro v8 w8 J Z ad; obtain ⟨b0,b3,g9⟩:=J.shape; subst g9)
          have ah:=zH ((a7.out.later ((Below.refl _ w9).alloc (Nat.le_refl _) _)).putN J Z ad);clear J Z ad d3 ht a7;have hr:=ah.out.size;have z0:=ah.out.box.cell 0 _ rfl;have zl:=ah.out.box.lt;go_upto_region 15 with ((with_reducible show wpList _ _ _ (Oper.mk none (Op.store 98 (.tmp 5) (.tmp 89)) _ _ _ _::_) _ _); refine bn rfl 98 (.tmp 5) (.tmp 89) rfl (B+1) _ [.bool false,.bool true,.string ⟨#[]⟩] rfl rfl ah.out.box rfl (by kernel_rfl) (by simp [Value.oneCell']) ?_; intro W7 v7 dk)
          have bo:Hid (aN B w W7 (.slice b4 (P.length+1) b5) (.slice b0 (P.length+1) b3) ((P ++ [(⟨t,hy,true⟩:Pc)]).map bN) ((P ++ [(⟨t,hy,true⟩:Pc)]).map (·.close)) [.bool false,.bool true,.string ⟨#[]⟩]):=by
           have:=ah.out.boxed v7 dk
           have e1:(P.map bN ++ [bN (⟨t,hy,true⟩:Pc)]).length=P.length+1:=by simp
           have e2:(P.map (·.close) ++ [true]).length=P.length+1:=by simp
           rw [e1,e2] at this;show aN _ _ _ _ _ _ _ _
           rw [List.map_append,List.map_append];exact this
          clear v7 dk ah z0 zl hr;have nm:=bo.out.size;have ga:Hid ((0:Nat)=jg []):=rfl;obtain ⟨Y,hY⟩ : ∃ Y:S,Y=bs []:=⟨_,rfl⟩;have r1:=zH hY;have bo:Hid (aN B w W7 (.slice b4 (P.length+1) b5) (.slice b0 (P.length+1) b3) ((P ++ [(⟨t,hy,true⟩:Pc)]).map bN) ((P ++ [(⟨t,hy,true⟩:Pc)]).map (·.close)) [.bool false,.bool true,.string Y]):=by show aN _ _ _ _ _ _ _ _; rw [hY]; exact bo.out
          clear hY;go_upto_region 17 with fail
          have d6:=zH (ix s[k]);obtain ⟨b2,f2,bl⟩:=zB bo.out.box 2 rfl;obtain ⟨c,hc⟩ : ∃ c,c=du s[k]:=⟨_,rfl⟩;rw [← hc] at d6;have g5:Hid (cDigit c=cDigit s[k]):=by show _=_; rw [hc,gh]
          have e8:Hid (T[k]=c):=by show _=_; rw [hc]; exact hN.out k hJ
          have ih:=tt (W7.alloc (.cells #[.int .u8 (c.toNat:Nat)] 5)).drew W7.heap.size c (tu W7 (.int .u8 (c.toNat:Nat)) 5 (0,0));have k8:(Y:S) ++ bs [c]=bs ([] ++ [c]):=by rw [r1.out]; exact cU _ _
          have hg : ¬ 9223372036854775807<(Y:S).size+(bs [c]).size:=by rw [r1.out]; rw [ax]; have:=ko.out; simp [ax]; try omega
          clear hc;go_region_law (first | (go_simp; go_at_call 54; refine (d6.out _).mono ?_; rintro e w3 ⟨rfl,rfl⟩))
          all_goals
           go_upto_region 18 with fail
           refine ai fun W3 e7=>?_
           have g4:Hid (aN B w W3 (.slice b4 (P.length+1) b5) (.slice b0 (P.length+1) b3) ((P ++ [(⟨t,hy,true⟩:Pc)]).map bN) ((P ++ [(⟨t,hy,true⟩:Pc)]).map (·.close)) [.bool false,.bool true,.string (bs ([] ++ [c]))]):=by
            show aN _ _ _ _ _ _ _ _
            rw [e7];exact (bo.out.boxed (bo.out.box.setOne rfl (by simp)) (ab _ _ _ _)).later (aY ((Below.refl _ _).alloc (Nat.le_refl _) (.cells #[.int .u8 (c.toNat:Nat)] 5)) 1)
           clear e7 b2 f2 bl ih k8 hg d6;have gc:=zH (eK s[k] W3);go_wp2_with fail
           refine gc.out.mono ?_
           rintro e w4 ⟨rfl,rfl⟩;clear gc;cases e5:cDigit s[k] with
           | true =>
            as_aux_lemma =>
            have bv:Hid (0+1=jg ([] ++ [c])):=by show _=_; rw [io,g5.out,e5,if_pos rfl,← ga.out]
            go_wp2
            go_roundw
            case rel=>exact ⟨k+1,k,0+1,_,_,_,true,b4,b0,b5,b3,[] ++ [c],rfl,rfl,by go_num,by go_num,HN.out,g4.out,bv.out,by show _=_; rw [fv.out,e8.out]⟩
            case measure=>simp [intOf]; omega
           | false =>
            as_aux_lemma =>
            have bv:Hid (0=jg ([] ++ [c])):=by show _=_; rw [io,g5.out,e5,if_neg (by simp),← ga.out]; try rfl
            go_wp2
            go_roundw
            case rel=>exact ⟨k+1,k,0,_,_,_,true,b4,b0,b5,b3,[] ++ [c],rfl,rfl,by go_num,by go_num,HN.out,g4.out,bv.out,by show _=_; rw [fv.out,e8.out]⟩
            case measure=>simp [intOf]; omega
         | false =>
          as_aux_lemma =>
          have nz:(!(cDigit s[k] == cDigit s[k - 1]))=false:=hd;have HN:=zH (HC.out.on hv hm hf (by rw [l3]; exact hd));have fv:Hid (ee T f (k+1)=t ++ [T[k]]):=by show _=_; rw [eZ T (by omega) hv,HT.out]
          clear hm l3;have kb:=@aJ.cells wr;go_upto_region 9 with fail
          refine bK (by kernel_rfl) (by kernel_rfl) ?_
          repeat (go_big_quiet_step ((go_at_call 53; first | (with_reducible exact l7.out _) | (with_reducible exact l6.out _))))
          refine wpQuiet_nil ?_
          rintro _ ⟨nx,rfl⟩;have D:=zH (D.out.later nx.below);have hC:=zH D.out.size;clear kb;generalize nx.at_=wn at *;clear c0 c1 c2 cl;have c0:=D.out.box.cell 0 _ rfl;have f0:=D.out.box.free 0;have c1:=D.out.box.cell 1 _ rfl;have c2:=D.out.box.cell 2 _ rfl;have cl:=D.out.box.lt;clear l7 l6 nz hd ra;have ga:=HG;have t0:IntKind.i64.wrap ((dg:Int)+1)=(dg:Int)+1:=IntWalk.i64_in _ (by have h1:=HG.out; have h2:=rk t; have h3:=ko.out; omega);go_upto_region 17 with fail
          have d6:=zH (ix s[k]);obtain ⟨b2,f2,bl⟩:=zB D.out.box 2 rfl;obtain ⟨c,hc⟩ : ∃ c,c=du s[k]:=⟨_,rfl⟩;rw [← hc] at d6;have g5:Hid (cDigit c=cDigit s[k]):=by show _=_; rw [hc,gh]
          have e8:Hid (T[k]=c):=by show _=_; rw [hc]; exact hN.out k hJ
          have ih:=tt (wn.alloc (.cells #[.int .u8 (c.toNat:Nat)] 5)).drew wn.heap.size c (tu wn (.int .u8 (c.toNat:Nat)) 5 (0,0));have k8:(X:S) ++ bs [c]=bs (t ++ [c]):=by rw [d8.out]; exact cU _ _
          have hg : ¬ 9223372036854775807<(X:S).size+(bs [c]).size:=by rw [d8.out]; rw [ax]; have:=ko.out; simp [ax]; try omega
          clear hc;go_region_law (first | (go_simp; go_at_call 54; refine (d6.out _).mono ?_; rintro e w3 ⟨rfl,rfl⟩))
          all_goals
           go_upto_region 18 with fail
           refine ai fun W3 e7=>?_
           have g4:Hid (aN B w W3 (.slice lo (ll) I) (.slice no (nl) nc) ((P).map bN) ((P).map (·.close)) [.bool false,.bool hy,.string (bs (t ++ [c]))]):=by
            show aN _ _ _ _ _ _ _ _
            rw [e7];exact (D.out.boxed (D.out.box.setOne rfl (by simp)) (ab _ _ _ _)).later (aY ((Below.refl _ _).alloc (Nat.le_refl _) (.cells #[.int .u8 (c.toNat:Nat)] 5)) 1)
           clear e7 b2 f2 bl ih k8 hg d6;have gc:=zH (eK s[k] W3);go_wp2_with fail
           refine gc.out.mono ?_
           rintro e w4 ⟨rfl,rfl⟩;clear gc;cases e5:cDigit s[k] with
           | true =>
            as_aux_lemma =>
            have bv:Hid (dg+1=jg (t ++ [c])):=by show _=_; rw [io,g5.out,e5,if_pos rfl,← ga.out]
            go_wp2
            go_roundw
            case rel=>exact ⟨k+1,f,dg+1,_,_,_,hy,lo,no,I,nc,t ++ [c],rfl,rfl,by go_num,by go_num,HN.out,g4.out,bv.out,by show _=_; rw [fv.out,e8.out]⟩
            case measure=>simp [intOf]; omega
           | false =>
            as_aux_lemma =>
            have bv:Hid (dg=jg (t ++ [c])):=by show _=_; rw [io,g5.out,e5,if_neg (by simp),← ga.out]; try rfl
            go_wp2
            go_roundw
            case rel=>exact ⟨k+1,f,dg,_,_,_,hy,lo,no,I,nc,t ++ [c],rfl,rfl,by go_num,by go_num,HN.out,g4.out,bv.out,by show _=_; rw [fv.out,e8.out]⟩
            case measure=>simp [intOf]; omega
       · as_aux_lemma =>
         obtain rfl:k=f:=by omega
         have qa:t=[]:=by rw [HT.out,ek]
         have ou:X.size=0:=by rw [d8.out,ax,qa]; rfl
         have d2:decide ((0:Int)<(X.size:Int))=false:=decide_eq_false (by omega);have t5:decide (0<X.size)=false:=decide_eq_false (by omega);have HN:=zH (HC.out.first hv hm);have fv:Hid (ee T k (k+1)=t ++ [T[k]]):=by show _=_; rw [eZ T (by omega) hv,HT.out]
         clear hm ou qa;have kb:=@aJ.cells wr;go_upto_region 9 with fail
         refine bK (by kernel_rfl) (by kernel_rfl) ?_
         repeat (go_big_quiet_step (fail))
         refine wpQuiet_nil ?_
         rintro _ ⟨nx,rfl⟩;have D:=zH (D.out.later nx.below);have hC:=zH D.out.size;clear kb;generalize nx.at_=wn at *;clear c0 c1 c2 cl;have c0:=D.out.box.cell 0 _ rfl;have f0:=D.out.box.free 0;have c1:=D.out.box.cell 1 _ rfl;have c2:=D.out.box.cell 2 _ rfl;have cl:=D.out.box.lt;have ga:=HG;have t0:IntKind.i64.wrap ((dg:Int)+1)=(dg:Int)+1:=IntWalk.i64_in _ (by have h1:=HG.out; have h2:=rk t; have h3:=ko.out; omega);go_upto_region 17 with fail
         have d6:=zH (ix s[k]);obtain ⟨b2,f2,bl⟩:=zB D.out.box 2 rfl;obtain ⟨c,hc⟩ : ∃ c,c=du s[k]:=⟨_,rfl⟩;rw [← hc] at d6;have g5:Hid (cDigit c=cDigit s[k]):=by show _=_; rw [hc,gh]
         have e8:Hid (T[k]=c):=by show _=_; rw [hc]; exact hN.out k hJ
         have ih:=tt (wn.alloc (.cells #[.int .u8 (c.toNat:Nat)] 5)).drew wn.heap.size c (tu wn (.int .u8 (c.toNat:Nat)) 5 (0,0));have k8:(X:S) ++ bs [c]=bs (t ++ [c]):=by rw [d8.out]; exact cU _ _
         have hg : ¬ 9223372036854775807<(X:S).size+(bs [c]).size:=by rw [d8.out]; rw [ax]; have:=ko.out; simp [ax]; try omega
         clear hc;go_region_law (first | (go_simp; go_at_call 54; refine (d6.out _).mono ?_; rintro e w3 ⟨rfl,rfl⟩))
         all_goals
          go_upto_region 18 with fail
          refine ai fun W3 e7=>?_
          have g4:Hid (aN B w W3 (.slice lo (ll) I) (.slice no (nl) nc) ((P).map bN) ((P).map (·.close)) [.bool false,.bool hy,.string (bs (t ++ [c]))]):=by
           show aN _ _ _ _ _ _ _ _
           rw [e7];exact (D.out.boxed (D.out.box.setOne rfl (by simp)) (ab _ _ _ _)).later (aY ((Below.refl _ _).alloc (Nat.le_refl _) (.cells #[.int .u8 (c.toNat:Nat)] 5)) 1)
          clear e7 b2 f2 bl ih k8 hg d6;have gc:=zH (eK s[k] W3);go_wp2_with fail
          refine gc.out.mono ?_
          rintro e w4 ⟨rfl,rfl⟩;clear gc;cases e5:cDigit s[k] with
          | true =>
           as_aux_lemma =>
           have bv:Hid (dg+1=jg (t ++ [c])):=by show _=_; rw [io,g5.out,e5,if_pos rfl,← ga.out]
           go_wp2
           go_roundw
           case rel=>exact ⟨k+1,k,dg+1,_,_,_,hy,lo,no,I,nc,t ++ [c],rfl,rfl,by go_num,by go_num,HN.out,g4.out,bv.out,by show _=_; rw [fv.out,e8.out]⟩
           case measure=>simp [intOf]; omega
          | false =>
           as_aux_lemma =>
           have bv:Hid (dg=jg (t ++ [c])):=by show _=_; rw [io,g5.out,e5,if_neg (by simp),← ga.out]; try rfl
           go_wp2
           go_roundw
           case rel=>exact ⟨k+1,k,dg,_,_,_,hy,lo,no,I,nc,t ++ [c],rfl,rfl,by go_num,by go_num,HN.out,g4.out,bv.out,by show _=_; rw [fv.out,e8.out]⟩
           case measure=>simp [intOf]; omega
  · as_aux_lemma =>
    generalize wr=v4 at *;have tp:k=s.size+1:=by omega
    have d0:decide ((k:Int)≤(s.size:Int))=false:=decide_eq_false (by omega)
    have HE:cw T [] false=P:=by
     obtain ⟨-,⟨h1,-,-⟩ | ⟨-,h3⟩⟩:=HC.out
     · rw [d9.out] at h1; omega
     · exact h3
    rw [HE] at l5 pn l9
    have tm:ll=P.length:=by
     obtain ⟨a,c,e⟩:=D.out.l.shape;simp at e;exact e.2.1
    subst tm
    have te:nl=P.length:=by
     obtain ⟨a,c,e⟩:=D.out.n.shape;simp at e;exact e.2.1
    subst te;rw [← wC P] at D;clear HC HG HT HE hN d9 l0 hC;generalize [Value.bool false,Value.bool hy,Value.string (bs t)]=cs at *;go_wp2
    clear d0 tp hk;go_loopw [110] (fun i a5=>∃ A:Nat,A≤P.length∧i = .int .i64 A∧Hid (aN B w a5 (.slice lo P.length I) (.slice no P.length nc) (eF P A) (P.map (·.close)) cs)) (fun i _=>P.length - (intOf i).toNat)
    case atStart=>exact ⟨0,Nat.zero_le _,rfl,D⟩
    case round =>
     clear D;generalize wr=a5 at *;obtain ⟨A,sy,rfl,D⟩:=hrel;by_cases hlt:A<P.length
     · have v5:IntKind.i64.wrap ((A:Int)+1)=(A:Int)+1:=IntWalk.i64_in _ (by have:=l9.out; omega)
       have bg:=zH (yy hlt);obtain ⟨g,rfl,h5,ri,e6,hi⟩:=D.out.setL (uY hlt) (show 2<3 by decide);have b6:=zH (fun u x' h=>hi u x' h : ∀ u x',br x'=(br (bN P[A])).set 2 u→aN B w (a5.setCell ⟨g,A*3+2,none⟩ u) (.slice (some ⟨g,0,none⟩) P.length I) (.slice no P.length nc) ((eF P A).set A x') (P.map (·.close)) cs);obtain ⟨g2,rfl,-,co,ql,-,-,-⟩:=bO dW D.out.n (k:=A) (x:=P[A].close) (by simp [hlt]) (show 0<1 by decide);have cn:a5.cell? ⟨g2,A,none⟩=some (.bool P[A].close):=by simpa [gi] using ql
       have wk:Hid (P[A].text.length≤1000000):=pn.out _ (List.getElem_mem _);have r5:=zH (uY hlt);generalize P[A]=q at *;clear hi ql;obtain ⟨x,ms⟩ : ∃ x:S,x=bs q.text:=⟨_,rfl⟩;have hx:x.data.toList=q.text:=by rw [ms,kJ]
       have c2:a5.cell? ⟨g,A*3+2,none⟩=some (.string x):=by have:=e6 2 _ rfl; rw [ms]; exact this
       clear ms;cases e4:ep q.text with
       | true =>
        as_aux_lemma =>
        have c0:a5.cell? ⟨g,A*3,none⟩=some (.bool false):=by have:=e6 0 _ rfl; simpa [br,bN,e4] using this
        have ex:bN q=⟨q.hyphen,true,q.text⟩:=by unfold bN; rw [e4]
        have ag:Hid (bS q=⟨q.hyphen,true,cB q.text⟩):=by show _=_; unfold bS; rw [if_pos e4]
        rw [ex] at r5;clear e4 e6 b6;go_wp2
        go_loopw [] (fun ei=>∃ y:S,Hid (cB y.data.toList=cB q.text)∧Hid (aN B w ei (.slice (some ⟨g,0,none⟩) P.length I) (.slice (some ⟨g2,0,none⟩) P.length nc) ((eF P A).set A ⟨q.hyphen,true,y.data.toList⟩) (P.map (·.close)) cs)) (fun ei=>uP ei g (A*3+2))
        case atStart=>exact ⟨x,by show _=_; rw [hx],by show aN _ _ _ _ _ _ _ _; rw [hx,xZ r5.out]; exact D.out⟩
        case round =>
         clear D c0 c2 h5 ri cn co;generalize wr=ei at *;obtain ⟨y,HY,D⟩:=hrel;obtain ⟨g3,h8,h5,ri,e6,hi⟩:=D.out.setL (k:=A) (j:=2) (x:=⟨q.hyphen,true,y.data.toList⟩) (by rw [List.getElem?_set_self (by rw [yz]; exact hlt)]) (by decide);obtain rfl:g=g3:=by simpa using h8
         have c2:ei.cell? ⟨g,A*3+2,none⟩=some (.string y):=by have:=e6 2 _ rfl; rwa [gI] at this
         have u6:=zH (rS c2);clear e6 h8;by_cases h0:0<y.size
         · have d1:decide ((0:Int)<(y.size:Int))=true:=decide_eq_true (by omega)
           have hw:decide (0<y.size)=true:=decide_eq_true h0;have h1:1≤y.size:=h0;have wh:(1:Int)≤(y.size:Int):=by omega
           by_cases hc:y[0].toNat=48
           · have q1:(((y[0].toNat:Nat):Int) == 48)=true:=by rw [beq_iff_eq]; omega
             have t6:Hid (cB (y.extract 1 y.size).data.toList=cB q.text):=by show _=_; rw [← ss y h0 hc]; exact HY.out
             have HS:Hid (aN B w (ei.setCell ⟨g,A*3+2,none⟩ (.string (y.extract 1 y.size))) (.slice (some ⟨g,0,none⟩) P.length I) (.slice (some ⟨g2,0,none⟩) P.length nc) ((eF P A).set A ⟨q.hyphen,true,(y.extract 1 y.size).data.toList⟩) (P.map (·.close)) cs):=by
              have:=hi (.string (y.extract 1 y.size)) ⟨q.hyphen,true,(y.extract 1 y.size).data.toList⟩ (by unfold br; rw [gI]; rfl)
              rw [List.set_set] at this;exact this
             have u5:Hid (uP (ei.setCell ⟨g,A*3+2,none⟩ (.string (y.extract 1 y.size))) g (A*3+2)=y.size - 1):=by
              show _=_
              rw [rS (World.cell?_setCell_same _ _ _ c2)]; simp
             clear hc hi;go_wp2
             go_roundw
             case rel=>exact ⟨_,t6,HS⟩
             case measure=>rw [u5.out,u6.out]; omega
           · have q1:(((y[0].toNat:Nat):Int) == 48)=false:=by rw [beq_eq_false_iff_ne]; omega
             have HS:Hid (aN B w ei (.slice (some ⟨g,0,none⟩) P.length I) (.slice (some ⟨g2,0,none⟩) P.length nc) (eF P (A+1)) (P.map (·.close)) cs):=by
              show aN _ _ _ _ _ _ _ _
              rw [← bg.out,ag.out,← HY.out,sr y h0 hc]; exact D.out
             clear hc hi;go_wp2
             go_roundw
             case rel=>exact ⟨A+1,hlt,by go_num,HS⟩
             case measure=>simp [intOf]; omega
         · have d1:decide ((0:Int)<(y.size:Int))=false:=decide_eq_false (by omega)
           have hw:decide (0<y.size)=false:=decide_eq_false h0
           have HS:Hid (aN B w ei (.slice (some ⟨g,0,none⟩) P.length I) (.slice (some ⟨g2,0,none⟩) P.length nc) (eF P (A+1)) (P.map (·.close)) cs):=by
            show aN _ _ _ _ _ _ _ _
            rw [← bg.out,ag.out,← HY.out,tY y (by omega)]; exact D.out
           clear hi;go_wp2
           go_roundw
           case rel=>exact ⟨A+1,hlt,by go_num,HS⟩
           case measure=>simp [intOf]; omega
       | false =>
        as_aux_lemma =>
        have b8:=zH e4;have ag:Hid (bS q=⟨q.hyphen,false,dc q.text q.close⟩):=by show _=_; unfold bS; rw [if_neg (by rw [e4]; simp)]
        have c0:a5.cell? ⟨g,A*3,none⟩=some (.bool true):=by have:=e6 0 _ rfl; simpa [br,bN,e4] using this
        clear e4 e6;by_cases h0:q.text=xz
        · have q0:(x.toList == [103,97])=true:=dt (by rw [hx]; exact h0)
          have HV:Hid (bs (dc q.text q.close)=⟨#[]⟩):=by show _=_; rw [h0]; cases q.close <;> rfl
          clear h0  hx;cases aa:q.close with
          | true =>
           as_aux_lemma =>
           rw [aa] at cn;clear aa
           have HS:Hid (aN B w (a5.setCell ⟨g,A*3+2,none⟩ (.string ⟨#[]⟩)) (.slice (some ⟨g,0,none⟩) P.length I) (.slice (some ⟨g2,0,none⟩) P.length nc) (eF P (A+1)) (P.map (·.close)) cs):=by
            show aN _ _ _ _ _ _ _ _
            rw [← bg.out];exact b6.out (.string ⟨#[]⟩) _ (by rw [ag.out,br]; simp [br,bN,b8.out,HV.out])
           clear HV ag;go_wp2
           go_roundw
           case rel=>exact ⟨A+1,hlt,by go_num,HS.out⟩
           case measure=>simp [intOf]; omega
          | false =>
           as_aux_lemma =>
           rw [aa] at cn;clear aa
           have HS:Hid (aN B w (a5.setCell ⟨g,A*3+2,none⟩ (.string ⟨#[]⟩)) (.slice (some ⟨g,0,none⟩) P.length I) (.slice (some ⟨g2,0,none⟩) P.length nc) (eF P (A+1)) (P.map (·.close)) cs):=by
            show aN _ _ _ _ _ _ _ _
            rw [← bg.out];exact b6.out (.string ⟨#[]⟩) _ (by rw [ag.out,br]; simp [br,bN,b8.out,HV.out])
           clear HV ag;go_wp2
           go_roundw
           case rel=>exact ⟨A+1,hlt,by go_num,HS.out⟩
           case measure=>simp [intOf]; omega
        have q0:(x.toList == [103,97])=false:=ev (by rw [hx]; exact h0);by_cases h1:q.text=ti
        · have q1:(x.toList == [102,105,110,97,108])=true:=dt (by rw [hx]; exact h1)
          have HV:Hid (bs (dc q.text q.close)=⟨#[]⟩):=by show _=_; rw [h1]; cases q.close <;> rfl
          clear h1 h0 hx;cases aa:q.close with
          | true =>
           as_aux_lemma =>
           rw [aa] at cn;clear aa
           have HS:Hid (aN B w (a5.setCell ⟨g,A*3+2,none⟩ (.string ⟨#[]⟩)) (.slice (some ⟨g,0,none⟩) P.length I) (.slice (some ⟨g2,0,none⟩) P.length nc) (eF P (A+1)) (P.map (·.close)) cs):=by
            show aN _ _ _ _ _ _ _ _
            rw [← bg.out];exact b6.out (.string ⟨#[]⟩) _ (by rw [ag.out,br]; simp [br,bN,b8.out,HV.out])
           clear HV ag;go_wp2
           go_roundw
           case rel=>exact ⟨A+1,hlt,by go_num,HS.out⟩
           case measure=>simp [intOf]; omega
          | false =>
           as_aux_lemma =>
           rw [aa] at cn;clear aa
           have HS:Hid (aN B w (a5.setCell ⟨g,A*3+2,none⟩ (.string ⟨#[]⟩)) (.slice (some ⟨g,0,none⟩) P.length I) (.slice (some ⟨g2,0,none⟩) P.length nc) (eF P (A+1)) (P.map (·.close)) cs):=by
            show aN _ _ _ _ _ _ _ _
            rw [← bg.out];exact b6.out (.string ⟨#[]⟩) _ (by rw [ag.out,br]; simp [br,bN,b8.out,HV.out])
           clear HV ag;go_wp2
           go_roundw
           case rel=>exact ⟨A+1,hlt,by go_num,HS.out⟩
           case measure=>simp [intOf]; omega
        have q1:(x.toList == [102,105,110,97,108])=false:=ev (by rw [hx]; exact h1);by_cases h2:q.text=nn
        · have q2:(x.toList == [114,101,108,101,97,115,101])=true:=dt (by rw [hx]; exact h2)
          have HV:Hid (bs (dc q.text q.close)=⟨#[]⟩):=by show _=_; rw [h2]; cases q.close <;> rfl
          clear h2 h0 h1 hx;cases aa:q.close with
          | true =>
           as_aux_lemma =>
           rw [aa] at cn;clear aa
           have HS:Hid (aN B w (a5.setCell ⟨g,A*3+2,none⟩ (.string ⟨#[]⟩)) (.slice (some ⟨g,0,none⟩) P.length I) (.slice (some ⟨g2,0,none⟩) P.length nc) (eF P (A+1)) (P.map (·.close)) cs):=by
            show aN _ _ _ _ _ _ _ _
            rw [← bg.out];exact b6.out (.string ⟨#[]⟩) _ (by rw [ag.out,br]; simp [br,bN,b8.out,HV.out])
           clear HV ag;go_wp2
           go_roundw
           case rel=>exact ⟨A+1,hlt,by go_num,HS.out⟩
           case measure=>simp [intOf]; omega
          | false =>
           as_aux_lemma =>
           rw [aa] at cn;clear aa
           have HS:Hid (aN B w (a5.setCell ⟨g,A*3+2,none⟩ (.string ⟨#[]⟩)) (.slice (some ⟨g,0,none⟩) P.length I) (.slice (some ⟨g2,0,none⟩) P.length nc) (eF P (A+1)) (P.map (·.close)) cs):=by
            show aN _ _ _ _ _ _ _ _
            rw [← bg.out];exact b6.out (.string ⟨#[]⟩) _ (by rw [ag.out,br]; simp [br,bN,b8.out,HV.out])
           clear HV ag;go_wp2
           go_roundw
           case rel=>exact ⟨A+1,hlt,by go_num,HS.out⟩
           case measure=>simp [intOf]; omega
        have q2:(x.toList == [114,101,108,101,97,115,101])=false:=ev (by rw [hx]; exact h2);by_cases h3:q.text=BT
        · have q3:(x.toList == [99,114])=true:=dt (by rw [hx]; exact h3)
          have HV:Hid (bs (dc q.text q.close)=⟨#[114,99]⟩):=by show _=_; rw [h3]; cases q.close <;> rfl
          clear h3 h0 h1 h2 hx;cases aa:q.close with
          | true =>
           as_aux_lemma =>
           rw [aa] at cn;clear aa
           have HS:Hid (aN B w (a5.setCell ⟨g,A*3+2,none⟩ (.string ⟨#[114,99]⟩)) (.slice (some ⟨g,0,none⟩) P.length I) (.slice (some ⟨g2,0,none⟩) P.length nc) (eF P (A+1)) (P.map (·.close)) cs):=by
            show aN _ _ _ _ _ _ _ _
            rw [← bg.out];exact b6.out (.string ⟨#[114,99]⟩) _ (by rw [ag.out,br]; simp [br,bN,b8.out,HV.out])
           clear HV ag;go_wp2
           go_roundw
           case rel=>exact ⟨A+1,hlt,by go_num,HS.out⟩
           case measure=>simp [intOf]; omega
          | false =>
           as_aux_lemma =>
           rw [aa] at cn;clear aa
           have HS:Hid (aN B w (a5.setCell ⟨g,A*3+2,none⟩ (.string ⟨#[114,99]⟩)) (.slice (some ⟨g,0,none⟩) P.length I) (.slice (some ⟨g2,0,none⟩) P.length nc) (eF P (A+1)) (P.map (·.close)) cs):=by
            show aN _ _ _ _ _ _ _ _
            rw [← bg.out];exact b6.out (.string ⟨#[114,99]⟩) _ (by rw [ag.out,br]; simp [br,bN,b8.out,HV.out])
           clear HV ag;go_wp2
           go_roundw
           case rel=>exact ⟨A+1,hlt,by go_num,HS.out⟩
           case measure=>simp [intOf]; omega
        have q3:(x.toList == [99,114])=false:=ev (by rw [hx]; exact h3)
        have HW:Hid (∀ n,dc q.text n=if n=true∧q.text=[97] then np else if n=true∧q.text=[98] then rI else if n=true∧q.text=[109] then fQ else q.text):=by
         intro n;unfold dc;rw [if_neg (fun e=>by rcases e with e | e | e; exact h0 e; exact h1 e; exact h2 e),if_neg h3]
        clear h0 h1 h2 h3;cases aa:q.close with
        | false =>
         as_aux_lemma =>
         have HV:Hid (bs (dc q.text q.close)=x):=by show _=_; rw [aa,HW.out,← hx]; simp [gI]
         rw [aa] at cn;clear aa HW hx
         have HS:Hid (aN B w (a5.setCell ⟨g,A*3+2,none⟩ (.string x)) (.slice (some ⟨g,0,none⟩) P.length I) (.slice (some ⟨g2,0,none⟩) P.length nc) (eF P (A+1)) (P.map (·.close)) cs):=by
          show aN _ _ _ _ _ _ _ _
          rw [← bg.out];exact b6.out (.string x) _ (by rw [ag.out,br]; simp [br,bN,b8.out,HV.out])
         clear HV ag;go_wp2
         go_roundw
         case rel=>exact ⟨A+1,hlt,by go_num,HS.out⟩
         case measure=>simp [intOf]; omega
        | true =>
         as_aux_lemma =>
         by_cases g0:q.text=[97]
         · have p0:(x.toList == [97])=true:=dt (by rw [hx]; exact g0)
           have HV:Hid (bs (dc q.text q.close)=⟨#[97,108,112,104,97]⟩):=by show _=_; rw [aa,HW.out,g0]; rfl
           rw [aa] at cn;clear aa HW hx g0
           have HS:Hid (aN B w (a5.setCell ⟨g,A*3+2,none⟩ (.string ⟨#[97,108,112,104,97]⟩)) (.slice (some ⟨g,0,none⟩) P.length I) (.slice (some ⟨g2,0,none⟩) P.length nc) (eF P (A+1)) (P.map (·.close)) cs):=by
            show aN _ _ _ _ _ _ _ _
            rw [← bg.out];exact b6.out (.string ⟨#[97,108,112,104,97]⟩) _ (by rw [ag.out,br]; simp [br,bN,b8.out,HV.out])
           clear HV ag;go_wp2
           go_roundw
           case rel=>exact ⟨A+1,hlt,by go_num,HS.out⟩
           case measure=>simp [intOf]; omega
         have p0:(x.toList == [97])=false:=ev (by rw [hx]; exact g0);by_cases g1:q.text=[98]
         · have p1:(x.toList == [98])=true:=dt (by rw [hx]; exact g1)
           have HV:Hid (bs (dc q.text q.close)=⟨#[98,101,116,97]⟩):=by show _=_; rw [aa,HW.out,g1]; rfl
           rw [aa] at cn;clear aa HW hx g1 g0
           have HS:Hid (aN B w (a5.setCell ⟨g,A*3+2,none⟩ (.string ⟨#[98,101,116,97]⟩)) (.slice (some ⟨g,0,none⟩) P.length I) (.slice (some ⟨g2,0,none⟩) P.length nc) (eF P (A+1)) (P.map (·.close)) cs):=by
            show aN _ _ _ _ _ _ _ _
            rw [← bg.out];exact b6.out (.string ⟨#[98,101,116,97]⟩) _ (by rw [ag.out,br]; simp [br,bN,b8.out,HV.out])
           clear HV ag;go_wp2
           go_roundw
           case rel=>exact ⟨A+1,hlt,by go_num,HS.out⟩
           case measure=>simp [intOf]; omega
         have p1:(x.toList == [98])=false:=ev (by rw [hx]; exact g1);by_cases g2:q.text=[109]
         · have p2:(x.toList == [109])=true:=dt (by rw [hx]; exact g2)
           have HV:Hid (bs (dc q.text q.close)=⟨#[109,105,108,101,115,116,111,110,101]⟩):=by show _=_; rw [aa,HW.out,g2]; rfl
           rw [aa] at cn;clear aa HW hx g2 g0 g1
           have HS:Hid (aN B w (a5.setCell ⟨g,A*3+2,none⟩ (.string ⟨#[109,105,108,101,115,116,111,110,101]⟩)) (.slice (some ⟨g,0,none⟩) P.length I) (.slice (some ⟨g2,0,none⟩) P.length nc) (eF P (A+1)) (P.map (·.close)) cs):=by
            show aN _ _ _ _ _ _ _ _
            rw [← bg.out];exact b6.out (.string ⟨#[109,105,108,101,115,116,111,110,101]⟩) _ (by rw [ag.out,br]; simp [br,bN,b8.out,HV.out])
           clear HV ag;go_wp2
           go_roundw
           case rel=>exact ⟨A+1,hlt,by go_num,HS.out⟩
           case measure=>simp [intOf]; omega
         have p2:(x.toList == [109])=false:=ev (by rw [hx]; exact g2);have HV:Hid (bs (dc q.text q.close)=x):=by show _=_; rw [aa,HW.out,← hx,if_neg (by rw [hx]; simp [g0]),if_neg (by rw [hx]; simp [g1]),if_neg (by rw [hx]; simp [g2])]; exact gI x
         rw [aa] at cn;clear aa HW hx g0 g1 g2
         have HS:Hid (aN B w (a5.setCell ⟨g,A*3+2,none⟩ (.string x)) (.slice (some ⟨g,0,none⟩) P.length I) (.slice (some ⟨g2,0,none⟩) P.length nc) (eF P (A+1)) (P.map (·.close)) cs):=by
          show aN _ _ _ _ _ _ _ _
          rw [← bg.out];exact b6.out (.string x) _ (by rw [ag.out,br]; simp [br,bN,b8.out,HV.out])
         clear HV ag;go_wp2
         go_roundw
         case rel=>exact ⟨A+1,hlt,by go_num,HS.out⟩
         case measure=>simp [intOf]; omega
     · as_aux_lemma =>
       obtain rfl:A=P.length:=by omega
       obtain ⟨p0,r0,ex,tc⟩:=pF s.data.toList;have u4:Hid (aL s.data.toList=p0::cC r0):=by show _=_; unfold aL; rw [ex]
       have r4:Hid (aj B 98 3 br a5 (.slice lo P.length I) (p0::r0)):=by
        show aj _ _ _ _ _ _ _
        rw [← ex,l5.out,← yA]; exact D.out.l.base_mono (by omega)
       have r7:=zH D.out.below
       have qb:P.length=r0.length+1:=by
        have:=congrArg List.length (ex.symm.trans l5.out)
        simp at this; omega
       have r2:Hid (r0.length≤900001):=by have:=l9.out; show _≤_; omega
       have r3:=zH qb;clear D ex tc l5 pn l9 sy hlt qb;generalize P.length=pl at *;go_wp2
       go_loopw [3,12] (fun v gv mn=>∃ (M:List aM) (lo:Option Addr) (I n:Nat) (b7:Bool),v = .slice lo n I∧gv = .bool b7∧Hid (cC M=cC r0)∧Hid (M.length≤900001)∧Hid (aj B 98 3 br mn (.slice lo n I) (p0::M))∧Hid (n=M.length+1)∧Hid (Below B w mn)∧Hid (b7=false → ∀ j,eA M j=false)) (fun v gv _=>2*qS v+vq gv)
       case atStart=>exact ⟨r0,lo,I,_,true,rfl,rfl,rfl,r2,r4,r3,r7,zH (fun h=>by cases h)⟩
       case round =>
        clear r4 r7 r2 r3;generalize wr=mn at *;obtain ⟨M,lo,I,n,b7,rfl,rfl,HM,HL,HO,HN,HB,HG⟩:=hrel;cases b7 with
        | false =>
         as_aux_lemma =>
         have vb:=zH (qn (HG.out rfl));clear HG;go_wp2
         go_ret
         rw [k6.out];exact ⟨_,rfl,by rw [u4.out,← HM.out,vb.out]; exact HO.out,HB.out⟩
        | true =>
         as_aux_lemma =>
         clear HG;go_wp2
         go_loopw [3,12,13] (fun v gv iv O=>∃ (U:List aM) (lo:Option Addr) (I n2 i:Nat) (b7:Bool),v = .slice lo n2 I∧gv = .bool b7∧iv = .int .i64 i∧1≤i∧i≤1000000∧Hid (cC U=cC r0)∧Hid (U.length≤M.length)∧Hid (aj B 98 3 br O (.slice lo n2 I) (p0::U))∧Hid (n2=U.length+1)∧Hid (Below B w O)∧Hid (b7=false→i≤U.length+1∧U.length=M.length ∧ ∀ j,j+1<i→eA U j=false)∧Hid (b7=true→U.length+1=M.length)) (fun v _ iv _=>2*qS v+1 - (intOf iv).toNat)
         case atStart=>exact ⟨M,lo,I,n,1,false,rfl,rfl,rfl,Nat.le_refl _,by omega,HM,Nat.le_refl _,HO,HN,HB,zH (fun _=>⟨by omega,rfl,fun j hj=>by omega⟩),zH (fun h=>by cases h)⟩
         case round =>
          clear HM HO HB;generalize wr=O at *;obtain ⟨U,lo,I,n2,i,b7,rfl,rfl,rfl,hL,hK,HM,b9,HO,ac,HB,HG,HT⟩:=hrel;have wq:=zH hK;cases b7 with
          | true =>
           as_aux_lemma =>
           have e9:=zH (HT.out rfl);clear HT HG;by_cases hlt:i<n2
           · have d1:decide ((i:Int)<(n2:Int))=true:=decide_eq_true (by omega)
             have hw:decide (i<n2)=true:=decide_eq_true hlt;clear hK;go_wp2
             go_roundw
             case rel=>exact ⟨U,lo,I,n2,true,rfl,rfl,HM,by have h1:=HL.out; have h2:=b9.out; show _≤_; omega,HO,ac,HB,zH (fun h=>by cases h)⟩
             case measure=>have h1:=e9.out; have h2:=ac.out; have h3:=HN.out; simp [qS,vq]; omega
           · have d1:decide ((i:Int)<(n2:Int))=false:=decide_eq_false (by omega)
             have hw:decide (i<n2)=false:=decide_eq_false hlt;clear hK;go_wp2
             go_roundw
             case rel=>exact ⟨U,lo,I,n2,true,rfl,rfl,HM,by have h1:=HL.out; have h2:=b9.out; show _≤_; omega,HO,ac,HB,zH (fun h=>by cases h)⟩
             case measure=>have h1:=e9.out; have h2:=ac.out; have h3:=HN.out; simp [qS,vq]; omega
          | false =>
           as_aux_lemma =>
           obtain ⟨h9,co,h8⟩:=HG.out rfl;have p4:=zH h8;clear HT HG h8;by_cases hlt:i<n2
           · have d1:decide ((i:Int)<(n2:Int))=true:=decide_eq_true (by omega)
             have hw:decide (i<n2)=true:=decide_eq_true hlt;have v6:IntKind.i64.wrap ((i:Int)+1)=(i:Int)+1:=IntWalk.i64_in _ (by omega);have nv:i<(p0::U).length:=by have:=ac.out; simp; omega
             obtain ⟨e,he⟩ : ∃ e,(p0::U)[i]? = some e:=⟨_,List.getElem?_eq_getElem nv⟩;obtain ⟨g,rfl,-,h5,-,-,hcs,-⟩:=bO bI HO.out he (show 0<3 by decide);have c2:O.cell? ⟨g,i*3+2,none⟩=some (.string (bs e.text)):=hcs 2 _ rfl;have bc:=yr hL he;have hq:(bs e.text).toList.isEmpty=e.text.isEmpty:=by rw [ByteArray.toList_eq]; simp [bs]
             have lV:((bs e.text).toList == [])=e.text.isEmpty:=by rw [ByteArray.toList_eq]; simp [bs]
             clear hcs he;cases hM:e.text.isEmpty with
             | false =>
              rw [hM,Bool.false_and] at bc;rw [hM] at hq lV;clear hM hK
              have p3:Hid (∀ j,j+1<i+1→eA U j=false):=fun j hj=>by
               by_cases h:j+1<i
               · exact p4.out j h
               · obtain rfl:j=i - 1:=by omega
                 exact bc
              have en:Hid (U.length=M.length):=co;clear bc h9 co;go_wp2
              go_roundw
              case rel=>exact ⟨U,_,I,n2,i+1,false,rfl,rfl,by go_num,by omega,by have h1:=HL.out; have h2:=b9.out; have h3:=ac.out; omega,HM,b9,HO,ac,HB,zH (fun _=>⟨by have h3:=ac.out; omega,en.out,p3.out⟩),zH (fun h=>by cases h)⟩
              case measure=>simp [qS,intOf]; omega
             | true =>
              rw [hM,Bool.true_and] at bc;rw [hM] at hq lV;clear hM hK;by_cases hl:i+1=n2
              · rw [decide_eq_true (by rw [hl]; exact ac.out),Bool.true_or] at bc
                have t1:((i:Int)+1 == (n2:Int))=true:=by rw [beq_iff_eq]; omega
                go_upto_region 46 with fail
                clear t1 hl;have po:=zH bc;clear bc;have eU:i<(p0::U).length:=by have:=ac.out; simp; omega
                have hH:Hid (Below O.heap.size O (O.drew.alloc (.cells #[] 98))):=(aY (Below.refl _ O) 1).trans ((Below.refl _ O.drew).alloc (Nat.le_refl _) _);have kE:Hid (aj O.heap.size 98 3 br (O.drew.alloc (.cells #[] 98)) (.slice (some ⟨O.heap.size,0,none⟩) 0 0) []):=aj.empty (w:=O.drew) rfl (Nat.le_refl _);have kr:Hid (∀ V,Below O.heap.size O V→af 3 br V (.slice (some ⟨g,0,none⟩) i I) ((p0::U).take i)):=fun V h=>((HO.out.slice bI).below h).takeW (by omega);have e9:Hid (∀ V,Below O.heap.size O V→af 3 br V (.slice (cutW (some ⟨g,0,none⟩) (i+1) I 3) (n2 - (i+1)) (I - (i+1))) ((p0::U).drop (i+1))):=fun V h=>((HO.out.slice bI).below h).cutW (by omega)
                have k7:Hid (((p0::U).take i).length≤1000000∧((p0::U).take i).length+((p0::U).drop (i+1)).length≤1000000):=by
                 have h1:=HL.out; have h2:=b9.out;rw [List.length_take,List.length_drop,List.length_cons]; exact ⟨by omega,by omega⟩
                obtain ⟨ka,-,n0⟩:=(HO.out.slice bI).capW;rw [List.length_cons,← show n2=U.length+1 from ac.out] at ka;have oj:(i:Int)≤(I:Int):=by omega
                have oi:(i:Int)+1≤(n2:Int):=by omega
                have oc:(n2:Int)≤(I:Int):=by omega
                have oa:i+1≤n2:=by omega
                have n7:i≤I:=by omega
                have n6:(0:Int)≤(i:Int)+1:=by omega
                have n5:((i:Int)+1).toNat=i+1:=by omega
                clear eU nv c2 hq lV h5;go_region_law (first | (refine cc _ rfl (.tmp 224) (.tmp 227) 95 rfl O.heap.size 98 Tryz.underlying95 gD rfl (by decide) bI (.slice (some ⟨O.heap.size,0,none⟩) 0 0) [] (by simp [Act.eval]) kE.out (.slice (some ⟨g,0,none⟩) i I) ((p0::U).take i) (by simp [Act.eval]) (kr.out _ hH.out) (fun y _=>fZ y) (by have h1:=k7.out.1; simp only [List.length_nil]; omega) (by decide) (by simp) ?_; intro a8 n8 c8 w8 hU h7; have hF:=zH hU; have d7:Hid (Below O.heap.size O w8):=hH.out.trans (bi h7 (by simp) |>.mono (Nat.le_refl _)); clear hU h7) | (refine cc _ rfl (.tmp 228) (.tmp 232) 95 rfl O.heap.size 98 Tryz.underlying95 gD rfl (by decide) bI (.slice a8 n8 c8) ([] ++ (p0::U).take i) (by simp [Act.eval]) hF.out (.slice (cutW (some ⟨g,0,none⟩) (i+1) I 3) (n2 - (i+1)) (I - (i+1))) ((p0::U).drop (i+1)) (by simp [Act.eval]) (e9.out _ d7.out) (fun y _=>fZ y) (by have h1:=k7.out.2; simp only [List.nil_append]; omega) (by decide) d7.out.size ?_; intro a9 n9 c9 w9 hS h6; have hE:=zH hS; have k4:=zH (nL d7.out hF.out h6 d7.out.size); clear hS h6))
                all_goals
                 have k3:Hid (n9=U.length):=by
                  obtain ⟨_,_,e⟩:=hE.out.shape;rw [jR hL,List.length_cons,List.length_eraseIdx_of_lt (by have:=ac.out; omega)] at e;simp at e;have:=ac.out
                  show _=_; omega
                 have lx:Hid (aj B 98 3 br w9 (.slice a9 n9 c9) (p0::U.eraseIdx (i - 1))):=by
                  show aj _ _ _ _ _ _ _
                  rw [← jR hL];exact hE.out.base_mono (by have h1:=HB.out.size; have h2:=k6.out; omega)
                 have lF:=zH (HB.out.trans (k4.out.mono (by have h1:=HB.out.size; have h2:=k6.out; omega)));have ed:Hid ((U.eraseIdx (i - 1)).length=U.length - 1):=by show _=_; rw [List.length_eraseIdx_of_lt (by have:=ac.out; omega)]
                 have p5:Hid (cC (U.eraseIdx (i - 1))=cC r0):=by show _=_; rw [kG po.out]; exact HM.out
                 have en:Hid (U.length=M.length):=co;clear h9 co hE hF d7 k4 hH kE kr e9;clear oj oi oc oa n7 n6 n5 ka n0;go_wp2
                 go_roundw
                 case rel=>exact ⟨U.eraseIdx (i - 1),a9,c9,n9,i+1,true,rfl,rfl,by go_num,by omega,by have h1:=HL.out; have h2:=b9.out; have h3:=ac.out; omega,p5,by have h2:=b9.out; have h3:=ed.out; show _≤_; omega,lx,by have h2:=ed.out; have h3:=k3.out; have h4:=ac.out; show _=_; omega,lF,zH (fun h=>by cases h),zH (fun _=>by have h2:=ed.out; have h3:=en.out; have h4:=ac.out; omega)⟩
                 case measure=>have h2:=k3.out; have h4:=ac.out; simp [qS,intOf]; omega
              · have t1:((i:Int)+1 == (n2:Int))=false:=by rw [beq_eq_false_iff_ne]; omega
                have eU:i+1<(p0::U).length:=by have:=ac.out; simp; omega
                obtain ⟨e2,l1⟩ : ∃ e2,(p0::U)[i+1]? = some e2:=⟨_,List.getElem?_eq_getElem eU⟩;rw [decide_eq_false (by have:=ac.out; omega),Bool.false_or,l1] at bc;obtain ⟨_,t2,-,-,-,-,hcs,-⟩:=bO bI HO.out l1 (show 0<3 by decide);cases t2
                have c1:O.cell? ⟨g,(i+1)*3+1,none⟩=some (.bool e2.hyphen):=hcs 1 _ rfl;have m3:(i:Int)+1<(n2:Int):=by omega
                have m4:i+1<n2:=by omega
                have m5:(0:Int)≤(i:Int)+1:=by omega
                have m6:((i:Int)+1).toNat=i+1:=by omega
                clear hcs eU;cases hh:e2.hyphen with
                | true =>
                 have bc:eA U (i - 1)=true:=by rw [bc]; exact hh
                 rw [hh] at c1;go_upto_region 46 with fail
                 clear c1 hh l1;have po:=zH bc;clear bc;have eU:i<(p0::U).length:=by have:=ac.out; simp; omega
                 have hH:Hid (Below O.heap.size O (O.drew.alloc (.cells #[] 98))):=(aY (Below.refl _ O) 1).trans ((Below.refl _ O.drew).alloc (Nat.le_refl _) _);have kE:Hid (aj O.heap.size 98 3 br (O.drew.alloc (.cells #[] 98)) (.slice (some ⟨O.heap.size,0,none⟩) 0 0) []):=aj.empty (w:=O.drew) rfl (Nat.le_refl _);have kr:Hid (∀ V,Below O.heap.size O V→af 3 br V (.slice (some ⟨g,0,none⟩) i I) ((p0::U).take i)):=fun V h=>((HO.out.slice bI).below h).takeW (by omega);have e9:Hid (∀ V,Below O.heap.size O V→af 3 br V (.slice (cutW (some ⟨g,0,none⟩) (i+1) I 3) (n2 - (i+1)) (I - (i+1))) ((p0::U).drop (i+1))):=fun V h=>((HO.out.slice bI).below h).cutW (by omega)
                 have k7:Hid (((p0::U).take i).length≤1000000∧((p0::U).take i).length+((p0::U).drop (i+1)).length≤1000000):=by
                  have h1:=HL.out; have h2:=b9.out;rw [List.length_take,List.length_drop,List.length_cons]; exact ⟨by omega,by omega⟩
                 obtain ⟨ka,-,n0⟩:=(HO.out.slice bI).capW;rw [List.length_cons,← show n2=U.length+1 from ac.out] at ka;have oj:(i:Int)≤(I:Int):=by omega
                 have oi:(i:Int)+1≤(n2:Int):=by omega
                 have oc:(n2:Int)≤(I:Int):=by omega
                 have oa:i+1≤n2:=by omega
                 have n7:i≤I:=by omega
                 have n6:(0:Int)≤(i:Int)+1:=by omega
                 have n5:((i:Int)+1).toNat=i+1:=by omega
                 clear eU nv c2 hq lV h5;go_region_law (first | (refine cc _ rfl (.tmp 224) (.tmp 227) 95 rfl O.heap.size 98 Tryz.underlying95 gD rfl (by decide) bI (.slice (some ⟨O.heap.size,0,none⟩) 0 0) [] (by simp [Act.eval]) kE.out (.slice (some ⟨g,0,none⟩) i I) ((p0::U).take i) (by simp [Act.eval]) (kr.out _ hH.out) (fun y _=>fZ y) (by have h1:=k7.out.1; simp only [List.length_nil]; omega) (by decide) (by simp) ?_; intro a8 n8 c8 w8 hU h7; have hF:=zH hU; have d7:Hid (Below O.heap.size O w8):=hH.out.trans (bi h7 (by simp) |>.mono (Nat.le_refl _)); clear hU h7) | (refine cc _ rfl (.tmp 228) (.tmp 232) 95 rfl O.heap.size 98 Tryz.underlying95 gD rfl (by decide) bI (.slice a8 n8 c8) ([] ++ (p0::U).take i) (by simp [Act.eval]) hF.out (.slice (cutW (some ⟨g,0,none⟩) (i+1) I 3) (n2 - (i+1)) (I - (i+1))) ((p0::U).drop (i+1)) (by simp [Act.eval]) (e9.out _ d7.out) (fun y _=>fZ y) (by have h1:=k7.out.2; simp only [List.nil_append]; omega) (by decide) d7.out.size ?_; intro a9 n9 c9 w9 hS h6; have hE:=zH hS; have k4:=zH (nL d7.out hF.out h6 d7.out.size); clear hS h6))
                 all_goals
                  have k3:Hid (n9=U.length):=by
                   obtain ⟨_,_,e⟩:=hE.out.shape;rw [jR hL,List.length_cons,List.length_eraseIdx_of_lt (by have:=ac.out; omega)] at e;simp at e;have:=ac.out
                   show _=_; omega
                  have lx:Hid (aj B 98 3 br w9 (.slice a9 n9 c9) (p0::U.eraseIdx (i - 1))):=by
                   show aj _ _ _ _ _ _ _
                   rw [← jR hL];exact hE.out.base_mono (by have h1:=HB.out.size; have h2:=k6.out; omega)
                  have lF:=zH (HB.out.trans (k4.out.mono (by have h1:=HB.out.size; have h2:=k6.out; omega)));have ed:Hid ((U.eraseIdx (i - 1)).length=U.length - 1):=by show _=_; rw [List.length_eraseIdx_of_lt (by have:=ac.out; omega)]
                  have p5:Hid (cC (U.eraseIdx (i - 1))=cC r0):=by show _=_; rw [kG po.out]; exact HM.out
                  have en:Hid (U.length=M.length):=co;clear h9 co hE hF d7 k4 hH kE kr e9;clear oj oi oc oa n7 n6 n5 ka n0;go_wp2
                  go_roundw
                  case rel=>exact ⟨U.eraseIdx (i - 1),a9,c9,n9,i+1,true,rfl,rfl,by go_num,by omega,by have h1:=HL.out; have h2:=b9.out; have h3:=ac.out; omega,p5,by have h2:=b9.out; have h3:=ed.out; show _≤_; omega,lx,by have h2:=ed.out; have h3:=k3.out; have h4:=ac.out; show _=_; omega,lF,zH (fun h=>by cases h),zH (fun _=>by have h2:=ed.out; have h3:=en.out; have h4:=ac.out; omega)⟩
                  case measure=>have h2:=k3.out; have h4:=ac.out; simp [qS,intOf]; omega
                | false =>
                 have bc:eA U (i - 1)=false:=by rw [bc]; exact hh
                 rw [hh] at c1;clear hh l1
                 have p3:Hid (∀ j,j+1<i+1→eA U j=false):=fun j hj=>by
                  by_cases h:j+1<i
                  · exact p4.out j h
                  · obtain rfl:j=i - 1:=by omega
                    exact bc
                 have en:Hid (U.length=M.length):=co;clear bc h9 co;go_wp2
                 go_roundw
                 case rel=>exact ⟨U,_,I,n2,i+1,false,rfl,rfl,by go_num,by omega,by have h1:=HL.out; have h2:=b9.out; have h3:=ac.out; omega,HM,b9,HO,ac,HB,zH (fun _=>⟨by have h3:=ac.out; omega,en.out,p3.out⟩),zH (fun h=>by cases h)⟩
                 case measure=>simp [qS,intOf]; omega
           · have d1:decide ((i:Int)<(n2:Int))=false:=decide_eq_false (by omega)
             have hw:decide (i<n2)=false:=decide_eq_false hlt
             have u7:Hid (∀ j,eA U j=false):=fun j=>by
              by_cases hj:j+1<i
              · exact p4.out j hj
              · exact wt (by have:=ac.out; omega)
             have en:Hid (U.length=M.length):=co;clear hK h9 co;go_wp2
             go_roundw
             case rel=>exact ⟨U,lo,I,n2,false,rfl,rfl,HM,by have h1:=HL.out; have h2:=b9.out; show _≤_; omega,HO,ac,HB,zH (fun _=>u7.out)⟩
             case measure=>have h1:=en.out; have h2:=ac.out; have h3:=HN.out; simp [qS,vq]; omega
end Go.Proofs.YtominiaohfjobaaGreatDoor
