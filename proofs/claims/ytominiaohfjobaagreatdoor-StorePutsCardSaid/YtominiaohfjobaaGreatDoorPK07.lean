/- A part of a variable of the call's own: loads and stores of a struct within it; no program in sight. -/
import Derived.Test.YtominiaohfjobaaGreatDoorPK02
import Derived.Deep.MidRow
import Derived.Test.YtominiaohfjobaaGreatDoorPK06
import Derived.Deep.CutRange
import Derived.Deep.RegionLaw
import Derived.Laws.OwnMore
import Derived.Orders
import Derived.Test.YtominiaohfjobaaGreatDoorPK03
import Derived.Test.YtominiaohfjobaaGreatDoorShelf
set_option maxRecDepth 100000
set_option maxHeartbeats 64000000
namespace Go.Proofs.YtominiaohfjobaaGreatDoor
open Go Go.RowKit
theorem ak.mid {w:World} {b o:Nat} {pre cs post:List Value} (h:ak w b (pre ++ cs ++ post)) (ho:pre.length=o):w.rangeAt b o cs:=fun j v A=>by
 subst ho;have D:j<cs.length:=(List.getElem?_eq_some_iff.1 A).1;refine h.cell _ v ?_
 rw [List.append_assoc,List.getElem?_append_right (by omega),Nat.add_sub_cancel_left,List.getElem?_append_left D,A]
theorem ak.thereMid {w:World} {b o:Nat} {pre cs post:List Value} {n:Nat} (h:ak w b (pre ++ cs ++ post)) (ho:pre.length=o) (hn:n=cs.length):w.there b o n:=fun j A=>by
 refine ⟨?_,by simpa using h.free (o+j)⟩
 rw [h.mid ho j cs[j] (by simp [hn ▸ A])]; rfl
theorem ak.setMid {w:World} {b o:Nat} {pre old cs post:List Value} (h:ak w b (pre ++ old ++ post)) (ho:pre.length=o) (J:old.length=cs.length):ak (w.setCells b o cs) b (pre ++ cs ++ post):=by
 have I:=h.thereMid ho J.symm;have U:=World.rangeAt_setCells_same w b o cs I
 have Z : ∀ (D:List Value) (o:Nat) (w:World),(w.setCells b o D).heap.size=w.heap.size:=by
  intro D;induction D with
  | nil=>intro o w; rfl
  | cons v D O=>intro o w; simp only [World.setCells]; rw [O]; simp [World.setCell]
 refine ⟨by rw [Z]; exact h.lt,fun j u A=>?_,fun j=>?_⟩
 · subst ho
   by_cases h1:j<pre.length
   · rw [World.cell?_setCells_out b cs _ w ⟨b,j,none⟩ (fun _ _=>.inl (by exact h1))]
     refine h.cell j u ?_
     rw [List.append_assoc,List.getElem?_append_left h1] at A ⊢;exact A
   · by_cases h2:j<pre.length+cs.length
     · obtain ⟨k,rfl⟩ : ∃ k,j=pre.length+k:=⟨j - pre.length,by omega⟩
       refine U k u ?_
       rw [List.append_assoc,List.getElem?_append_right (by omega),Nat.add_sub_cancel_left,List.getElem?_append_left (by omega)] at A;exact A
     · rw [World.cell?_setCells_out b cs _ w ⟨b,j,none⟩ (fun _ _=>.inr (by show pre.length+cs.length≤j; omega))]
       refine h.cell j u ?_
       rw [List.getElem?_append_right (by simp; omega)] at A ⊢;rw [← A];congr 1
       simp [J]
 · rw [World.frozen?_setCells]; exact h.free j
theorem vB {P:Program} {ops:Array Oper} {rest:List Oper} {op:Oper} {a:Act} {w:World} {Q:Exit→Act→World→Prop} (D:op.guard=none) (A:TypeId) (x:Operand) (ho:op.op = .load A x)
    (b o:Nat) (pre cs post:List Value) (hx:a.eval x = .pointer (some ⟨b,o,none⟩)) (U:ak w b (pre ++ cs ++ post)) (hp:pre.length=o) {d:TypeDesc} (I:P.underlying A=some d) (O:d.isRow=true) (J:(P.info? A).map (·.size)=some cs.length)
    (h:wpList P ops Q rest (a.put op.dst (.agg cs.toArray)) w):wpList P ops Q (op::rest) a w :=
 wpList_load_mid D A x ho b o hx cs d (U.mid hp) I O J h
theorem zP {P:Program} {op:Oper} {a:Act} {w:World} {K:Act→World→Prop} {Q:Exit→Act→World→Prop} (A:TypeId) (x:Operand) (ho:op.op = .load A x)
    (b o:Nat) (pre cs post:List Value) (hx:a.eval x = .pointer (some ⟨b,o,none⟩)) (O:ak w b (pre ++ cs ++ post)) (hp:pre.length=o) {d:TypeDesc} (D:P.underlying A=some d) (J:d.isRow=true) (I:(P.info? A).map (·.size)=some cs.length)
    (h:K (a.put op.dst (.agg cs.toArray)) w):op.wp P a w K Q :=
 wp_load_mid A x ho b o hx cs d (O.mid hp) D J I h
theorem kP {P:Program} {ops:Array Oper} {rest:List Oper} {op:Oper} {a:Act} {w:World} {Q:Exit→Act→World→Prop} (I:op.guard=none) (A:TypeId) (x y:Operand) (ho:op.op = .store A x y)
    (b o:Nat) (pre old cs post:List Value) (hx:a.eval x = .pointer (some ⟨b,o,none⟩)) (hy:a.eval y = .agg cs.toArray) (J:ak w b (pre ++ old ++ post)) (hp:pre.length=o) (D:old.length=cs.length)
    (O:(P.info? A).map (·.size)=some cs.length) (h1 : ∀ v ∈ cs,v.oneCell'=true)
    (h : ∀ W',ak W' b (pre ++ cs ++ post)→w.grownBy W' (some b)→wpList P ops Q rest (a.put op.dst undef) W'):wpList P ops Q (op::rest) a w :=
 wpList_store_mid I A x y ho b o cs.toArray hx hy (J.thereMid hp (by simp [D])) (by simpa using O) (all_oneCell_toArray h1) (h _ (J.setMid hp D) (dh b _ o w))
theorem ak.setOne {w:World} {b o:Nat} {u:Value} {cs cs':List Value} (h:ak w b cs) (I:cs'=cs.set o u) (ho:o<cs.length):ak (w.setCell ⟨b,o,none⟩ u) b cs':=by
 subst I;refine ⟨by simpa [World.setCell] using h.lt,fun j v A=>?_,fun j=>by simpa using h.free j⟩
 rw [List.getElem?_set] at A;by_cases D:o=j
 · subst D
   rw [if_pos rfl,if_pos ho] at A;cases A
   exact World.cell?_setCell_same _ _ _ (h.cell o cs[o] (by simp [ho]))
 · rw [if_neg D] at A
   exact (World.cell?_setCell_other _ _ _ _ (fun e=>D (by cases e; rfl))).trans (h.cell j v A)
theorem bK {P:Program} {id:Nat} {Q:Exit→Act→World→Prop} {a:Act} {w:World} {l:List Oper} (hm:P.follows .mixedOrders=true) (hB:Region.lexB .any l.toArray=true)
    (h:wpQuiet P l.toArray (fun w'=>∃ x:aJ w,w'=x.at_) (fun a'=>∀ w',(∃ x:aJ w,w'=x.at_)→Q .normal a' w') l a):(Code.region id l.toArray true).wp P Q a w :=
 wp_region_quiet (C:=fun w'=>∃ x:aJ w,w'=x.at_) hm hB ⟨⟨{ w with drawn:=w.drawn+1 },⟨rfl,rfl,rfl,Nat.le_refl _,fun _ _=>rfl⟩⟩,rfl⟩ (by simpa using h)
theorem aJ.callS {P:Program} {f:FuncId} {args:Array Value} {w:World} {x:aJ w} {v:Value}
    (h:Calls P f args x.at_ fun e w'=>e = .returned v∧Below x.at_.heap.size x.at_ w'):Calls P f args x.at_ fun e A=>e = .returned v ∧ ∃ y:aJ w,A=y.at_ :=
 h.mono fun _ w' ⟨he,D⟩=>⟨he,⟨w',x.below.trans (D.mono x.below.size)⟩,rfl⟩
theorem aJ.cellsS {w:World} (x:aJ w) (b o:Nat) (h:b<w.heap.size):x.at_.cell? ⟨b,o,none⟩=w.cell? ⟨b,o,none⟩:=x.below.cell h
theorem fy {P:Program} {op:Oper} {a:Act} {w:World} {K:Act→World→Prop} {Q:Exit→Act→World→Prop} (A:TypeId) (x y:Operand) (ho:op.op = .store A x y)
    (b:Nat) (old cs:List Value) (hx:a.eval x = .pointer (some ⟨b,0,none⟩)) (hy:a.eval y = .agg cs.toArray) (D:ak w b old) (J:old.length=cs.length)
    (Z:(P.info? A).map (·.size)=some cs.length) (h1 : ∀ v ∈ cs,v.oneCell'=true) (h : ∀ W',ak W' b cs→w.grownBy W' (some b)→K (a.put op.dst undef) W'):op.wp P a w K Q:=by
 have I:w.there b 0 cs.toArray.size:=fun j U=>by
  have O:j<old.length:=by rw [J]; simpa using U
  refine ⟨?_,by simpa using D.free (0+j)⟩
  rw [Nat.zero_add,D.cell j old[j] (by simp [O])]; rfl
 exact wp_store_mid A x y ho b 0 cs.toArray hx hy I (by simpa using Z) (all_oneCell_toArray h1) (h _ (D.setCells J) (dh b _ 0 w))
def Al (p:Pc):List Value:=[.string (bs p.text),.bool p.hyphen,.bool p.close]
theorem iy (p:Pc):(Al p).length=3:=rfl
theorem qK (p:Pc) : ∀ y ∈ [p],∀ u ∈ Al y,u.oneCell'=true:=by
 intro y hy;obtain rfl:=List.mem_singleton.1 hy;simp [Al,Value.oneCell']
theorem qV:(Tryz.prog.info? 195).map (fun i=>(i.zero,i.size,i.bytes))=some (some (.agg #[.string ⟨#[]⟩,.bool false,.bool false]),3,24):=by kernel_rfl
theorem Be (s:S) (a b:Nat):s.extract a b=bs ((s.data.toList.drop a).take (b - a)):=by rw [← lG,gI]
def ee (T:Bs) (f k:Nat):Bs:=(T.drop f).take (k - f)
theorem ek (T:Bs) (k:Nat):ee T k k=[]:=by simp [ee]
theorem eZ (T:Bs) {f k:Nat} (hf:f≤k) (hk:k<T.length):ee T f (k+1)=ee T f k ++ [T[k]]:=by
 unfold ee;rw [show k+1 - f=(k - f)+1 by omega,List.take_add_one,List.getElem?_drop,show f+(k - f)=k by omega,List.getElem?_eq_getElem hk];rfl
theorem lT (T:Bs) {f k:Nat} (hf:f<k) (hk:k≤T.length):(ee T f k).isEmpty=false∧(ee T f k).getLastD 0=T[k - 1]'(by omega):=by
 obtain ⟨j,rfl⟩ : ∃ j,k=j+1:=⟨k - 1,by omega⟩;rw [eZ T (by omega) (by omega)];refine ⟨by simp,?_⟩
 simp [List.getLastD_eq_getLast?]
def dp (T:Bs) (k f:Nat) (P:List Pc) (hy:Bool):Prop:=P.length≤k∧((k≤T.length∧f≤k∧cw T [] false=P ++ cw (T.drop k) (ee T f k) hy)∨(k=T.length+1∧cw T [] false=P))
theorem dp.start (T:Bs):dp T 0 0 [] false:=⟨Nat.le_refl _,.inl ⟨Nat.zero_le _,Nat.le_refl _,by simp [ee]⟩⟩
theorem dp.fin {T:Bs} {k f:Nat} {P:List Pc} {hy:Bool} (h:dp T k f P hy) (hk:k=T.length):f≤k ∧ ∀ g b,dp T (k+1) g (P ++ [⟨ee T f k,hy,false⟩]) b:=by
 obtain ⟨A,⟨h1,h2,h3⟩ | ⟨h1,-⟩⟩:=h
 · refine ⟨h2,fun g b=>⟨by simp; omega,.inr ⟨by omega,?_⟩⟩⟩
   rw [h3,hk,List.drop_length];rfl
 · omega
theorem dp.here {T:Bs} {k f:Nat} {P:List Pc} {hy:Bool} (h:dp T k f P hy) (hk:k<T.length):f≤k∧cw T [] false=P ++ cw (T[k]::T.drop (k+1)) (ee T f k) hy:=by
 obtain ⟨A,⟨h1,h2,h3⟩ | ⟨h1,-⟩⟩:=h
 · exact ⟨h2,by rw [h3,← List.drop_eq_getElem_cons hk]⟩
 · omega
theorem dp.mark {T:Bs} {k f:Nat} {P:List Pc} {hy:Bool} (h:dp T k f P hy) (hk:k<T.length) (hm:fV T[k]=true):dp T (k+1) (k+1) (P ++ [⟨ee T f k,hy,false⟩]) (T[k].toNat == 45):=by
 have h1:=(h.here hk).2;refine ⟨by have:=h.1; simp; omega,.inl ⟨hk,Nat.le_refl _,?_⟩⟩
 rw [h1,ek,List.append_assoc];congr 1
 rw [cw,if_pos hm];rfl
theorem dp.first {T:Bs} {k:Nat} {P:List Pc} {hy:Bool} (h:dp T k k P hy) (hk:k<T.length) (hm:fV T[k]=false):dp T (k+1) k P hy:=by
 have h1:=(h.here hk).2;refine ⟨by have:=h.1; omega,.inl ⟨hk,by omega,?_⟩⟩
 rw [h1];congr 1
 rw [cw,if_neg (by rw [hm]; simp),ek,eZ T (Nat.le_refl _) hk,ek];simp
theorem dp.turn {T:Bs} {k f:Nat} {P:List Pc} {hy:Bool} (h:dp T k f P hy) (hk:k<T.length) (hm:fV T[k]=false) (hf:f<k) (A:(cDigit T[k] != cDigit (T[k - 1]'(by omega)))=true):dp T (k+1) k (P ++ [⟨ee T f k,hy,true⟩]) true:=by
 have h1:=(h.here hk).2;have h2:=lT T hf (Nat.le_of_lt hk);refine ⟨by have:=h.1; simp; omega,.inl ⟨hk,by omega,?_⟩⟩
 rw [h1,List.append_assoc];congr 1
 rw [cw,if_neg (by rw [hm]; simp),h2.1,h2.2,if_pos (by rw [A]; rfl),eZ T (Nat.le_refl _) hk,ek];rfl
theorem dp.on {T:Bs} {k f:Nat} {P:List Pc} {hy:Bool} (h:dp T k f P hy) (hk:k<T.length) (hm:fV T[k]=false) (hf:f<k) (A:(cDigit T[k] != cDigit (T[k - 1]'(by omega)))=false):dp T (k+1) f P hy:=by
 have h1:=(h.here hk).2;have h2:=lT T hf (Nat.le_of_lt hk);refine ⟨by have:=h.1; omega,.inl ⟨hk,by omega,?_⟩⟩
 rw [h1];congr 1
 rw [cw,if_neg (by rw [hm]; simp),h2.1,h2.2,if_neg (by rw [A]; simp),eZ T (Nat.le_of_lt hf) hk]
theorem dp.le {T:Bs} {k f:Nat} {P:List Pc} {hy:Bool} (h:dp T k f P hy):P.length≤k∧k≤T.length+1∧(k≤T.length→f≤k):=by
 obtain ⟨A,⟨h1,h2,-⟩ | ⟨h1,-⟩⟩:=h
 · exact ⟨A,by omega,fun _=>h2⟩
 · exact ⟨A,by omega,fun h=>by omega⟩
theorem AL (s:S) (w:World) (hs:s.size≤1000000):Calls Tryz.prog 110 #[.string s] w fun e w'=>∃ v,e = .returned v∧aj w.heap.size 195 3 Al w' v (cw s.data.toList [] false)∧Below w.heap.size w w':=by
 have bb:Hid (s.data.toList.length=s.size):=au s;go_enter Tryz.func110,Tryz.ntmps110
 go_wp2
 go_loopw [2,3,4,5] (fun v f h i wr=>∃ (k f':Nat) (P:List Pc) (hy:Bool) (lo:Option Addr) (lc:Nat),v = .slice lo P.length lc∧f = .int .i64 f'∧h = .bool hy∧i = .int .i64 k∧Hid (dp s.data.toList k f' P hy)∧Hid (aj w.heap.size 195 3 Al wr (.slice lo P.length lc) P)∧Hid (Below w.heap.size w wr)) (fun _ _ _ i _=>s.size+1 - (intOf i).toNat)
 case atStart=>exact ⟨0,0,[],false,none,0,rfl,rfl,rfl,rfl,dp.start _,aj.nil,Below.refl _ _⟩
 case round =>
  obtain ⟨k,f,P,hy,lo,lc,rfl,rfl,rfl,rfl,HC,J,I⟩:=hrel;have bc:=HC.out.le;rw [bb.out] at bc;have O:w.heap.size≤wr.heap.size:=I.out.size;by_cases hk:k≤s.size
  · have bo:Hid (P.length≤1000000):=by have:=bc.1; show _≤_; omega
    have dg:f≤k:=bc.2.2 hk;have hx:s.extract f k=bs (ee s.data.toList f k):=Be s f k;have c9:IntKind.i64.wrap ((k:Int)+1)=(k:Int)+1:=IntWalk.i64_in _ (by omega);by_cases bg:k=s.size
    · have e1:((k:Int) == (s.size:Int))=true:=by rw [beq_iff_eq]; omega
      have b7:(k == s.size)=true:=by rw [beq_iff_eq]; omega
      have d1:decide ((k:Int)<(s.size:Int))=false:=decide_eq_false (by omega);have b8:decide (k<s.size)=false:=decide_eq_false (by omega);have HF:=zH (HC.out.fin (by rw [bb.out]; exact bg)).2;have dl:=zH bg;clear bg;go_wp2_with (at_builtin; go_loud (refine ay _ rfl _ _ 191 rfl w.heap.size 195 Tryz.underlying191 qV rfl (by decide) iy (.slice lo P.length lc) P rfl (J.out.alloc _) _ [(⟨ee s.data.toList f k,hy,false⟩:Pc)] rfl (cd iy wr [(⟨ee s.data.toList f k,hy,false⟩:Pc)] _ _ 1 rfl rfl (by simp [maxLen])) (qK _) (by have:=bo.out; simp only [List.length_singleton]; omega) (by decide) (by simp; omega) ?_); intro v9 w9 A D ag; obtain ⟨U,Z,aa⟩:=A.shape; rw [List.length_append,List.length_singleton] at aa; subst aa)
      have a7:Hid (Below w.heap.size w w9):=(I.out.alloc O _).grown D (by simp; omega) (fun j hj=>(J.out.lt j hj).1)
      have a0:Hid (aj w.heap.size 195 3 Al w9 (.slice U (P ++ [(⟨ee s.data.toList f k,hy,false⟩:Pc)]).length Z) (P ++ [(⟨ee s.data.toList f k,hy,false⟩:Pc)])):=by
       show aj _ _ _ _ _ _ _
       rw [List.length_append,List.length_singleton];exact A
      clear D ag A;go_roundw
      case rel=>exact ⟨k+1,k+1,_,_,U,Z,by simp,by go_num,rfl,by go_num,HF.out _ _,a0,a7⟩
      case measure=>simp [intOf]; omega
    · have b0:k<s.size:=by omega
      have ba:k<s.data.toList.length:=by rw [bb.out]; exact b0
      have e1:((k:Int) == (s.size:Int))=false:=by rw [beq_eq_false_iff_ne]; omega
      have b7:(k == s.size)=false:=by rw [beq_eq_false_iff_ne]; omega
      have d1:decide ((k:Int)<(s.size:Int))=true:=decide_eq_true (by omega);have b8:decide (k<s.size)=true:=decide_eq_true b0;have HK:Hid (s.data.toList[k]=s[k]):=rfl;cases hm:fV s[k] with
      | true =>
       have HI:=zH (fun w=>hm ▸ od s[k] w : ∀ w,Calls Tryz.prog 143 #[.int .u8 s[k].toNat] w fun e w'=>e = .returned (.bool true)∧w=w')
       have hc:((s[k].toNat:Int) == 45)=(s.data.toList[k].toNat == 45):=by
        show ((s[k].toNat:Int) == 45)=(s[k].toNat == 45)
        rw [Bool.eq_iff_iff,beq_iff_eq,beq_iff_eq]; omega
       have HN:Hid (dp s.data.toList (k+1) (k+1) (P ++ [(⟨ee s.data.toList f k,hy,false⟩:Pc)]) ((s[k].toNat:Int) == 45)):=by
        show dp _ _ _ _ _
        rw [hc]; exact HC.out.mark ba hm
       clear hm hc;go_wp2_with fail
       refine (HI.out _).mono ?_
       rintro e w' ⟨rfl,rfl⟩;go_wp2_with (at_builtin; go_loud (refine ay _ rfl _ _ 191 rfl w.heap.size 195 Tryz.underlying191 qV rfl (by decide) iy (.slice lo P.length lc) P rfl (J.out.alloc _) _ [(⟨ee s.data.toList f k,hy,false⟩:Pc)] rfl (cd iy wr [(⟨ee s.data.toList f k,hy,false⟩:Pc)] _ _ 1 rfl rfl (by simp [maxLen])) (qK _) (by have:=bo.out; simp only [List.length_singleton]; omega) (by decide) (by simp; omega) ?_); intro v9 w9 A D ag; obtain ⟨U,Z,aa⟩:=A.shape; rw [List.length_append,List.length_singleton] at aa; subst aa)
       have a7:Hid (Below w.heap.size w w9):=(I.out.alloc O _).grown D (by simp; omega) (fun j hj=>(J.out.lt j hj).1)
       have a0:Hid (aj w.heap.size 195 3 Al w9 (.slice U (P ++ [(⟨ee s.data.toList f k,hy,false⟩:Pc)]).length Z) (P ++ [(⟨ee s.data.toList f k,hy,false⟩:Pc)])):=by
        show aj _ _ _ _ _ _ _
        rw [List.length_append,List.length_singleton];exact A
       clear D ag A;go_roundw
       case rel=>exact ⟨k+1,k+1,_,_,U,Z,by simp,by go_num,rfl,by go_num,HN,a0,a7⟩
       case measure=>simp [intOf]; omega
      | false =>
       have HI:=zH (fun w=>hm ▸ od s[k] w : ∀ w,Calls Tryz.prog 143 #[.int .u8 s[k].toNat] w fun e w'=>e = .returned (.bool false)∧w=w');by_cases hf:f<k
       · have cT:k - 1<s.size:=by omega
         have c8:IntKind.i64.wrap ((k:Int) - 1)=((k - 1:Nat):Int):=by rw [IntWalk.i64_in _ (by omega)]; omega
         have d2:decide ((f:Int)<(k:Int))=true:=decide_eq_true (by omega);have dk:decide (f<k)=true:=decide_eq_true hf;cases hd:(cDigit s[k] != cDigit s[k - 1]) with
         | true =>
          have b4:(!(cDigit s[k] == cDigit s[k - 1]))=true:=hd;have HN:=zH (HC.out.turn ba hm hf hd);clear hm;have a6:Hid (∀ x:aJ wr,Calls Tryz.prog 101 #[.int .u8 s[k].toNat] x.at_ fun e ac=>e = .returned (.bool (cDigit s[k])) ∧ ∃ y:aJ wr,ac=y.at_):=fun x=>aJ.callS ((cu s[k] _).mono fun e w' h=>⟨h.1,h.2 ▸ Below.refl _ _⟩);have a5:Hid (∀ x:aJ wr,Calls Tryz.prog 101 #[.int .u8 s[k - 1].toNat] x.at_ fun e ac=>e = .returned (.bool (cDigit s[k - 1])) ∧ ∃ y:aJ wr,ac=y.at_):=fun x=>aJ.callS ((cu s[k - 1] _).mono fun e w' h=>⟨h.1,h.2 ▸ Below.refl _ _⟩);go_wp2_with fail
          refine (HI.out _).mono ?_
          rintro e w' ⟨rfl,rfl⟩;go_upto_region 9 with fail
          refine bK (by kernel_rfl) (by kernel_rfl) ?_
          repeat (go_big_quiet_step ((go_at_call 101; first | (with_reducible exact a6.out _) | (with_reducible exact a5.out _))))
          refine wpQuiet_nil ?_
          rintro _ ⟨nx,rfl⟩;have J:=zH (J.out.below nx.below);have I:=zH (I.out.trans (nx.below.mono O));have O:=I.out.size;generalize nx.at_=wn at *;clear HI a6 a5;go_wp2_with (at_builtin; go_loud (refine ay _ rfl _ _ 191 rfl w.heap.size 195 Tryz.underlying191 qV rfl (by decide) iy (.slice lo P.length lc) P rfl (J.out.alloc _) _ [(⟨ee s.data.toList f k,hy,true⟩:Pc)] rfl (cd iy wn [(⟨ee s.data.toList f k,hy,true⟩:Pc)] _ _ 1 rfl rfl (by simp [maxLen])) (qK _) (by have:=bo.out; simp only [List.length_singleton]; omega) (by decide) (by simp; omega) ?_); intro v9 w9 A D ag; obtain ⟨U,Z,aa⟩:=A.shape; rw [List.length_append,List.length_singleton] at aa; subst aa)
          have a7:Hid (Below w.heap.size w w9):=(I.out.alloc O _).grown D (by simp; omega) (fun j hj=>(J.out.lt j hj).1)
          have a0:Hid (aj w.heap.size 195 3 Al w9 (.slice U (P ++ [(⟨ee s.data.toList f k,hy,true⟩:Pc)]).length Z) (P ++ [(⟨ee s.data.toList f k,hy,true⟩:Pc)])):=by
           show aj _ _ _ _ _ _ _
           rw [List.length_append,List.length_singleton];exact A
          clear D ag A;go_roundw
          case rel=>exact ⟨k+1,k,_,_,U,Z,by simp,by go_num,rfl,by go_num,HN,a0,a7⟩
          case measure=>simp [intOf]; omega
         | false =>
          have b4:(!(cDigit s[k] == cDigit s[k - 1]))=false:=hd;have HN:=zH (HC.out.on ba hm hf hd);clear hm;have a6:Hid (∀ x:aJ wr,Calls Tryz.prog 101 #[.int .u8 s[k].toNat] x.at_ fun e ac=>e = .returned (.bool (cDigit s[k])) ∧ ∃ y:aJ wr,ac=y.at_):=fun x=>aJ.callS ((cu s[k] _).mono fun e w' h=>⟨h.1,h.2 ▸ Below.refl _ _⟩);have a5:Hid (∀ x:aJ wr,Calls Tryz.prog 101 #[.int .u8 s[k - 1].toNat] x.at_ fun e ac=>e = .returned (.bool (cDigit s[k - 1])) ∧ ∃ y:aJ wr,ac=y.at_):=fun x=>aJ.callS ((cu s[k - 1] _).mono fun e w' h=>⟨h.1,h.2 ▸ Below.refl _ _⟩);go_wp2_with fail
          refine (HI.out _).mono ?_
          rintro e w' ⟨rfl,rfl⟩;go_upto_region 9 with fail
          refine bK (by kernel_rfl) (by kernel_rfl) ?_
          repeat (go_big_quiet_step ((go_at_call 101; first | (with_reducible exact a6.out _) | (with_reducible exact a5.out _))))
          refine wpQuiet_nil ?_
          rintro _ ⟨nx,rfl⟩;have J:=zH (J.out.below nx.below);have I:=zH (I.out.trans (nx.below.mono O));have O:=I.out.size;generalize nx.at_=wn at *;clear HI a6 a5;go_wp2
          go_roundw
          case rel=>exact ⟨k+1,f,P,hy,lo,lc,rfl,rfl,rfl,by go_num,HN,J,I⟩
          case measure=>simp [intOf]; omega
       · obtain rfl:k=f:=by omega
         have d2:decide ((k:Int)<(k:Int))=false:=decide_eq_false (by omega);have HN:=zH (HC.out.first ba hm);clear hm;go_wp2_with fail
         refine (HI.out _).mono ?_
         rintro e w' ⟨rfl,rfl⟩;go_upto_region 9 with fail
         refine bK (by kernel_rfl) (by kernel_rfl) ?_
         repeat (go_big_quiet_step (fail))
         refine wpQuiet_nil ?_
         rintro _ ⟨nx,rfl⟩;have J:=zH (J.out.below nx.below);have I:=zH (I.out.trans (nx.below.mono O));have O:=I.out.size;generalize nx.at_=wn at *;clear HI;go_wp2
         go_roundw
         case rel=>exact ⟨k+1,k,P,hy,lo,lc,rfl,rfl,rfl,by go_num,HN,J,I⟩
         case measure=>simp [intOf]; omega
  · have co:k=s.size+1:=by omega
    have d0:decide ((k:Int)≤(s.size:Int))=false:=decide_eq_false (by omega)
    have HE:Hid (cw s.data.toList [] false=P):=by
     obtain ⟨-,⟨h1,-,-⟩ | ⟨-,h3⟩⟩:=HC.out
     · rw [bb.out] at h1; omega
     · exact h3
    go_wp2
    go_ret
    exact ⟨_,rfl,by rw [HE.out]; exact J.out,I.out⟩
def dR (p:aM):List Value:=[.bool p.hyphen,.bool p.number,.string (bs p.text)]
theorem cP (p:aM):(dR p).length=3:=rfl
theorem sf (p:aM) : ∀ u ∈ dR p,u.oneCell'=true:=by simp [dR,Value.oneCell']
theorem qU:(Tryz.prog.info? 151).map (fun i=>(i.zero,i.size,i.bytes))=some (some (.agg #[.bool false,.bool false,.string ⟨#[]⟩]),3,24):=by kernel_rfl
def eS:List Value:=[.bool false,.bool false,.string ⟨#[]⟩]
theorem fD {base:Nat} {e:TypeId} {size g n cap:Nat} : ∀ (D:List Value) {w:World} {A:List Value} (o:Nat),w.ownsRow base e size (.slice (some ⟨g,0,none⟩) n cap) n A→o+D.length≤A.length →
    (w.setCells g o D).ownsRow base e size (.slice (some ⟨g,0,none⟩) n cap) n (A.take o ++ D ++ A.drop (o+D.length))
 | [],w,A,o,h,_=>by
  rw [List.append_nil,List.length_nil,Nat.add_zero,List.take_append_drop]; exact h
 | v::D,w,A,o,h,I=>by
  have h1:=(World.ownsRow.stored h o v).1;have h2:=fD D (o+1) h1 (by simp at I ⊢; omega)
  have e1:(A.set o v).take (o+1)=A.take o ++ [v]:=by
   rw [List.take_add_one,List.take_set_of_le (Nat.le_refl _),List.getElem?_set_self (by simp at I; omega)]; rfl
  have e2:(A.set o v).drop (o+1+D.length)=A.drop (o+(v::D).length):=by
   rw [List.drop_set_of_lt (by omega)];congr 1
   simp; omega
  rw [e1,e2] at h2;simpa [World.setCells] using h2
theorem tJ {base:Nat} {e:TypeId} {size g n m cap:Nat} {w:World} {A:List Value} (h:w.ownsRow base e size (.slice (some ⟨g,0,none⟩) n cap) n A) (hm:m≤n):w.ownsRow base e size (.slice (some ⟨g,0,none⟩) m cap) m (A.take (m*size)):=by
 obtain ⟨h1,h2⟩:=h;have D:m*size≤n*size:=Nat.mul_le_mul_right _ hm;refine ⟨by rw [List.length_take,h1]; omega,?_⟩
 rcases h2 with ⟨h',-⟩ | ⟨g',aa,J,h',Z,U,ac,I,hcs,O⟩
 · cases h'
 · cases h'
   exact .inr ⟨g,cap,J,rfl,Z,U,by omega,I,hcs,by rw [← O,List.take_take,Nat.min_eq_left D]⟩
theorem qc {α:Type} {C:α→List Value} {n:Nat} (A : ∀ x,(C x).length=n) : ∀ (l:List α) (i:Nat),(l.take i).flatMap C=(l.flatMap C).take (i*n)
 | [],i=>by simp
 | x::l,0=>by simp
 | x::l,i+1=>by
  rw [List.take_succ_cons,List.flatMap_cons,List.flatMap_cons,qc A l i,Nat.add_mul,Nat.one_mul,Nat.add_comm,show n+i*n=(C x).length+i*n by rw [A],List.take_length_add_append]
theorem qd {α:Type} {C:α→List Value} {n:Nat} (A : ∀ x,(C x).length=n) : ∀ (l:List α) (i:Nat),(l.drop i).flatMap C=(l.flatMap C).drop (i*n)
 | [],i=>by simp
 | x::l,0=>by simp
 | x::l,i+1=>by
  rw [List.drop_succ_cons,List.flatMap_cons,qd A l i,Nat.add_mul,Nat.one_mul,Nat.add_comm,show n+i*n=(C x).length+i*n by rw [A],List.drop_length_add_append]
def ct (l:List aM) (i:Nat):List Value:=(l.drop (i+1)).flatMap dR
theorem nV (l:List aM) (i:Nat):(ct l i).length=(l.length - (i+1))*3:=by unfold ct; rw [bG cP,List.length_drop]
theorem AK {base g cap:Nat} {w:World} {l:List aM} {i:Nat} (h:aj base 151 3 dR w (.slice (some ⟨g,0,none⟩) l.length cap) l) (O:i<l.length) :
    aj base 151 3 dR ((w.setCells g (i*3) (ct l i)).setCells g ((l.length - 1)*3) eS) (.slice (some ⟨g,0,none⟩) (l.length - 1) cap) (l.eraseIdx i):=by
 have A:=nV l i;have I:=bG cP l;have J:eS.length=3:=rfl;have h1:=fD (ct l i) (i*3) h (by rw [A,I]; omega);have D:((l.flatMap dR).take (i*3) ++ ct l i).length=(l.length - 1)*3:=by rw [List.length_append,List.length_take,A,I]; omega
 have h2:=fD eS ((l.length - 1)*3) h1 (by rw [List.length_append,D,List.length_drop,A,I,J]; omega);have h3:=tJ h2 (m:=l.length - 1) (by omega);have e0:(l.eraseIdx i).length=l.length - 1:=by rw [List.length_eraseIdx_of_lt O]
 unfold aj;rw [e0]
 have e1:(l.eraseIdx i).flatMap dR=(l.flatMap dR).take (i*3) ++ ct l i:=by
  rw [List.eraseIdx_eq_take_drop_succ,List.flatMap_append,qc cP]; rfl
 rw [e1]
 have e2:(((l.flatMap dR).take (i*3) ++ ct l i ++ (l.flatMap dR).drop (i*3+(ct l i).length)).take ((l.length - 1)*3) ++ eS ++ ((l.flatMap dR).take (i*3) ++ ct l i ++ (l.flatMap dR).drop (i*3+(ct l i).length)).drop ((l.length - 1)*3+eS.length)).take ((l.length - 1)*3)=(l.flatMap dR).take (i*3) ++ ct l i:=by
  rw [List.take_append_of_le_length (by rw [List.length_append,List.length_take,List.length_append,D]; omega),List.take_append_of_le_length (by rw [List.length_take,List.length_append,D]; omega),List.take_take,Nat.min_self,List.take_append_of_le_length (by omega),List.take_of_length_le (by omega)]
 rw [e2] at h3;exact h3
theorem ur (g o c:Nat) (w:World) (h:w.there g o 3) (D:TypeId):(Builtin.clear_ #[147] D #[.slice (some ⟨g,o,none⟩) 1 c]).run Tryz.prog w = .ok (.tuple #[]) (w.setCells g o eS):=by
 have hz:(zeroValue 151).run Tryz.prog w = .ok (.agg #[.bool false,.bool false,.string ⟨#[]⟩]) w:=by kernel_rfl
 have J:(Builtin.zeroCells (Value.agg #[.bool false,.bool false,.string ⟨#[]⟩]).cells 1).toList=eS:=by kernel_rfl
 have I:=run_storeCells_cells (P:=Tryz.prog) g o eS 0 w (fun j A=>by rw [Nat.add_zero]; exact (h j A).1) (fun j A=>by rw [Nat.add_zero]; exact (h j A).2) (by simp [eS,Value.oneCell']);simp [Builtin.clear_,run_underlying Tryz.underlying147,hz,J,I]
theorem oz (base g cap:Nat) (l:List aM) (i:Nat) (w:World) (hi:i<l.length) (hn:l.length≤1000000) (h:aj base 151 3 dR w (.slice (some ⟨g,0,none⟩) l.length cap) l) :
    Calls Tryz.prog 116 #[.slice (some ⟨g,0,none⟩) l.length cap,.int .i64 i,.int .i64 ((i:Int)+1)] w fun e w'=>e = .returned (.slice (some ⟨g,0,none⟩) (l.length - 1) cap) ∧
     aj base 151 3 dR w' (.slice (some ⟨g,0,none⟩) (l.length - 1) cap) (l.eraseIdx i)∧w.grownBy w' (some g):=by
 have HO:=zH h
 obtain ⟨a9,b3⟩:l.length≤cap∧cap≤9223372036854775807:=by
  rcases h.2 with ⟨h',-⟩ | ⟨g',bg,b5,h',-,-,h3,h4,-⟩
  · cases h'
  · cases h'; exact ⟨h3,h4⟩
 clear h;obtain ⟨N,hN⟩ : ∃ N,N=l.length:=⟨_,rfl⟩;rw [← hN] at hi hn a9 HO;rw [← hN];have D:=zH hN;clear hN;go_enter Tryz.func116,Tryz.ntmps116
 have p0:(0:Int)≤(i:Int)+1:=by omega
 have p1:(0:Int)≤(i:Int):=by omega
 have p2:(i:Int)≤(i:Int)+1:=by omega
 have p3:(i:Int)+1≤(N:Int):=by omega
 have p4:(N:Int)≤(cap:Int):=by omega
 have p5:((i:Int)+1).toNat=i+1:=by omega
 have p6:((i:Int) == (i:Int)+1)=false:=by rw [beq_eq_false_iff_ne]; omega
 obtain ⟨i0,a7,b0,a6,bv⟩:=info_parts qU;have I:(ct l i).length=(N - (i+1))*3:=by rw [nV,D.out]
 have HR:w.ownsRow base 151 3 (.slice (some ⟨g,0,none⟩) N cap) N (l.flatMap dR):=by have:=HO.out; unfold aj at this; rwa [← show N=l.length from D.out] at this
 have J : ∀ k,k<N*3→w.cell? ⟨g,k,none⟩=(l.flatMap dR)[k]?:=fun k hk=>World.ownsRow.cellAt HR k hk;have U:(l.flatMap dR).length=N*3:=by rw [bG cP,D.out]
 obtain ⟨A,hA,O⟩ : ∃ A:Addr,(if cap=i+1 then some (⟨g,0,none⟩:Addr) else some ⟨g,(i+1)*3,none⟩)=some A∧Hid (∀ j u,(ct l i)[j]? = some u→w.drew.cell? (A.add j)=some u):=by
  by_cases hc:cap=i+1
  · refine ⟨⟨g,0,none⟩,by simp [hc],fun j u Z=>?_⟩
    have:=(List.getElem?_eq_some_iff.1 Z).1
    rw [I] at this; omega
  · refine ⟨⟨g,(i+1)*3,none⟩,by simp [hc],fun j u Z=>?_⟩
    have hj:=(List.getElem?_eq_some_iff.1 Z).1;rw [I] at hj;rw [Addr.add_lit];refine (J _ (by omega)).trans ?_
    rw [← Z];unfold ct;rw [qd cP,List.getElem?_drop]
 have s1:Hid ((ct l i).length=(N - (i+1))*3):=I
 have s2:Hid (∀ u ∈ ct l i,u.oneCell'=true):=fun u Z=>by
  obtain ⟨x,_,hx⟩:=List.mem_flatMap.1 Z;exact sf x u hx
 have s3:Hid (∀ j,j<(ct l i).length→(w.drew.cell? ⟨g,0+i*3+j,none⟩).isSome=true∧w.drew.frozen? ⟨g,0+i*3+j,none⟩=false):=fun j hj=>by
  rw [I] at hj;have hk:i*3+j<N*3:=by omega
  refine ⟨?_,World.ownsRow.frozenAt HR _⟩
  show (w.cell? _).isSome=true
  rw [Nat.zero_add,J _ hk,List.getElem?_eq_getElem (by rw [U]; exact hk)]; rfl
 have b2:i≤cap:=by omega
 have q1:i+(N - (i+1))=N - 1:=by omega
 clear I J U HR;go_wp2_with fail
 go_region_law (refine step_append_room rfl (.tmp 22) (.tmp 25) 147 rfl 151 i0 3 Tryz.underlying147 a7 a6 g 0 i cap (by simp [Act.eval,Act.put]) A (N - (i+1)) (cap - (i+1)) (ct l i) (by simp [Act.eval,Act.put]) s1.out O.out s2.out (by omega) s3.out ?_)
 have HW:Hid (aj base 151 3 dR ((w.drew.setCells g (i*3) (ct l i)).setCells g ((N - 1)*3) eS) (.slice (some ⟨g,0,none⟩) (N - 1) cap) (l.eraseIdx i)):=by
  have h0:aj base 151 3 dR w.drew (.slice (some ⟨g,0,none⟩) l.length cap) l:=by rw [← show N=l.length from D.out]; exact HO.out
  have:=AK h0 (i:=i) (by rw [← show N=l.length from D.out]; exact hi)
  rwa [← show N=l.length from D.out] at this
 have HG:Hid (w.grownBy ((w.drew.setCells g (i*3) (ct l i)).setCells g ((N - 1)*3) eS) (some g)):=(⟨rfl,rfl,rfl,Nat.le_refl _,fun _ _ _=>rfl⟩:w.grownBy w.drew (some g)).trans ((dh g _ _ _).trans (dh g _ _ _))
 have ag:(w.drew.setCells g (i*3) (ct l i)).there g ((N - 1)*3) 3:=fun j hj=>by
  have h0:w.drew.ownsRow base 151 3 (.slice (some ⟨g,0,none⟩) N cap) N (l.flatMap dR):=by have:=HO.out; unfold aj at this; rwa [← show N=l.length from D.out] at this
  have U:(l.flatMap dR).length=N*3:=by rw [bG cP,D.out]
  have h1:=fD (ct l i) (i*3) h0 (by rw [s1.out,U]; omega);refine ⟨?_,World.ownsRow.frozenAt h1 _⟩
  rw [World.ownsRow.cellAt h1 _ (by omega),List.getElem?_eq_getElem (by rw [h1.1]; omega)]; rfl
 have b4 : ∀ ty,(Builtin.clear_ #[147] ty #[.slice (some ⟨g,(N - 1)*3,none⟩) 1 (cap - (N - 1))]).run Tryz.prog (w.drew.setCells g (i*3) (ct l i)) = .ok (.tuple #[]) ((w.drew.setCells g (i*3) (ct l i)).setCells g ((N - 1)*3) eS):=fun ty=>ur _ _ _ _ ag ty;clear O s1 s2 s3 hA ag;generalize (w.drew.setCells g (i*3) (ct l i)).setCells g ((N - 1)*3) eS=W2 at *;generalize w.drew.setCells g (i*3) (ct l i)=W1 at *;have r1:decide (((N - 1:Nat):Int)≤(N:Int))=true:=decide_eq_true (by omega);have r2:((N - 1:Nat):Int)≤(N:Int):=by omega
 have r3:N - (N - 1)=1:=by omega
 have r4:N - 1≤N:=by omega
 have r5:(cap=N - 1)=False:=eq_false (by omega);go_wp2
 go_ret
 exact ⟨rfl,HW.out,HG.out⟩
theorem pt {P:Program} {md:Region.Mode} {ops:Array Oper} {Q:Exit→Act→World→Prop} {I:Nat→Array Bool→Act→World→Prop}
    (h0 : ∀ A a w,I 0 A a w→Region.ready md ops A=[]∧Q .normal a w)
    (J : ∀ n A a w,I (n+1) A a w→Region.ready md ops A≠[])
    (D : ∀ n A a w,I (n+1) A a w → ∀ i ∈ Region.ready md ops A,wpOp P ops Q i (fun a' w'=>I n (A.setIfInBounds i true) a' w') a w) :
    ∀ n A a w,I n A a w→wpAny P md ops Q n A a w
 | 0,A,a,w,h=>h0 A a w h
 | n+1,A,a,w,h=>⟨fun e=>absurd e (J n A a w h),fun i O=>wpOp_mono (fun a' w' h'=>pt h0 J D n _ a' w' h') (D n A a w h i O)⟩
theorem oR {P:Program} {ops:Array Oper} {Q:Exit→Act→World→Prop} {id:Nat} {a:Act} {w:World} (I:Nat→Array Bool→Act→World→Prop) (hm:P.follows .mixedOrders=true) (k:Nat) (hk:ops.size=k)
    (O:I k (Array.replicate k false) a w.drew)
    (h0 : ∀ A a w,I 0 A a w→Region.ready .any ops A=[]∧Q .normal a w)
    (J : ∀ n A a w,I (n+1) A a w→Region.ready .any ops A≠[])
    (D : ∀ n A a w,I (n+1) A a w → ∀ i ∈ Region.ready .any ops A,wpOp P ops Q i (fun a' w'=>I n (A.setIfInBounds i true) a' w') a w) :
    (Code.region id ops true).wp P Q a w :=
 wp_region_any hm (by subst hk; exact pt h0 J D _ _ _ _ O)
def sY (ops:Array Oper):Bool:=(List.range ops.size).all fun j=>((ops[j]?).map fun o=>o.after.all fun e=>!Region.binds .any e || decide (e.on<j)).getD true
theorem yf {ops:Array Oper} {A:Array Bool} (J:sY ops=true) (hs:A.size=ops.size) : ∀ (j:Nat),A[j]? = some false→Region.ready .any ops A≠[]:=by
 intro j;induction j using Nat.strongRecOn with
 | ind j ih =>
  intro O e;have hlt:j<A.size:=(Array.getElem?_eq_some_iff.1 O).1;have D:j<ops.size:=by omega
  by_cases hx : ∃ i,i<j∧A[i]? = some false
  · obtain ⟨i,hi,h⟩:=hx
    exact ih i hi h e
  · have hm:j ∈ Region.ready .any ops A:=by
     unfold Region.ready;rw [List.mem_filter,List.mem_range];refine ⟨D,?_⟩
     have h0:A.getD j true=false:=by simp [Array.getD_eq_getD_getElem?,O]
     rw [h0,Array.getElem?_eq_getElem D];simp only [Bool.not_false,Bool.true_and,Option.map_some,Option.getD_some];rw [Array.all_eq_true_iff_forall_mem];intro I U;unfold sY at J;rw [List.all_eq_true] at J;have h1:=J j (List.mem_range.2 D);rw [Array.getElem?_eq_getElem D] at h1;simp only [Option.map_some,Option.getD_some] at h1;rw [Array.all_eq_true_iff_forall_mem] at h1;have h2:=h1 I U;rw [Bool.or_eq_true] at h2 ⊢;rcases h2 with h2 | h2
     · exact .inl h2
     · right
       have h3:I.on<j:=of_decide_eq_true h2;have h4:I.on<A.size:=by omega
       have Z:A[I.on]?≠some false:=fun h=>hx ⟨_,h3,h⟩;rw [Array.getElem?_eq_getElem h4] at Z;rw [Array.getD_eq_getD_getElem?,Array.getElem?_eq_getElem h4];simpa using Z
    rw [e] at hm;cases hm
theorem vV {ops:Array Oper} {A:Array Bool} (I:A.size=ops.size) (h:A.toList.count false=0):Region.ready .any ops A=[]:=by
 unfold Region.ready;rw [List.filter_eq_nil_iff];intro i D;have hlt:i<A.size:=by have:=List.mem_range.1 D; omega
 rw [List.count_eq_zero] at h;have h1:A[i]≠false:=fun e=>h (by rw [← e]; simp)
 have h2:A.getD i true=true:=by
  rw [Array.getD_eq_getD_getElem?,Array.getElem?_eq_getElem hlt];simpa using h1
 simp [h2]
theorem qo : ∀ (l:List Bool) (i:Nat),l[i]? = some false→(l.set i true).count false+1=l.count false
 | [],i,h=>by simp at h
 | b::l,0,h=>by
  simp at h;subst h;simp
 | b::l,i+1,h=>by
  have h1:=qo l i (by simpa using h);rw [List.set_cons_succ,List.count_cons,List.count_cons];omega
theorem iS {P:Program} {ops:Array Oper} {Q:Exit→Act→World→Prop} {id:Nat} {a:Act} {w:World} (J:Act→Array Bool→Act→World→Prop) (hm:P.follows .mixedOrders=true) (k:Nat) (hk:ops.size=k) (hb:sY ops=true)
    (I:J a (Array.replicate k false) a w.drew)
    (h0 : ∀ a' w',J a (Array.replicate k true) a' w'→Q .normal a' w')
    (hs : ∀ A a' w',J a A a' w' → ∀ i ∈ Region.ready .any ops A,wpOp P ops Q i (fun U O=>J a (A.setIfInBounds i true) U O) a' w') :
    (Code.region id ops true).wp P Q a w:=by
 refine oR (fun n A a' w'=>A.size=k∧A.toList.count false=n∧J a A a' w') hm k hk ⟨by simp,by simp,I⟩ ?_ ?_ ?_
 · rintro A a' w' ⟨h1,h2,h3⟩
   refine ⟨vV (by omega) h2,h0 a' w' ?_⟩
   have:A=Array.replicate k true:=by
    apply Array.ext
    · simp [h1]
    · intro i I al
      rw [List.count_eq_zero] at h2;have h4:A[i]≠false:=fun e=>h2 (by rw [← e]; simp);simpa using h4
   rw [← this]; exact h3
 · rintro n A a' w' ⟨h1,h2,h3⟩
   have Z:false ∈ A.toList:=by
    rw [← List.count_pos_iff]; omega
   obtain ⟨j,hj,e⟩:=List.mem_iff_getElem.1 Z;exact yf hb (by omega) j (by rw [Array.getElem?_eq_getElem (by simpa using hj)]; simpa using e)
 · rintro n A a' w' ⟨h1,h2,h3⟩ i I
   have D:=(mem_ready.1 I).1;refine wpOp_mono (fun U O h4=>⟨by simpa using h1,?_,h4⟩) (hs A a' w' h3 i I)
   have h5:A.toList[i]? = some false:=by
    rw [Array.getElem?_toList];rw [Array.getD_eq_getD_getElem?] at D;cases h:A[i]? with
    | none=>rw [h] at D; simp at D
    | some b=>rw [h] at D; simpa using D
   have h6:=qo _ _ h5;rw [Array.toList_setIfInBounds];omega
theorem bm {P:Program} {ops:Array Oper} {Q:Exit→Act→World→Prop} {id:Nat} {a:Act} {w:World} (J:Array Bool→Act→World→Prop) (hm:P.follows .mixedOrders=true) (k:Nat) (hk:ops.size=k) (Z:sY ops=true)
    (U:J (Array.replicate k false) a w.drew)
    (h0 : ∀ a' w',J (Array.replicate k true) a' w'→Q .normal a' w')
    (O : ∀ A a' w',J A a' w' → ∀ i ∈ Region.ready .any ops A,wpOp P ops Q i (fun I D=>J (A.setIfInBounds i true) I D) a' w') :
    (Code.region id ops true).wp P Q a w:=iS (fun _=>J) hm k hk Z U h0 O
theorem zQ {P:Program} {ops:Array Oper} {Q:Exit→Act→World→Prop} {i:Nat} {K:Act→World→Prop} {a:Act} {w:World} {o:Oper} (ho:ops[i]? = some o) (A:Region.wanted o (yielded ops a.tmps)=true) (h:o.wp P a w K Q):wpOp P ops Q i K a w:=by
 unfold wpOp;rw [ho];simp only [A,if_true];exact .inl h
theorem Bt {P:Program} {ops:Array Oper} {Q:Exit→Act→World→Prop} {i:Nat} {K:Act→World→Prop} {a:Act} {w:World} {o:Oper} (ho:ops[i]? = some o) (A:Region.wanted o (yielded ops a.tmps)=false) (h:K (a.put o.dst undef) w):wpOp P ops Q i K a w:=by
 unfold wpOp;rw [ho];simp only [A,Bool.false_eq_true,if_false];exact h
theorem er {P:Program} {ops:Array Oper} {rest:List Oper} {op:Oper} {a:Act} {w:World} {Q:Exit→Act→World→Prop} (D:op.guard=none) (A:TypeId) (x:Operand) (ho:op.op = .load A x)
    (b:Nat) (cs:List Value) (hx:a.eval x = .pointer (some ⟨b,0,none⟩)) (Z:ak w b cs) {d:TypeDesc} (J:P.underlying A=some d) (U:d.isRow=true) (O:(P.info? A).map (·.size)=some cs.length)
    (h:wpList P ops Q rest (a.put op.dst (.agg cs.toArray)) w):wpList P ops Q (op::rest) a w :=
 wpList_load_mid D A x ho b 0 hx cs d (fun j v I=>by rw [Nat.zero_add]; exact Z.cell j v I) J U O h
theorem eY {P:Program} {fn:Func} {p:Tmp} {A:TypeId} (h:fn.results=#[.cell p A]) (tmps:Array Value) (w:World) (b:Nat) (cs:List Value) (hp:tmps.getD p undef = .pointer (some ⟨b,0,none⟩)) (Z:ak w b cs)
    {d:TypeDesc} (J:P.underlying A=some d) (U:d.isRow=true) (O:(P.info? A).map (·.size)=some cs.length):(results fn tmps).run P w = .ok (.agg cs.toArray) w:=by
 have D:tmps[p]?.getD undef = .pointer (some ⟨b,0,none⟩):=by simpa using hp
 simp [results,h,D,asAddr,run_loadVar_mid w b 0 A cs d (fun j v I=>by rw [Nat.zero_add]; exact Z.cell j v I) J U O]
theorem jZ {P:Program} {o:Oper} {a:Act} {w:World} {K:Act→World→Prop} {Q:Exit→Act→World→Prop} {α:Type} {C:α→List Value} (O:o.guard=none) (s x:Operand) (t:TypeId)
    (ho:o.op = .call { callee:=.builtin .append,args:=#[s,x],argTypes:=#[t,t] })
    (base:Nat) (e:TypeId) {z:Value} {size bytes:Nat} (ht:P.underlying t=some (.slice e)) (I:(P.info? e).map (fun i=>(i.zero,i.size,i.bytes))=some (some z,size,bytes)) (Z:z.cells.size=size) (aa:0<size) (hC : ∀ y,(C y).length=size)
    (v:Value) (l:List α) (hs:a.eval s=v) (U:aj base e size C w v l) (H:Nat) (y:α) (hx:a.eval x = .slice (some ⟨H,0,none⟩) 1 1) (D : ∀ j u,(C y)[j]? = some u→w.cell? ⟨H,j,none⟩=some u) (h1 : ∀ u ∈ C y,u.oneCell'=true)
    (A:(l.length+1)*bytes≤140737488355328) (ac:0<bytes) (J:base≤w.heap.size) (N:Nat) (hN:w.heap.size=N)
    (h : ∀ g cap w',aj base e size C w' (.slice (some ⟨g,0,none⟩) (l.length+1) cap) (l ++ [y])→w.grownBy w' v.ownBlock→(v.ownBlock=some g∨g=N)→g<w'.heap.size→K (a.put o.dst (.slice (some ⟨g,0,none⟩) (l.length+1) cap)) w'):Oper.wp P o a w K Q:=by
 have h2:=aW (ops:=#[]) (Q:=Q) (E:=True) O s x t ho base e ht I Z aa hC v l hs U H y hx D h1 A ac J N hN h;rwa [if_pos (by simp [Region.wanted,O])] at h2
theorem aS {B g:Nat} {w w':World} (A:w.grownBy w' (some g)) (hB:B≤g) (D:B≤w.heap.size):Below B w w' :=
 ⟨A.os,A.tape,A.output,A.size,fun k hk=>A.block k (by omega) (by intro e; cases e; omega)⟩
theorem jB {v w w':World} {row:Option Nat} (h:Below v.heap.size v w) (A:w.grownBy w' row):v.grownBy w' row :=
 ⟨A.os.trans h.os,A.tape.trans h.tape,A.output.trans h.output,Nat.le_trans h.size A.size,fun k hk D=>(A.block k (Nat.lt_of_lt_of_le hk h.size) D).trans (h.block k hk)⟩
theorem wS {v w w':World} {g:Nat} {x:Value} {B:Nat} (h:v.grownBy w (some g)) (A:w.grownBy w' x.ownBlock) (hx : ∀ k,x.ownBlock=some k→B≤k) (hB:v.heap.size≤B):v.grownBy w' (some g) :=
 ⟨A.os.trans h.os,A.tape.trans h.tape,A.output.trans h.output,Nat.le_trans h.size A.size,fun k hk D=>(A.block k (Nat.lt_of_lt_of_le hk h.size) (fun e=>by have:=hx k e.symm; omega)).trans (h.block k hk D)⟩
theorem ol {v w w':World} {row:Option Nat} (h:v.grownBy w row) (A:Below w.heap.size w w'):v.grownBy w' row :=
 ⟨A.os.trans h.os,A.tape.trans h.tape,A.output.trans h.output,Nat.le_trans h.size A.size,fun k hk D=>(A.block k (Nat.lt_of_lt_of_le hk h.size)).trans (h.block k hk D)⟩
theorem ui {v w w':World} {g:Nat} (h:v.grownBy w (some g)) (A:w.grownBy w' (some g)):v.grownBy w' (some g):=h.trans A
theorem aP {a b:Bool} (h:a=true→b=true) (A:b=false):a=false:=Bool.eq_false_iff.2 fun e=>by rw [h e] at A; cases A
theorem ub (p:aM) (w:World):Calls Tryz.prog 115 #[.agg #[.bool p.hyphen,.bool p.number,.string (bs p.text)]] w fun e w'=>e = .returned (.bool p.text.isEmpty)∧Below w.heap.size w w':=by
 have he:(bs p.text).toList.isEmpty=p.text.isEmpty:=by rw [ByteArray.toList_eq]; simp [bs]
 have A:((bs p.text).toList == [])=p.text.isEmpty:=by rw [ByteArray.toList_eq]; simp [bs]
 go_enter Tryz.func115,Tryz.ntmps115
 cases hp:p.text.isEmpty with
 | true =>
  rw [hp] at he A;go_wp2
  go_ret
  exact ⟨rfl,(Below.refl _ _).alloc (Nat.le_refl _) _⟩
 | false =>
  rw [hp] at he A;go_wp2
  go_ret
  exact ⟨rfl,(Below.refl _ _).alloc (Nat.le_refl _) _⟩
theorem im : ∀ (T A:Bs) (hy:Bool),∀ p ∈ cw T A hy,p.text.length≤T.length+A.length
 | [],A,hy,p,h=>by
  obtain rfl:=List.mem_singleton.1 h;simp
 | c::r,A,hy,p,h=>by
  rw [cw] at h;split at h
  · rcases List.mem_cons.1 h with rfl | h
    · simp
    · have:=im r [] _ p h
      simp at this ⊢; omega
  · split at h
    · rcases List.mem_cons.1 h with rfl | h
      · simp
      · have:=im r [c] _ p h
        simp at this ⊢; omega
    · have:=im r (A ++ [c]) _ p h
      simp at this ⊢; omega
theorem eC : ∀ (T A:Bs) (hy:Bool),(cw T A hy).length≤T.length+1
 | [],A,hy=>by simp [cw]
 | c::r,A,hy=>by
  rw [cw];split
  · have:=eC r [] (c.toNat == 45)
    simp; omega
  · split
    · have:=eC r [c] true
      simp; omega
    · have:=eC r (A ++ [c]) hy
      simp; omega
theorem oB : ∀ (T A:Bs) (hy:Bool),((cw T A hy).head?.map (·.hyphen))=some hy
 | [],A,hy=>by simp [cw]
 | c::r,A,hy=>by
  rw [cw];split
  · rfl
  · split
    · rfl
    · exact oB r _ hy
theorem qL (p:Pc):(bS p).hyphen=p.hyphen:=by unfold bS; split <;> rfl
theorem pF (T:Bs) : ∃ p r,jc T=p::r∧p.hyphen=false:=by
 have h:=oB (T.map du) [] false;unfold jc;cases A:cw (T.map du) [] false with
 | nil=>exact absurd A (yZ _ _ _)
 | cons p r =>
  rw [A] at h;simp at h;exact ⟨bS p,r.map bS,rfl,by rw [qL,h]⟩
theorem kJ (l:Bs):(bs l).data.toList=l:=by simp [bs]
theorem pG (p:aM) : ∀ y ∈ [p],∀ u ∈ dR y,u.oneCell'=true:=by
 intro y hy;obtain rfl:=List.mem_singleton.1 hy;exact sf y
theorem af.at3 {w:World} {ao:Option Addr} {len cap:Nat} {l:List Pc} (h:af 3 Al w (.slice ao len cap) l) {k:Nat} (hk:k<l.length) :
    ∃ b o,ao=some ⟨b,o,none⟩∧b<w.heap.size∧w.cell? ⟨b,o+k*3,none⟩=some (.string (bs l[k].text))∧w.cell? ⟨b,o+k*3+1,none⟩=some (.bool l[k].hyphen)∧w.cell? ⟨b,o+k*3+2,none⟩=some (.bool l[k].close):=by
 obtain ⟨b,o,h1,h2,h3⟩:=h.at hk;exact ⟨b,o,h1,h2,h3 0 _ rfl,h3 1 _ rfl,h3 2 _ rfl⟩
theorem lP {R:List aM} {k:Nat} (hk:k<R.length):R.take (k+1) ++ cC (R.drop (k+1))=R.take k ++ R[k]::cC (R.drop (k+1)):=by
 rw [List.take_add_one,List.getElem?_eq_getElem hk,List.append_assoc]; rfl
theorem vO {R:List aM} {k:Nat} (hk:k<R.length) (A:gE R[k] (cC (R.drop (k+1)))=false):R.take (k+1) ++ cC (R.drop (k+1))=R.take k ++ cC (R.drop k):=by
 rw [lP hk,List.drop_eq_getElem_cons hk];congr 1
 rw [cC,if_neg (by rw [A]; simp)]
theorem vP {R:List aM} {k:Nat} (hk:k<R.length) (D:gE R[k] (cC (R.drop (k+1)))=true):(R.take (k+1) ++ cC (R.drop (k+1))).eraseIdx k=R.take k ++ cC (R.drop k):=by
 have A:(R.take k).length=k:=by rw [List.length_take]; omega
 rw [lP hk,List.drop_eq_getElem_cons hk,cC,if_pos D,List.eraseIdx_append_of_length_le (by omega),A,Nat.sub_self];rfl
theorem lI : ∀ (l:List aM),(cC l).length≤l.length
 | []=>Nat.le_refl _
 | p::r=>by
  have:=lI r
  unfold cC;split <;> simp <;> omega
theorem wl {T:Bs}:(jc T).take 1 ++ cC ((jc T).drop 1)=aL T:=by
 unfold aL;cases h:jc T with
 | nil=>rfl
 | cons p r=>rfl
theorem pH (s:S) (w:World) (hs:s.size≤900000):Calls Tryz.prog 78 #[.string s] w fun e w'=>∃ v,e = .returned v∧aj w.heap.size 151 3 dR w' v (aL s.data.toList)∧Below w.heap.size w w':=by
 go_enter Tryz.func78,Tryz.ntmps78
 go_wp2_with fail
 refine (wG s w (by omega)).mono ?_
 rintro e w0 ⟨rfl,fz⟩;have eV:=zH fz;clear fz;have e7:(bs (s.data.toList.map du)).size≤1000000:=by rw [ax,List.length_map,au]; omega
 go_wp2_with fail
 refine (AL (bs (s.data.toList.map du)) w0 e7).mono ?_
 rintro e J ⟨pv,rfl,hp,fv⟩;rw [kJ] at hp;obtain ⟨po,pc,rfl⟩:=hp.shape;have g0:=zH (hp.slice iy);have bg:=zH (eV.out.trans (fv.mono eV.out.size))
 have dn:Hid ((cw (s.data.toList.map du) [] false).length≤900001):=by
  have:=eC (s.data.toList.map du) [] false
  rw [List.length_map,au] at this;show _≤_; omega
 have gc:Hid (∀ p ∈ cw (s.data.toList.map du) [] false,p.text.length≤1000000):=fun p hp=>by
  have:=im _ _ _ p hp
  rw [List.length_map,au] at this;simp at this; omega
 have ed:Hid (jc s.data.toList=(cw (s.data.toList.map du) [] false).map bS):=rfl;clear hp fv e7 eV;generalize cw (s.data.toList.map du) [] false=L at *;go_wp2
 go_loopw [3,14] (fun v i wr=>∃ (k n:Nat) (lo:Option Addr) (A:Nat),v = .slice lo n A∧i = .int .i64 k∧k≤L.length∧Hid (aj J.heap.size 151 3 dR wr (.slice lo n A) ((L.take k).map bS))∧Hid (Below J.heap.size J wr)) (fun _ i _=>L.length - (intOf i).toNat)
 case atStart=>exact ⟨0,0,none,0,rfl,rfl,Nat.zero_le _,aj.nil,Below.refl _ _⟩
 case round =>
  obtain ⟨k,n,lo,A,rfl,rfl,hk,HO,HB⟩:=hrel;by_cases hlt:k<L.length
  · obtain ⟨b,o,rfl,hu,c0,c1,c2⟩:=(g0.out.below HB.out).at3 hlt
    have HQ:Hid ((L.take (k+1)).map bS=(L.take k).map bS ++ [bS L[k]]):=by
     show _=_
     rw [List.take_add_one,List.getElem?_eq_getElem hlt,List.map_append]; rfl
    have hA:Hid (L[k].text.length≤1000000):=gc.out _ (List.getElem_mem _)
    have g5:Hid (((L.take k).map bS).length≤900001):=by
     have:=dn.out
     rw [List.length_map,List.length_take]; show _≤_; omega
    generalize hq:L[k]=q at *;clear hq;generalize hw:(L.take k).map bS=PL at *;clear hw;have hb:=HB.out.size;have hX:IntKind.i64.wrap ((k:Int)+1)=(k:Int)+1:=IntWalk.i64_in _ (by have:=dn.out; omega);go_upto_region 7 with fail
    refine ai fun W7 c9=>?_
    have p1:ak W7 wr.heap.size [.string (bs q.text),.bool q.hyphen,.bool q.close]:=by rw [c9]; exact (ak.new wr [.string (bs q.text),.bool q.hyphen,.bool q.close] _ _ rfl).alloc _
    have x1:ak W7 (wr.heap.size+1) [.bool q.hyphen,.bool false,.string ⟨#[]⟩]:=by rw [c9]; exact ak.new _ [.bool q.hyphen,.bool false,.string ⟨#[]⟩] _ _ (by simp)
    have d6:Below wr.heap.size wr W7:=by rw [c9]; exact ((Below.refl _ wr).alloc (Nat.le_refl _) _).alloc (by simp) _
    clear c9 c0 c1 c2;have dk:=zH p1;have dg:=zH x1;have g4:=zH (HO.out.below d6);have ex:=zH (HB.out.trans (d6.mono hb));obtain ⟨H,hH⟩ : ∃ H,H=wr.heap.size:=⟨_,rfl⟩;have g6:Hid (J.heap.size≤H):=by rw [hH]; exact hb
    have hF:Hid (∀ j,(Value.slice lo n A).ownBlock=some j→j<H):=fun j hj=>by rw [hH]; exact (HO.out.lt j hj).2
    rw [← hH] at p1 dk dg hu;rw [← hH];clear hH x1 d6 HO HB hb;have k0:=p1.cell 0 _ rfl;have kl:=p1.lt;clear p1;go_wp2_with fail
    refine (qT (bs q.text) W7 (by rw [ax]; have:=hA.out; omega)).mono ?_
    rintro e w8 ⟨rfl,b3⟩;rw [kJ];have b5:=zH (dk.out.below b3 dk.out.lt);have U:=zH (dg.out.below b3 dg.out.lt);have ac:=zH (g4.out.below b3);have bc:=zH (ex.out.trans (b3.mono ex.out.size));clear b3 k0 kl dk dg g4 ex;have k0:=b5.out.cell 0 _ rfl;have k2:=b5.out.cell 2 _ rfl;have kl:=b5.out.lt
    have dl:Hid (∀ Z,w8.grownBy Z (some (H+1))→aj J.heap.size 151 3 dR Z (.slice lo n A) PL):=fun Z hg=>ac.out.kept hg (by
     cases hv:(Value.slice lo n A).ownBlock with
     | none=>exact .inl rfl
     | some j =>
      right
      intro e;cases e
      have:=hF.out _ hv
      omega)
    cases c8:ep q.text with
    | true =>
     have b0:bS q=⟨q.hyphen,true,cB q.text⟩:=by unfold bS; rw [if_pos c8]
     have ef:=zH b0;clear c8 b0;have x1:=U.out.cell 1 _ rfl;have x2:=U.out.cell 2 _ rfl;have f1:=U.out.free 1;have f2:=U.out.free 2;have xl:=U.out.lt;go_wp2_with fail
     refine (qC (bs q.text) w8).mono ?_
     rintro e w' ⟨x,rfl,hx,rfl⟩;rw [kJ] at hx;obtain rfl:x=bs (cB q.text):=by rw [← gI x,hx]
     clear hx;go_upto_region 10 with fail
     refine ai fun Z a4=>?_
     have y1:ak Z (H+1) [.bool (bS q).hyphen,.bool (bS q).number,.string (bs (bS q).text)]:=by
      rw [a4,ef.out];exact (U.out.setOne (cs':=[.bool q.hyphen,.bool true,.string ⟨#[]⟩]) rfl (by simp)).setOne rfl (by simp)
     have a0:w8.grownBy Z (some (H+1)):=by rw [a4]; exact (ab _ _ _ _).trans (ab _ _ _ _)
     clear a4 x1 x2 f1 f2 xl k0 k2 kl;have b6:=zH (dl.out Z a0);have b8:=zH (bc.out.trans (aS a0 (by have:=g6.out; omega) bc.out.size));have a5:Hid (J.heap.size≤Z.heap.size):=b8.out.size;obtain ⟨z0,z1,z2⟩:=ej y1;have zl:=y1.lt;clear y1 a0 ac bc U b5 dl;have ac:=b6;clear b6;go_wp2_with (at_builtin; refine ay _ rfl _ _ 147 rfl J.heap.size 151 Tryz.underlying147 qU rfl (by decide) cP (.slice lo n A) PL rfl (ac.out.alloc _) _ [bS q] rfl (cd cP Z [bS q] _ _ 1 rfl rfl (by simp [maxLen])) (pG _) (by have:=g5.out; simp only [List.length_singleton]; omega) (by decide) (by have:=a5.out; simp; omega) ?_; intro v9 w9 I aa co; obtain ⟨bl,bo,d3⟩:=I.shape; subst d3)
     have en:Hid (Below J.heap.size J w9):=(b8.out.alloc a5.out _).grown aa (by have:=a5.out; simp; omega) (fun j hj=>(ac.out.lt j hj).1);rw [List.length_append,List.length_singleton] at I;have eg:Hid (aj J.heap.size 151 3 dR w9 (.slice bl (PL.length+1) bo) ((L.take (k+1)).map bS)):=by show aj _ _ _ _ _ _ _; rw [HQ.out]; exact I
     clear aa co I;go_roundw
     case rel=>exact ⟨k+1,_,bl,bo,rfl,by go_num,hlt,eg,en⟩
     case measure=>simp [intOf]; omega
    | false =>
     have b0:bS q=⟨q.hyphen,false,dc q.text q.close⟩:=by unfold bS; rw [if_neg (by rw [c8]; simp)]
     have ef:=zH b0;clear c8 b0;obtain ⟨x2,f2,xl⟩:=zB U.out 2 rfl;go_wp2_with fail
     refine (vC (bs q.text) q.close w8).mono ?_
     rintro e w' ⟨rfl,rfl⟩;rw [kJ];go_upto_region 10 with fail
     refine ai fun Z a4=>?_
     have y1:ak Z (H+1) [.bool (bS q).hyphen,.bool (bS q).number,.string (bs (bS q).text)]:=by
      rw [a4,ef.out];exact U.out.setOne rfl (by simp)
     have a0:w8.grownBy Z (some (H+1)):=by rw [a4]; exact ab _ _ _ _
     clear a4 x2 f2 xl k0 k2 kl;have b6:=zH (dl.out Z a0);have b8:=zH (bc.out.trans (aS a0 (by have:=g6.out; omega) bc.out.size));have a5:Hid (J.heap.size≤Z.heap.size):=b8.out.size;obtain ⟨z0,z1,z2⟩:=ej y1;have zl:=y1.lt;clear y1 a0 ac bc U b5 dl;have ac:=b6;clear b6;go_wp2_with (at_builtin; refine ay _ rfl _ _ 147 rfl J.heap.size 151 Tryz.underlying147 qU rfl (by decide) cP (.slice lo n A) PL rfl (ac.out.alloc _) _ [bS q] rfl (cd cP Z [bS q] _ _ 1 rfl rfl (by simp [maxLen])) (pG _) (by have:=g5.out; simp only [List.length_singleton]; omega) (by decide) (by have:=a5.out; simp; omega) ?_; intro v9 w9 I aa co; obtain ⟨bl,bo,d3⟩:=I.shape; subst d3)
     have en:Hid (Below J.heap.size J w9):=(b8.out.alloc a5.out _).grown aa (by have:=a5.out; simp; omega) (fun j hj=>(ac.out.lt j hj).1);rw [List.length_append,List.length_singleton] at I;have eg:Hid (aj J.heap.size 151 3 dR w9 (.slice bl (PL.length+1) bo) ((L.take (k+1)).map bS)):=by show aj _ _ _ _ _ _ _; rw [HQ.out]; exact I
     clear aa co I;go_roundw
     case rel=>exact ⟨k+1,_,bl,bo,rfl,by go_num,hlt,eg,en⟩
     case measure=>simp [intOf]; omega
  · obtain rfl:k=L.length:=by omega
    rw [List.take_length,← ed.out] at HO;have a6:Hid ((jc s.data.toList).length≤900001):=by rw [ed.out,List.length_map]; exact dn.out
    have hE:Hid ((jc s.data.toList).take 1 ++ cC ((jc s.data.toList).drop 1)=aL s.data.toList):=wl;obtain ⟨p0,r0,cm,e6⟩:=pF s.data.toList;have b7:Hid ((jc s.data.toList)[0]? = some p0∧p0.hyphen=false):=by rw [cm]; exact ⟨rfl,e6⟩
    have g1:Hid (0<(jc s.data.toList).length):=by show 0<_; rw [cm]; simp
    clear cm ed dn gc g0 hk hlt;generalize jc s.data.toList=R at *;clear e6;obtain ⟨g,rfl,e9,e8,c0,f0,-,d4⟩:=bO cP HO.out b7.out.1 (show 0<3 by decide);obtain ⟨_,_,bv⟩:=HO.out.shape;obtain rfl:n=R.length:=by cases bv; rfl
    rw [Nat.zero_mul,Nat.zero_add] at c0 f0 d4;have h6:wr.cell? ⟨g,0,none⟩=some (.bool false):=by rw [c0]; show some (Value.bool p0.hyphen)=_; rw [b7.out.2]
    have cf:=d4 (.bool false) p0 (by show dR p0=(dR p0).set 0 (.bool false); unfold dR; rw [b7.out.2]; rfl)
    have ga:R.set 0 p0=R:=by
     cases R with
     | nil=>rfl
     | cons a r=>have:=b7.out.1; simp at this; rw [this]; rfl
    rw [ga] at cf;have a7:=zH cf;have al:Hid (Below w.heap.size w (wr.setCell ⟨g,0,none⟩ (.bool false))):=(bg.out.trans (HB.out.mono bg.out.size)).setCell (by have:=bg.out.size; show w.heap.size≤g; omega) _;have h4:(0:Int)<(R.length:Int):=by have:=g1.out; omega
    have g8:0<R.length:=g1.out;have hW:IntKind.i64.wrap ((R.length:Int) - 1)=((R.length - 1:Nat):Int):=by rw [IntWalk.i64_in _ (by have:=a6.out; omega)]; omega
    clear bv c0 d4 cf ga HB HO b7;clear e9 e8;go_wp2
    go_loopw [3,8] (fun v i wr=>∃ (k n:Nat) (lo:Option Addr) (A:Nat),v = .slice lo n A∧i = .int .i64 k∧k<R.length∧Hid (aj J.heap.size 151 3 dR wr (.slice lo n A) (R.take (k+1) ++ cC (R.drop (k+1))))∧Hid (Below w.heap.size w wr)) (fun _ i _=>(intOf i).toNat)
    case atStart=>exact ⟨R.length - 1,R.length,some ⟨g,0,none⟩,A,rfl,rfl,by omega,by show aj _ _ _ _ _ _ _; rw [Nat.sub_add_cancel g8,List.take_length,List.drop_length]; simpa [cC] using a7.out,al⟩
    case round =>
     obtain ⟨k,n,lo,A,rfl,rfl,hk,HO,HB⟩:=hrel;have hl:=HB.out.size;by_cases h0:0<k
     · have d0:(0:Int)<(k:Int):=by omega
       have hZ:IntKind.i64.wrap ((k:Int) - 1)=((k - 1:Nat):Int):=by rw [IntWalk.i64_in _ (by have:=a6.out; omega)]; omega
       have hY:IntKind.i64.wrap ((k:Int)+1)=(k:Int)+1:=IntWalk.i64_in _ (by have:=a6.out; omega);have ba:=zH (vO hk);have bb:=zH (vP hk);have gv:=zH (lP hk)
       have hJ:Hid ((cC (R.drop (k+1))).length≤R.length):=by
        show _≤_
        have h1:=lI (R.drop (k+1));rw [List.length_drop] at h1; omega
       have hd:Hid ((cC (R.drop (k+1))).length+k+1≤R.length):=by
        show _≤_
        have h1:=lI (R.drop (k+1));rw [List.length_drop] at h1; omega
       have ad:Hid ((R.take (k+1) ++ cC (R.drop (k+1))).length=k+1+(cC (R.drop (k+1))).length):=by
        show _=_
        rw [List.length_append,List.length_take,Nat.min_eq_left hk]
       have hI:Hid ((R.take (k+1) ++ cC (R.drop (k+1)))[k]? = some R[k]):=by
        show _=_
        rw [gv.out,List.getElem?_append_right (by rw [List.length_take]; omega),List.length_take,Nat.min_eq_left (Nat.le_of_lt hk),Nat.sub_self]; rfl
       have hG:Hid (∀ d D,cC (R.drop (k+1))=d::D→(R.take (k+1) ++ cC (R.drop (k+1)))[k+1]? = some d):=fun d D e=>by
        rw [e,List.getElem?_append_right (by rw [List.length_take]; omega),List.length_take,Nat.min_eq_left hk,Nat.sub_self]; rfl
       generalize R[k]=p at *;generalize hM:R.take (k+1) ++ cC (R.drop (k+1))=M at *;generalize cC (R.drop (k+1))=D at *;have hc:Hid (M.length≤1000000):=by have:=ad.out; have:=hd.out; have:=a6.out; show _≤_; omega
       clear hM gv;obtain ⟨_,_,bv⟩:=HO.out.shape;obtain rfl:n=M.length:=by cases bv; rfl
       clear bv;obtain ⟨g,rfl,e9,e8,-,-,hcs,-⟩:=bO cP HO.out hI.out (show 0<3 by decide);have c0:=hcs 0 _ rfl;rw [Nat.add_zero] at c0;have c1:=hcs 1 _ rfl;have c2:=hcs 2 _ rfl;have m1:(k:Int)<(M.length:Int):=by have:=ad.out; omega
       have m2:k<M.length:=by have:=ad.out; omega
       clear hcs;go_wp2_with fail
       refine (ub p wr).mono ?_
       rintro e w2 ⟨rfl,d7⟩;have a7:=zH (HO.out.below d7);have al:=zH (HB.out.trans (d7.mono hl));clear d7 c0 c1 c2 HO HB;cases ah:p.text.isEmpty with
       | false =>
        have O:gE p D=false:=by unfold gE; rw [ah]; rfl
        have HN:=zH (ba.out O);clear O ah ba bb;go_wp2
        go_roundw
        case rel=>exact ⟨k - 1,M.length,some ⟨g,0,none⟩,A,rfl,rfl,by omega,by show aj _ _ _ _ _ _ _; rw [Nat.sub_add_cancel h0,← HN.out]; exact a7.out,al⟩
        case measure=>simp [intOf]; omega
       | true =>
        cases D with
        | nil =>
         have O:gE p []=true:=by unfold gE; rw [ah]; rfl
         have HN:=zH (bb.out O);have el:Hid (M.length=k+1):=by show _=_; have:=ad.out; simpa using this
         have hr:IntKind.i64.wrap ((M.length:Int) - 1)=(k:Int):=by rw [IntWalk.i64_in _ (by have:=el.out; have:=a6.out; omega)]; have:=el.out; omega
         have em:Hid (M.length≤1000000):=by have:=el.out; have:=a6.out; show _≤_; omega
         clear O ah ba bb;go_wp2_with fail
         refine (oz J.heap.size g A M k w2 m2 em.out a7.out).mono ?_
         rintro e w3 ⟨rfl,b4,b2⟩;have ei:=zH b4;have eU:=zH (al.out.trans (aS b2 (by have:=bg.out.size; omega) al.out.size));clear b4 b2;go_wp2
         go_roundw
         case rel=>exact ⟨k - 1,M.length - 1,some ⟨g,0,none⟩,A,rfl,rfl,by omega,by show aj _ _ _ _ _ _ _; rw [Nat.sub_add_cancel h0,← HN.out]; exact ei.out,eU⟩
         case measure=>simp [intOf]; omega
        | cons d D =>
         have em:Hid (M.length≤1000000):=hc;have hr:IntKind.i64.wrap ((M.length:Int) - 1)=((M.length - 1:Nat):Int):=by rw [IntWalk.i64_in _ (by have:=ad.out; have:=a6.out; have:=hJ.out; omega)]; have:=ad.out; omega
         have h5:((k:Int) == ((M.length - 1:Nat):Int))=false:=by rw [beq_eq_false_iff_ne]; have:=ad.out; simp at this; omega
         have m3:(k:Int)+1<(M.length:Int):=by have:=ad.out; simp at this; omega
         have m4:k+1<M.length:=by have:=ad.out; simp at this; omega
         have m5:(0:Int)≤(k:Int)+1:=by omega
         have m6:((k:Int)+1).toNat=k+1:=by omega
         obtain ⟨_,ht,-,hT,-,-,hcs,-⟩:=bO cP a7.out (hG.out d D rfl) (show 0<3 by decide);cases ht
         have c0:=hcs 0 _ rfl;rw [Nat.add_zero] at c0;clear hcs;cases a9:d.hyphen with
         | true =>
          have O:gE p (d::D)=true:=by unfold gE; rw [ah]; simp [a9]
          have HN:=zH (bb.out O);rw [a9] at c0;clear O ah ba bb a9;go_wp2_with fail
          refine (oz J.heap.size g A M k w2 m2 em.out a7.out).mono ?_
          rintro e w3 ⟨rfl,b4,b2⟩;have ei:=zH b4;have eU:=zH (al.out.trans (aS b2 (by have:=bg.out.size; omega) al.out.size));clear b4 b2;go_wp2
          go_roundw
          case rel=>exact ⟨k - 1,M.length - 1,some ⟨g,0,none⟩,A,rfl,rfl,by omega,by show aj _ _ _ _ _ _ _; rw [Nat.sub_add_cancel h0,← HN.out]; exact ei.out,eU⟩
          case measure=>simp [intOf]; omega
         | false =>
          have O:gE p (d::D)=false:=by unfold gE; rw [ah]; simp [a9]
          have HN:=zH (ba.out O);rw [a9] at c0;clear O ah ba bb a9;go_wp2
          go_roundw
          case rel=>exact ⟨k - 1,M.length,some ⟨g,0,none⟩,A,rfl,rfl,by omega,by show aj _ _ _ _ _ _ _; rw [Nat.sub_add_cancel h0,← HN.out]; exact a7.out,al⟩
          case measure=>simp [intOf]; omega
     · obtain rfl:k=0:=by omega
       go_wp2
       go_ret
       exact ⟨_,rfl,by rw [← hE.out]; exact HO.out.base_mono bg.out.size,HB.out⟩
def fd (a b:Int):Int:=if a<b then -1 else if b<a then 1 else 0
theorem r8 (a b:Int) (w:World):Calls Tryz.prog 118 #[.int .i64 a,.int .i64 b] w fun e w'=>e = .returned (.int .i64 (fd a b))∧w=w':=by
 unfold fd;by_cases h1:a<b
 · have d1:decide (a<b)=true:=decide_eq_true h1
   rw [if_pos h1];clear h1;go_enter Tryz.func118,Tryz.ntmps118
   go_wp2
   go_ret
   exact ⟨rfl,rfl⟩
 · have d1:decide (a<b)=false:=decide_eq_false h1
   rw [if_neg h1];by_cases h2:b<a
   · have A:decide (b<a)=true:=decide_eq_true h2
     rw [if_pos h2];clear h1 h2;go_enter Tryz.func118,Tryz.ntmps118
     go_wp2
     go_ret
     exact ⟨rfl,rfl⟩
   · have A:decide (b<a)=false:=decide_eq_false h2
     rw [if_neg h2];clear h1 h2;go_enter Tryz.func118,Tryz.ntmps118
     go_wp2
     go_ret
     exact ⟨rfl,rfl⟩
def qB:List S:=kq.map bs
theorem oh (t:Bs) : ∀ (l:List Bs) (i:Nat),Lib.idxFromS (l.map bs) (bs t) i=match l.findIdx? (fun w=>decide (t=w)) with | some j=>((i+j:Nat):Int) | none=>-1
 | [],i=>rfl
 | z::l,i=>by
  rw [List.map_cons,Lib.idxFromS,List.findIdx?_cons];by_cases h:t=z
  · subst h
    simp
  · have hn : ¬ bs z=bs t:=fun e=>h (Bk e).symm
    rw [if_neg hn,oh t l (i+1),decide_eq_false h];simp only [Bool.false_eq_true,if_false];cases l.findIdx? (fun w=>decide (t=w)) with
    | none=>rfl
    | some j =>
     show ((i+1+j:Nat):Int)=((i+(j+1):Nat):Int)
     congr 1; omega
theorem sd (p:aM) (w:World):Calls Tryz.prog 117 #[.agg #[.bool p.hyphen,.bool p.number,.string (bs p.text)]] w fun e w'=>e = .returned (.int .i64 (aO p))∧Below w.heap.size w w':=by
 have D:((bs p.text).toList == [])=p.text.isEmpty:=by rw [ByteArray.toList_eq]; simp [bs]
 have he:(bs p.text).toList.isEmpty=p.text.isEmpty:=by rw [ByteArray.toList_eq]; simp [bs]
 obtain ⟨hy,nm,t⟩:=p;simp only at he D;cases nm with
 | true =>
  cases I:t.isEmpty with
  | true =>
   have A:Hid (aO ⟨hy,true,t⟩=5):=by show _=_; unfold aO; simp only [if_true]; rw [if_pos I]
   rw [I] at he D;rw [A.out];clear A I;go_enter Tryz.func117,Tryz.ntmps117
   go_wp2
   go_ret
   exact ⟨rfl,(Below.refl _ _).alloc (Nat.le_refl _) _⟩
  | false =>
   have A:Hid (aO ⟨hy,true,t⟩=if hy then 8 else 9):=by show _=_; unfold aO; simp only [if_true]; rw [if_neg (by rw [I]; simp)]
   rw [I] at he D;rw [A.out];clear A I;cases hy
   all_goals
    go_enter Tryz.func117,Tryz.ntmps117
    go_wp2
    go_ret
    exact ⟨rfl,(Below.refl _ _).alloc (Nat.le_refl _) _⟩
 | false =>
  have A:Hid (aO ⟨hy,false,t⟩=(kq.findIdx? (fun w=>decide (t=w))).getD 7):=by show _=_; unfold aO; simp
  have HI:=zH (oh t kq 0);rw [A.out];clear A he D;go_enter Tryz.func117,Tryz.ntmps117
  go_wp2_with fail
  refine Calls.world ?_
  intro W J;have x1:ak W (w.heap.size+1) (qB.map Value.string):=by rw [J]; exact ak.new _ (qB.map Value.string) _ _ (by simp)
  have Z:Below w.heap.size w W:=by rw [J]; exact ((Below.refl _ w).alloc (Nat.le_refl _) _).alloc (by simp) _
  clear J;refine (Tryz.slices_Index_string (w.heap.size+1) 0 7 7 qB (bs t) W (by decide) (by decide) (fun j U=>?_)).mono ?_
  · rw [Nat.zero_add]
    refine x1.cell j _ ?_
    rw [List.getElem?_map,List.getElem?_eq_getElem U,List.getD_eq_getElem?_getD,List.getElem?_eq_getElem U]; rfl
  rintro e w' ⟨rfl,rfl⟩;have hx:Lib.idxOfS (qB.take 7) (bs t)=_:=HI.out;rw [hx];have HB:=zH Z;clear hx HI x1 Z;cases hf:kq.findIdx? (fun w=>decide (t=w)) with
  | none =>
   have O:=zH hf;clear hf;go_wp2
   go_ret
   exact ⟨by rw [O.out]; rfl,HB.out⟩
  | some j =>
   have O:=zH hf;clear hf;have d1:decide (((0+j:Nat):Int)<0)=false:=decide_eq_false (by omega);have d2:decide ((j:Int)<0)=false:=decide_eq_false (by omega);simp only [Nat.zero_add];go_wp2
   go_ret
   exact ⟨by rw [O.out]; rfl,HB.out⟩
def fm (p q:aM):Int:=if fd (aO p) (aO q)≠0 then fd (aO p) (aO q) else if aO p=7 then Lib.compareBytes p.text q.text else if 7<aO p then (if fd p.text.length q.text.length≠0 then fd p.text.length q.text.length else Lib.compareBytes p.text q.text) else 0
theorem ph (p q:aM) (w:World):Calls Tryz.prog 79 #[.agg #[.bool p.hyphen,.bool p.number,.string (bs p.text)],.agg #[.bool q.hyphen,.bool q.number,.string (bs q.text)]] w fun e w'=>e = .returned (.int .i64 (fm p q))∧Below w.heap.size w w':=by
 have a6:=zH (sd p);have a5:=zH (sd q);go_enter Tryz.func79,Tryz.ntmps79
 go_upto_region 1 with fail
 refine ai fun W hW=>?_
 have x1:ak W w.heap.size [.bool p.hyphen,.bool p.number,.string (bs p.text)]:=by rw [hW]; exact (ak.new w [.bool p.hyphen,.bool p.number,.string (bs p.text)] _ _ rfl).alloc _
 have y1:ak W (w.heap.size+1) [.bool q.hyphen,.bool q.number,.string (bs q.text)]:=by rw [hW]; exact ak.new _ [.bool q.hyphen,.bool q.number,.string (bs q.text)] _ _ (by simp)
 have hb:Below w.heap.size w W:=by rw [hW]; exact ((Below.refl _ w).alloc (Nat.le_refl _) _).alloc (by simp) _
 clear hW;have HX:=zH x1;have HY:=zH y1;have HB:=zH hb;have x0:=x1.cell 0 _ rfl;have bo:=x1.cell 1 _ rfl;have x2:=x1.cell 2 _ rfl;have xl:=x1.lt;clear x1 y1 hb;go_wp2_with fail
 refine (a6.out _).mono ?_
 rintro e w1 ⟨rfl,Z⟩;have ac:=zH (HX.out.below Z HX.out.lt);have I:=zH (HY.out.below Z HY.out.lt);have ag:=zH (HB.out.trans (Z.mono HB.out.size));clear Z x0 bo x2 xl HX HY HB;obtain ⟨y0,y1,y2⟩:=ej I.out;have yl:=I.out.lt;go_wp2_with fail
 refine (a5.out _).mono ?_
 rintro e w2 ⟨rfl,U⟩;have a4:=zH (ac.out.below U ac.out.lt);have a0:=zH (I.out.below U I.out.lt);have J:=zH (ag.out.trans (U.mono ag.out.size));clear U y0 y1 y2 yl ac I ag a6 a5;go_wp2_with fail
 refine (r8 _ _ _).mono ?_
 rintro e w' ⟨rfl,rfl⟩;have x2:=a4.out.cell 2 _ rfl;have xl:=a4.out.lt;have y2:=a0.out.cell 2 _ rfl;have yl:=a0.out.lt;have A:fm p q=if fd (aO p) (aO q)≠0 then fd (aO p) (aO q) else if aO p=7 then Lib.compareBytes p.text q.text else if 7<aO p then (if fd p.text.length q.text.length≠0 then fd p.text.length q.text.length else Lib.compareBytes p.text q.text) else 0:=rfl
 have aa:=Tryz.strings_Compare (bs p.text) (bs q.text) w2;rw [kJ,kJ] at aa;have a7:=zH aa;clear aa;have b5:Hid (((bs p.text).size:Int)=p.text.length):=by show _=_; rw [ax]
 have b4:Hid (((bs q.text).size:Int)=q.text.length):=by show _=_; rw [ax]
 generalize O:fd (aO p) (aO q)=sv at *;by_cases h1:sv=0
 · subst h1
   rw [if_neg (by simp)] at A;generalize aO p=rp at *;by_cases h2:rp=7
   · have e2:((rp:Int) == 7)=true:=by rw [beq_iff_eq]; omega
     have b2:(rp == 7)=true:=by rw [beq_iff_eq]; exact h2
     rw [if_pos h2] at A;have D:=zH A;clear A h2 O;go_wp2_with fail
     refine a7.out.mono ?_
     rintro e w' ⟨rfl,rfl⟩;go_wp2
     go_ret
     exact ⟨by rw [D.out]; rfl,J.out⟩
   · have e2:((rp:Int) == 7)=false:=by rw [beq_eq_false_iff_ne]; omega
     have b2:(rp == 7)=false:=by rw [beq_eq_false_iff_ne]; exact h2
     rw [if_neg h2] at A;by_cases h3:7<rp
     · have d3:decide ((7:Int)<(rp:Int))=true:=decide_eq_true (by omega)
       have b3:decide (7<rp)=true:=decide_eq_true h3;rw [if_pos h3] at A;have D:=zH A;clear A h2 h3 O;go_wp2_with fail
       refine (r8 _ _ _).mono ?_
       rintro e w' ⟨rfl,rfl⟩;rw [b5.out,b4.out];have D:=D.out;generalize fd p.text.length q.text.length=sl at *;by_cases h4:sl=0
       · subst h4
         rw [if_neg (by simp)] at D;have ad:=zH D;clear D;go_wp2_with fail
         refine a7.out.mono ?_
         rintro e w' ⟨rfl,rfl⟩;go_wp2
         go_ret
         exact ⟨by rw [ad.out]; rfl,J.out⟩
       · have e4:(sl != 0)=true:=by rw [bne_iff_ne]; exact h4
         rw [if_pos h4] at D;have ad:=zH D;clear D;go_wp2
         go_ret
         exact ⟨by rw [ad.out]; rfl,J.out⟩
     · have d3:decide ((7:Int)<(rp:Int))=false:=decide_eq_false (by omega)
       have b3:decide (7<rp)=false:=decide_eq_false h3;rw [if_neg h3] at A;have D:=zH A;clear A h2 h3 O;go_wp2
       go_ret
       exact ⟨by rw [D.out]; rfl,J.out⟩
 · have e1:(sv != 0)=true:=by rw [bne_iff_ne]; exact h1
   rw [if_pos h1] at A;have D:=zH A;clear A O;go_wp2
   go_ret
   exact ⟨by rw [D.out]; rfl,J.out⟩
def lu:aM:=⟨false,true,[]⟩
def gS (l:List aM) (i:Nat):aM:=(l[i]?).getD lu
def cR (l m:List aM):Nat→Nat→Int
 | 0,_=>0
 | n+1,i=>if fm (gS l i) (gS m i)≠0 then fm (gS l i) (gS m i) else cR l m n (i+1)
def bC (a b:Bs):Int:=cR (aL a) (aL b) (max (aL a).length (aL b).length) 0
def Bv (p:aM):Value:=.agg #[.bool p.hyphen,.bool p.number,.string (bs p.text)]
theorem vx (l:List aM) (i:Nat) (ao:Option Addr) (c:Nat) (w:World) (h:af 3 dR w (.slice ao l.length c) l):Calls Tryz.prog 80 #[.slice ao l.length c,.int .i64 i] w fun e w'=>e = .returned (Bv (gS l i))∧Below w.heap.size w w':=by
 have O:=zH h;clear h;by_cases I:i<l.length
 · have D:Hid (gS l i=l[i]):=by show _=_; unfold gS; rw [List.getElem?_eq_getElem I]; rfl
   obtain ⟨b,o,J,U,A⟩:=O.out.at I;cases J
   have d1:(i:Int)<(l.length:Int):=by omega
   have c0:=A 0 _ rfl;have c1:=A 1 _ rfl;have c2:=A 2 _ rfl;rw [Nat.add_zero] at c0;generalize l[i]=p at *;clear A;go_enter Tryz.func80,Tryz.ntmps80
   go_wp2
   refine bodyPost_ret (v:=Bv p) (by simp [results,Tryz.results80,go_sem,Bv]) rfl ?_
   refine ⟨by rw [D.out],?_⟩
   exact (Below.refl _ _).alloc (Nat.le_refl _) _
 · have D:Hid (gS l i=lu):=by show _=_; unfold gS; rw [List.getElem?_eq_none (by omega)]; rfl
   have d1 : ¬ (i:Int)<(l.length:Int):=by omega
   have Z:decide ((i:Int)<(l.length:Int))=false:=decide_eq_false d1;go_enter Tryz.func80,Tryz.ntmps80
   go_wp2
   refine bodyPost_ret (v:=Bv lu) (by simp [results,Tryz.results80,go_sem,Bv,lu,bs]) rfl ?_
   refine ⟨by rw [D.out],?_⟩
   exact (Below.refl _ _).alloc (Nat.le_refl _) _
theorem iz (s:S) (A:s.size≤900000):(aL s.data.toList).length≤1000000:=by
 have h1:=eC (s.data.toList.map du) [] false;rw [List.length_map,au] at h1;have h2:(jc s.data.toList).length≤900001:=by unfold jc; rw [List.length_map]; omega
 unfold aL;cases h:jc s.data.toList with
 | nil=>simp
 | cons p r =>
  have:=lI r
  rw [h] at h2;simp at h2 ⊢; omega
theorem rj (a b:S) (w:World) (ha:a.size≤900000) (hb:b.size≤900000):Calls Tryz.prog 49 #[.string a,.string b] w fun e w'=>e = .returned (.int .i64 (bC a.data.toList b.data.toList))∧Below w.heap.size w w':=by
 have bb:=zH (pH a w ha);have ba:Hid (∀ W,Calls Tryz.prog 78 #[.string b] W fun e w'=>∃ v,e = .returned v∧aj W.heap.size 151 3 dR w' v (aL b.data.toList)∧Below W.heap.size W w'):=fun W=>pH b W hb;have cf:Hid ((aL a.data.toList).length≤1000000):=iz a ha;have b9:Hid ((aL b.data.toList).length≤1000000):=iz b hb;have bg:Hid (bC a.data.toList b.data.toList=cR (aL a.data.toList) (aL b.data.toList) (max (aL a.data.toList).length (aL b.data.toList).length) 0):=rfl;clear ha hb;go_enter Tryz.func49,Tryz.ntmps49
 go_wp2_with fail
 refine bb.out.mono ?_
 rintro e w1 ⟨v1,rfl,U,a6⟩;obtain ⟨ao,ac,rfl⟩:=U.shape;have a9:=zH (U.slice cP);have al:=zH a6;clear U a6 bb;go_wp2_with fail
 refine (ba.out w1).mono ?_
 rintro e w2 ⟨v2,rfl,O,aa⟩;obtain ⟨bo,bc,rfl⟩:=O.shape;have b7:=zH (O.slice cP);have b6:=zH (a9.out.below aa);have I:=zH (al.out.trans (aa.mono al.out.size));clear O aa ba a9 al;generalize aL a.data.toList=l at *;generalize aL b.data.toList=m at *;obtain ⟨N,hN⟩ : ∃ N:Nat,N=max l.length m.length:=⟨_,rfl⟩;have b4:max (l.length:Int) (m.length:Int)=(N:Int):=by omega
 have b8:Hid (N≤1000000):=by have:=cf.out; have:=b9.out; show _≤_; omega
 rw [← hN] at bg;clear hN;go_wp2
 clear b4;go_loopw [18] (fun i wr=>∃ k:Nat,i = .int .i64 k∧k≤N∧Hid (Below w2.heap.size w2 wr)∧Hid (bC a.data.toList b.data.toList=cR l m (N - k) k)) (fun i _=>N - (intOf i).toNat)
 case atStart=>exact ⟨0,rfl,Nat.zero_le _,Below.refl _ _,bg⟩
 case round =>
  obtain ⟨k,rfl,hk,J,HC⟩:=hrel;by_cases hlt:k<N
  · have hw:IntKind.i64.wrap ((k:Int)+1)=(k:Int)+1:=IntWalk.i64_in _ (by have:=b8.out; omega)
    have a8:=zH (b6.out.below J.out);have a7:=zH (b7.out.below J.out);go_wp2_with fail
    refine (vx l k ao ac _ a8.out).mono ?_
    rintro e w3 ⟨rfl,Z⟩;have ad:=zH (a7.out.below Z);have ah:=zH (J.out.trans (Z.mono J.out.size));clear Z a8 a7;go_wp2_with fail
    refine (vx m k bo bc _ ad.out).mono ?_
    rintro e w4 ⟨rfl,a5⟩;have ag:=zH (ah.out.trans (a5.mono ah.out.size));clear a5 ad ah J
    have bv:Hid (bC a.data.toList b.data.toList=if fm (gS l k) (gS m k)≠0 then fm (gS l k) (gS m k) else cR l m (N - (k+1)) (k+1)):=by
     show _=_
     rw [HC.out,show N - k=(N - (k+1))+1 by omega]; rfl
    have bl:=zH (ph (gS l k) (gS m k) w4);clear HC;unfold Bv;go_wp2_with fail
    refine bl.out.mono ?_
    rintro e w5 ⟨rfl,a4⟩;have b0:=zH (ag.out.trans (a4.mono ag.out.size));clear a4 ag bl;have A:=bv.out;clear bv;generalize fm (gS l k) (gS m k)=cv at *;by_cases hc:cv=0
    · subst hc
      rw [if_neg (by simp)] at A;have D:=zH A;clear A;go_wp2
      go_roundw
      case rel=>exact ⟨k+1,by go_num,hlt,b0,D⟩
      case measure=>simp [intOf]; omega
    · have e1:(cv != 0)=true:=by rw [bne_iff_ne]; exact hc
      rw [if_pos hc] at A;have D:=zH A;clear A;go_wp2
      go_ret
      exact ⟨by rw [D.out]; rfl,I.out.trans (b0.out.mono I.out.size)⟩
  · obtain rfl:k=N:=by omega
    have D:Hid (bC a.data.toList b.data.toList=0):=by show _=_; rw [HC.out,Nat.sub_self]; rfl
    clear HC;go_wp2
    go_ret
    exact ⟨by rw [D.out]; rfl,I.out.trans (J.out.mono I.out.size)⟩
end Go.Proofs.YtominiaohfjobaaGreatDoor
namespace Go.Proofs.YtominiaohfjobaaGreatDoor
open Go Go.RowKit
variable {α:Type} {lt:α→α→Bool}
structure eG (lt:α→α→Bool):Prop where
 irr : ∀ a,lt a a=false
 asym : ∀ a b,lt a b=true→lt b a=false
 neg : ∀ a b c,lt a c=true→lt a b=true∨lt b c=true
def jf (lt:α→α→Bool) (a b:α):Bool:=!lt a b && !lt b a
def dL (lt:α→α→Bool) (l:List α):Prop:=l.Pairwise fun a b=>lt b a=false
def aH (lt:α→α→Bool) (l m:List α):Prop:=∀ x,l.filter (jf lt x)=m.filter (jf lt x)
theorem aH.refl (l:List α):aH lt l l:=fun _=>rfl
theorem aH.symm {l m:List α} (h:aH lt l m):aH lt m l:=fun x=>(h x).symm
theorem aH.trans {l m n:List α} (h:aH lt l m) (g:aH lt m n):aH lt l n:=fun x=>(h x).trans (g x)
theorem aH.app {a b c d:List α} (h:aH lt a b) (g:aH lt c d):aH lt (a ++ c) (b ++ d):=fun x=>by rw [List.filter_append,List.filter_append,h x,g x]
theorem jC {a b:α}:jf lt a b=true↔lt a b=false∧lt b a=false:=by unfold jf; simp
theorem eG.eqv_refl (H:eG lt) (a:α):jf lt a a=true:=jC.2 ⟨H.irr a,H.irr a⟩
theorem eG.leT (H:eG lt) {a b c:α} (h:lt b a=false) (g:lt c b=false):lt c a=false:=by
 cases e:lt c a with
 | false=>rfl
 | true=>rcases H.neg c b a e with h' | h' <;> simp_all
theorem eG.lt_of (H:eG lt) {a b c:α} (h:lt a b=true) (g:lt c b=false):lt a c=true:=by
 rcases H.neg a c b h with h' | h'
 · exact h'
 · rw [g] at h'; cases h'
theorem eG.of_lt (H:eG lt) {a b c:α} (h:lt b a=false) (g:lt b c=true):lt a c=true:=by
 rcases H.neg b a c g with h' | h'
 · rw [h] at h'; cases h'
 · exact h'
theorem aH.mem (H:eG lt) {l m:List α} (h:aH lt l m) {x:α} (hx:x ∈ l):x ∈ m:=by
 have h1:x ∈ l.filter (jf lt x):=List.mem_filter.2 ⟨hx,H.eqv_refl x⟩;rw [h x] at h1;exact (List.mem_filter.1 h1).1
theorem aH.count [DecidableEq α] (H:eG lt) {l m:List α} (h:aH lt l m) (x:α):l.count x=m.count x:=by
 have e : ∀ k:List α,(k.filter (jf lt x)).count x=k.count x:=fun k=>List.count_filter (H.eqv_refl x);rw [← e l,← e m,h x]
theorem aH.perm [DecidableEq α] (H:eG lt) {l m:List α} (h:aH lt l m):l.Perm m:=List.perm_iff_count.2 (h.count H)
theorem aH.turn (H:eG lt) {u v:List α} (h : ∀ a ∈ u,∀ b ∈ v,lt b a=true):aH lt (u ++ v) (v ++ u):=fun x=>by
 rw [List.filter_append,List.filter_append];by_cases I : ∃ a ∈ u,jf lt x a=true
 · obtain ⟨a,ha,A⟩:=I
   have:v.filter (jf lt x)=[]:=by
    rw [List.filter_eq_nil_iff];intro b O D;have h1:=jC.1 A;have h2:=jC.1 D;have h3:=h a ha b O;have J:lt b x=true:=H.lt_of h3 h1.1;rw [h2.2] at J; cases J
   rw [this,List.append_nil,List.nil_append]
 · have:u.filter (jf lt x)=[]:=by
    rw [List.filter_eq_nil_iff];exact fun a ha A=>I ⟨a,ha,A⟩
   rw [this,List.append_nil,List.nil_append]
theorem rT (H:eG lt) : ∀ {l m:List α},dL lt l→dL lt m→aH lt l m→l=m
 | [],[],_,_,_=>rfl
 | [],b::m,_,_,h=>by have:=h.symm.mem H (List.mem_cons_self (a:=b) (l:=m)); simp at this
 | a::l,[],_,_,h=>by have:=h.mem H (List.mem_cons_self (a:=a) (l:=l)); simp at this
 | a::l,b::m,A,hm,h=>by
  have ha : ∀ x ∈ a::l,lt x a=false:=fun x hx=>by
   rcases List.mem_cons.1 hx with rfl | hx
   · exact H.irr _
   · exact (List.pairwise_cons.1 A).1 x hx
  have D : ∀ x ∈ b::m,lt x b=false:=fun x hx=>by
   rcases List.mem_cons.1 hx with rfl | hx
   · exact H.irr _
   · exact (List.pairwise_cons.1 hm).1 x hx
  have h1:lt a b=false:=D a (h.mem H List.mem_cons_self);have h2:lt b a=false:=ha b (h.symm.mem H List.mem_cons_self);have e:=h a;rw [List.filter_cons_of_pos (H.eqv_refl a),List.filter_cons_of_pos (jC.2 ⟨h1,h2⟩)] at e;injection e with e1 e2
  subst e1
  have h3:aH lt l m:=fun x=>by
   have e:=h x;by_cases hx:jf lt x a=true
   · rw [List.filter_cons_of_pos hx,List.filter_cons_of_pos hx] at e
     injection e
   · rw [List.filter_cons_of_neg hx,List.filter_cons_of_neg hx] at e
     exact e
  rw [rT H (List.pairwise_cons.1 A).2 (List.pairwise_cons.1 hm).2 h3]
theorem dL.app {a b:List α} (ha:dL lt a) (A:dL lt b) (h : ∀ x ∈ a,∀ y ∈ b,lt y x=false):dL lt (a ++ b):=List.pairwise_append.2 ⟨ha,A,h⟩
theorem dL.left {a b:List α} (h:dL lt (a ++ b)):dL lt a:=(List.pairwise_append.1 h).1
theorem dL.right {a b:List α} (h:dL lt (a ++ b)):dL lt b:=(List.pairwise_append.1 h).2.1
theorem dL.across {a b:List α} (h:dL lt (a ++ b)) : ∀ x ∈ a,∀ y ∈ b,lt y x=false:=(List.pairwise_append.1 h).2.2
theorem mV:dL lt ([]:List α):=List.Pairwise.nil
theorem Ab (x:α):dL lt [x]:=List.pairwise_singleton _ _
theorem lC (H:eG lt) {m1 m2:List α} {x:α} (h:dL lt (m1 ++ m2)) (h1 : ∀ y ∈ m1,lt x y=false) (h2 : ∀ y ∈ m2,lt x y=true):dL lt (m1 ++ x::m2):=by
 refine dL.app h.left (List.pairwise_cons.2 ⟨fun y hy=>H.asym _ _ (h2 y hy),h.right⟩) fun y hy z hz=>?_
 rcases List.mem_cons.1 hz with rfl | hz
 · exact h1 y hy
 · exact h.across y hy z hz
theorem jz (H:eG lt) {m1 m2:List α} {x:α} (h2 : ∀ y ∈ m2,lt x y=true):aH lt ((m1 ++ m2) ++ [x]) (m1 ++ x::m2):=by
 rw [List.append_assoc];refine (aH.refl m1).app ?_
 have:=aH.turn H (u:=m2) (v:=[x]) (fun a ha b A=>by rw [List.mem_singleton] at A; rw [A]; exact h2 a ha)
 simpa using this
theorem rU (H:eG lt) {m:List α} {x y:α} (h:dL lt (m ++ [y])) (hx:lt x y=false) : ∀ z ∈ m ++ [y],lt x z=false:=fun z hz=>by
 rcases List.mem_append.1 hz with hz | hz
 · exact H.leT (h.across z hz y (List.mem_singleton.2 rfl)) hx
 · rw [List.mem_singleton.1 hz]; exact hx
inductive ez (lt:α→α→Bool) (s:Nat):List α→Prop
 | last (l:List α):l.length≤s→dL lt l→ez lt s l
 | cons (a r:List α):a.length=s→dL lt a→ez lt s r→ez lt s (a ++ r)
inductive uG (lt:α→α→Bool) (s:Nat):List α→Prop
 | nil:uG lt s []
 | snoc (p a:List α):uG lt s p→a.length=s→dL lt a→uG lt s (p ++ a)
theorem ez.whole {s:Nat} {l:List α} (h:ez lt s l) (A:l.length≤s):dL lt l:=by
 cases h with
 | last _ _ h2=>exact h2
 | cons a r h1 h2 h3 =>
  have:r=[]:=List.eq_nil_of_length_eq_zero (by rw [List.length_append] at A; omega)
  rw [this,List.append_nil]; exact h2
theorem ez.first {s:Nat} {l:List α} (h:ez lt s l) (A:s≤l.length) : ∃ a r,l=a ++ r∧a.length=s∧dL lt a∧ez lt s r:=by
 cases h with
 | last _ h1 h2=>exact ⟨l,[],by simp,by omega,h2,.last _ (Nat.zero_le _) mV⟩
 | cons a r h1 h2 h3=>exact ⟨a,r,rfl,h1,h2,h3⟩
theorem uG.chunks {s:Nat} {p:List α} (h:uG lt s p) : ∀ {r:List α},ez lt s r→ez lt s (p ++ r):=by
 induction h with
 | nil=>exact fun h=>by simpa using h
 | snoc p a _ h1 h2 A=>exact fun h=>by rw [List.append_assoc]; exact A (.cons a _ h1 h2 h)
theorem A9 {l:List α} (h:dL lt l) {i j:Nat} {x y:α} (hx:l[i]? = some x) (hy:l[j]? = some y) (A:i<j):lt y x=false:=by
 obtain ⟨h1,rfl⟩:=List.getElem?_eq_some_iff.1 hx;obtain ⟨h2,rfl⟩:=List.getElem?_eq_some_iff.1 hy;exact List.pairwise_iff_getElem.1 h i j h1 h2 A
theorem mW (H:eG lt) {l:List α} (h:dL lt l) {i j:Nat} {x y:α} (hx:l[i]? = some x) (hy:l[j]? = some y) (A:i≤j):lt y x=false:=by
 rcases Nat.lt_or_ge i j with h' | h'
 · exact A9 h hx hy h'
 · obtain rfl:i=j:=by omega
   rw [hx] at hy; cases hy; exact H.irr _
theorem Bc (H:eG lt) {U V:List α} (Z:dL lt U) (O:dL lt V) {i j:Nat} (ag:i≤U.length) (ad:j≤V.length)
    (h1 : ∀ x y,U[i]? = some x→0<j→V[j - 1]? = some y→lt y x=true) (h2 : ∀ x y,0<i→U[i - 1]? = some x→V[j]? = some y→lt y x=false) :
    (∀ x ∈ U.drop i,∀ y ∈ V.take j,lt y x=true)∧(∀ x ∈ U.take i,∀ y ∈ V.drop j,lt y x=false):=by
 constructor
 · intro x hx y hy
   obtain ⟨k,hk⟩:=List.getElem?_of_mem hx;obtain ⟨m,hm⟩:=List.getElem?_of_mem hy;rw [List.getElem?_drop] at hk;rw [List.getElem?_take] at hm;split at hm
   · rename_i aa
     have I:0<j:=by omega
     have D:i<U.length:=by have:=(List.getElem?_eq_some_iff.1 hk).1; omega
     have a:=h1 U[i] V[j - 1] (List.getElem?_eq_getElem D) I (List.getElem?_eq_getElem (by omega));have b:lt x U[i]=false:=mW H Z (List.getElem?_eq_getElem D) hk (by omega);have c:lt V[j - 1] y=false:=mW H O hm (List.getElem?_eq_getElem (by omega)) (by omega);exact H.lt_of (H.of_lt c a) b
   · cases hm
 · intro x hx y hy
   obtain ⟨k,hk⟩:=List.getElem?_of_mem hx;obtain ⟨m,hm⟩:=List.getElem?_of_mem hy;rw [List.getElem?_drop] at hm;rw [List.getElem?_take] at hk;split at hk
   · rename_i ac
     have J:0<i:=by omega
     have A:j<V.length:=by have:=(List.getElem?_eq_some_iff.1 hm).1; omega
     have a:=h2 U[i - 1] V[j] J (List.getElem?_eq_getElem (by omega)) (List.getElem?_eq_getElem A);have b:lt U[i - 1] x=false:=mW H Z hk (List.getElem?_eq_getElem (by omega)) (by omega);have c:lt y V[j]=false:=mW H O (List.getElem?_eq_getElem A) hm (by omega);exact H.leT (H.leT b a) c
   · cases hk
theorem sN (H:eG lt) {D J I A U O:List α} (hU:dL lt (D ++ J)) (hV:dL lt (I ++ A)) (h1 : ∀ x ∈ J,∀ y ∈ I,lt y x=true) (h2 : ∀ x ∈ D,∀ y ∈ A,lt y x=false)
    (s1:dL lt U) (Z:dL lt O) (e1:aH lt (D ++ I) U) (e2:aH lt (J ++ A) O):dL lt (U ++ O)∧aH lt ((D ++ J) ++ (I ++ A)) (U ++ O):=by
 constructor
 · refine s1.app Z fun x hx y hy=>?_
   rcases List.mem_append.1 (e1.symm.mem H hx) with hx | hx
   · rcases List.mem_append.1 (e2.symm.mem H hy) with hy | hy
     · exact hU.across x hx y hy
     · exact h2 x hx y hy
   · rcases List.mem_append.1 (e2.symm.mem H hy) with hy | hy
     · exact H.asym _ _ (h1 y hy x hx)
     · exact hV.across x hx y hy
 · refine aH.trans ?_ (e1.app e2)
   have:=aH.turn H h1
   have h3:=((aH.refl D).app (this.app (aH.refl A)));simpa [List.append_assoc] using h3
end Go.Proofs.YtominiaohfjobaaGreatDoor
