/- The walk of the program's reader's letters; its conditions stand in the theorem. -/
import Derived.Test.YtecffghcpknmjaaGreatDoorJK05
import Derived.Test.YtecffghcpknmjaaGreatDoorJK04
import Derived.Test.YtecffghcpknmjaaGreatDoorOwn2
import Derived.Test.YtecffghcpknmjaaGreatDoorQB
import Derived.Test.YtecffghcpknmjaaGreatDoorG2
import Derived.Test.YtecffghcpknmjaaGreatDoorK19
import Derived.Test.YtecffghcpknmjaaGreatDoorK4
import Derived.Test.YtecffghcpknmjaaGreatDoorR0
import Derived.Test.YtecffghcpknmjaaGreatDoorL0
import Derived.Test.YtecffghcpknmjaaGreatDoorSB
import Derived.Deep.AppendLies
import Derived.Deep.RegionLaw
import Derived.Test.YtecffghcpknmjaaGreatDoorJK03
namespace Go.Proofs.YtecffghcpknmjaaGreatDoor
open Go Go.RowKit
theorem letterN_len (n:Nat):(letterN n).length≤4:=by
 unfold letterN; split
 · simp
 · split
   · simp
   · split <;> simp
theorem refSpec_len {s t:Bs} {n:Nat} (h:refSpec s = .ok t n):t.length≤4:=by
 have hn : ∀ hex a d,numRef hex a d = .ok t n→t.length≤4:=by
  intro hex a d h;unfold numRef at h;by_cases h1:8<span (isDig hex) d
  · rw [if_pos h1] at h; cases h
  · rw [if_neg h1] at h
    by_cases h2:span (isDig hex) d=d.length
    · rw [if_pos h2] at h; cases h
    · rw [if_neg h2] at h
      by_cases h3:span (isDig hex) d=0∨d[span (isDig hex) d]?≠some 59
      · rw [if_pos h3] at h; cases h
      · rw [if_neg h3] at h
        split at h
        · cases h; exact letterN_len _
        · cases h
 cases s with
 | nil=>cases h
 | cons c r =>
  simp only [refSpec] at h;by_cases hc:c=38
  · rw [if_neg (by simp [hc])] at h
    split at h
    · split at h
      · exact hn _ _ _ h
      · exact hn _ _ _ h
    · by_cases hl:span cLower r=r.length
      · rw [if_pos hl] at h
        split at h <;> cases h
      · rw [if_neg hl] at h
        split at h
        · split at h
          · cases h; simp
          · cases h
        · cases h
  · rw [if_pos hc] at h; cases h
theorem isB_kept {T e:TypeId} {B k b:Nat} {bs:List Value} {w w':World} (h:Lib.IsBuilder T e B k bs w) (hg:w.grownBy w' (some b)) (hb:b<B):Lib.IsBuilder T e B k bs w':=by
 have key : ∀ p,Lib.BuilderAt T e B k p bs w→Lib.BuilderAt T e B k p bs w':=fun p h=>by
  have hlt:=h.lt;obtain ⟨h1,v,h2,h3,h4⟩:=h;refine ⟨h1,v,(hg.block k hlt (by simp; omega)).trans h2,World.ownsRow.kept h3 hg ?_,h4⟩
  cases hv:v.ownBlock with
  | none=>exact .inl rfl
  | some x=>right; have:=(World.ownsRow.lt h3 x hv).1; simp; omega
 rcases h with h | h
 · exact .inl (key _ h)
 · exact .inr (key _ h)
theorem byteCells_snoc (l:Bs) (c:UInt8):Lib.byteCells (l ++ [c])=Lib.byteCells l ++ [.int .u8 c.toNat]:=by simp [Lib.byteCells]
theorem byteCells_app (l:Bs) (t:Bs):Lib.byteCells (l ++ t)=Lib.byteCells l ++ Lib.strCells (bs t):=by
 simp [Lib.byteCells,Lib.strCells,bs]
theorem Rd.belowB {w w':World} {b B:Nat} {s:S} {l:Bs} {ov:Value} (h:Rd w b s l ov) (hb:Below B w w') (hlt:b<B):Rd w' b s l ov:=⟨h.box.below hb hlt,h.suf⟩
theorem refSpec_bad {s:Bs} {e:Int} (h:refSpec s = .bad e):e=12∨e=13:=by
 have hn : ∀ hex a d,numRef hex a d = .bad e→e=12∨e=13:=by
  intro hex a d h;unfold numRef at h;by_cases h1:8<span (isDig hex) d
  · rw [if_pos h1] at h; cases h; exact .inl rfl
  · rw [if_neg h1] at h
    by_cases h2:span (isDig hex) d=d.length
    · rw [if_pos h2] at h; cases h; exact .inr rfl
    · rw [if_neg h2] at h
      by_cases h3:span (isDig hex) d=0∨d[span (isDig hex) d]?≠some 59
      · rw [if_pos h3] at h; cases h; exact .inl rfl
      · rw [if_neg h3] at h
        split at h
        · cases h
        · cases h; exact .inl rfl
 cases s with
 | nil=>cases h; exact .inr rfl
 | cons c r =>
  simp only [refSpec] at h;by_cases hc:c=38
  · rw [if_neg (by simp [hc])] at h
    split at h
    · split at h
      · exact hn _ _ _ h
      · exact hn _ _ _ h
    · by_cases hl:span cLower r=r.length
      · rw [if_pos hl] at h
        split at h
        · cases h; exact .inr rfl
        · cases h; exact .inl rfl
      · rw [if_neg hl] at h
        split at h
        · split at h
          · cases h
          · cases h; exact .inl rfl
        · cases h; exact .inl rfl
  · rw [if_pos hc] at h; cases h; exact .inl rfl
structure Lets (w wr:World) (b:Nat) (s:S) (ov:Value) (stop:UInt8) (l l' acc:Bs):Prop where
 rd:Rd wr b s l' ov
 grown:w.grownBy wr (some b)
 own:Lib.IsBuilder 74 5 w.heap.size w.heap.size (Lib.byteCells acc) wr
 spec:letters stop l=(letters stop l').map (acc ++ ·)
 len:acc.length+4*l'.length≤4*l.length
theorem Lets.drewN {w wr:World} {b:Nat} {s:S} {ov:Value} {stop:UInt8} {l l' acc:Bs} (h:Lets w wr b s ov stop l l' acc) (n:Nat):Lets w (wr.drewN n) b s ov stop l l' acc :=
 ⟨h.rd.drewN n,h.grown.trans (grownN _ _ _),h.own,h.spec,h.len⟩
theorem map_map {α β γ:Type} (x:Res α) (f:α→β) (g:β→γ):(x.map f).map g=x.map (fun a=>g (f a)):=by cases x <;> rfl
theorem Lets.step {w wr w4:World} {b:Nat} {s:S} {ov:Value} {stop:UInt8} {l l1 l2 acc acc' t:Bs} {v:Value} (h:Lets w wr b s ov stop l l1 acc) (hb:Below w.heap.size wr w4) (hlt:b<w.heap.size)
    (hown:Lib.IsBuilder 74 5 w.heap.size w.heap.size (Lib.byteCells acc') w4) (hsuf:l2 <:+ s.data.toList) (hv:v = .int .i64 (pos s l2:Nat)) (hspec:letters stop l1=(letters stop l2).map (t ++ ·)) (hacc:acc'=acc ++ t) (hlen:t.length+4*l2.length≤4*l1.length) :
    Lets w (w4.setCell ⟨b,1,none⟩ v) b s ov stop l l2 acc':=by
 refine ⟨(h.rd.belowB hb hlt).move hsuf hv,(grown_below h.grown hb (Nat.le_refl _)).trans (setCell_grown _ b 1 _),isB_kept hown (setCell_grown _ b 1 _) hlt,?_,?_⟩
 · rw [h.spec,hspec,map_map]
   subst hacc;cases letters stop l2 <;> simp [Res.map]
 · have:=h.len
   subst hacc;rw [List.length_append]; omega
theorem Lets.less {w wr w':World} {b:Nat} {s:S} {ov:Value} {stop:UInt8} {l l1 l2 acc acc':Bs} (h:Lets w wr b s ov stop l l1 acc) (h':Lets w w' b s ov stop l l2 acc') (hlt:l2.length<l1.length):s.size - (placeOf w' b).toNat<s.size - (placeOf wr b).toNat:=by
 rw [h.rd.place,h'.rd.place];have:=pos_add h.rd.suf
 have:=pos_add h'.rd.suf
 omega
set_option maxRecDepth 100000 in
set_option maxHeartbeats 4000000 in
theorem letters_any (b:Nat) (s:S) (stop:UInt8) (l:Bs) (ov:Value) (w:World) (h:Rd w b s l ov) (hs:s.size≤1000000) :
    Calls Tryz.prog 87 #[.pointer (some ⟨b,0,none⟩),.int .u8 stop.toNat] w (Out (fun t=>.string (bs t)) b s ov w (letters stop l)):=by
 have hlt0:=h.box.lt;have hll:l.length≤1000000:=by have:=pos_add h.suf; omega
 have hI:Lets w (w.alloc (.cells #[.pointer none,.slice none 0 0] 74)) b s ov stop l l []:=by
  refine ⟨h.below ((Below.refl _ _).alloc (Nat.le_refl _) _),World.grownBy_alloc _ _ _,Lib.fresh_isBuilder _ _ _,?_,by simp⟩
  cases letters stop l <;> simp [Res.map]
 have HI:=Lib.hid hI;clear hI h;go_enter Tryz.func87,Tryz.ntmps87
 go_wp2
 go_loopw [] (fun wr=>∃ l' acc,Lets w wr b s ov stop l l' acc) (fun wr=>s.size - (placeOf wr b).toNat)
 case atStart=>exact ⟨l,[],HI.out⟩
 case round =>
  clear HI;obtain ⟨l',acc,hL⟩:=hrel;have HL:=Lib.hid hL;have c0:=hL.rd.c0;have c1:=hL.rd.c1;have f1:=hL.rd.f1;have hlt:=hL.rd.box.lt;have HPL:=Lib.hid hL.rd.place;have hp:=pos_add hL.rd.suf;have hsz:=hL.grown.size;have hal:acc.length+4*l'.length≤4000000:=by have:=hL.len; omega
  cases l' with
  | nil =>
   have HN:Hid (∀ n,Calls Tryz.prog 52 #[.pointer (some ⟨b,0,none⟩)] (wr.drewN n) fun e w''=>e = .returned (.bool true) ∧ ∃ m,w''=wr.drewN m):=fun n=>Qt.quiet (ends_any b s [] ov (wr.drewN n) (HL.out.rd.drewN n));have hp':pos s []≤s.size:=by omega
   clear hp hL;generalize hpp:pos s []=p at *;clear hpp;go_wp2
   go_quiet ((go_at_call 52; exact HN.out _))
   go_wp2_with fail
   refine (Tryz.Builder_String_any w.heap.size w.heap.size acc _ (HL.out.drewN _).own hsz).mono ?_
   rintro e w' ⟨rfl,hb⟩;go_wp2
   go_ret
   rw [HL.out.spec];refine ⟨by simp; rfl,?_,?_⟩
   · exact (HL.out.drewN _).rd.belowB hb hlt0
   · exact grown_below (HL.out.drewN nq).grown hb (Nat.le_refl _)
  | cons c r =>
   have HN:Hid (∀ n,Calls Tryz.prog 52 #[.pointer (some ⟨b,0,none⟩)] (wr.drewN n) fun e w''=>e = .returned (.bool false) ∧ ∃ m,w''=wr.drewN m):=fun n=>Qt.quiet (ends_any b s (c::r) ov (wr.drewN n) (HL.out.rd.drewN n));have HRT:=Lib.hid (fun n=>rest_any b s (c::r) ov (wr.drewN n) (HL.out.rd.drewN n))
   have HRF:Hid (∀ w,Calls Tryz.prog 119 #[.string (bs (c::r))] w fun e w'=>e = .returned (refTuple (refSpec (c::r)))∧Below w.heap.size w w'):=fun w=>by
    have:=ref_any (bs (c::r)) w (by rw [bs_size]; omega)
    rw [bs_data] at this; exact this
   have hpl:=pos_lt hL.rd.suf;have hg:=pos_get hL.rd.suf hpl;have HC:=Lib.hid (pos_cons hL.rd.suf);have HS:=Lib.hid (suf_tail hL.rd.suf);have HF:=Lib.hid hL.rd.suf;have HAD:=Lib.hid hp;clear hp hL;generalize hpp:pos s (c::r)=p at *;have HPP:=Lib.hid hpp;clear hpp;have hpi:(p:Int)<(s.size:Int):=by omega
   have hpb:(p:Int)+1≤1000000:=by omega
   have HG:=Lib.hid hg;by_cases hst:c=stop
   · have e1:(((s[p].toNat:Nat):Int) != ((stop.toNat:Nat):Int))=false:=by rw [hg,hst]; simp
     have HST:=Lib.hid hst;clear hst hg;go_wp2
     go_quiet ((go_at_call 52; exact HN.out _))
     go_wp2_with fail
     refine (Tryz.Builder_String_any w.heap.size w.heap.size acc _ (HL.out.drewN _).own hsz).mono ?_
     rintro e w' ⟨rfl,hb⟩;go_wp2
     go_ret
     rw [HL.out.spec];have hO:letters stop (c::r) = .ok [] (c::r):=by rw [HST.out]; simp [letters,lettersGo]
     rw [hO];refine ⟨by simp; rfl,?_,?_⟩
     · exact (HL.out.drewN _).rd.belowB hb hlt0
     · exact grown_below (HL.out.drewN nq).grown hb (Nat.le_refl _)
   · have e1:(((s[p].toNat:Nat):Int) != ((stop.toNat:Nat):Int))=true:=by
      rw [hg,bne_iff_ne]; intro e; exact hst (UInt8.toNat_inj.1 (by omega))
     have HST:=Lib.hid hst;clear hst;by_cases h38:c=38
     · have e2:(((s[p].toNat:Nat):Int) == 38)=true:=by rw [hg,h38]; decide
       have H38:=Lib.hid h38;clear h38 hg;cases hrf:refSpec (c::r) with
       | bad x =>
        have hx:=refSpec_bad hrf;have e3:(x != 0)=true:=by rw [bne_iff_ne]; omega
        have HX:=Lib.hid hrf;rw [hrf] at HRF;clear hrf hx;simp only [refTuple] at HRF;go_wp2
        go_quiet ((go_at_call 52; exact HN.out _))
        go_wp2
        go_quiet (fail)
        go_wp2_with fail
        refine (HRT.out _).mono ?_
        rintro e w' ⟨rfl,n2,rfl⟩;go_wp2_with fail
        refine (HRF.out _).mono ?_
        rintro e w3 ⟨rfl,hb3⟩;have hR3:=(HL.out.rd.drewN _).below hb3;have c1:=hR3.c1;rw [HPP.out] at c1;have hlt3:=hR3.box.lt;clear hR3;go_wp2_with fail
        refine (fail_any x p _).mono ?_
        rintro e w' ⟨rfl,rfl⟩;go_wp2
        rw [HL.out.spec];have hO:letters stop (c::r) = .bad x (c::r):=by simp only [letters,lettersGo]; rw [if_neg HST.out,if_pos H38.out,HX.out]
        rw [hO];exact ⟨rfl,by rw [HPP.out],grown_below (HL.out.drewN _).grown hb3 HL.out.grown.size⟩
       | ok t n =>
        have HX:=Lib.hid hrf;rw [hrf] at HRF;obtain ⟨hn1,hn2⟩:=refSpec_size hrf;have htl:=refSpec_len hrf;have HN2:=Lib.hid hn2;have hpn:(p:Int)+(n:Int)≤1000000:=by have:=HAD.out; omega
        clear hrf;simp only [refTuple] at HRF;go_wp2
        go_quiet ((go_at_call 52; exact HN.out _))
        go_wp2
        go_quiet (fail)
        go_wp2_with fail
        refine (HRT.out _).mono ?_
        rintro e w' ⟨rfl,n2,rfl⟩;go_wp2_with fail
        refine (HRF.out _).mono ?_
        rintro e w3 ⟨rfl,hb3⟩;have hb3':Below w.heap.size wr w3:=(belowN (Below.refl w.heap.size wr) _).trans (hb3.mono hsz);have hown3:=isB_kept (HL.out.drewN _).own (grownOf hb3 (some b)) hlt0;have hsz3:w.heap.size≤w3.heap.size:=Nat.le_trans hsz hb3.size;clear hb3;go_wp2_with fail
        refine (writeString_any w.heap.size w.heap.size (Lib.byteCells acc) (bs t) w3 hown3 (by rw [bs_size]; simp [Lib.byteCells]; omega) hsz3).mono ?_
        rintro e w4 ⟨rfl,hown4,hb4⟩;have hb4':=hb3'.trans hb4;have hR4:=HL.out.rd.belowB hb4' hlt0;have c1:=hR4.c1;have f1:=hR4.f1;rw [HPP.out] at c1;have hlt4:=hR4.box.lt;have HB4:=Lib.hid hb4';have HW4:=Lib.hid hown4;clear hR4 hb4 hb3' hown3 hown4 hb4';go_wp2
        have hsf:(c::r).drop n <:+ s.data.toList:=(List.drop_suffix _ _).trans HF.out
        have hpd:pos s ((c::r).drop n)=p+n:=by
         have h1:=pos_add hsf;have h2:=HAD.out;have h3:=HN2.out;rw [List.length_drop] at h1;omega
        have hnew:Lets w (w4.setCell ⟨b,1,none⟩ (.int .i64 ((p:Int)+(n:Int)))) b s ov stop l ((c::r).drop n) (acc ++ t):=by
         refine HL.out.step (t:=t) HB4.out hlt0 (.inr (by rw [byteCells_app]; exact HW4.out)) hsf (by rw [hpd]; rfl) ?_ rfl ?_
         · simp only [letters,lettersGo]; rw [if_neg HST.out,if_pos H38.out,HX.out]
           simp only [];rw [lettersGo_drop];obtain ⟨k,rfl⟩ : ∃ k,n=k+1:=⟨n - 1,by omega⟩;rfl
         · have h3:=HN2.out
           rw [List.length_drop]; omega
        go_roundw
        case rel=>exact ⟨_,_,hnew⟩
        case measure=>exact HL.out.less hnew (by rw [List.length_drop]; simp only [List.length_cons]; omega)
     · have e2:(((s[p].toNat:Nat):Int) == 38)=false:=by
        rw [hg,beq_eq_false_iff_ne]; intro e; exact h38 (UInt8.toNat_inj.1 (by simpa using (by omega:c.toNat=38)))
       have H38:=Lib.hid h38;clear h38;by_cases h60:c=60
       · have e3:(((s[p].toNat:Nat):Int) == 60)=true:=by rw [hg,h60]; decide
         have H60:=Lib.hid h60;clear h60 hg;go_wp2
         go_quiet ((go_at_call 52; exact HN.out _))
         go_wp2
         go_quiet (fail)
         go_wp2_with fail
         refine (fail_any 10 p _).mono ?_
         rintro e w' ⟨rfl,rfl⟩;go_wp2
         rw [HL.out.spec];have hO:letters stop (c::r) = .bad 10 (c::r):=by simp only [letters,lettersGo]; rw [if_neg HST.out,if_neg H38.out,if_pos (.inl H60.out)]
         rw [hO];exact ⟨rfl,by rw [HPP.out],(HL.out.drewN _).grown⟩
       · have e3:(((s[p].toNat:Nat):Int) == 60)=false:=by
          rw [hg,beq_eq_false_iff_ne]; intro e; exact h60 (UInt8.toNat_inj.1 (by simpa using (by omega:c.toNat=60)))
         have H60:=Lib.hid h60;clear h60 hg;cases htx:cText c
         · have HT:Hid (∀ w,Calls Tryz.prog 115 #[.int .u8 s[p].toNat] w fun e w'=>e = .returned (.bool false)∧w=w'):=fun w=>by
            have:=isText_any s[p] w
            rw [show cText s[p]=false by rw [HG.out,htx]] at this; exact this
           have HTX:=Lib.hid htx;clear htx;go_wp2
           go_quiet ((go_at_call 52; exact HN.out _))
           go_wp2
           go_quiet (fail)
           go_wp2_with fail
           refine (HT.out _).mono ?_
           rintro e w' ⟨rfl,rfl⟩;go_wp2_with fail
           refine (fail_any 10 p _).mono ?_
           rintro e w' ⟨rfl,rfl⟩;go_wp2
           rw [HL.out.spec];have hO:letters stop (c::r) = .bad 10 (c::r):=by simp only [letters,lettersGo]; rw [if_neg HST.out,if_neg H38.out,if_pos (.inr HTX.out)]
           rw [hO];exact ⟨rfl,by rw [HPP.out],(HL.out.drewN _).grown⟩
         · have HT:Hid (∀ w,Calls Tryz.prog 115 #[.int .u8 s[p].toNat] w fun e w'=>e = .returned (.bool true)∧w=w'):=fun w=>by
            have:=isText_any s[p] w
            rw [show cText s[p]=true by rw [HG.out,htx]] at this; exact this
           have HTX:=Lib.hid htx;clear htx;go_wp2
           go_quiet ((go_at_call 52; exact HN.out _))
           go_wp2
           go_quiet (fail)
           go_wp2_with fail
           refine (HT.out _).mono ?_
           rintro e w' ⟨rfl,rfl⟩;go_wp2_with fail
           refine (writeByte_any w.heap.size w.heap.size (Lib.byteCells acc) s[p].toNat _ (HL.out.drewN _).own (by simp [Lib.byteCells]; omega) hsz).mono ?_
           rintro e w4 ⟨rfl,hown4,hb4⟩;have hb4':=(belowN (Below.refl w.heap.size wr) _).trans hb4;have hR4:=HL.out.rd.belowB hb4' hlt0;have c1:=hR4.c1;have f1:=hR4.f1;rw [HPP.out] at c1;have hlt4:=hR4.box.lt;have HB4:=Lib.hid hb4';have HW4:=Lib.hid hown4;clear hR4 hb4 hown4 hb4';go_wp2
           have hnew:Lets w (w4.setCell ⟨b,1,none⟩ (.int .i64 ((p:Int)+1))) b s ov stop l r (acc ++ [c]):=by
            refine HL.out.step (t:=[c]) HB4.out hlt0 (.inr (by have h:=HW4.out; rw [HG.out] at h; rw [byteCells_snoc]; exact h)) HS.out (by rw [HC.out]; rfl) ?_ rfl ?_
            · simp only [letters,lettersGo]; rw [if_neg HST.out,if_neg H38.out,if_neg (by rintro (h | h); exact H60.out h; rw [HTX.out] at h; cases h)]; rfl
            · simp only [List.length_cons,List.length_nil]; omega
           go_roundw
           case rel=>exact ⟨_,_,hnew⟩
           case measure=>exact HL.out.less hnew (by simp)
set_option maxRecDepth 100000 in
set_option maxHeartbeats 4000000 in
theorem value_any (b:Nat) (s:S) (l:Bs) (ov:Value) (w:World) (h:Rd w b s l ov) (hs:s.size≤1000000) :
    Calls Tryz.prog 118 #[.pointer (some ⟨b,0,none⟩)] w (Out (fun t=>.string (bs t)) b s ov w (valueR l)):=by
 have c0:=h.c0;have c1:=h.c1;have f1:=h.f1;have hlt:=h.box.lt;have HR:=Lib.hid h;cases l with
 | nil =>
  have HN:Hid (Calls Tryz.prog 52 #[.pointer (some ⟨b,0,none⟩)] w (Qt (.bool true) w)):=ends_any b s [] ov w h;clear h;go_enter Tryz.func118,Tryz.ntmps118
  go_wp2_with fail
  refine HN.out.mono ?_
  rintro e w' ⟨rfl,n,rfl⟩;go_wp2_with fail
  refine (fail_any _ _ _).mono ?_
  rintro e w' ⟨rfl,rfl⟩;go_wp2
  exact ⟨rfl,rfl,grownN w n _⟩
 | cons c r =>
  have HN:Hid (Calls Tryz.prog 52 #[.pointer (some ⟨b,0,none⟩)] w (Qt (.bool false) w)):=ends_any b s (c::r) ov w h;have hpl:=pos_lt h.suf;have hg:=pos_get h.suf hpl;have HC:=Lib.hid (pos_cons h.suf);have HS:=Lib.hid (suf_tail h.suf);clear h;generalize hpp:pos s (c::r)=p at *;have HPP:=Lib.hid hpp;clear hpp;have hpi:(p:Int)<(s.size:Int):=by omega
  have hpb:(p:Int)+1≤1000000:=by omega
  have HG:=Lib.hid hg;by_cases hq:c=34∨c=39
  rotate_left
  · have e1:(((s[p].toNat:Nat):Int) != 34)=true:=by
     rw [hg,bne_iff_ne]; intro e; exact hq (.inl (UInt8.toNat_inj.1 (by simpa using (by omega:c.toNat=34))))
    have e2:(((s[p].toNat:Nat):Int) != 39)=true:=by
     rw [hg,bne_iff_ne]; intro e; exact hq (.inr (UInt8.toNat_inj.1 (by simpa using (by omega:c.toNat=39))))
    have HQ:Hid (valueR (c::r) = .bad 10 (c::r)):=by show _=_; simp only [valueR]; rw [if_neg hq]
    clear hq hg;go_enter Tryz.func118,Tryz.ntmps118
    go_wp2_with fail
    refine HN.out.mono ?_
    rintro e w' ⟨rfl,n,rfl⟩;go_wp2
    go_quiet (fail)
    go_wp2_with fail
    refine (fail_any 10 p _).mono ?_
    rintro e w' ⟨rfl,rfl⟩;go_wp2
    rw [HQ.out];exact ⟨rfl,by rw [HPP.out],grownN w _ _⟩
  · have hv:((((s[p].toNat:Nat):Int) != 34)=false)∨((((s[p].toNat:Nat):Int) != 34)=true∧(((s[p].toNat:Nat):Int) != 39)=false):=by
     rcases hq with h | h
     · left; rw [hg,h]; decide
     · right; rw [hg,h]; decide
    have HQ:Hid (valueR (c::r)=(letters c r).bind fun s r=>match r with
     | []=>.bad 13 []
     | _::r'=>.ok s r'):=by show _=_; simp only [valueR]; rw [if_pos hq]; rfl
    have HLT:Hid (∀ w,Rd w b s r ov→Calls Tryz.prog 87 #[.pointer (some ⟨b,0,none⟩),.int .u8 s[p].toNat] w (Out (fun t=>.string (bs t)) b s ov w (letters c r))):=fun w h=>by
     have:=letters_any b s s[p] r ov w h hs
     rw [show letters s[p] r=letters c r by rw [hg]] at this; exact this
    clear hq hg;have main : ∀ n,Rd ((w.drewN n).setCell ⟨b,1,none⟩ (.int .i64 ((p:Int)+1))) b s r ov:=fun n=>(HR.out.drewN n).move HS.out (by rw [HC.out]; rfl);have HM:=Lib.hid main;clear main;rcases hv with e1 | ⟨e1,e2⟩
    all_goals
     go_enter Tryz.func118,Tryz.ntmps118
     go_wp2_with fail
     refine HN.out.mono ?_
     rintro e w' ⟨rfl,n,rfl⟩;go_wp2
     go_quiet (fail)
     go_wp2_with fail
     refine Calls.world ?_
     intro W hW;have hR:Rd W b s r ov:=by rw [hW]; exact HM.out _
     have hG:Hid (w.grownBy W (some b)):=by rw [hW]; exact (grownN w _ _).trans (setCell_grown _ b 1 _)
     clear hW c0 c1 f1 e1;have hcall:=HLT.out W hR;cases hl:letters c r with
     | bad x r' =>
      rw [hl] at hcall;have HL:=Lib.hid hl;clear hl;refine hcall.mono ?_
      intro e w' hO;obtain ⟨rfl,hg⟩:Bad x s r' b W e w':=hO;go_wp2
      rw [HQ.out,HL.out];exact ⟨rfl,rfl,hG.out.trans hg⟩
     | ok t r' =>
      rw [hl] at hcall;have HL:=Lib.hid hl;clear hl;refine hcall.mono ?_
      intro e w2 hO;obtain ⟨rfl,hR2,hg⟩:Goes (.string (bs t)) b s r' ov W e w2:=hO;have HG2:=Lib.hid (hG.out.trans hg);have c1:=hR2.c1;have f1:=hR2.f1;have hlt2:=hR2.box.lt;have HR2:=Lib.hid hR2;clear hR hg;cases r' with
      | nil =>
       have HN2:Hid (Calls Tryz.prog 52 #[.pointer (some ⟨b,0,none⟩)] w2 (Qt (.bool true) w2)):=ends_any b s [] ov w2 hR2;clear hR2;go_wp2_with fail
       refine HN2.out.mono ?_
       rintro e w' ⟨rfl,n,rfl⟩;go_wp2_with fail
       refine (fail_any _ _ _).mono ?_
       rintro e w' ⟨rfl,rfl⟩;go_wp2
       rw [HQ.out,HL.out];exact ⟨rfl,rfl,HG2.out.trans (grownN _ _ _)⟩
      | cons x r2 =>
       have HN2:Hid (Calls Tryz.prog 52 #[.pointer (some ⟨b,0,none⟩)] w2 (Qt (.bool false) w2)):=ends_any b s (x::r2) ov w2 hR2;have hpl2:=pos_lt hR2.suf;have HC2:=Lib.hid (pos_cons hR2.suf);have HS2:=Lib.hid (suf_tail hR2.suf);clear hR2;generalize pos s (x::r2)=p2 at *;have hpb2:(p2:Int)+1≤1000000:=by omega
       go_wp2_with fail
       refine HN2.out.mono ?_
       rintro e w' ⟨rfl,n,rfl⟩;go_wp2
       go_ret
       rw [HQ.out,HL.out];exact ⟨rfl,(HR2.out.drewN _).move HS2.out (v:=.int .i64 ((p2:Int)+1)) (by rw [HC2.out]; rfl),(HG2.out.trans (grownN _ _ _)).trans (setCell_grown _ b 1 _)⟩
set_option maxRecDepth 100000 in
set_option maxHeartbeats 2000000 in
theorem isHead_any (b:Nat) (s:S) (l:Bs) (ov:Value) (w:World) (h:Rd w b s l ov) (hs:s.size≤1000000) :
    Calls Tryz.prog 82 #[.pointer (some ⟨b,0,none⟩)] w (Qt (.bool (isHead l)) w):=by
 have HRT:=Lib.hid (rest_any b s l ov w h);have hll:l.length≤1000000:=by have:=pos_add h.suf; omega
 have hz:=bs_size l;have HB:Hid ((bs l).data.toList=l):=bs_data l;clear h;generalize bs l=u at *;have hul:u.size≤1000000:=by omega
 have HZ:=Lib.hid hz;cases hp:sHead.isPrefixOf l
 · have HP:Hid ((⟨#[60,63,120,109,108]⟩:S).data.toList.isPrefixOf u.data.toList=false):=by rw [HB.out]; exact hp
   have HO:Hid (isHead l=false):=by show _=_; unfold isHead; rw [hp]; rfl
   clear hp hz;go_enter Tryz.func82,Tryz.ntmps82
   go_wp2_with fail
   refine HRT.out.mono ?_
   rintro e w' ⟨rfl,n,rfl⟩;go_wp2_with fail
   refine (hasPrefix_any _ _ _).mono ?_
   rintro e w' ⟨rfl,rfl⟩;rw [HP.out];go_wp2
   go_ret
   exact ⟨by rw [HO.out]; rfl,⟨_,rfl⟩⟩
 · have HP:Hid ((⟨#[60,63,120,109,108]⟩:S).data.toList.isPrefixOf u.data.toList=true):=by rw [HB.out]; exact hp
   by_cases h5:5<u.size
   · have h5i:(5:Int)<(u.size:Int):=by omega
     have hc:l[5]? = some u[5]:=by
      have:=congrArg (·[0]?) (drop_byte u 5 h5)
      rw [HB.out] at this; simpa using this
     have HO:Hid (isHead l=(cBlank u[5] || u[5] == 63)):=by show _=_; unfold isHead; rw [hp,hc]; rfl
     clear hp hz hc;cases hb:cBlank u[5]
     all_goals
      have HI:=Lib.hid hb;clear hb;go_enter Tryz.func82,Tryz.ntmps82
      go_wp2_with fail
      refine HRT.out.mono ?_
      rintro e w' ⟨rfl,n,rfl⟩;go_wp2_with fail
      refine (hasPrefix_any _ _ _).mono ?_
      rintro e w' ⟨rfl,rfl⟩;rw [HP.out];go_wp2_with (go_at_call 71; refine (isBlank_any _ _).mono ?_; rintro e w' ⟨rfl,rfl⟩; rw [HI.out])
      go_ret
      refine ⟨ret_bool ?_,⟨_,rfl⟩⟩
      rw [HO.out,HI.out]
     · simp only [Bool.false_or]
       rw [Bool.eq_iff_iff]; simp [← UInt8.toNat_inj]; omega
     · rfl
   · have h5i : ¬ (5:Int)<(u.size:Int):=by omega
     have HO:Hid (isHead l=false):=by show _=_; unfold isHead; rw [hp,List.getElem?_eq_none (by omega)]; rfl
     clear hp hz;go_enter Tryz.func82,Tryz.ntmps82
     go_wp2_with fail
     refine HRT.out.mono ?_
     rintro e w' ⟨rfl,n,rfl⟩;go_wp2_with fail
     refine (hasPrefix_any _ _ _).mono ?_
     rintro e w' ⟨rfl,rfl⟩;rw [HP.out];go_wp2
     go_ret
     exact ⟨by rw [HO.out]; rfl,⟨_,rfl⟩⟩
def atC (a:At2):List Value:=[.string (bs a.1),.string (bs a.2)]
theorem atC_len (a:At2):(atC a).length=2:=rfl
theorem atC_one {a:At2} : ∀ u ∈ atC a,u.oneCell'=true:=by intro u hu; simp [atC] at hu; rcases hu with rfl | rfl <;> rfl
theorem info_attr:(Tryz.prog.info? 139).map (fun i=>(i.zero,i.size,i.bytes))=some (some (.agg #[.string ⟨#[]⟩,.string ⟨#[]⟩]),2,32):=by kernel_rfl
theorem tagEnds_iff (l:Bs):tagEnds l=true↔((blanks l).length=l.length∨blanks l=[]∨(∃ r,blanks l=47::r) ∨ ∃ r,blanks l=62::r):=by
 unfold tagEnds;cases blanks l with
 | nil=>simp
 | cons c r=>simp [or_assoc]
theorem nameR_less {e:Int} {l nm r:Bs} (h:nameR e l = .ok nm r):r.length<l.length:=by
 cases l with
 | nil=>cases h
 | cons c l =>
  simp only [nameR] at h;split at h
  · cases h
  · cases h; rw [List.length_drop]; simp only [List.length_cons]; omega
theorem attrR_less {acc:List At2} {l:Bs} {a:At2} {r:Bs} (h:attrR acc l = .ok a r):r.length<l.length:=by
 unfold attrR at h;cases hn:nameR 10 l with
 | bad e r1=>rw [hn] at h; cases h
 | ok nm r1 =>
  rw [hn] at h;have h1:=nameR_less hn;simp only [Res.bind] at h;split at h
  · cases h
  · have h2:=wantC_suf 61 (blanks r1)
    have h0:=blanks_le r1;cases hw:wantC 61 (blanks r1) with
    | bad e r2=>rw [hw] at h; cases h
    | ok u r2 =>
     rw [hw] at h h2;have h2':r2.length≤(blanks r1).length:=List.IsSuffix.length_le h2;have h3:=valueR_suf (blanks r2);have h4:=blanks_le r2;simp only at h;cases hv:valueR (blanks r2) with
     | bad e r3=>rw [hv] at h; cases h
     | ok v r3 =>
      rw [hv] at h h3;have h3':r3.length≤(blanks r2).length:=List.IsSuffix.length_le h3;cases h
      omega
def OutA (b:Nat) (s:S) (ov:Value) (w:World):Res (List At2)→Ending→World→Prop
 | .ok a r=>fun e w'=>∃ v,Goes v b s r ov w e w'∧Owns w.heap.size 139 2 atC w' v a
 | .bad e r=>Bad e s r b w
structure Atts (w wr:World) (b:Nat) (s:S) (ov v:Value) (l l':Bs) (acc:List At2) (f:Nat):Prop where
 rd:Rd wr b s l' ov
 grown:w.grownBy wr (some b)
 own:Owns w.heap.size 139 2 atC wr v acc
 spec:attrsR l=attrsGo (f+1) acc l'
 fuel:l'.length≤f
 len:acc.length+l'.length≤l.length
set_option maxRecDepth 100000 in
set_option maxHeartbeats 8000000 in
theorem attrs_any (b:Nat) (s:S) (l:Bs) (ov:Value) (w:World) (h:Rd w b s l ov) (hs:s.size≤1000000) :
    Calls Tryz.prog 86 #[.pointer (some ⟨b,0,none⟩)] w (OutA b s ov w (attrsR l)):=by
 have hlt0:=h.box.lt;have hll:l.length≤1000000:=by have:=pos_add h.suf; omega
 have hI:Atts w w b s ov (.slice none 0 0) l l [] l.length:=⟨h,World.grownBy.refl _ _,Owns.nil,rfl,Nat.le_refl _,by simp⟩;have HI:=Lib.hid hI;clear hI h;go_enter Tryz.func86,Tryz.ntmps86
 go_wp2
 go_loopw [2] (fun v wr=>∃ l' acc f,Atts w wr b s ov v l l' acc f) (fun _ wr=>s.size - (placeOf wr b).toNat)
 case atStart=>exact ⟨l,[],l.length,HI.out⟩
 case round =>
  clear HI;obtain ⟨l',acc,f,hL⟩:=hrel;have HL:=Lib.hid hL;have hsz:=hL.grown.size;have hB:=Lib.hid (blanks_any b s l' ov wr hL.rd hs);have hle:=blanks_le l';have hll2:acc.length+l'.length≤1000000:=by have:=hL.len; omega
  obtain ⟨ao,cap,rfl⟩:=hL.own.shape;clear hL;go_wp2_with fail
  refine hB.out.mono ?_
  intro e w1 hO;obtain ⟨rfl,hR1,hg1⟩:=hO;have hG1:=Lib.hid (HL.out.grown.trans hg1);have hO1:=Lib.hid (HL.out.own.keptR hg1 hlt0);have HR1:=Lib.hid hR1;clear hB hg1;have hsz1:=hG1.out.size;by_cases hte:tagEnds l'=true
  · have HTE:=Lib.hid hte
    rw [tagEnds_iff] at hte;have hfin:attrsR l = .ok acc (blanks l'):=by rw [HL.out.spec]; simp only [attrsGo]; rw [if_pos HTE.out]
    have HF:=Lib.hid hfin;clear hfin;by_cases h0:(blanks l').length=l'.length
    · have e0:(((l'.length - (blanks l').length:Nat):Int) == 0)=true:=beq_iff_eq.2 (by omega)
      clear hte hR1 h0;go_wp2
      go_ret
      rw [HF.out];exact ⟨_,⟨rfl,HR1.out,hG1.out⟩,hO1.out⟩
    · have e0:(((l'.length - (blanks l').length:Nat):Int) == 0)=false:=beq_eq_false_iff_ne.2 (by omega)
      rcases hte with h | h | ⟨r,h⟩ | ⟨r,h⟩
      · exact absurd h h0
      · have HN:Hid (Calls Tryz.prog 52 #[.pointer (some ⟨b,0,none⟩)] w1 (Qt (.bool true) w1)):=by
         have:=ends_any b s (blanks l') ov w1 hR1; rw [h] at this; exact this
        clear h hR1 h0;go_wp2_with fail
        refine HN.out.mono ?_
        rintro e w' ⟨rfl,n,rfl⟩;go_wp2
        go_ret
        rw [HF.out];exact ⟨_,⟨rfl,HR1.out.drewN n,hG1.out.trans (grownN _ n _)⟩,hO1.out⟩
      · have HN:Hid (Calls Tryz.prog 52 #[.pointer (some ⟨b,0,none⟩)] w1 (Qt (.bool false) w1)):=by
         have:=ends_any b s (blanks l') ov w1 hR1; rw [h] at this; exact this
        have HA:Hid (∀ n,Calls Tryz.prog 80 #[.pointer (some ⟨b,0,none⟩),.string ⟨#[47]⟩] (w1.drewN n) (Qt (.bool true) (w1.drewN n))):=fun n=>by
         have:=has_pre b s (blanks l') ov ⟨#[47]⟩ (w1.drewN n) (hR1.drewN n); rw [h,bs_one] at this; simpa [List.isPrefixOf] using this
        clear h hR1 h0;go_wp2_with fail
        refine HN.out.mono ?_
        rintro e w' ⟨rfl,n,rfl⟩;go_wp2_with fail
        refine (HA.out _).mono ?_
        rintro e w' ⟨rfl,n2,rfl⟩;go_wp2
        go_ret
        rw [HF.out];exact ⟨_,⟨rfl,HR1.out.drewN _,hG1.out.trans (grownN _ _ _)⟩,hO1.out⟩
      · have HN:Hid (Calls Tryz.prog 52 #[.pointer (some ⟨b,0,none⟩)] w1 (Qt (.bool false) w1)):=by
         have:=ends_any b s (blanks l') ov w1 hR1; rw [h] at this; exact this
        have HA:Hid (∀ n,Calls Tryz.prog 80 #[.pointer (some ⟨b,0,none⟩),.string ⟨#[47]⟩] (w1.drewN n) (Qt (.bool false) (w1.drewN n))):=fun n=>by
         have:=has_pre b s (blanks l') ov ⟨#[47]⟩ (w1.drewN n) (hR1.drewN n); rw [h,bs_one] at this; simpa [List.isPrefixOf] using this
        have HA2:Hid (∀ n,Calls Tryz.prog 80 #[.pointer (some ⟨b,0,none⟩),.string ⟨#[62]⟩] (w1.drewN n) (Qt (.bool true) (w1.drewN n))):=fun n=>by
         have:=has_pre b s (blanks l') ov ⟨#[62]⟩ (w1.drewN n) (hR1.drewN n); rw [h,bs_one] at this; simpa [List.isPrefixOf] using this
        clear h hR1 h0;go_wp2_with fail
        refine HN.out.mono ?_
        rintro e w' ⟨rfl,n,rfl⟩;go_wp2_with fail
        refine (HA.out _).mono ?_
        rintro e w' ⟨rfl,n2,rfl⟩;go_wp2_with fail
        refine (HA2.out _).mono ?_
        rintro e w' ⟨rfl,n3,rfl⟩;go_wp2
        go_ret
        rw [HF.out];exact ⟨_,⟨rfl,HR1.out.drewN _,hG1.out.trans (grownN _ _ _)⟩,hO1.out⟩
  · have HTE:=Lib.hid hte
    rw [tagEnds_iff] at hte
    obtain ⟨h0,c,r,hcr,h47,h62⟩ : ¬ (blanks l').length=l'.length ∧ ∃ c r,blanks l'=c::r∧c≠47∧c≠62:=by
     cases hb:blanks l' with
     | nil=>exact absurd (.inr (.inl hb)) hte
     | cons c r =>
      refine ⟨fun e=>hte (.inl (by rw [hb]; exact e)),c,r,rfl,fun e=>hte (.inr (.inr (.inl ⟨r,by rw [hb,e]⟩))),fun e=>hte (.inr (.inr (.inr ⟨r,by rw [hb,e]⟩)))⟩
    have e0:(((l'.length - (blanks l').length:Nat):Int) == 0)=false:=beq_eq_false_iff_ne.2 (by omega)
    have HN:Hid (Calls Tryz.prog 52 #[.pointer (some ⟨b,0,none⟩)] w1 (Qt (.bool false) w1)):=by
     have:=ends_any b s (blanks l') ov w1 hR1; rw [hcr] at this; exact this
    have HA:Hid (∀ n,Calls Tryz.prog 80 #[.pointer (some ⟨b,0,none⟩),.string ⟨#[47]⟩] (w1.drewN n) (Qt (.bool false) (w1.drewN n))):=fun n=>by
     have:=has_pre b s (blanks l') ov ⟨#[47]⟩ (w1.drewN n) (hR1.drewN n)
     have hx:((47:UInt8) == c)=false:=by simpa using Ne.symm h47
     rw [hcr,bs_one] at this; simpa [List.isPrefixOf,hx] using this
    have HA2:Hid (∀ n,Calls Tryz.prog 80 #[.pointer (some ⟨b,0,none⟩),.string ⟨#[62]⟩] (w1.drewN n) (Qt (.bool false) (w1.drewN n))):=fun n=>by
     have:=has_pre b s (blanks l') ov ⟨#[62]⟩ (w1.drewN n) (hR1.drewN n)
     have hx:((62:UInt8) == c)=false:=by simpa using Ne.symm h62
     rw [hcr,bs_one] at this; simpa [List.isPrefixOf,hx] using this
    have hfin:attrsR l=(match attrR acc (blanks l') with
        | .ok a r=>attrsGo f (acc ++ [a]) r
        | .bad e r=>.bad e r):=by rw [HL.out.spec]; simp only [attrsGo]; rw [if_neg HTE.out]; rfl
    have HF:=Lib.hid hfin;have hlen1:(blanks l').length<l'.length:=by omega
    clear hfin hte hcr h0 h47 h62 hle;have c1:=hR1.c1;have hlt1:=hR1.box.lt;clear hR1;generalize blanks l'=l1 at *;go_wp2_with fail
    refine HN.out.mono ?_
    rintro e w' ⟨rfl,n,rfl⟩;go_wp2_with fail
    refine (HA.out _).mono ?_
    rintro e w' ⟨rfl,n2,rfl⟩;go_wp2_with fail
    refine (HA2.out _).mono ?_
    rintro e w' ⟨rfl,n3,rfl⟩;have hcall:=rname_any b s 10 l1 ov (w1.drewN (n+n2+n3)) (HR1.out.drewN _) hs;cases hnm:nameR 10 l1 with
    | bad x r1 =>
     rw [hnm] at hcall;have HNM:=Lib.hid hnm;clear hnm;have HCL:=Lib.hid hcall;clear hcall;go_wp2_with fail
     refine HCL.out.mono ?_
     intro e w' hO;obtain ⟨rfl,hg⟩:Bad x s r1 b _ e w':=hO;go_wp2
     rw [HF.out,show attrR acc l1 = .bad x r1 by unfold attrR; rw [HNM.out]; rfl];exact ⟨rfl,rfl,(hG1.out.trans (grownN _ _ _)).trans hg⟩
    | ok nm r1 =>
     rw [hnm] at hcall;have HNM:=Lib.hid hnm;clear hnm;have HCL:=Lib.hid hcall;clear hcall;go_wp2_with fail
     refine HCL.out.mono ?_
     intro e w2 hO;obtain ⟨rfl,hR2,hg2⟩:Goes (.string (bs nm)) b s r1 ov _ e w2:=hO;have hG2:=Lib.hid ((hG1.out.trans (grownN _ _ _)).trans hg2);have hO2:=Lib.hid ((hO1.out.keptR (grownN w1 (n+n2+n3) (some b)) hlt0).keptR hg2 hlt0);have HR2:=Lib.hid hR2;have hsz2:=hG2.out.size;have hS2:=Lib.hid (hO2.out.slice atC_len);clear hR2 hg2 c1 HCL HN HA HA2;have hlt2:=HR2.out.box.lt;go_wp2
     go_loopw [7,40] (fun _ i wr=>∃ j:Nat,j≤acc.length∧i = .int .i64 j∧Below w2.heap.size w2 wr∧Hid (acc.any (fun a=>a.1 == nm)=(acc.drop j).any (fun a=>a.1 == nm))) (fun _ i _=>acc.length - (intOf i).toNat)
     case atStart=>exact ⟨0,Nat.zero_le _,rfl,Below.refl _ _,rfl⟩
     case round =>
      obtain ⟨j,hj,rfl,hb,H⟩:=hrel;have hszr:=hb.size;by_cases hjl:j<acc.length
      · obtain ⟨bb,oo,rfl,hbl,hcell⟩:=(hS2.out.below hb).at hjl
        have g0:wr.cell? ⟨bb,oo+j*2,none⟩=some (.string (bs acc[j].1)):=by simpa using hcell 0 _ rfl
        have g1:wr.cell? ⟨bb,oo+j*2+1,none⟩=some (.string (bs acc[j].2)):=hcell 1 _ rfl;have HD:=Lib.hid (drop_cons' hjl);clear hcell;generalize acc[j]=a at *;obtain ⟨a1,a2⟩:=a;simp only at g0 g1;by_cases ha:a1=nm
        · have hq:((bs a1).toList == (bs nm).toList)=true:=by rw [ha]; simp
          have hat:attrR acc l1 = .bad 15 l1:=by
           unfold attrR; rw [HNM.out]; simp only [Res.bind];rw [if_pos (by rw [H.out,HD.out]; simp [ha])]
          have HAT:=Lib.hid hat;clear hat ha;generalize bs a1=y1 at *;generalize bs a2=y2 at *;go_wp2_with fail
          refine (fail_any 15 (pos s l1) _).mono ?_
          rintro e w' ⟨rfl,rfl⟩;go_wp2
          rw [HF.out,HAT.out];exact ⟨rfl,rfl,grown_below hG2.out (hb.alloc hszr _) hsz2⟩
        · have hq:((bs a1).toList == (bs nm).toList)=false:=by
           rw [ByteArray.toList_eq,ByteArray.toList_eq,bs_data,bs_data]; simpa using ha
          have hst:Hid (acc.any (fun a=>a.1 == nm)=(acc.drop (j+1)).any (fun a=>a.1 == nm)):=by
           have hx:(a1 == nm)=false:=by simpa using ha
           show _=_
           rw [H.out,HD.out]; simp only [List.any_cons,hx,Bool.false_or]
          clear ha;generalize bs a1=y1 at *;generalize bs a2=y2 at *;go_wp2
          go_roundw
          case rel=>exact ⟨j+1,by omega,by go_num,hb.alloc hszr _,hst⟩
          case measure=>simp [intOf]; omega
      · have hno:acc.any (fun a=>a.1 == nm)=false:=by rw [H.out,List.drop_of_length_le (by omega)]; rfl
        have HNO:=Lib.hid hno;clear hno;have hR3:=HR2.out.below hb;have hO3:=Lib.hid (hO2.out.below hb);have hG3:=Lib.hid (grown_below hG2.out hb hsz2);have hB3:=Lib.hid (blanks_any b s r1 ov wr hR3 hs);have hl1:r1.length<l1.length:=nameR_less HNM.out;have hl2:=blanks_le r1;clear hR3 hb H hS2 hj;go_wp2_with fail
        refine hB3.out.mono ?_
        intro e w4 hO;obtain ⟨rfl,hR4,hg4⟩:=hO;have hG4:=Lib.hid (hG3.out.trans hg4);have hO4:=Lib.hid (hO3.out.keptR hg4 hlt0);clear hg4 hB3;have hcall:=want_any b s 61 (blanks r1) ov w4 hR4 hs;cases hwt:wantC 61 (blanks r1) with
        | bad x r2 =>
         rw [hwt] at hcall;have HWT:=Lib.hid hwt;clear hwt;have HCL:=Lib.hid hcall;clear hcall hR4;go_wp2_with fail
         refine HCL.out.mono ?_
         intro e w' hO;obtain ⟨rfl,hg⟩:Bad x s r2 b _ e w':=hO;go_wp2
         rw [HF.out,show attrR acc l1 = .bad x r2 by unfold attrR; rw [HNM.out]; simp only [Res.bind]; rw [if_neg (by rw [HNO.out]; simp),HWT.out]];exact ⟨rfl,rfl,hG4.out.trans hg⟩
        | ok u r2 =>
         rw [hwt] at hcall;have HWT:=Lib.hid hwt
         have hl3:r2.length≤(blanks r1).length:=by
          have:=wantC_suf 61 (blanks r1); rw [hwt] at this; exact List.IsSuffix.length_le this
         have hl4:=blanks_le r2;clear hwt;have HCL:=Lib.hid hcall;clear hcall hR4;go_wp2_with fail
         refine HCL.out.mono ?_
         intro e w5 hO;obtain ⟨rfl,hR5,hg5⟩:Goes (.tuple #[]) b s r2 ov w4 e w5:=hO;have hG5:=Lib.hid (hG4.out.trans hg5);have hO5:=Lib.hid (hO4.out.keptR hg5 hlt0);have hB5:=Lib.hid (blanks_any b s r2 ov w5 hR5 hs);clear hg5 HCL hR5;go_wp2_with fail
         refine hB5.out.mono ?_
         intro e w6 hO;obtain ⟨rfl,hR6,hg6⟩:=hO;have hG6:=Lib.hid (hG5.out.trans hg6);have hO6:=Lib.hid (hO5.out.keptR hg6 hlt0);clear hg6 hB5;have hcall:=value_any b s (blanks r2) ov w6 hR6 hs;cases hvl:valueR (blanks r2) with
         | bad x r3 =>
          rw [hvl] at hcall;have HVL:=Lib.hid hvl;clear hvl;have HCL:=Lib.hid hcall;clear hcall hR6;go_wp2_with fail
          refine HCL.out.mono ?_
          intro e w' hO;obtain ⟨rfl,hg⟩:Bad x s r3 b _ e w':=hO;go_wp2
          rw [HF.out,show attrR acc l1 = .bad x r3 by unfold attrR; rw [HNM.out]; simp only [Res.bind]; rw [if_neg (by rw [HNO.out]; simp),HWT.out]; simp only; rw [HVL.out]; rfl];exact ⟨rfl,rfl,hG6.out.trans hg⟩
         | ok vt r3 =>
          rw [hvl] at hcall;have HVL:=Lib.hid hvl;clear hvl;have HCL:=Lib.hid hcall;clear hcall hR6;go_wp2_with fail
          refine HCL.out.mono ?_
          intro e w7 hO;obtain ⟨rfl,hR7,hg7⟩:Goes (.string (bs vt)) b s r3 ov w6 e w7:=hO;have hG7:=Lib.hid (hG6.out.trans hg7);have hO7:=Lib.hid (hO6.out.keptR hg7 hlt0);have HR7:=Lib.hid hR7;have hsz7:=hG7.out.size
          have hat:attrR acc l1 = .ok (nm,vt) r3:=by
           unfold attrR; rw [HNM.out]; simp only [Res.bind]; rw [if_neg (by rw [HNO.out]; simp),HWT.out]; simp only; rw [HVL.out]; rfl
          have HAT:=Lib.hid hat;have hl5:=attrR_less hat;clear hg7 HCL hR7 hat;go_wp2_with (at_builtin; refine wpList_append_slice _ rfl _ _ 29 rfl w.heap.size 139 Tryz.underlying29 info_attr rfl (by decide) atC_len (.slice ao acc.length cap) acc rfl (hO7.out.alloc _) _ [(nm,vt)] rfl (sliceLit atC_len w7 [(nm,vt)] _ _ 1 rfl rfl (by simp [maxLen])) (fun y _=>atC_one) (by simp; omega) (by decide) (by simp; omega) ?_; intro v8 w8 hown8 hgrow8 hloc8)
          have hb8:=((Below.refl w.heap.size w7).alloc hsz7 (.cells (([(nm,vt)]:List At2).flatMap atC).toArray 139)).grown hgrow8 (by simp; omega) (fun k hk=>(hO7.out.lt k hk).1)
          have hnew:Atts w w8 b s ov v8 l r3 (acc ++ [(nm,vt)]) (f - 1):=by
           refine ⟨HR7.out.belowB hb8 hlt0,grown_below hG7.out hb8 (Nat.le_refl _),hown8,?_,?_,?_⟩
           · rw [HF.out,HAT.out]; simp only
             obtain ⟨f',rfl⟩ : ∃ f',f=f'+1:=⟨f - 1,by have:=HL.out.fuel; omega⟩;rfl
           · have:=HL.out.fuel; omega
           · have:=HL.out.len; simp; omega
          go_wp2
          go_roundw
          case rel=>exact ⟨_,_,_,hnew⟩
          case measure =>
           rw [HL.out.rd.place,hnew.rd.place];have:=pos_add HL.out.rd.suf
           have:=pos_add hnew.rd.suf
           omega
structure TkM where
 t:Tk
 av:Value
 off:Int
 line:Int
 col:Int
def tkC (x:TkM):List Value:=[.int .i64 x.t.kind,.string (bs x.t.name),x.av,.string (bs x.t.text),.int .i64 x.off,.int .i64 x.line,.int .i64 x.col]
theorem tkC_len (x:TkM):(tkC x).length=7:=rfl
theorem info_token:(Tryz.prog.info? 68).map (fun i=>(i.zero,i.size,i.bytes))=some (some (.agg #[.int .i64 0,.string ⟨#[]⟩,.slice none 0 0,.string ⟨#[]⟩,.int .i64 0,.int .i64 0,.int .i64 0]),7,88):=by kernel_rfl
structure Toks (w:World) (b:Nat) (s:S) (l:Bs) (ov:Value) (L:List TkM):Prop where
 rd:Rd w b s l ov
 own:Owns (b+1) 68 7 tkC w ov L
 att : ∀ x ∈ L,Owns (b+1) 139 2 atC w x.av x.t.attrs
def OutT (b:Nat) (s:S) (p:Nat) (L:List TkM) (w:World):Res Tk→Ending→World→Prop
 | .ok t r=>fun e w'=>e = .returned (.tuple #[]) ∧ ∃ ov av,Toks w' b s r ov (L ++ [⟨t,av,p,0,0⟩])∧Below b w w'
 | .bad e r=>fun x w'=>x = .panicked [{ v:=faultV e (pos s r),recovered:=false }]∧Below b w w'
theorem Toks.kept {w w':World} {b:Nat} {s:S} {l r:Bs} {ov:Value} {L:List TkM} (h:Toks w b s l ov L) (hg:w.grownBy w' (some b)) (hr:Rd w' b s r ov):Toks w' b s r ov L :=
 ⟨hr,h.own.keptR hg (by omega),fun x hx=>(h.att x hx).keptR hg (by omega)⟩
theorem Toks.push {w W3 w8:World} {b:Nat} {s:S} {r:Bs} {ov v:Value} {L:List TkM} {x:TkM} {o:Obj} (hT:Toks W3 b s r ov L) (hG:w.grownBy W3 (some b)) (hlt:b<w.heap.size) (hav:Owns (b+1) 139 2 atC W3 x.av x.t.attrs)
    (hg:((W3.alloc o).drew).grownBy w8 ov.ownBlock) (hown:Owns (b+1) 68 7 tkC w8 v (L ++ [x])) :
    Toks (w8.setCell ⟨b,2,none⟩ v) b s r v (L ++ [x])∧Below b w (w8.setCell ⟨b,2,none⟩ v):=by
 have hW:=hG.size;have hne:some b≠ov.ownBlock:=fun e=>by have:=(hT.own.lt b e.symm).1; omega
 have hbx:Box w8 b [.string s,.int .i64 (pos s r:Nat),ov]:=(hT.rd.box.alloc o).drew.grown hg hne;refine ⟨⟨⟨hbx.set 2 v,hT.rd.suf⟩,hown.keptR (setCell_grown w8 b 2 v) (by omega),fun y hy=>?_⟩,?_⟩
 · have h1:Owns (b+1) 139 2 atC W3 y.av y.t.attrs:=by
    rcases List.mem_append.1 hy with h | h
    · exact hT.att y h
    · simp at h; subst h; exact hav
   have h2:Owns (b+1) 139 2 atC ((W3.alloc o).drew) y.av y.t.attrs:=(h1.alloc o).drew;exact (h2.kept hg (own_types h1 hT.own (by decide))).keptR (setCell_grown w8 b 2 v) (by omega)
 · refine ⟨hg.os.trans hG.os,hg.tape.trans hG.tape,hg.output.trans hG.output,?_,fun k hk=>?_⟩
   · have:=hg.size
     simp [World.setCell] at this ⊢; omega
   · have h1:(w8.setCell ⟨b,2,none⟩ v).heap[k]? = w8.heap[k]?:=Below.heap_setCell w8 ⟨b,2,none⟩ v k (by simp; omega)
     have h2:w8.heap[k]? = ((W3.alloc o).drew).heap[k]?:=hg.block k (by simp; omega) (fun e=>by have:=(hT.own.lt k e.symm).1; omega);have h3:((W3.alloc o).drew).heap[k]? = W3.heap[k]?:=Below.heap_alloc W3 o k (by omega);rw [h1,h2,h3];exact hG.block k (by omega) (by simp; omega)
theorem grown_set {w x:World} {row:Option Nat} (h:w.grownBy x row) {k:Nat} (hk:w.heap.size≤k) (j:Nat) (v:Value):w.grownBy (x.setCell ⟨k,j,none⟩ v) row :=
 ⟨h.os,h.tape,h.output,by simpa [World.setCell] using h.size,fun i hi hne=>(Below.heap_setCell x ⟨k,j,none⟩ v i (by simp; omega)).trans (h.block i hi hne)⟩
theorem Rd.setOther {w:World} {b:Nat} {s:S} {l:Bs} {ov:Value} (h:Rd w b s l ov) {k:Nat} (hk:k≠b) (j:Nat) (v:Value):Rd (w.setCell ⟨k,j,none⟩ v) b s l ov :=
 ⟨h.box.grownB (setCell_grown w k j v) (Ne.symm hk),h.suf⟩
set_option maxRecDepth 100000 in
set_option maxHeartbeats 8000000 in
theorem tok_note (b:Nat) (s:S) (l:Bs) (ao:Option Addr) (cap:Nat) (L:List TkM) (m:Int) (w:World) (h:Toks w b s l (.slice ao L.length cap) L) (hs:s.size≤65536) (hm:w.cell? ⟨0,0,none⟩=some (.int .i64 m)) (hL:L.length≤1000000)
    (hyes:sNote.isPrefixOf l=true) :
    Calls Tryz.prog 53 #[.pointer (some ⟨b,0,none⟩)] w (OutT b s (pos s l) L w ((plain eNote (l.drop 4)).map fun t=>⟨5,[],[],t⟩)):=by
 have hlt0:=h.rd.box.lt;have c1:=h.rd.c1;have H0:=Lib.hid h;have hs2:s.size≤1000000:=by omega
 have HM:=Lib.hid hm;have hp:=pos_add h.rd.suf;have hpb:(pos s l:Int)≤65536:=by omega
 have HA:Hid (∀ w,Rd w b s l (.slice ao L.length cap)→Calls Tryz.prog 80 #[.pointer (some ⟨b,0,none⟩),.string ⟨#[60,33,45,45]⟩] w (Qt (.bool true) w)):=fun w h=>by
  have:=has_pre b s l (.slice ao L.length cap) ⟨#[60,33,45,45]⟩ w h
  rw [show (⟨#[60,33,45,45]⟩:S).data.toList.isPrefixOf l=true from hyes] at this; exact this
 have hlen:sNote.length≤l.length:=(List.isPrefixOf_iff_prefix.1 hyes).length_le;clear hyes
 have HU:Hid (∀ w,Rd w b s l (.slice ao L.length cap)→w.cell? ⟨0,0,none⟩=some (.int .i64 m)→Calls Tryz.prog 81 #[.pointer (some ⟨b,0,none⟩),.string ⟨#[60,33,45,45]⟩,.string ⟨#[45,45,62]⟩] w (Out (fun t=>.string (bs t)) b s (.slice ao L.length cap) w (plain eNote (l.drop 4)))):=fun w h hm =>
  until_any b s ⟨#[60,33,45,45]⟩ ⟨#[45,45,62]⟩ l (l.drop 4) (.slice ao L.length cap) m w h rfl hlen hs2 hm (by simp) (by decide)
 clear h hm;have hR:Rd (w.alloc (.cells #[.int .i64 0,.string ⟨#[]⟩,.slice none 0 0,.string ⟨#[]⟩,.int .i64 (pos s l),.int .i64 0,.int .i64 0] 68)) b s l (.slice ao L.length cap):=H0.out.rd.below ((Below.refl _ _).alloc (Nat.le_refl _) _);go_enter Tryz.func53,Tryz.ntmps53
 go_wp2_with fail
 refine Calls.world ?_
 intro W hW;have hx:Box W w.heap.size [.int .i64 0,.string ⟨#[]⟩,.slice none 0 0,.string ⟨#[]⟩,.int .i64 (pos s l),.int .i64 0,.int .i64 0]:=by rw [hW]; exact Box.new w _ _ _ rfl
 have hG:w.grownBy W (some b):=by rw [hW]; exact World.grownBy_alloc _ _ _
 rw [← hW] at hR;have hm:W.cell? ⟨0,0,none⟩=some (.int .i64 m):=by rw [hW,World.cell?_alloc_lt _ _ _ (by simp; omega)]; exact HM.out
 clear hW;clear c1;refine (HA.out W hR).mono ?_
 rintro e w1 ⟨rfl,n0,rfl⟩;have hcall:=HU.out (W.drewN n0) (hR.drewN _) hm;cases hpl:plain eNote (l.drop 4) with
 | bad x r =>
  rw [hpl] at hcall;have HP:=Lib.hid hpl;clear hpl;have HCL:=Lib.hid hcall;clear hcall hR hx;go_wp2_with fail
  refine HCL.out.mono ?_
  intro e w2 hO;obtain ⟨rfl,hg⟩:Bad x s r b _ e w2:=hO;go_wp2
  rw [HP.out];exact ⟨rfl,rfl,below_grown ((hG.trans (grownN _ _ _)).trans hg) (by omega)⟩
 | ok t r =>
  rw [hpl] at hcall;have HP:=Lib.hid hpl;clear hpl;have HCL:=Lib.hid hcall;clear hcall;go_wp2_with fail
  refine HCL.out.mono ?_
  intro e w2 hO;obtain ⟨rfl,hR2,hg⟩:Goes (.string (bs t)) b s r (.slice ao L.length cap) _ e w2:=hO;have hx2:=(hx.drewN n0).grownB hg (by omega);have hG2:=(hG.trans (grownN _ n0 _)).trans hg;have q0:=hx2.cell 0 _ rfl;have q3:=hx2.cell 3 _ rfl;have qf0:=hx2.free 0;have qf3:=hx2.free 3;have qlt:=hx2.lt;have HX2:=Lib.hid hx2;have HG2:=Lib.hid hG2;have HR2:=Lib.hid hR2;clear hx hx2 hg hG hG2 hR hR2 hm HCL;go_wp2
  refine wp_world ?_
  intro W3 hW3;have hx3:Box W3 w.heap.size [.int .i64 5,.string ⟨#[]⟩,.slice none 0 0,.string (bs t),.int .i64 (pos s l),.int .i64 0,.int .i64 0]:=by rw [hW3]; exact (HX2.out.set 0 _).set 3 _
  have hR3:Rd W3 b s r (.slice ao L.length cap):=by rw [hW3]; exact (HR2.out.setOther (by omega) _ _).setOther (by omega) _ _
  have hG3:w.grownBy W3 (some b):=by rw [hW3]; exact grown_set (grown_set HG2.out (Nat.le_refl _) _ _) (Nat.le_refl _) _ _
  have HAV:Hid (Owns (b+1) 139 2 atC W3 (.slice none 0 0) ([]:List At2)):=Owns.nil;clear hW3 HX2 HG2 HR2 q0 q3 qf0 qf3 qlt;have c2:=hR3.c2;have f2:=hR3.box.free 2;have hlt3:=hR3.box.lt;have t0:=hx3.cell 0 _ rfl;have t1:=hx3.cell 1 _ rfl;have t2:=hx3.cell 2 _ rfl;have t3:=hx3.cell 3 _ rfl;have t4:=hx3.cell 4 _ rfl;have t5:=hx3.cell 5 _ rfl;have t6:=hx3.cell 6 _ rfl;have tlt:=hx3.lt;have HT3:=Lib.hid (H0.out.kept hG3 hR3);have HR3:=Lib.hid hR3;have HG3:=Lib.hid hG3;clear hx3 hR3 hG3;have hne8:Hid (some b≠(Value.slice ao L.length cap).ownBlock):=fun e=>by have:=(HT3.out.own.lt b e.symm).1; omega
  have hbx8:Hid (Box ((W3.alloc (.cells (tkC ⟨⟨5,[],[],t⟩,.slice none 0 0,pos s l,0,0⟩).toArray 68)).drew) b [.string s,.int .i64 (pos s r:Nat),.slice ao L.length cap]):=(HR3.out.box.alloc _).drew;have hnw : ∀ j u,(tkC ⟨⟨5,[],[],t⟩,.slice none 0 0,pos s l,0,0⟩)[j]? = some u→((W3.alloc (.cells (tkC ⟨⟨5,[],[],t⟩,.slice none 0 0,pos s l,0,0⟩).toArray 68)).drew).cell? ⟨W3.heap.size,j,none⟩=some u:=fun j u hu=>(Box.new W3 (tkC ⟨⟨5,[],[],t⟩,.slice none 0 0,pos s l,0,0⟩) 68 _ rfl).cell j u hu;have hco : ∀ u ∈ tkC ⟨⟨5,[],[],t⟩,.slice none 0 0,pos s l,0,0⟩,u.oneCell'=true:=by intro u hu; simp [tkC] at hu; rcases hu with rfl | rfl | rfl | rfl | rfl | rfl | rfl <;> rfl
  have HNW:=Lib.hid hnw;have HCO:=Lib.hid hco;have hown4:=Lib.hid ((HT3.out.own.alloc (.cells (tkC ⟨⟨5,[],[],t⟩,.slice none 0 0,pos s l,0,0⟩).toArray 68)).drew);have hbl:Hid ((L.length+1)*88≤140737488355328):=by show _≤_; omega
  have hbs:Hid (b+1≤((W3.alloc (.cells (tkC ⟨⟨5,[],[],t⟩,.slice none 0 0,pos s l,0,0⟩).toArray 68)).drew).heap.size):=by show _≤_; simp; omega
  have hsz4:Hid (((W3.alloc (.cells (tkC ⟨⟨5,[],[],t⟩,.slice none 0 0,pos s l,0,0⟩).toArray 68)).drew).heap.size=W3.heap.size+1):=by show _=_; simp
  clear hnw hco;go_region_law (first | (refine step_append_one rfl (.tmp 110) (.tmp 112) 60 rfl (b+1) 68 Tryz.underlying60 info_token rfl (by decide) tkC_len (.slice ao L.length cap) L (by simp [Act.eval]) hown4.out W3.heap.size ⟨⟨5,[],[],t⟩,.slice none 0 0,pos s l,0,0⟩ (by simp [Act.eval]) HNW.out HCO.out hbl.out (by decide) hbs.out (W3.heap.size+1) hsz4.out ?_; intro g8 cap8 w8 hown8 hgrow8 hat8 hlt8; have hb9:=Lib.hid (hbx8.out.grown hgrow8 hne8.out); have e2:=hb9.out.cell 2 _ rfl; have ef2:=hb9.out.free 2; have el2:=hb9.out.lt; have ho9:=Lib.hid hown8; have hg9:=Lib.hid hgrow8; clear hown8 hgrow8 hat8))
  all_goals
   go_end0
   rw [HP.out];obtain ⟨h1,h2⟩:=HT3.out.push HG3.out hlt0 (x:=⟨⟨5,[],[],t⟩,.slice none 0 0,pos s l,0,0⟩) HAV.out hg9.out ho9.out;exact ⟨rfl,_,_,h1,h2⟩
set_option maxRecDepth 100000 in
set_option maxHeartbeats 8000000 in
theorem tok_data (b:Nat) (s:S) (l:Bs) (ao:Option Addr) (cap:Nat) (L:List TkM) (m:Int) (w:World) (h:Toks w b s l (.slice ao L.length cap) L) (hs:s.size≤65536) (hm:w.cell? ⟨0,0,none⟩=some (.int .i64 m)) (hL:L.length≤1000000)
    (hno:sNote.isPrefixOf l=false) (hyes:sData.isPrefixOf l=true) :
    Calls Tryz.prog 53 #[.pointer (some ⟨b,0,none⟩)] w (OutT b s (pos s l) L w ((plain eData (l.drop 9)).map fun t=>⟨4,[],[],t⟩)):=by
 have hlt0:=h.rd.box.lt;have c1:=h.rd.c1;have H0:=Lib.hid h;have hs2:s.size≤1000000:=by omega
 have HM:=Lib.hid hm;have hp:=pos_add h.rd.suf;have hpb:(pos s l:Int)≤65536:=by omega
 have HA:Hid (∀ w,Rd w b s l (.slice ao L.length cap)→Calls Tryz.prog 80 #[.pointer (some ⟨b,0,none⟩),.string ⟨#[60,33,45,45]⟩] w (Qt (.bool false) w)):=fun w h=>by
  have:=has_pre b s l (.slice ao L.length cap) ⟨#[60,33,45,45]⟩ w h
  rw [show (⟨#[60,33,45,45]⟩:S).data.toList.isPrefixOf l=false from hno] at this; exact this
 have HB:Hid (∀ w,Rd w b s l (.slice ao L.length cap)→Calls Tryz.prog 80 #[.pointer (some ⟨b,0,none⟩),.string ⟨#[60,33,91,67,68,65,84,65,91]⟩] w (Qt (.bool true) w)):=fun w h=>by
  have:=has_pre b s l (.slice ao L.length cap) ⟨#[60,33,91,67,68,65,84,65,91]⟩ w h
  rw [show (⟨#[60,33,91,67,68,65,84,65,91]⟩:S).data.toList.isPrefixOf l=true from hyes] at this; exact this
 have hlen:sData.length≤l.length:=(List.isPrefixOf_iff_prefix.1 hyes).length_le;clear hyes hno
 have HU:Hid (∀ w,Rd w b s l (.slice ao L.length cap)→w.cell? ⟨0,0,none⟩=some (.int .i64 m)→Calls Tryz.prog 81 #[.pointer (some ⟨b,0,none⟩),.string ⟨#[60,33,91,67,68,65,84,65,91]⟩,.string ⟨#[93,93,62]⟩] w (Out (fun t=>.string (bs t)) b s (.slice ao L.length cap) w (plain eData (l.drop 9)))):=fun w h hm =>
  until_any b s ⟨#[60,33,91,67,68,65,84,65,91]⟩ ⟨#[93,93,62]⟩ l (l.drop 9) (.slice ao L.length cap) m w h rfl hlen hs2 hm (by simp) (by decide)
 clear h hm;have hR:Rd (w.alloc (.cells #[.int .i64 0,.string ⟨#[]⟩,.slice none 0 0,.string ⟨#[]⟩,.int .i64 (pos s l),.int .i64 0,.int .i64 0] 68)) b s l (.slice ao L.length cap):=H0.out.rd.below ((Below.refl _ _).alloc (Nat.le_refl _) _);go_enter Tryz.func53,Tryz.ntmps53
 go_wp2_with fail
 refine Calls.world ?_
 intro W hW;have hx:Box W w.heap.size [.int .i64 0,.string ⟨#[]⟩,.slice none 0 0,.string ⟨#[]⟩,.int .i64 (pos s l),.int .i64 0,.int .i64 0]:=by rw [hW]; exact Box.new w _ _ _ rfl
 have hG:w.grownBy W (some b):=by rw [hW]; exact World.grownBy_alloc _ _ _
 rw [← hW] at hR;have hm:W.cell? ⟨0,0,none⟩=some (.int .i64 m):=by rw [hW,World.cell?_alloc_lt _ _ _ (by simp; omega)]; exact HM.out
 clear hW;clear c1;refine (HA.out W hR).mono ?_
 rintro e w1 ⟨rfl,n0,rfl⟩;go_wp2_with fail
 refine (HB.out _ (hR.drewN _)).mono ?_
 rintro e w1 ⟨rfl,n1,rfl⟩;have hcall:=HU.out (W.drewN (n0+n1)) (hR.drewN _) hm;cases hpl:plain eData (l.drop 9) with
 | bad x r =>
  rw [hpl] at hcall;have HP:=Lib.hid hpl;clear hpl;have HCL:=Lib.hid hcall;clear hcall hR hx;go_wp2_with fail
  refine HCL.out.mono ?_
  intro e w2 hO;obtain ⟨rfl,hg⟩:Bad x s r b _ e w2:=hO;go_wp2
  rw [HP.out];exact ⟨rfl,rfl,below_grown ((hG.trans (grownN _ _ _)).trans hg) (by omega)⟩
 | ok t r =>
  rw [hpl] at hcall;have HP:=Lib.hid hpl;clear hpl;have HCL:=Lib.hid hcall;clear hcall;go_wp2_with fail
  refine HCL.out.mono ?_
  intro e w2 hO;obtain ⟨rfl,hR2,hg⟩:Goes (.string (bs t)) b s r (.slice ao L.length cap) _ e w2:=hO;have hx2:=(hx.drewN (n0+n1)).grownB hg (by omega);have hG2:=(hG.trans (grownN _ (n0+n1) _)).trans hg;have q0:=hx2.cell 0 _ rfl;have q3:=hx2.cell 3 _ rfl;have qf0:=hx2.free 0;have qf3:=hx2.free 3;have qlt:=hx2.lt;have HX2:=Lib.hid hx2;have HG2:=Lib.hid hG2;have HR2:=Lib.hid hR2;clear hx hx2 hg hG hG2 hR hR2 hm HCL;go_wp2
  refine wp_world ?_
  intro W3 hW3;have hx3:Box W3 w.heap.size [.int .i64 4,.string ⟨#[]⟩,.slice none 0 0,.string (bs t),.int .i64 (pos s l),.int .i64 0,.int .i64 0]:=by rw [hW3]; exact (HX2.out.set 0 _).set 3 _
  have hR3:Rd W3 b s r (.slice ao L.length cap):=by rw [hW3]; exact (HR2.out.setOther (by omega) _ _).setOther (by omega) _ _
  have hG3:w.grownBy W3 (some b):=by rw [hW3]; exact grown_set (grown_set HG2.out (Nat.le_refl _) _ _) (Nat.le_refl _) _ _
  have HAV:Hid (Owns (b+1) 139 2 atC W3 (.slice none 0 0) ([]:List At2)):=Owns.nil;clear hW3 HX2 HG2 HR2 q0 q3 qf0 qf3 qlt;have c2:=hR3.c2;have f2:=hR3.box.free 2;have hlt3:=hR3.box.lt;have t0:=hx3.cell 0 _ rfl;have t1:=hx3.cell 1 _ rfl;have t2:=hx3.cell 2 _ rfl;have t3:=hx3.cell 3 _ rfl;have t4:=hx3.cell 4 _ rfl;have t5:=hx3.cell 5 _ rfl;have t6:=hx3.cell 6 _ rfl;have tlt:=hx3.lt;have HT3:=Lib.hid (H0.out.kept hG3 hR3);have HR3:=Lib.hid hR3;have HG3:=Lib.hid hG3;clear hx3 hR3 hG3;have hne8:Hid (some b≠(Value.slice ao L.length cap).ownBlock):=fun e=>by have:=(HT3.out.own.lt b e.symm).1; omega
  have hbx8:Hid (Box ((W3.alloc (.cells (tkC ⟨⟨4,[],[],t⟩,.slice none 0 0,pos s l,0,0⟩).toArray 68)).drew) b [.string s,.int .i64 (pos s r:Nat),.slice ao L.length cap]):=(HR3.out.box.alloc _).drew;have hnw : ∀ j u,(tkC ⟨⟨4,[],[],t⟩,.slice none 0 0,pos s l,0,0⟩)[j]? = some u→((W3.alloc (.cells (tkC ⟨⟨4,[],[],t⟩,.slice none 0 0,pos s l,0,0⟩).toArray 68)).drew).cell? ⟨W3.heap.size,j,none⟩=some u:=fun j u hu=>(Box.new W3 (tkC ⟨⟨4,[],[],t⟩,.slice none 0 0,pos s l,0,0⟩) 68 _ rfl).cell j u hu;have hco : ∀ u ∈ tkC ⟨⟨4,[],[],t⟩,.slice none 0 0,pos s l,0,0⟩,u.oneCell'=true:=by intro u hu; simp [tkC] at hu; rcases hu with rfl | rfl | rfl | rfl | rfl | rfl | rfl <;> rfl
  have HNW:=Lib.hid hnw;have HCO:=Lib.hid hco;have hown4:=Lib.hid ((HT3.out.own.alloc (.cells (tkC ⟨⟨4,[],[],t⟩,.slice none 0 0,pos s l,0,0⟩).toArray 68)).drew);have hbl:Hid ((L.length+1)*88≤140737488355328):=by show _≤_; omega
  have hbs:Hid (b+1≤((W3.alloc (.cells (tkC ⟨⟨4,[],[],t⟩,.slice none 0 0,pos s l,0,0⟩).toArray 68)).drew).heap.size):=by show _≤_; simp; omega
  have hsz4:Hid (((W3.alloc (.cells (tkC ⟨⟨4,[],[],t⟩,.slice none 0 0,pos s l,0,0⟩).toArray 68)).drew).heap.size=W3.heap.size+1):=by show _=_; simp
  clear hnw hco;go_region_law (first | (refine step_append_one rfl (.tmp 110) (.tmp 112) 60 rfl (b+1) 68 Tryz.underlying60 info_token rfl (by decide) tkC_len (.slice ao L.length cap) L (by simp [Act.eval]) hown4.out W3.heap.size ⟨⟨4,[],[],t⟩,.slice none 0 0,pos s l,0,0⟩ (by simp [Act.eval]) HNW.out HCO.out hbl.out (by decide) hbs.out (W3.heap.size+1) hsz4.out ?_; intro g8 cap8 w8 hown8 hgrow8 hat8 hlt8; have hb9:=Lib.hid (hbx8.out.grown hgrow8 hne8.out); have e2:=hb9.out.cell 2 _ rfl; have ef2:=hb9.out.free 2; have el2:=hb9.out.lt; have ho9:=Lib.hid hown8; have hg9:=Lib.hid hgrow8; clear hown8 hgrow8 hat8))
  all_goals
   go_end0
   rw [HP.out];obtain ⟨h1,h2⟩:=HT3.out.push HG3.out hlt0 (x:=⟨⟨4,[],[],t⟩,.slice none 0 0,pos s l,0,0⟩) HAV.out hg9.out ho9.out;exact ⟨rfl,_,_,h1,h2⟩
set_option maxRecDepth 100000 in
set_option maxHeartbeats 8000000 in
theorem tok_head (b:Nat) (s:S) (l:Bs) (ao:Option Addr) (cap:Nat) (L:List TkM) (m:Int) (w:World) (h:Toks w b s l (.slice ao L.length cap) L) (hs:s.size≤65536) (hm:w.cell? ⟨0,0,none⟩=some (.int .i64 m)) (hL:L.length≤1000000)
    (hno:sNote.isPrefixOf l=false) (hno2:sData.isPrefixOf l=false) (hp0:pos s l=0) (hyes2:isHead l=true) :
    Calls Tryz.prog 53 #[.pointer (some ⟨b,0,none⟩)] w (OutT b s (pos s l) L w ((plain eHead (l.drop 5)).map fun t=>⟨6,[],[],t⟩)):=by
 have hlt0:=h.rd.box.lt;have c1:=h.rd.c1;have H0:=Lib.hid h;have hs2:s.size≤1000000:=by omega
 have HM:=Lib.hid hm;have hp:=pos_add h.rd.suf;have hpb:(pos s l:Int)≤65536:=by omega
 have hyes:sHead.isPrefixOf l=true:=by unfold isHead at hyes2; rw [Bool.and_eq_true] at hyes2; exact hyes2.1
 have HA:Hid (∀ w,Rd w b s l (.slice ao L.length cap)→Calls Tryz.prog 80 #[.pointer (some ⟨b,0,none⟩),.string ⟨#[60,33,45,45]⟩] w (Qt (.bool false) w)):=fun w h=>by
  have:=has_pre b s l (.slice ao L.length cap) ⟨#[60,33,45,45]⟩ w h
  rw [show (⟨#[60,33,45,45]⟩:S).data.toList.isPrefixOf l=false from hno] at this; exact this
 have HB:Hid (∀ w,Rd w b s l (.slice ao L.length cap)→Calls Tryz.prog 80 #[.pointer (some ⟨b,0,none⟩),.string ⟨#[60,33,91,67,68,65,84,65,91]⟩] w (Qt (.bool false) w)):=fun w h=>by
  have:=has_pre b s l (.slice ao L.length cap) ⟨#[60,33,91,67,68,65,84,65,91]⟩ w h
  rw [show (⟨#[60,33,91,67,68,65,84,65,91]⟩:S).data.toList.isPrefixOf l=false from hno2] at this; exact this
 have HIH:Hid (∀ w,Rd w b s l (.slice ao L.length cap)→Calls Tryz.prog 82 #[.pointer (some ⟨b,0,none⟩)] w (Qt (.bool true) w)):=fun w h=>by
  have:=isHead_any b s l (.slice ao L.length cap) w h hs2
  rw [show isHead l=true from hyes2] at this; exact this
 have hlen:sHead.length≤l.length:=(List.isPrefixOf_iff_prefix.1 hyes).length_le;clear hyes hyes2 hno hno2
 have HU:Hid (∀ w,Rd w b s l (.slice ao L.length cap)→w.cell? ⟨0,0,none⟩=some (.int .i64 m)→Calls Tryz.prog 81 #[.pointer (some ⟨b,0,none⟩),.string ⟨#[60,63,120,109,108]⟩,.string ⟨#[63,62]⟩] w (Out (fun t=>.string (bs t)) b s (.slice ao L.length cap) w (plain eHead (l.drop 5)))):=fun w h hm =>
  until_any b s ⟨#[60,63,120,109,108]⟩ ⟨#[63,62]⟩ l (l.drop 5) (.slice ao L.length cap) m w h rfl hlen hs2 hm (by simp) (by decide)
 have e0:(((pos s l:Nat):Int) == 0)=true:=by rw [hp0]; rfl
 clear hp0;clear h hm;have hR:Rd (w.alloc (.cells #[.int .i64 0,.string ⟨#[]⟩,.slice none 0 0,.string ⟨#[]⟩,.int .i64 (pos s l),.int .i64 0,.int .i64 0] 68)) b s l (.slice ao L.length cap):=H0.out.rd.below ((Below.refl _ _).alloc (Nat.le_refl _) _);go_enter Tryz.func53,Tryz.ntmps53
 go_wp2_with fail
 refine Calls.world ?_
 intro W hW;have hx:Box W w.heap.size [.int .i64 0,.string ⟨#[]⟩,.slice none 0 0,.string ⟨#[]⟩,.int .i64 (pos s l),.int .i64 0,.int .i64 0]:=by rw [hW]; exact Box.new w _ _ _ rfl
 have hG:w.grownBy W (some b):=by rw [hW]; exact World.grownBy_alloc _ _ _
 rw [← hW] at hR;have hm:W.cell? ⟨0,0,none⟩=some (.int .i64 m):=by rw [hW,World.cell?_alloc_lt _ _ _ (by simp; omega)]; exact HM.out
 clear hW;clear c1;have c1:=hR.c1;refine (HA.out W hR).mono ?_
 rintro e w1 ⟨rfl,n0,rfl⟩;go_wp2_with fail
 refine (HB.out _ (hR.drewN _)).mono ?_
 rintro e w1 ⟨rfl,n1,rfl⟩;go_wp2_with fail
 refine (HIH.out _ (hR.drewN _)).mono ?_
 rintro e w1 ⟨rfl,n2,rfl⟩;have hcall:=HU.out (W.drewN (n0+n1+n2)) (hR.drewN _) hm;cases hpl:plain eHead (l.drop 5) with
 | bad x r =>
  rw [hpl] at hcall;have HP:=Lib.hid hpl;clear hpl;have HCL:=Lib.hid hcall;clear hcall hR hx;go_wp2_with fail
  refine HCL.out.mono ?_
  intro e w2 hO;obtain ⟨rfl,hg⟩:Bad x s r b _ e w2:=hO;go_wp2
  rw [HP.out];exact ⟨rfl,rfl,below_grown ((hG.trans (grownN _ _ _)).trans hg) (by omega)⟩
 | ok t r =>
  rw [hpl] at hcall;have HP:=Lib.hid hpl;clear hpl;have HCL:=Lib.hid hcall;clear hcall;go_wp2_with fail
  refine HCL.out.mono ?_
  intro e w2 hO;obtain ⟨rfl,hR2,hg⟩:Goes (.string (bs t)) b s r (.slice ao L.length cap) _ e w2:=hO;have hx2:=(hx.drewN (n0+n1+n2)).grownB hg (by omega);have hG2:=(hG.trans (grownN _ (n0+n1+n2) _)).trans hg;have q0:=hx2.cell 0 _ rfl;have q3:=hx2.cell 3 _ rfl;have qf0:=hx2.free 0;have qf3:=hx2.free 3;have qlt:=hx2.lt;have HX2:=Lib.hid hx2;have HG2:=Lib.hid hG2;have HR2:=Lib.hid hR2;clear hx hx2 hg hG hG2 hR hR2 hm HCL;go_wp2
  refine wp_world ?_
  intro W3 hW3;have hx3:Box W3 w.heap.size [.int .i64 6,.string ⟨#[]⟩,.slice none 0 0,.string (bs t),.int .i64 (pos s l),.int .i64 0,.int .i64 0]:=by rw [hW3]; exact (HX2.out.set 0 _).set 3 _
  have hR3:Rd W3 b s r (.slice ao L.length cap):=by rw [hW3]; exact (HR2.out.setOther (by omega) _ _).setOther (by omega) _ _
  have hG3:w.grownBy W3 (some b):=by rw [hW3]; exact grown_set (grown_set HG2.out (Nat.le_refl _) _ _) (Nat.le_refl _) _ _
  have HAV:Hid (Owns (b+1) 139 2 atC W3 (.slice none 0 0) ([]:List At2)):=Owns.nil;clear hW3 HX2 HG2 HR2 q0 q3 qf0 qf3 qlt;have c2:=hR3.c2;have f2:=hR3.box.free 2;have hlt3:=hR3.box.lt;have t0:=hx3.cell 0 _ rfl;have t1:=hx3.cell 1 _ rfl;have t2:=hx3.cell 2 _ rfl;have t3:=hx3.cell 3 _ rfl;have t4:=hx3.cell 4 _ rfl;have t5:=hx3.cell 5 _ rfl;have t6:=hx3.cell 6 _ rfl;have tlt:=hx3.lt;have HT3:=Lib.hid (H0.out.kept hG3 hR3);have HR3:=Lib.hid hR3;have HG3:=Lib.hid hG3;clear hx3 hR3 hG3;have hne8:Hid (some b≠(Value.slice ao L.length cap).ownBlock):=fun e=>by have:=(HT3.out.own.lt b e.symm).1; omega
  have hbx8:Hid (Box ((W3.alloc (.cells (tkC ⟨⟨6,[],[],t⟩,.slice none 0 0,pos s l,0,0⟩).toArray 68)).drew) b [.string s,.int .i64 (pos s r:Nat),.slice ao L.length cap]):=(HR3.out.box.alloc _).drew;have hnw : ∀ j u,(tkC ⟨⟨6,[],[],t⟩,.slice none 0 0,pos s l,0,0⟩)[j]? = some u→((W3.alloc (.cells (tkC ⟨⟨6,[],[],t⟩,.slice none 0 0,pos s l,0,0⟩).toArray 68)).drew).cell? ⟨W3.heap.size,j,none⟩=some u:=fun j u hu=>(Box.new W3 (tkC ⟨⟨6,[],[],t⟩,.slice none 0 0,pos s l,0,0⟩) 68 _ rfl).cell j u hu;have hco : ∀ u ∈ tkC ⟨⟨6,[],[],t⟩,.slice none 0 0,pos s l,0,0⟩,u.oneCell'=true:=by intro u hu; simp [tkC] at hu; rcases hu with rfl | rfl | rfl | rfl | rfl | rfl | rfl <;> rfl
  have HNW:=Lib.hid hnw;have HCO:=Lib.hid hco;have hown4:=Lib.hid ((HT3.out.own.alloc (.cells (tkC ⟨⟨6,[],[],t⟩,.slice none 0 0,pos s l,0,0⟩).toArray 68)).drew);have hbl:Hid ((L.length+1)*88≤140737488355328):=by show _≤_; omega
  have hbs:Hid (b+1≤((W3.alloc (.cells (tkC ⟨⟨6,[],[],t⟩,.slice none 0 0,pos s l,0,0⟩).toArray 68)).drew).heap.size):=by show _≤_; simp; omega
  have hsz4:Hid (((W3.alloc (.cells (tkC ⟨⟨6,[],[],t⟩,.slice none 0 0,pos s l,0,0⟩).toArray 68)).drew).heap.size=W3.heap.size+1):=by show _=_; simp
  clear hnw hco;go_region_law (first | (refine step_append_one rfl (.tmp 110) (.tmp 112) 60 rfl (b+1) 68 Tryz.underlying60 info_token rfl (by decide) tkC_len (.slice ao L.length cap) L (by simp [Act.eval]) hown4.out W3.heap.size ⟨⟨6,[],[],t⟩,.slice none 0 0,pos s l,0,0⟩ (by simp [Act.eval]) HNW.out HCO.out hbl.out (by decide) hbs.out (W3.heap.size+1) hsz4.out ?_; intro g8 cap8 w8 hown8 hgrow8 hat8 hlt8; have hb9:=Lib.hid (hbx8.out.grown hgrow8 hne8.out); have e2:=hb9.out.cell 2 _ rfl; have ef2:=hb9.out.free 2; have el2:=hb9.out.lt; have ho9:=Lib.hid hown8; have hg9:=Lib.hid hgrow8; clear hown8 hgrow8 hat8))
  all_goals
   go_end0
   rw [HP.out];obtain ⟨h1,h2⟩:=HT3.out.push HG3.out hlt0 (x:=⟨⟨6,[],[],t⟩,.slice none 0 0,pos s l,0,0⟩) HAV.out hg9.out ho9.out;exact ⟨rfl,_,_,h1,h2⟩
def trimB (l:Bs):Bs:=((l.dropWhile cBlank).reverse.dropWhile cBlank).reverse
structure Fr where
 name:Bs
 attrs:List At2
 kids:List Tr
def Fr.tree (f:Fr):Tr:=.mk f.name f.attrs f.kids []
def Fr.add (f:Fr) (t:Tr):Fr:=⟨f.name,f.attrs,f.kids ++ [t]⟩
def addText (s:Bs):List Tr→List Tr
 | []=>[]
 | [.mk n a k x]=>[.mk n a k (x ++ s)]
 | t::u::l=>t::addText s (u::l)
def Fr.more (f:Fr) (s:Bs):Fr:=⟨f.name,f.attrs,addText s f.kids⟩
structure BSt where
 stack:List Fr
 root:Option Tr
 count:Nat
 text:Bool
def st0:BSt:=⟨[],none,0,false⟩
inductive StR where
 | ok (st:BSt)
 | bad (e:Int)
def closeB (f:Fr) (l:List Fr) (root:Option Tr) (count:Nat):BSt :=
 match l with
 | []=>⟨[],some f.tree,count,false⟩
 | g::l=>⟨g.add f.tree::l,root,count,false⟩
def lettersB (st:BSt) (s:Bs):StR :=
 match st.stack with
 | []=>if (trimB s).isEmpty then .ok st else .bad 16
 | f::l =>
  if s.isEmpty then .ok st
  else if st.text then .ok ⟨f.more s::l,st.root,st.count,true⟩
  else if 4096<st.count+1 then .bad 2
  else .ok ⟨f.add (.mk [] [] [] s)::l,st.root,st.count+1,true⟩
def beginB (st:BSt) (t:Tk):StR :=
 if st.root.isSome then .bad 16
 else if 64≤st.stack.length then .bad 2
 else if 4096<st.count+1 then .bad 2
 else .ok ⟨⟨t.name,t.attrs,[]⟩::st.stack,st.root,st.count+1,false⟩
def StR.close:StR→StR
 | .ok ⟨f::l,r,c,_⟩=>.ok (closeB f l r c)
 | x=>x
def endB (st:BSt) (t:Tk):StR :=
 match st.stack with
 | []=>.bad 16
 | f::l=>if f.name=t.name then .ok (closeB f l st.root st.count) else .bad 14
def stepB (st:BSt) (t:Tk):StR :=
 if t.kind=4 then lettersB st t.text
 else if t.kind=1 then beginB st t
 else if t.kind=2 then (beginB st t).close
 else if t.kind=3 then endB st t
 else .ok st
def runB:BSt→List (Tk × Bs)→Res Tr
 | st,[]=>match st.stack with
  | _::_=>.bad 13 []
  | []=>match st.root with
   | some t=>.ok t []
   | none=>.bad 16 []
 | st,(t,r)::l=>match stepB st t with
  | .ok st'=>runB st' l
  | .bad e=>.bad e r
def buildR (l:Bs):Res Tr :=
 match allR l with
 | .ok acc _=>runB st0 acc
 | .bad e r=>.bad e r
def dropBack (m:Bs):Bs:=(m.reverse.dropWhile cBlank).reverse
theorem trimB_eq (l:Bs):trimB l=dropBack (l.dropWhile cBlank):=rfl
theorem drop_span (p:UInt8→Bool) (l:Bs):l.drop (span p l)=l.dropWhile p:=by
 induction l with
 | nil=>rfl
 | cons c l ih =>
  simp only [span,List.dropWhile];cases p c with
  | false=>simp
  | true=>simpa using ih
theorem dropBack_snoc (m:Bs) (c:UInt8):dropBack (m ++ [c])=if cBlank c then dropBack m else m ++ [c]:=by
 unfold dropBack;rw [List.reverse_append,List.reverse_singleton,List.singleton_append,List.dropWhile_cons];cases cBlank c <;> simp
set_option maxHeartbeats 1000000 in
theorem spanBlank_any (s:S) (w:World) (hs:s.size≤9223372036854775807) :
    Calls Tryz.prog 70 #[.string s,.func (.func 71) #[] #[]] w fun e w'=>e = .returned (.int .i64 (span cBlank s.data.toList))∧w=w':=by
 have hsp:=span_le (cBlank) s.data.toList;rw [size_data] at hsp;go_enter Tryz.func70,Tryz.ntmps70
 go_wp2
 go_loop [5] (fun i=>∃ k:Nat,k≤s.size∧i = .int .i64 k∧Hid (span cBlank s.data.toList=k+span cBlank (s.data.toList.drop k))) (fun i=>s.size - (intOf i).toNat)
 case atStart=>exact ⟨0,Nat.zero_le _,rfl,by show _=_; simp⟩
 case round =>
  obtain ⟨k,hk,rfl,H⟩:=hrel;by_cases hlt:k<s.size
  · have HD:=Lib.hid (drop_byte s k hlt)
    cases hp:cBlank s[k]
    all_goals
     have HP:=Lib.hid hp;clear hp;go_wp2_with (go_at_call 71; refine (isBlank_any _ _).mono ?_; rintro e w' ⟨rfl,rfl⟩; rw [HP.out])
    · go_ret
      exact ⟨ret_int (by rw [H.out,HD.out]; simp [span,HP.out]),rfl⟩
    · go_round
      case rel=>exact ⟨k+1,by omega,by go_num,by show _=_; rw [H.out,HD.out]; simp only [span,HP.out,if_true]; omega⟩
      case measure=>simp [intOf]; omega
  · go_wp2
    go_ret
    exact ⟨ret_int (by rw [H.out,List.drop_of_length_le (by rw [size_data]; omega)]; simp [span]),rfl⟩
theorem take_last (s:S) (k:Nat) (h:s.size=k+1):s.data.toList=s.data.toList.take k ++ [s[k]'(by rw [h]; exact Nat.lt_succ_self k)]:=by
 have h0:s.data.toList.drop (k+1)=[]:=List.drop_of_length_le (by rw [size_data]; omega);have h1:s.data.toList.drop k=s[k]::s.data.toList.drop (k+1):=drop_byte s k (by rw [h]; exact Nat.lt_succ_self k);rw [h0] at h1;rw [← h1,List.take_append_drop]
set_option maxHeartbeats 4000000 in
theorem trim_any (s:S) (w:World) (hs:s.size≤1000000000) :
    Calls Tryz.prog 46 #[.string s] w fun e w'=>∃ x:S,e = .returned (.string x)∧x.data.toList=trimB s.data.toList∧w=w':=by
 have hsp:=span_le cBlank s.data.toList;rw [size_data] at hsp
 have HE:Hid (trimB s.data.toList=dropBack ((s.extract (span cBlank s.data.toList) s.size).data.toList)):=by
  show _=_
  rw [ext_trim,trimB_eq,← drop_span,List.take_of_length_le (by simp)]
 have HS:=Lib.hid (spanBlank_any s);generalize span cBlank s.data.toList=n at *;go_enter Tryz.func46,Tryz.ntmps46
 go_wp2_with (go_at_call 70; refine (HS.out _ (by omega)).mono ?_; rintro e w' ⟨rfl,rfl⟩)
 go_loop [0] (fun v=>∃ x:S,v = .string x∧x.size≤s.size∧Hid (trimB s.data.toList=dropBack x.data.toList)) (fun v=>sizeOfV v)
 case atStart=>exact ⟨_,rfl,by simp,HE⟩
 case round =>
  obtain ⟨x,rfl,hx,HX⟩:=hrel;by_cases h0:x.size=0
  · have he:x.toList.isEmpty=true:=by rw [empty_data]; simpa using h0
    have hd:x.data.toList=[]:=List.eq_nil_of_length_eq_zero (by rw [size_data]; exact h0);have HD:=Lib.hid hd;clear hd;go_wp2
    go_ret
    exact ⟨x,rfl,by rw [HX.out,HD.out]; rfl,rfl⟩
  · obtain ⟨k,hk⟩ : ∃ k,x.size=k+1:=⟨x.size - 1,by omega⟩
    have he:x.toList.isEmpty=false:=by rw [empty_data]; simpa using h0
    have HT:=Lib.hid (take_last x k hk);have hkx:k<x.size:=by omega
    cases hp:cBlank x[k]
    all_goals
     have HP:=Lib.hid hp;clear hp;go_wp2_with (go_at_call 71; refine (isBlank_any _ _).mono ?_; rintro e w' ⟨rfl,rfl⟩; rw [HP.out])
    · go_ret
      exact ⟨x,rfl,by rw [HX.out,HT.out,dropBack_snoc,HP.out]; simp,rfl⟩
    · go_round
      case rel=>exact ⟨_,rfl,by simp; omega,by show _=_; rw [HX.out,HT.out,dropBack_snoc,HP.out,if_pos rfl,ext_trim]; simp⟩
      case measure=>simp [sizeOfV]; omega
def two (w:Bs):Bs:=w ++ [91,50,93]
abbrev TrV:=Tr × Value × Value
def nodeC (n:Bs) (av kv:Value) (x:Bs):List Value:=[.string (bs n),av,kv,.string (bs x)]
def trC (x:TrV):List Value:=nodeC x.1.name x.2.1 x.2.2 x.1.text
theorem trC_len (x:TrV):(trC x).length=4:=rfl
def SliceX {α:Type} (n:Nat) (C:α→List Value) (X:Nat→Prop) (w:World) (v:Value) (l:List α):Prop :=
 ∃ ao cap,v = .slice ao l.length cap∧l.length≤cap∧cap≤maxLen∧(ao=none→cap=0) ∧
  ∀ i x,l[i]? = some x → ∃ b o,ao=some ⟨b,o,none⟩∧b<w.heap.size ∧ ¬ X b ∧ ∀ j u,(C x)[j]? = some u→w.cell? ⟨b,o+i*n+j,none⟩=some u
theorem SliceX.slice {α:Type} {n:Nat} {C:α→List Value} {X:Nat→Prop} {w:World} {v:Value} {l:List α} (h:SliceX n C X w v l):SliceOf n C w v l:=by
 obtain ⟨ao,cap,h1,h2,h3,h4,h5⟩:=h;refine ⟨ao,cap,h1,h2,h3,h4,fun i x hx=>?_⟩
 obtain ⟨b,o,e1,e2,-,e3⟩:=h5 i x hx;exact ⟨b,o,e1,e2,e3⟩
theorem SliceOf.toX {α:Type} {n:Nat} {C:α→List Value} {w:World} {v:Value} {l:List α} (h:SliceOf n C w v l):SliceX n C (fun _=>False) w v l:=by
 obtain ⟨ao,cap,h1,h2,h3,h4,h5⟩:=h;refine ⟨ao,cap,h1,h2,h3,h4,fun i x hx=>?_⟩
 obtain ⟨b,o,e1,e2,e3⟩:=h5 i x hx;exact ⟨b,o,e1,e2,id,e3⟩
theorem SliceX.nil {α:Type} {n:Nat} {C:α→List Value} {X:Nat→Prop} {w:World}:SliceX n C X w (.slice none 0 0) ([]:List α) :=
 ⟨none,0,rfl,Nat.le_refl _,Nat.zero_le _,fun _=>rfl,fun i x h=>by simp at h⟩
theorem SliceX.shape {α:Type} {n:Nat} {C:α→List Value} {X:Nat→Prop} {w:World} {v:Value} {l:List α} (h:SliceX n C X w v l) : ∃ ao cap,v = .slice ao l.length cap:=h.slice.shape
theorem Owns.toX {α:Type} {base:Nat} {E:TypeId} {n:Nat} {C:α→List Value} {X:Nat→Prop} {w:World} {v:Value} {l:List α} (h:Owns base E n C w v l) (hC : ∀ x,(C x).length=n) (hX : ∀ g,v.ownBlock=some g → ¬ X g):SliceX n C X w v l:=by
 obtain ⟨ao,cap,rfl,h2,h3,h4,h5⟩:=h.slice hC;refine ⟨ao,cap,rfl,h2,h3,h4,fun i x hx=>?_⟩
 obtain ⟨b,o,e1,e2,e3⟩:=h5 i x hx;subst e1;exact ⟨b,o,rfl,e2,hX b rfl,e3⟩
structure KeptX (X:Nat→Prop) (w w':World):Prop where
 size:w.heap.size≤w'.heap.size
 cell : ∀ k j,k<w.heap.size → ¬ X k→w'.cell? ⟨k,j,none⟩=w.cell? ⟨k,j,none⟩
theorem KeptX.refl (X:Nat→Prop) (w:World):KeptX X w w:=⟨Nat.le_refl _,fun _ _ _ _=>rfl⟩
theorem KeptX.trans {X:Nat→Prop} {w w1 w2:World} (h:KeptX X w w1) (h2:KeptX X w1 w2):KeptX X w w2 :=
 ⟨Nat.le_trans h.size h2.size,fun k j hk hx=>(h2.cell k j (Nat.lt_of_lt_of_le hk h.size) hx).trans (h.cell k j hk hx)⟩
theorem KeptX.below {X:Nat→Prop} {w w':World} (h:Below w.heap.size w w'):KeptX X w w':=⟨h.size,fun k j hk _=>h.cell (p:=⟨k,j,none⟩) hk⟩
theorem KeptX.grown {X:Nat→Prop} {w w':World} {row:Option Nat} (h:w.grownBy w' row) (hx : ∀ g,row=some g→X g):KeptX X w w' :=
 ⟨h.size,fun k j hk hn=>World.cell?_of_block (by exact h.block k hk (fun e=>hn (hx k e.symm)))⟩
theorem SliceX.keep {α:Type} {n:Nat} {C:α→List Value} {X Y:Nat→Prop} {w w':World} {v:Value} {l:List α} (h:SliceX n C X w v l) (hk:KeptX X w w') (hY : ∀ k,k<w.heap.size→Y k→X k):SliceX n C Y w' v l:=by
 obtain ⟨ao,cap,h1,h2,h3,h4,h5⟩:=h;refine ⟨ao,cap,h1,h2,h3,h4,fun i x hx=>?_⟩
 obtain ⟨b,o,e1,e2,e3,e4⟩:=h5 i x hx;exact ⟨b,o,e1,Nat.lt_of_lt_of_le e2 hk.size,fun hy=>e3 (hY b e2 hy),fun j u hu=>(hk.cell b _ e2 e3).trans (e4 j u hu)⟩
inductive NodeX (X:Nat→Prop) (w:World):Tr→Value→Value→Prop where
 | mk {n:Bs} {ats:List At2} {ks:List Tr} {x:Bs} {av kv:Value} (L:List TrV) (att:SliceX 2 atC X w av ats) (his:L.map (·.1)=ks) (own:SliceX 4 trC X w kv L) (kids : ∀ y ∈ L,NodeX X w y.1 y.2.1 y.2.2):NodeX X w (.mk n ats ks x) av kv
theorem NodeX.keep {X Y:Nat→Prop} {w w':World} {t:Tr} {av kv:Value} (h:NodeX X w t av kv) (hk:KeptX X w w') (hY : ∀ k,k<w.heap.size→Y k→X k):NodeX Y w' t av kv:=by
 induction h with
 | mk L att his own kids ih=>exact .mk L (att.keep hk hY) his (own.keep hk hY) ih
theorem NodeX.parts {X:Nat→Prop} {w:World} {t:Tr} {av kv:Value} (h:NodeX X w t av kv) : ∃ L:List TrV,L.map (·.1)=t.kids∧SliceX 2 atC X w av t.attrs∧SliceX 4 trC X w kv L ∧ ∀ y ∈ L,NodeX X w y.1 y.2.1 y.2.2:=by
 cases h with
 | mk L att his own kids=>exact ⟨L,his,att,own,kids⟩
theorem NodeX.of {X:Nat→Prop} {w:World} {t:Tr} {av kv:Value} (L:List TrV) (his:L.map (·.1)=t.kids) (att:SliceX 2 atC X w av t.attrs) (own:SliceX 4 trC X w kv L) (kids : ∀ y ∈ L,NodeX X w y.1 y.2.1 y.2.2):NodeX X w t av kv:=by
 cases t
 exact .mk L att his own kids
abbrev NodeOf (w:World):Tr→Value→Value→Prop:=NodeX (fun _=>False) w
theorem NodeX.node {X:Nat→Prop} {w:World} {t:Tr} {av kv:Value} (h:NodeX X w t av kv):NodeOf w t av kv:=h.keep (KeptX.refl X w) (fun _ _ h=>h.elim)
theorem NodeX.later {X:Nat→Prop} {w w':World} {t:Tr} {av kv:Value} (h:NodeX X w t av kv) (hb:Below w.heap.size w w'):NodeX X w' t av kv:=h.keep (KeptX.below hb) (fun _ _ h=>h)
theorem SliceX.below {α:Type} {n:Nat} {C:α→List Value} {X:Nat→Prop} {w w':World} {v:Value} {l:List α} (h:SliceX n C X w v l) (hb:Below w.heap.size w w'):SliceX n C X w' v l:=h.keep (KeptX.below hb) (fun _ _ h=>h)
def Row (w:World) (g:Nat) (E:TypeId) (n:Nat):Prop:=∃ cur,w.heap[g]? = some (.cells cur E (0,0))∧cur.size=n
theorem Row.lt {w:World} {g:Nat} {E:TypeId} {n:Nat} (h:Row w g E n):g<w.heap.size:=by
 obtain ⟨cur,h1,-⟩:=h;exact (Array.getElem?_eq_some_iff.1 h1).1
theorem Row.kept {w w':World} {g:Nat} {E:TypeId} {n:Nat} (h:Row w g E n) (hg:w'.heap[g]? = w.heap[g]?):Row w' g E n:=by
 obtain ⟨cur,h1,h2⟩:=h;exact ⟨cur,hg.trans h1,h2⟩
theorem Row.setCell {w:World} {g:Nat} {E:TypeId} {n:Nat} (h:Row w g E n) (k j:Nat) (v:Value):Row (w.setCell ⟨k,j,none⟩ v) g E n:=by
 obtain ⟨cur,h1,h2⟩:=h;by_cases hk:g=k
 · subst hk
   exact ⟨_,heap_setCell_same w g j cur E v h1,by simpa using h2⟩
 · exact ⟨cur,(heap_setCell_other w ⟨k,j,none⟩ g v hk).trans h1,h2⟩
theorem Row.type {w:World} {g:Nat} {E F:TypeId} {n m:Nat} (h:Row w g E n) (h2:Row w g F m):E=F:=by
 obtain ⟨c,h1,-⟩:=h;obtain ⟨c2,h3,-⟩:=h2;rw [h1] at h3;simp only [Option.some.injEq,Obj.cells.injEq] at h3;exact h3.2.1
theorem Row.cell {w:World} {g:Nat} {E:TypeId} {n:Nat} (h:Row w g E n) {j:Nat} (hj:j<n) : ∃ u,w.cell? ⟨g,j,none⟩=some u:=by
 obtain ⟨cur,h1,h2⟩:=h;exact ⟨cur[j]'(by omega),by rw [cell_of_row w g j cur E (0,0) h1]; simp [h2,hj]⟩
theorem Owns.row {α:Type} {base:Nat} {E:TypeId} {n:Nat} {C:α→List Value} {w:World} {g o len cap:Nat} {l:List α} (h:Owns base E n C w (.slice (some ⟨g,o,none⟩) len cap) l):o=0∧base≤g∧Row w g E (cap*n)∧len=l.length∧l.length≤cap∧cap≤maxLen:=by
 rcases h.2 with ⟨h1,-⟩ | ⟨g',cap',cur,h1,h2,h3,h4,h5,h6,h7⟩
 · simp at h1
 · simp only [Value.slice.injEq,Option.some.injEq,Addr.mk.injEq] at h1
   obtain ⟨⟨rfl,rfl,-⟩,rfl,rfl⟩:=h1;exact ⟨rfl,h2,⟨cur,h3,h6⟩,rfl,h4,h5⟩
def At4 (w:World) (b o:Nat) (cs:List Value):Prop:=∀ j u,cs[j]? = some u→w.cell? ⟨b,o+j,none⟩=some u
theorem At4.kept {w w':World} {b o:Nat} {cs:List Value} (h:At4 w b o cs) (hc : ∀ j,j<cs.length→w'.cell? ⟨b,o+j,none⟩=w.cell? ⟨b,o+j,none⟩):At4 w' b o cs :=
 fun j u hu=>(hc j (List.getElem?_eq_some_iff.1 hu).1).trans (h j u hu)
theorem Owns.of_cells {α:Type} {base:Nat} {E:TypeId} {n:Nat} {C:α→List Value} (hC : ∀ x,(C x).length=n) {w:World} {g cap:Nat} {l:List α} (hb:base≤g) (hr:Row w g E (cap*n)) (hl:l.length≤cap) (hm:cap≤maxLen) (hc:At4 w g 0 (l.flatMap C)):Owns base E n C w (.slice (some ⟨g,0,none⟩) l.length cap) l:=by
 obtain ⟨cur,h1,h2⟩:=hr;refine ⟨flat_len hC l,.inr ⟨g,cap,cur,rfl,hb,h1,hl,hm,h2,?_⟩⟩
 have hlen:=flat_len hC l;have hle:l.length*n≤cap*n:=Nat.mul_le_mul_right n hl;apply List.ext_getElem?
 intro j;rw [List.getElem?_take];by_cases hj:j<l.length*n
 · rw [if_pos hj]
   have hj':j<(l.flatMap C).length:=by omega
   have:=hc j _ (List.getElem?_eq_getElem hj')
   rw [Nat.zero_add,cell_of_row w g j cur E (0,0) h1] at this;rw [List.getElem?_eq_getElem hj',← this]; simp
 · rw [if_neg hj,List.getElem?_eq_none (by omega)]
theorem Owns.cells0 {α:Type} {base:Nat} {E:TypeId} {n:Nat} {C:α→List Value} {w:World} {g len cap:Nat} {l:List α} (h:Owns base E n C w (.slice (some ⟨g,0,none⟩) len cap) l):At4 w g 0 (l.flatMap C):=by
 intro j u hu;have:=World.ownsRow.cells h (g:=g) rfl j u hu
 rwa [Addr.add_lit] at this
end Go.Proofs.YtecffghcpknmjaaGreatDoor
