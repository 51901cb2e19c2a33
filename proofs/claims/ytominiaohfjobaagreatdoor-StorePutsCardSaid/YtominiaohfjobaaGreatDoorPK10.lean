/- The walk of a dependency in pom's reader; the conditions stand in the theorem. -/
import Derived.Test.YtominiaohfjobaaGreatDoorPK09
import Derived.Test.YtominiaohfjobaaGreatDoorPK07
import Derived.Deep.CutBlock
import Derived.Defers
import Derived.Recover
import Derived.Laws.Pointers
set_option maxRecDepth 100000
set_option maxHeartbeats 64000000
namespace Go.Proofs.YtominiaohfjobaaGreatDoor
open Go Go.RowKit
theorem ak.apart {w:World} {b c:Nat} {cs:List Value} (h:ak w b cs) (A:b≠c) (j:Nat) (v:Value):ak (w.setCell ⟨c,j,none⟩ v) b cs:=h.grown (ab w c j v) (by simpa using A)
theorem mD (m:Bool) (w:World):Calls Tryz.prog 175 #[.bool m] w fun e w'=>e = .returned (.func (.func 205) #[] #[.pointer (some ⟨w.heap.size,0,none⟩)])∧w'=w.alloc (.cells #[.bool m] 4):=by
 go_enter Tryz.func175,Tryz.ntmps175
 go_wp2
 go_ret
 exact ⟨rfl,rfl⟩
theorem gZ:(Tryz.prog.info? 133).map (·.size)=some 8:=by kernel_rfl
theorem yE:(Tryz.prog.info? 24).map (fun i=>(i.zero,i.size,i.bytes))=some (some (.agg #[.string ⟨#[]⟩,.string ⟨#[]⟩]),2,32):=by kernel_rfl
theorem sL (x:Id):(jj x).length=2:=rfl
theorem yH (x:Id) : ∀ u ∈ jj x,u.oneCell'=true:=by
 intro u A;simp only [jj,List.mem_cons,List.not_mem_nil,or_false] at A;rcases A with rfl | rfl <;> rfl
def zv (E:Option Er) (G:S) (e:Ending):Prop:=(∃ x,E=some x∧e = .panicked [{ v:=.iface 173 (.agg #[.int .i64 x.1,.string (bs x.2)]),recovered:=false }])∨(E=none∧e = .returned (.string G))
theorem dx.wd {E:Option Er} {G:S} {w w':World} {e:Ending} (h:dx E (fun e _=>e = .returned (.string G)) w e w'):Below w.heap.size w w'∧zv E G e:=by
 refine ⟨h.1,?_⟩
 cases A:E with
 | some x=>exact .inl ⟨x,rfl,h.2.1 x A⟩
 | none=>exact .inr ⟨rfl,h.2.2 A⟩
theorem oy (w:Bs) : ∀ (l:List Tr) (i k:Nat) (h:k<l.length),(ma w l i)[k]? = some (l[k],mI w (i+k+1))
 | t::l,i,0,_=>rfl
 | t::l,i,k+1,h=>by
  have:=oy w l (i+1) k (by simpa using h)
  rw [ma,List.getElem?_cons_succ,this];simp only [List.getElem_cons_succ];rw [show i+1+k+1=i+(k+1)+1 by omega]
theorem ox (w:Bs) : ∀ (l:List Tr) (i:Nat),(ma w l i).length=l.length
 | [],_=>rfl
 | t::l,i=>by rw [ma,List.length_cons,ox w l (i+1),List.length_cons]
theorem sR {f:Tr→Bs→Option Er} {w:Bs} {K:List Tr} {k:Nat} (h:k<K.length):fx f w (K.drop k) k=(f K[k] (mI w (k+1))).or (fx f w (K.drop (k+1)) (k+1)):=by
 rw [List.drop_eq_getElem_cons h,fx]
def BJ (w:World) (d:jk) (e:Ending) (w':World):Prop:=∃ v,e = .returned (.agg (gQ (d,v)).toArray)∧aj w.heap.size 24 2 jj w' v d.excl
def mq (m:Bool) (v0 v1 v2 v3 v4 fv:Value) (x0 x1 x2 x3 x4 x5 x6 x7 x8 x9 x10 x11 x12 x13 x14 x15 x16 x17 x18 x19 x20 x21 x22 x23 ac aa Z U O J I D A x33 x34 x35 x36 x37 x38 x39 x40 x41 x42 x43 x44 x45 x46 x47 x48 x49 bl bg bc bb ba a9 a8 a7 a6 a5 a4 a0 al ah ag ad:Value) (f0 f1 f2 f3 f4 f5 f6 f7 f8 _f9:Bool)  : Act :=
 ⟨#[x0,x1,x2,x3,x4,x5,x6,x7,x8,x9,x10,x11,x12,x13,x14,x15,x16,x17,x18,x19,x20,x21,x22,x23,cond f5 (undef) ac,cond f0 (.agg #[v0,v1,v2,v3,v4]) aa,cond f1 (.bool m) Z,cond f2 (fv) U,cond f3 (undef) O,cond f4 (undef) J,cond f6 (undef) I,cond f7 (undef) D,cond f8 (undef) A,x33,x34,x35,x36,x37,x38,x39,x40,x41,x42,x43,x44,x45,x46,x47,x48,x49,bl,bg,bc,bb,ba,a9,a8,a7,a6,a5,a4,a0,al,ah,ag,ad],[]⟩
def B7 (m:Bool) (v0 v1 v2 v3 v4 fv:Value) (V:World) (x0 x1 x2 x3 x4 x5 x6 x7 x8 x9 x10 x11 x12 x13 x14 x15 x16 x17 x18 x19 x20 x21 x22 x23 ad ac aa Z U O J I D x33 x34 x35 x36 x37 x38 x39 x40 x41 x42 x43 x44 x45 x46 x47 x48 x49 bo bl bg bc bb ba a9 a8 a7 a6 a5 a4 a0 al ah ag:Value) (A:Array Bool) (bv:Act) (w':World):Prop :=
 ∃ (f0 f1 f2 f3 f4 f5 f6 f7 f8 f9:Bool) ,A=#[f0,f1,f2,f3,f4,f5,f6,f7,f8,f9]∧bv=mq m v0 v1 v2 v3 v4 fv x0 x1 x2 x3 x4 x5 x6 x7 x8 x9 x10 x11 x12 x13 x14 x15 x16 x17 x18 x19 x20 x21 x22 x23 ad ac aa Z U O J I D x33 x34 x35 x36 x37 x38 x39 x40 x41 x42 x43 x44 x45 x46 x47 x48 x49 bo bl bg bc bb ba a9 a8 a7 a6 a5 a4 a0 al ah ag f0 f1 f2 f3 f4 f5 f6 f7 f8 f9  ∧ w'=cond f2 (V.drew.alloc (.cells #[.bool m] 4)) V.drew∧Hid (f3=false∧f4=false∧f5=false∧f8=false)
def eW (B:Nat) (e0 e1 e2 e3 e4:Value) (G A:S) (oa:Option Addr) (n oc:Nat) (l:List Id) (x0 x1 x2 x3 x4 x5 x6 x7 x8 x9 x10 x11 x12 x13 x14 x15 x16 x17 x18 x19 x20 x21 x22 x23 x24 x25 x26 x27 x28 x29 x30 x31 x32 x33 x34 x35 x36 x37 x38 x39 x40 x41 x42 x43 x44 x45 x46 x47 x48 x49 a6 a5 a4 a0 ag ad ac aa Z U O J I D al ah:Value) (f0 f1 f2 f3 f4 f5 f6 f7 f8 f9 _f10:Bool) (H g8 c8:Nat):Act :=
 ⟨#[x0,x1,x2,x3,x4,x5,x6,x7,x8,x9,x10,x11,x12,x13,x14,x15,x16,x17,x18,x19,x20,x21,x22,x23,x24,x25,x26,x27,x28,x29,x30,x31,x32,x33,x34,x35,x36,x37,x38,x39,x40,x41,x42,x43,x44,x45,x46,x47,x48,x49,a6,a5,a4,a0,cond f0 (.pointer (some ⟨B,7,none⟩)) ag,cond f1 (.slice oa n oc) ad,cond f2 (.agg #[e0,e1,e2,e3,e4]) ac,cond f3 (.string G) aa,cond f4 (.agg #[e0,e1,e2,e3,e4]) Z,cond f5 (.string A) U,cond f6 (.agg #[.string G,.string A]) O,cond f7 (.slice (some ⟨H,0,none⟩) 1 1) J,cond f8 (.slice (some ⟨g8,0,none⟩) (l.length+1) c8) I,cond f9 (.pointer (some ⟨B,7,none⟩)) D,al,ah],[]⟩
def BQ (B:Nat) (e0 e1 e2 e3 e4:Value) (G A:S) (Z:Option Addr) (n U base:Nat) (l:List Id) (D:Value→List Value) (E1 E2:Option Er) (V:World) (x0 x1 x2 x3 x4 x5 x6 x7 x8 x9 x10 x11 x12 x13 x14 x15 x16 x17 x18 x19 x20 x21 x22 x23 x24 x25 x26 x27 x28 x29 x30 x31 x32 x33 x34 x35 x36 x37 x38 x39 x40 x41 x42 x43 x44 x45 x46 x47 x48 x49 bc bb ba a9 a6 a5 a4 a0 al ah ag ad ac aa a8 a7:Value) (I:Array Bool) (bl:Act) (w':World):Prop :=
 ∃ (f0 f1 f2 f3 f4 f5 f6 f7 f8 f9 f10:Bool) (H J O:Nat),I=#[f0,f1,f2,f3,f4,f5,f6,f7,f8,f9,f10]∧bl=eW B e0 e1 e2 e3 e4 G A Z n U l x0 x1 x2 x3 x4 x5 x6 x7 x8 x9 x10 x11 x12 x13 x14 x15 x16 x17 x18 x19 x20 x21 x22 x23 x24 x25 x26 x27 x28 x29 x30 x31 x32 x33 x34 x35 x36 x37 x38 x39 x40 x41 x42 x43 x44 x45 x46 x47 x48 x49 bc bb ba a9 a6 a5 a4 a0 al ah ag ad ac aa a8 a7 f0 f1 f2 f3 f4 f5 f6 f7 f8 f9 f10 H J O∧Hid (f3=true→f2=true)∧Hid (f5=true→f4=true∧f3=true)∧Hid (f6=true→f3=true∧f5=true)∧Hid (f7=true→f6=true)∧Hid (f8=true→f1=true∧f7=true∧f5=true)∧Hid (f10=true→f8=true)∧Hid (f3=true→E1=none)∧Hid (f5=true→E2=none)∧(f8=false→Below V.heap.size V w')∧(f7=true→f8=false → ∀ j u,(jj ⟨G,A⟩)[j]? = some u→w'.cell? ⟨H,j,none⟩=some u) ∧
  (f8=true→f10=false→aj base 24 2 jj w' (.slice (some ⟨J,0,none⟩) (l.length+1) O) (l ++ [⟨G,A⟩])∧V.grownBy w' (Value.slice Z n U).ownBlock)∧(f10=true→aj base 24 2 jj w' (.slice (some ⟨J,0,none⟩) (l.length+1) O) (l ++ [⟨G,A⟩])∧ak w' B (D (.slice (some ⟨J,0,none⟩) (l.length+1) O)) ∧ ∃ w8,V.grownBy w8 (Value.slice Z n U).ownBlock∧w8.grownBy w' (some B))
theorem yW (m:Bool) (t:Tr) (wh:Bs) (w:World) (av kv:Value) (ht:dJ w t av kv) (hm:dM t) (hl:wh.length≤10000000000) :
    Calls Tryz.prog 138 #[dj t av kv wh,.bool m] w (dx (gd m t wh) (BJ w (mg t)) w):=by
 obtain ⟨ao,ac,ko,kc,rfl,rfl,y2,-⟩:=ht.shape;obtain ⟨X,hX⟩ : ∃ X:S,X=bs wh:=⟨_,rfl⟩;have y4:Hid ((bs wh:S)=X):=hX.symm;unfold dj;rw [← hX]
 have r4:Hid (∀ W,Below w.heap.size w W→Calls Tryz.prog 94 #[.agg #[.string (bs t.name),.slice ao t.attrs.length ac,.slice ko t.kids.length kc,.string (bs t.text),.string X],.string ⟨#[103,114,111,117,112,73,100]⟩,.bool true,.func (.func 95) #[] #[]] W (dx (bB t wh aG true cM) (fun e _=>e = .returned (.string (bs (ae t aG)))) W)):=fun W h=>by
  rw [hX]; exact cj _ _ _ t wh aG true W _ _ (ht.later h) hm (by have:aG.length≤20:=(by decide); omega) (dq W)
 have l3:Hid (∀ W,Below w.heap.size w W→Calls Tryz.prog 94 #[.agg #[.string (bs t.name),.slice ao t.attrs.length ac,.slice ko t.kids.length kc,.string (bs t.text),.string X],.string ⟨#[97,114,116,105,102,97,99,116,73,100]⟩,.bool true,.func (.func 95) #[] #[]] W (dx (bB t wh ar true cM) (fun e _=>e = .returned (.string (bs (ae t ar)))) W)):=fun W h=>by
  rw [hX]; exact cj _ _ _ t wh ar true W _ _ (ht.later h) hm (by have:ar.length≤20:=(by decide); omega) (dq W)
 have l2:Hid (∀ W,Below w.heap.size w W→Calls Tryz.prog 94 #[.agg #[.string (bs t.name),.slice ao t.attrs.length ac,.slice ko t.kids.length kc,.string (bs t.text),.string X],.string ⟨#[118,101,114,115,105,111,110]⟩,.bool false,.func (.func 95) #[] #[]] W (dx (bB t wh aA false cM) (fun e _=>e = .returned (.string (bs (ae t aA)))) W)):=fun W h=>by
  rw [hX]; exact cj _ _ _ t wh aA false W _ _ (ht.later h) hm (by have:aA.length≤20:=(by decide); omega) (dq W)
 have r3:Hid (∀ W,Below w.heap.size w W→Calls Tryz.prog 94 #[.agg #[.string (bs t.name),.slice ao t.attrs.length ac,.slice ko t.kids.length kc,.string (bs t.text),.string X],.string ⟨#[116,121,112,101]⟩,.bool false,.func (.func 95) #[] #[]] W (dx (bB t wh dE false cM) (fun e _=>e = .returned (.string (bs (ae t dE)))) W)):=fun W h=>by
  rw [hX]; exact cj _ _ _ t wh dE false W _ _ (ht.later h) hm (by have:dE.length≤20:=(by decide); omega) (dq W)
 have r2:Hid (∀ W,Below w.heap.size w W→Calls Tryz.prog 94 #[.agg #[.string (bs t.name),.slice ao t.attrs.length ac,.slice ko t.kids.length kc,.string (bs t.text),.string X],.string ⟨#[99,108,97,115,115,105,102,105,101,114]⟩,.bool false,.func (.func 95) #[] #[]] W (dx (bB t wh aR false cM) (fun e _=>e = .returned (.string (bs (ae t aR)))) W)):=fun W h=>by
  rw [hX]; exact cj _ _ _ t wh aR false W _ _ (ht.later h) hm (by have:aR.length≤20:=(by decide); omega) (dq W)
 have r1:Hid (∀ W,Below w.heap.size w W→Calls Tryz.prog 94 #[.agg #[.string (bs t.name),.slice ao t.attrs.length ac,.slice ko t.kids.length kc,.string (bs t.text),.string X],.string ⟨#[111,112,116,105,111,110,97,108]⟩,.bool false,.func (.func 176) #[] #[]] W (dx (bB t wh dX false jx) (fun e _=>e = .returned (.string (bs (ae t dX)))) W)):=fun W h=>by
  rw [hX]; exact cj _ _ _ t wh dX false W _ _ (ht.later h) hm (by have:dX.length≤20:=(by decide); omega) (rN W)
 have l1:Hid (∀ W b,Below w.heap.size w W→b<W.heap.size→W.cell? ⟨b,0,none⟩=some (.bool m)→Calls Tryz.prog 94 #[.agg #[.string (bs t.name),.slice ao t.attrs.length ac,.slice ko t.kids.length kc,.string (bs t.text),.string X],.string ⟨#[115,99,111,112,101]⟩,.bool false,.func (.func 205) #[] #[.pointer (some ⟨b,0,none⟩)]] W (dx (bB t wh cI false (jy m)) (fun e _=>e = .returned (.string (bs (ae t cI)))) W)):=fun W b h hb hc=>by
  rw [hX]; exact cj _ _ _ t wh cI false W _ _ (ht.later h) hm (by have:cI.length≤20:=(by decide); omega) (rO W b m hb hc)
 have HF:Hid (∀ W,Below w.heap.size w W→Calls Tryz.prog 93 #[.agg #[.string (bs t.name),.slice ao t.attrs.length ac,.slice ko t.kids.length kc,.string (bs t.text),.string X],.string ⟨#[101,120,99,108,117,115,105,111,110,115]⟩] W (dx (cS t wh aQ) (gn (fun j=>w.heap.size≤j) wh aQ (cZ t aQ)) W)):=fun W h=>by
  rw [hX]; exact nd (fun j=>w.heap.size≤j) t wh aQ W _ _ (ht.fresh.later h) hm.kl (by have:aQ.length≤20:=(by decide); omega)
 have HM:=zH hm;have v8:Hid (∀ E,E=gd m t wh→E=gd m t wh):=fun _ h=>h;obtain ⟨r,hr⟩ : ∃ r,r=gd m t wh:=⟨_,rfl⟩;have HE:Hid (r=gd m t wh):=hr;rw [← hr];obtain ⟨V,hV⟩ : ∃ V,V=mg t:=⟨_,rfl⟩;have HV:Hid (V=mg t):=hV;rw [← hV];clear hX hm ht hr hV v8;go_enter Tryz.func138,Tryz.ntmps138
 go_upto_region 1 with fail
 refine ai fun W hW=>?_
 have x1:ak W w.heap.size [.string (bs t.name),.slice ao t.attrs.length ac,.slice ko t.kids.length kc,.string (bs t.text),.string X]:=by rw [hW]; exact (ak.new w [.string (bs t.name),.slice ao t.attrs.length ac,.slice ko t.kids.length kc,.string (bs t.text),.string X] _ _ rfl).alloc _
 have x2:ak W (w.heap.size+1) [.string ⟨#[]⟩,.string ⟨#[]⟩,.string ⟨#[]⟩,.string ⟨#[]⟩,.string ⟨#[]⟩,.int .i64 0,.int .i64 0,.slice none 0 0]:=by rw [hW]; exact ak.new (w.alloc _) [.string ⟨#[]⟩,.string ⟨#[]⟩,.string ⟨#[]⟩,.string ⟨#[]⟩,.string ⟨#[]⟩,.int .i64 0,.int .i64 0,.slice none 0 0] _ _ (by simp)
 have hb:Below w.heap.size w W:=by rw [hW]; exact ((Below.refl _ w).alloc (Nat.le_refl _) _).alloc (by simp) _
 clear hW;have J:=zH x1;have D:=zH x2;have U:=zH hb;clear x1 x2 hb;obtain ⟨a0,a1,a2,a3,a4⟩:=gU J.out;have al:=J.out.lt;go_wp2_with fail
 refine (r4.out _ U.out).mono ?_
 rintro e w1 ⟨aa,hp,hq⟩;have ag:=zH (U.out.trans (aa.mono U.out.size));have bl:=zH (J.out.below aa J.out.lt);have ad:=zH (D.out.below aa D.out.lt);clear a0 a1 a2 a3 a4 al J D U aa r4;rcases I:bB t wh aG true cM with _ | x
 rotate_left
 · obtain rfl:=hp x I
   have HR:Hid (r=some x):=by show _=_; rw [HE.out]; unfold gd; rw [I]; rfl
   clear hp hq I HE HV;unfold dS;go_wp2
   exact ⟨rfl,dx.bad HR.out ag.out rfl⟩
 obtain rfl:=hq I;have n0:=zH I;clear hp hq I;have J:=bl;have D:=ad;have U:=ag;clear bl ad ag;obtain ⟨d0,d1,d2,d3,d4,d5,d6,d7⟩:=xD D.out;have cT:=D.out.free 0;have co:=D.out.free 1;have cm:=D.out.free 2;have cf:=D.out.free 3;have b9:=D.out.free 4;have b8:=D.out.free 5;have b7:=D.out.free 6;have b6:=D.out.free 7;have dl:=D.out.lt;go_upto_region 2 with fail
 refine ai fun W hW=>?_
 have x1:ak W w.heap.size [.string (bs t.name),.slice ao t.attrs.length ac,.slice ko t.kids.length kc,.string (bs t.text),.string X]:=by rw [hW]; exact J.out.apart (by omega) _ _
 have x2:ak W (w.heap.size+1) [.string (bs (ae t aG)),.string ⟨#[]⟩,.string ⟨#[]⟩,.string ⟨#[]⟩,.string ⟨#[]⟩,.int .i64 0,.int .i64 0,.slice none 0 0]:=by rw [hW]; exact D.out.set 0 _
 have hb:Below w.heap.size w W:=by rw [hW]; exact U.out.setCell (by simp) _
 clear hW d0 d1 d2 d3 d4 d5 d6 d7 cT co cm cf b9 b8 b7 b6 dl J D U;have J:=zH x1;have D:=zH x2;have U:=zH hb;clear x1 x2 hb;obtain ⟨a0,a1,a2,a3,a4⟩:=gU J.out;have al:=J.out.lt;go_wp2_with fail
 refine (l3.out _ U.out).mono ?_
 rintro e w2 ⟨aa,hp,hq⟩;have ag:=zH (U.out.trans (aa.mono U.out.size));have bl:=zH (J.out.below aa J.out.lt);have ad:=zH (D.out.below aa D.out.lt);clear a0 a1 a2 a3 a4 al J D U aa l3;rcases I:bB t wh ar true cM with _ | x
 rotate_left
 · obtain rfl:=hp x I
   have HR:Hid (r=some x):=by show _=_; rw [HE.out]; unfold gd; rw [n0.out,Option.none_or,I]; rfl
   clear hp hq I HE HV;unfold dS;go_wp2
   exact ⟨rfl,dx.bad HR.out ag.out rfl⟩
 obtain rfl:=hq I;have n1:=zH I;clear hp hq I;have J:=bl;have D:=ad;have U:=ag;clear bl ad ag;obtain ⟨d0,d1,d2,d3,d4,d5,d6,d7⟩:=xD D.out;have cT:=D.out.free 0;have co:=D.out.free 1;have cm:=D.out.free 2;have cf:=D.out.free 3;have b9:=D.out.free 4;have b8:=D.out.free 5;have b7:=D.out.free 6;have b6:=D.out.free 7;have dl:=D.out.lt;go_upto_region 3 with fail
 refine ai fun W hW=>?_
 have x1:ak W w.heap.size [.string (bs t.name),.slice ao t.attrs.length ac,.slice ko t.kids.length kc,.string (bs t.text),.string X]:=by rw [hW]; exact J.out.apart (by omega) _ _
 have x2:ak W (w.heap.size+1) [.string (bs (ae t aG)),.string (bs (ae t ar)),.string ⟨#[]⟩,.string ⟨#[]⟩,.string ⟨#[]⟩,.int .i64 0,.int .i64 0,.slice none 0 0]:=by rw [hW]; exact D.out.set 1 _
 have hb:Below w.heap.size w W:=by rw [hW]; exact U.out.setCell (by simp) _
 clear hW d0 d1 d2 d3 d4 d5 d6 d7 cT co cm cf b9 b8 b7 b6 dl J D U;have J:=zH x1;have D:=zH x2;have U:=zH hb;clear x1 x2 hb;obtain ⟨a0,a1,a2,a3,a4⟩:=gU J.out;have al:=J.out.lt;go_wp2_with fail
 refine (l2.out _ U.out).mono ?_
 rintro e w3 ⟨aa,hp,hq⟩;have ag:=zH (U.out.trans (aa.mono U.out.size));have bl:=zH (J.out.below aa J.out.lt);have ad:=zH (D.out.below aa D.out.lt);clear a0 a1 a2 a3 a4 al J D U aa l2;rcases I:bB t wh aA false cM with _ | x
 rotate_left
 · obtain rfl:=hp x I
   have HR:Hid (r=some x):=by show _=_; rw [HE.out]; unfold gd; rw [n0.out,Option.none_or,n1.out,Option.none_or,I]; rfl
   clear hp hq I HE HV;unfold dS;go_wp2
   exact ⟨rfl,dx.bad HR.out ag.out rfl⟩
 obtain rfl:=hq I;have n2:=zH I;clear hp hq I;have J:=bl;have D:=ad;have U:=ag;clear bl ad ag;obtain ⟨d0,d1,d2,d3,d4,d5,d6,d7⟩:=xD D.out;have cT:=D.out.free 0;have co:=D.out.free 1;have cm:=D.out.free 2;have cf:=D.out.free 3;have b9:=D.out.free 4;have b8:=D.out.free 5;have b7:=D.out.free 6;have b6:=D.out.free 7;have dl:=D.out.lt;go_upto_region 4 with fail
 refine ai fun W hW=>?_
 have x1:ak W w.heap.size [.string (bs t.name),.slice ao t.attrs.length ac,.slice ko t.kids.length kc,.string (bs t.text),.string X]:=by rw [hW]; exact J.out.apart (by omega) _ _
 have x2:ak W (w.heap.size+1) [.string (bs (ae t aG)),.string (bs (ae t ar)),.string (bs (ae t aA)),.string ⟨#[]⟩,.string ⟨#[]⟩,.int .i64 0,.int .i64 0,.slice none 0 0]:=by rw [hW]; exact D.out.set 2 _
 have hb:Below w.heap.size w W:=by rw [hW]; exact U.out.setCell (by simp) _
 clear hW d0 d1 d2 d3 d4 d5 d6 d7 cT co cm cf b9 b8 b7 b6 dl J D U;have J:=zH x1;have D:=zH x2;have U:=zH hb;clear x1 x2 hb;obtain ⟨a0,a1,a2,a3,a4⟩:=gU J.out;have al:=J.out.lt;go_wp2_with fail
 refine (r3.out _ U.out).mono ?_
 rintro e w4 ⟨aa,hp,hq⟩;have ag:=zH (U.out.trans (aa.mono U.out.size));have bl:=zH (J.out.below aa J.out.lt);have ad:=zH (D.out.below aa D.out.lt);clear a0 a1 a2 a3 a4 al J D U aa r3;rcases I:bB t wh dE false cM with _ | x
 rotate_left
 · obtain rfl:=hp x I
   have HR:Hid (r=some x):=by show _=_; rw [HE.out]; unfold gd; rw [n0.out,Option.none_or,n1.out,Option.none_or,n2.out,Option.none_or,I]; rfl
   clear hp hq I HE HV;unfold dS;go_wp2
   exact ⟨rfl,dx.bad HR.out ag.out rfl⟩
 obtain rfl:=hq I;have n3:=zH I;clear hp hq I;have J:=bl;have D:=ad;have U:=ag;clear bl ad ag;obtain ⟨d0,d1,d2,d3,d4,d5,d6,d7⟩:=xD D.out;have cT:=D.out.free 0;have co:=D.out.free 1;have cm:=D.out.free 2;have cf:=D.out.free 3;have b9:=D.out.free 4;have b8:=D.out.free 5;have b7:=D.out.free 6;have b6:=D.out.free 7;have dl:=D.out.lt;go_upto_region 5 with fail
 refine ai fun W hW=>?_
 have x1:ak W w.heap.size [.string (bs t.name),.slice ao t.attrs.length ac,.slice ko t.kids.length kc,.string (bs t.text),.string X]:=by rw [hW]; exact J.out.apart (by omega) _ _
 have x2:ak W (w.heap.size+1) [.string (bs (ae t aG)),.string (bs (ae t ar)),.string (bs (ae t aA)),.string (bs (ae t dE)),.string ⟨#[]⟩,.int .i64 0,.int .i64 0,.slice none 0 0]:=by rw [hW]; exact D.out.set 3 _
 have hb:Below w.heap.size w W:=by rw [hW]; exact U.out.setCell (by simp) _
 clear hW d0 d1 d2 d3 d4 d5 d6 d7 cT co cm cf b9 b8 b7 b6 dl J D U;have J:=zH x1;have D:=zH x2;have U:=zH hb;clear x1 x2 hb;obtain ⟨a0,a1,a2,a3,a4⟩:=gU J.out;have al:=J.out.lt;go_wp2_with fail
 refine (r2.out _ U.out).mono ?_
 rintro e w5 ⟨aa,hp,hq⟩;have ag:=zH (U.out.trans (aa.mono U.out.size));have bl:=zH (J.out.below aa J.out.lt);have ad:=zH (D.out.below aa D.out.lt);clear a0 a1 a2 a3 a4 al J D U aa r2;rcases I:bB t wh aR false cM with _ | x
 rotate_left
 · obtain rfl:=hp x I
   have HR:Hid (r=some x):=by show _=_; rw [HE.out]; unfold gd; rw [n0.out,Option.none_or,n1.out,Option.none_or,n2.out,Option.none_or,n3.out,Option.none_or,I]; rfl
   clear hp hq I HE HV;unfold dS;go_wp2
   exact ⟨rfl,dx.bad HR.out ag.out rfl⟩
 obtain rfl:=hq I;have n4:=zH I;clear hp hq I;have J:=bl;have D:=ad;have U:=ag;clear bl ad ag;obtain ⟨d0,d1,d2,d3,d4,d5,d6,d7⟩:=xD D.out;have cT:=D.out.free 0;have co:=D.out.free 1;have cm:=D.out.free 2;have cf:=D.out.free 3;have b9:=D.out.free 4;have b8:=D.out.free 5;have b7:=D.out.free 6;have b6:=D.out.free 7;have dl:=D.out.lt;go_upto_region 6 with fail
 refine ai fun W hW=>?_
 have x1:ak W w.heap.size [.string (bs t.name),.slice ao t.attrs.length ac,.slice ko t.kids.length kc,.string (bs t.text),.string X]:=by rw [hW]; exact J.out.apart (by omega) _ _
 have x2:ak W (w.heap.size+1) [.string (bs (ae t aG)),.string (bs (ae t ar)),.string (bs (ae t aA)),.string (bs (ae t dE)),.string (bs (ae t aR)),.int .i64 0,.int .i64 0,.slice none 0 0]:=by rw [hW]; exact D.out.set 4 _
 have hb:Below w.heap.size w W:=by rw [hW]; exact U.out.setCell (by simp) _
 clear hW d0 d1 d2 d3 d4 d5 d6 d7 cT co cm cf b9 b8 b7 b6 dl J D U;have J:=zH x1;have D:=zH x2;have U:=zH hb;clear x1 x2 hb;obtain ⟨a0,a1,a2,a3,a4⟩:=gU J.out;have al:=J.out.lt;obtain ⟨d0,d1,d2,d3,d4,d5,d6,d7⟩:=xD D.out;have cT:=D.out.free 0;have co:=D.out.free 1;have cm:=D.out.free 2;have cf:=D.out.free 3;have b9:=D.out.free 4;have b8:=D.out.free 5;have b7:=D.out.free 6;have b6:=D.out.free 7;have dl:=D.out.lt;have p6:Hid (∀ T,(W.drew.alloc (.cells #[.bool m] T)).cell? ⟨W.drew.heap.size,0,none⟩=some (.bool m)):=fun T=>(ak.new W.drew [.bool m] T _ rfl).cell 0 _ rfl;have p5:Hid (∀ o:Obj,W.drew.heap.size<(W.drew.alloc o).heap.size):=fun o=>by show _<(W.heap.push o).size; simp
 have lb:Hid (∀ o:Obj,Below w.heap.size w (W.drew.alloc o)):=fun o=>(aY U.out 1).alloc U.out.size o;rcases I:bB t wh cI false (jy m) with _ | x
 rotate_left
 · have HR:Hid (r=some x):=by show _=_; rw [HE.out]; unfold gd; rw [n0.out,Option.none_or,n1.out,Option.none_or,n2.out,Option.none_or,n3.out,Option.none_or,n4.out,Option.none_or,I]; rfl
   have l9:Hid (∀ W b,Below w.heap.size w W→b<W.heap.size→W.cell? ⟨b,0,none⟩=some (.bool m)→Calls Tryz.prog 94 #[.agg #[.string (bs t.name),.slice ao t.attrs.length ac,.slice ko t.kids.length kc,.string (bs t.text),.string X],.string ⟨#[115,99,111,112,101]⟩,.bool false,.func (.func 205) #[] #[.pointer (some ⟨b,0,none⟩)]] W fun e w'=>e = .panicked [{ v:=.iface 173 (.agg #[.int .i64 x.1,.string (bs x.2)]),recovered:=false }]∧Below w.heap.size w w'):=fun W b h1 h2 h3 =>
    (l1.out W b h1 h2 h3).mono fun e w' ⟨g1,g2,g3⟩=>⟨g2 x I,h1.trans (g1.mono h1.size)⟩
   clear I l1;refine bm (B7 m (.string (bs t.name)) (.slice ao t.attrs.length ac) (.slice ko t.kids.length kc) (.string (bs t.text)) (.string X) (.func (.func 205) #[] #[.pointer (some ⟨W.heap.size,0,none⟩)]) W _ _ _ _ _ _ _ _ _ _ _ _ _ _ _ _ _ _ _ _ _ _ _ _ _ _ _ _ _ _ _ _ _ _ _ _ _ _ _ _ _ _ _ _ _ _ _ _ _ _ _ _ _ _ _ _ _ _ _ _ _ _ _ _ _ _) (by kernel_rfl) 10 rfl (by kernel_rfl) ⟨false,false,false,false,false,false,false,false,false,false,rfl,rfl,rfl,⟨rfl,rfl,rfl,rfl⟩⟩ ?fin ?step
   case fin =>
    rintro a' w' ⟨f0,f1,f2,f3,f4,f5,f6,f7,f8,f9,hl,rfl,hw,h6⟩;have kr:[true,true,true,true,true,true,true,true,true,true]=[f0,f1,f2,f3,f4,f5,f6,f7,f8,f9]:=congrArg Array.toList hl;simp only [List.cons.injEq,and_true] at kr;obtain ⟨rfl,rfl,rfl,rfl,rfl,rfl,rfl,rfl,rfl,rfl⟩:=kr;unfold mq;simp only [cond_true];exact (Bool.false_ne_true h6.out.1.symm).elim
   case step =>
    rintro m4 a' w' ⟨f0,f1,f2,f3,f4,f5,f6,f7,f8,f9,rfl,rfl,hw,h6⟩ i hi;rw [mem_ready] at hi;obtain ⟨hu,o,ho,ha⟩:=hi;have t3:i<10:=(Array.getElem?_eq_some_iff.1 ho).1;rcases (by omega:i=0∨i=1∨i=2∨i=3∨i=4∨i=5∨i=6∨i=7∨i=8∨i=9) with rfl | rfl | rfl | rfl | rfl | rfl | rfl | rfl | rfl | rfl
    · have bb:=ho
      simp at hu ho;subst hu ho;clear ha;cases f2 with
      | false =>
       have b2:=hw;simp only [cond_false] at b2;subst b2;clear hw;refine .inl ?_
       unfold mq Oper.wp;go_simp
       exact ⟨true,f1,false,f3,f4,f5,f6,f7,f8,f9,rfl,rfl,rfl,h6⟩
      | true =>
       have b2:=hw;simp only [cond_true] at b2;subst b2;clear hw;refine .inl ?_
       unfold mq Oper.wp;go_simp
       exact ⟨true,f1,true,f3,f4,f5,f6,f7,f8,f9,rfl,rfl,rfl,h6⟩
    · have bb:=ho
      simp at hu ho;subst hu ho;clear ha;cases f2 with
      | false =>
       have b2:=hw;simp only [cond_false] at b2;subst b2;clear hw;refine .inl ?_
       unfold mq Oper.wp;go_simp
       exact ⟨f0,true,false,f3,f4,f5,f6,f7,f8,f9,rfl,rfl,rfl,h6⟩
      | true =>
       have b2:=hw;simp only [cond_true] at b2;subst b2;clear hw;refine .inl ?_
       unfold mq Oper.wp;go_simp
       exact ⟨f0,true,true,f3,f4,f5,f6,f7,f8,f9,rfl,rfl,rfl,h6⟩
    · have bb:=ho
      simp at hu ho;subst hu ho;simp [Region.binds] at ha
      obtain rfl:f1=true:=by simp only [ha]
      clear ha;have b2:=hw;simp only [cond_false] at b2;subst b2;clear hw;refine .inl ?_
      unfold mq Oper.wp;go_simp
      refine (mD m _).mono ?_
      rintro e w8 ⟨rfl,rfl⟩;exact ⟨f0,true,true,f3,f4,f5,f6,f7,f8,f9,rfl,rfl,rfl,h6⟩
    · have bb:=ho
      simp at hu ho;subst hu ho;simp [Region.binds] at ha
      obtain rfl:f0=true:=by simp only [ha]
      obtain rfl:f2=true:=by simp only [ha]
      clear ha;have b2:=hw;simp only [cond_true] at b2;subst b2;clear hw;refine .inl ?_
      unfold mq Oper.wp;go_simp
      refine (l9.out _ _ (lb.out _) (p5.out _) (p6.out _)).mono ?_
      rintro e w9 ⟨rfl,b3⟩;exact ⟨rfl,dx.bad HR.out b3 rfl⟩
    · have bb:=ho
      simp at hu ho;subst hu ho;simp [Region.binds] at ha
      obtain rfl:f3=true:=by simp only [ha]
      clear ha;exact (Bool.false_ne_true h6.out.1.symm).elim
    · have bb:=ho
      simp at hu ho;subst hu ho;simp [Region.binds] at ha
      obtain rfl:f4=true:=by simp only [ha]
      clear ha;exact (Bool.false_ne_true h6.out.2.1.symm).elim
    · have bb:=ho
      simp at hu ho;subst hu ho;simp [Region.binds] at ha
      obtain rfl:f5=true:=by simp only [ha]
      clear ha;exact (Bool.false_ne_true h6.out.2.2.1.symm).elim
    · have bb:=ho
      simp at hu ho;subst hu ho;simp [Region.binds] at ha
      obtain rfl:f5=true:=by simp only [ha]
      clear ha;exact (Bool.false_ne_true h6.out.2.2.1.symm).elim
    · have bb:=ho
      simp at hu ho;subst hu ho;simp [Region.binds] at ha
      obtain rfl:f0=true:=by simp only [ha]
      obtain rfl:f1=true:=by simp only [ha]
      obtain rfl:f2=true:=by simp only [ha]
      obtain rfl:f3=true:=by simp only [ha]
      obtain rfl:f4=true:=by simp only [ha]
      obtain rfl:f5=true:=by simp only [ha]
      obtain rfl:f6=true:=by simp only [ha]
      clear ha;exact (Bool.false_ne_true h6.out.1.symm).elim
    · have bb:=ho
      simp at hu ho;subst hu ho;simp [Region.binds] at ha
      obtain rfl:f8=true:=by simp only [ha]
      obtain rfl:f6=true:=by simp only [ha]
      clear ha;exact (Bool.false_ne_true h6.out.2.2.2.symm).elim
 have l9:Hid (∀ W b,Below w.heap.size w W→b<W.heap.size→W.cell? ⟨b,0,none⟩=some (.bool m)→Calls Tryz.prog 94 #[.agg #[.string (bs t.name),.slice ao t.attrs.length ac,.slice ko t.kids.length kc,.string (bs t.text),.string X],.string ⟨#[115,99,111,112,101]⟩,.bool false,.func (.func 205) #[] #[.pointer (some ⟨b,0,none⟩)]] W fun e w'=>e = .returned (.string (bs (ae t cI)))∧Below W.heap.size W w'):=fun W b h1 h2 h3 =>
     (l1.out W b h1 h2 h3).mono fun e w' ⟨g1,g2,g3⟩=>⟨g3 I,g1⟩
 have n5:=zH I;clear I l1;have ou:Hid (∀ o:Obj,ak (W.drew.alloc o) w.heap.size [.string (bs t.name),.slice ao t.attrs.length ac,.slice ko t.kids.length kc,.string (bs t.text),.string X]):=fun o=>ak.alloc (w:=W.drew) ⟨J.out.lt,J.out.cell,J.out.free⟩ o;have po:Hid (∀ o:Obj,ak (W.drew.alloc o) (w.heap.size+1) [.string (bs (ae t aG)),.string (bs (ae t ar)),.string (bs (ae t aA)),.string (bs (ae t dE)),.string (bs (ae t aR)),.int .i64 0,.int .i64 0,.slice none 0 0]):=fun o=>ak.alloc (w:=W.drew) ⟨D.out.lt,D.out.cell,D.out.free⟩ o;go_region_held3 (fun w'=>w'.cell? ⟨w.heap.size,0,none⟩=some (.string (bs t.name))∧w'.cell? ⟨w.heap.size,1,none⟩=some (.slice ao t.attrs.length ac)∧w'.cell? ⟨w.heap.size,2,none⟩=some (.slice ko t.kids.length kc)∧w'.cell? ⟨w.heap.size,3,none⟩=some (.string (bs t.text))∧w'.cell? ⟨w.heap.size,4,none⟩=some (.string X)) (first | exact ⟨a0,a1,a2,a3,a4⟩ | exact ⟨hC.out.cell 0 _ rfl,hC.out.cell 1 _ rfl,hC.out.cell 2 _ rfl,hC.out.cell 3 _ rfl,hC.out.cell 4 _ rfl⟩ | (have kn:=hC.out.apart (c:=w.heap.size+1) (by omega) 5 (.int .i64 (bZ (ae t cI))); exact ⟨kn.cell 0 _ rfl,kn.cell 1 _ rfl,kn.cell 2 _ rfl,kn.cell 3 _ rfl,kn.cell 4 _ rfl⟩) | (go_keep; done)) (first | (go_at_call 175; refine (mD m _).mono ?_; rintro e w8 ⟨rfl,rfl⟩) | (go_at_call 94; refine (l9.out _ _ (lb.out _) (p5.out _) (p6.out _)).mono ?_; rintro e w9 ⟨rfl,b3⟩; have hC:=zH ((ou.out _).below b3 (ou.out (.cells #[.bool m] 4)).lt); have kE:=zH ((po.out _).below b3 (po.out (.cells #[.bool m] 4)).lt); have ri:=zH ((lb.out _).trans (b3.mono (lb.out (.cells #[.bool m] 4)).size)); have g5:=kE.out.cell 5 _ rfl; have u4:=kE.out.free 5; have gl:=kE.out.lt; clear b3) | (go_at_call 174; refine (pB _ _).mono ?_; rintro e yx ⟨rfl,rfl⟩))
 clear d0 d1 d2 d3 d4 d5 d6 d7 cT co cm cf b9 b8 b7 b6 dl a0 a1 a2 a3 a4 al J D U p6 p5 lb l9 ou po g5 u4;go_upto_region 7 with fail
 refine ai fun W7 hF=>?_
 have x1:ak W7 w.heap.size [.string (bs t.name),.slice ao t.attrs.length ac,.slice ko t.kids.length kc,.string (bs t.text),.string X]:=by rw [hF]; exact hC.out.apart (by omega) _ _
 have x2:ak W7 (w.heap.size+1) [.string (bs (ae t aG)),.string (bs (ae t ar)),.string (bs (ae t aA)),.string (bs (ae t dE)),.string (bs (ae t aR)),.int .i64 (bZ (ae t cI)),.int .i64 0,.slice none 0 0]:=by rw [hF]; exact kE.out.set 5 _
 have hb:Below w.heap.size w W7:=by rw [hF]; exact ri.out.setCell (by simp) _
 clear hF hC kE ri gl;have J:=zH x1;have D:=zH x2;have U:=zH hb;clear x1 x2 hb;obtain ⟨a0,a1,a2,a3,a4⟩:=gU J.out;have al:=J.out.lt;go_wp2_with fail
 refine (r1.out _ U.out).mono ?_
 rintro e w7 ⟨aa,hp,hq⟩;have ag:=zH (U.out.trans (aa.mono U.out.size));have bl:=zH (J.out.below aa J.out.lt);have ad:=zH (D.out.below aa D.out.lt);clear a0 a1 a2 a3 a4 al J D U aa r1;rcases I:bB t wh dX false jx with _ | x
 rotate_left
 · obtain rfl:=hp x I
   have HR:Hid (r=some x):=by show _=_; rw [HE.out]; unfold gd; rw [n0.out,Option.none_or,n1.out,Option.none_or,n2.out,Option.none_or,n3.out,Option.none_or,n4.out,Option.none_or,n5.out,Option.none_or,I]; rfl
   clear hp hq I HE HV;unfold dS;go_wp2
   exact ⟨rfl,dx.bad HR.out ag.out rfl⟩
 obtain rfl:=hq I;have n6:=zH I;clear hp hq I;have J:=bl;have D:=ad;have U:=ag;clear bl ad ag;obtain ⟨d0,d1,d2,d3,d4,d5,d6,d7⟩:=xD D.out;have cT:=D.out.free 0;have co:=D.out.free 1;have cm:=D.out.free 2;have cf:=D.out.free 3;have b9:=D.out.free 4;have b8:=D.out.free 5;have b7:=D.out.free 6;have b6:=D.out.free 7;have dl:=D.out.lt;obtain ⟨ow,m5⟩ : ∃ ow,ow=ae t dX:=⟨_,rfl⟩;have l6:Hid (ae t dX=ow):=m5.symm;rw [← m5];clear m5;have h1:=fJ ow jG;have h2:=fJ ow gR;rw [show ((bs jG:S)).toList=[116,114,117,101] from by decide +kernel] at h1;rw [show ((bs gR:S)).toList=[102,97,108,115,101] from by decide +kernel] at h2;have hR:Hid ((ow=jG→gN ow=1)∧(ow≠jG→ow=gR→gN ow=2)∧(ow≠jG→ow≠gR→gN ow=0)):=⟨fun h=>by unfold gN; rw [if_pos h],fun h h'=>by unfold gN; rw [if_neg h,if_pos h'],fun h h'=>by unfold gN; rw [if_neg h,if_neg h']⟩;go_upto_block 0 with fail
 go_cut [] from 36 to 41 (fun wx=>Hid (ak wx w.heap.size [.string (bs t.name),.slice ao t.attrs.length ac,.slice ko t.kids.length kc,.string (bs t.text),.string X]∧ak wx (w.heap.size+1) [.string (bs (ae t aG)),.string (bs (ae t ar)),.string (bs (ae t aA)),.string (bs (ae t dE)),.string (bs (ae t aR)),.int .i64 (bZ (ae t cI)),.int .i64 (gN ow),.slice none 0 0]∧Below w.heap.size w wx))
 case first =>
  by_cases ht:ow=jG
  · have HQ:=zH (hR.out.1 ht)
    rw [decide_eq_true ht] at h1;clear ht h2 hR;go_wp2
    go_meet
    case rel=>exact ⟨J.out.apart (by omega) _ _,by rw [HQ.out]; exact D.out.set 6 _,U.out.setCell (by simp) _⟩
  · rw [decide_eq_false ht] at h1
    by_cases hf:ow=gR
    · have HQ:=zH (hR.out.2.1 ht hf)
      rw [decide_eq_true hf] at h2;clear ht hf hR;go_wp2
      go_meet
      case rel=>exact ⟨J.out.apart (by omega) _ _,by rw [HQ.out]; exact D.out.set 6 _,U.out.setCell (by simp) _⟩
    · have HQ:=zH (hR.out.2.2 ht hf)
      rw [decide_eq_false hf] at h2;clear ht hf hR;go_wp2
      go_meet
      case rel=>exact ⟨J.out,by rw [HQ.out]; exact D.out,U.out⟩
 case rest =>
  have J:=zH hcut.out.1;have D:=zH hcut.out.2.1;have U:=zH hcut.out.2.2;clear hcut d0 d1 d2 d3 d4 d5 d6 d7 cT co cm cf b9 b8 b7 b6 dl h1 h2;obtain ⟨a0,a1,a2,a3,a4⟩:=gU J.out;have al:=J.out.lt;go_wp2_with fail
  refine (HF.out _ U.out).mono ?_
  rintro e w8 ⟨aa,hp,hq⟩;have ag:=zH (U.out.trans (aa.mono U.out.size));have bl:=zH (J.out.below aa J.out.lt);have ad:=zH (D.out.below aa D.out.lt);clear a0 a1 a2 a3 a4 al J D U aa HF;have gv:Hid (r=ot t wh):=by show _=_; rw [HE.out]; unfold gd; rw [n0.out,Option.none_or,n1.out,Option.none_or,n2.out,Option.none_or,n3.out,Option.none_or,n4.out,Option.none_or,n5.out,Option.none_or,n6.out,Option.none_or]
  have k8:Hid (∀ l:List Id,qY t=l→V=⟨bs (ae t aG),bs (ae t ar),bs (ae t aA),bs (ae t dE),bs (ae t aR),bZ (ae t cI),gN ow,l⟩):=fun l h=>by rw [HV.out]; unfold mg; rw [h,l6.out]
  clear HE HV l6 n0 n1 n2 n3 n4 n5 n6;rcases I:cS t wh aQ with _ | x
  rotate_left
  · obtain rfl:=hp x I
    have HR:Hid (r=some x):=by show _=_; rw [gv.out]; unfold ot; rw [I]; rfl
    clear hp hq I gv k8;unfold dS;go_wp2
    exact ⟨rfl,dx.bad HR.out ag.out rfl⟩
  have hq:=hq I;rcases hO:cZ t aQ with _ | k
  · have HR:Hid (r=none):=by show _=_; rw [gv.out]; unfold ot; rw [I,hO]; rfl
    have va:=zH (k8.out [] (by unfold qY; rw [hO]));rw [hO] at hq;simp only [gn] at hq;subst hq;clear hp I hO gv k8;go_upto_region 19 with fail
    refine ai fun W9 hE=>?_
    have x2:ak W9 (w.heap.size+1) [.string (bs (ae t aG)),.string (bs (ae t ar)),.string (bs (ae t aA)),.string (bs (ae t dE)),.string (bs (ae t aR)),.int .i64 (bZ (ae t cI)),.int .i64 (gN ow),.slice none 0 0]:=by rw [hE]; exact ad.out.alloc _
    have hb:Below w.heap.size w W9:=by rw [hE]; exact ag.out.alloc ag.out.size _
    clear hE ad ag bl;have D:=zH x2;have U:=zH hb;clear x2 hb;go_wp2_with (first | ((with_reducible show wpList _ _ _ (Oper.mk _ (Op.load 133 (.tmp 4)) _ _ _ _::_) _ _); refine er rfl 133 (.tmp 4) rfl (w.heap.size+1) [.string (bs (ae t aG)),.string (bs (ae t ar)),.string (bs (ae t aA)),.string (bs (ae t dE)),.string (bs (ae t aR)),.int .i64 (bZ (ae t cI)),.int .i64 (gN ow),.slice none 0 0] rfl D.out Tryz.underlying133 rfl gZ ?_) | ((with_reducible show wpList _ _ _ (Oper.mk none (Op.store 133 (.tmp 4) (.tmp 65)) _ _ _ _::_) _ _); refine bn rfl 133 (.tmp 4) (.tmp 65) rfl (w.heap.size+1) [.string (bs (ae t aG)),.string (bs (ae t ar)),.string (bs (ae t aA)),.string (bs (ae t dE)),.string (bs (ae t aR)),.int .i64 (bZ (ae t cI)),.int .i64 (gN ow),.slice none 0 0] [.string (bs (ae t aG)),.string (bs (ae t ar)),.string (bs (ae t aA)),.string (bs (ae t dE)),.string (bs (ae t aR)),.int .i64 (bZ (ae t cI)),.int .i64 (gN ow),.slice none 0 0] rfl rfl D.out rfl gZ (by simp [Value.oneCell']) ?_; intro u5 kb hJ; have ll:=zH kb; have ih:=zH hJ; clear kb hJ))
    refine bodyPost_ret (eY rfl _ _ (w.heap.size+1) [.string (bs (ae t aG)),.string (bs (ae t ar)),.string (bs (ae t aA)),.string (bs (ae t dE)),.string (bs (ae t aR)),.int .i64 (bZ (ae t cI)),.int .i64 (gN ow),.slice none 0 0] rfl ll.out Tryz.underlying133 rfl gZ) rfl ?_
    refine dx.good HR.out (U.out.trans (aS ih.out (by omega) U.out.size)) ?_
    rw [va.out];exact ⟨.slice none 0 0,rfl,aj.nil⟩
  · obtain ⟨K,hK⟩ : ∃ K,K=bV db k.kids:=⟨_,rfl⟩
    have l5:Hid (r=(jE K.length (sl wh aQ)).or (fx qh (sl (sl wh aQ) db) K 0)):=by show _=_; rw [gv.out,hK]; unfold ot; rw [I,hO]; rfl
    have r5:=zH (k8.out (K.map qg) (by rw [hK]; unfold qY; rw [hO]));rw [hO] at hq;obtain ⟨y3,y0,rfl,hn⟩:=hq;obtain ⟨p1,p2,p3,p4,rfl,rfl,-,-⟩:=hn.shape;have m6:=HM.out.one hO
    have sx:Hid (∀ W,Below w8.heap.size w8 W→Calls Tryz.prog 137 #[.agg #[.string (bs k.name),.slice p1 k.attrs.length p2,.slice p3 k.kids.length p4,.string (bs k.text),.string (bs (sl wh aQ))],.string ⟨#[101,120,99,108,117,115,105,111,110]⟩] W (dx (jE K.length (sl wh aQ)) (zC (fun j=>w.heap.size≤j) W (ma (sl (sl wh aQ) db) K 0)) W)):=fun W h=>by
     rw [hK];exact pQ (fun j=>w.heap.size≤j) k (sl wh aQ) db W _ _ (hn.later h) m6.kl (by have h1:db.length≤20:=(by decide); have h2:aQ.length≤20:=(by decide); unfold sl; simp only [List.length_append,List.length_cons]; omega)
    have v4:Hid (∀ y ∈ K,dM y):=fun y hy=>m6.kids y (ii (by rw [← hK]; exact hy));clear hp I hO gv k8 hK hn m6;unfold dj;obtain ⟨d0,d1,d2,d3,d4,d5,d6,d7⟩:=xD ad.out;have cT:=ad.out.free 0;have co:=ad.out.free 1;have cm:=ad.out.free 2;have cf:=ad.out.free 3;have b9:=ad.out.free 4;have b8:=ad.out.free 5;have b7:=ad.out.free 6;have b6:=ad.out.free 7;have dl:=ad.out.lt;go_upto_region 14 with fail
    refine ai fun W9 hE=>?_
    have x1:ak W9 w8.heap.size [.string (bs k.name),.slice p1 k.attrs.length p2,.slice p3 k.kids.length p4,.string (bs k.text),.string (bs (sl wh aQ))]:=by rw [hE]; exact ak.new w8 [.string (bs k.name),.slice p1 k.attrs.length p2,.slice p3 k.kids.length p4,.string (bs k.text),.string (bs (sl wh aQ))] _ _ rfl
    have x2:ak W9 (w.heap.size+1) [.string (bs (ae t aG)),.string (bs (ae t ar)),.string (bs (ae t aA)),.string (bs (ae t dE)),.string (bs (ae t aR)),.int .i64 (bZ (ae t cI)),.int .i64 (gN ow),.slice none 0 0]:=by rw [hE]; exact ad.out.alloc _
    have nu:Below w8.heap.size w8 W9:=by rw [hE]; exact (Below.refl _ w8).alloc (Nat.le_refl _) _
    clear hE bl d0 d1 d2 d3 d4 d5 d6 d7 cT co cm cf b9 b8 b7 b6 dl;have J:=zH x1;have mc:=zH x2;have wo:=zH nu;have U:=zH (ag.out.trans (nu.mono ag.out.size));have y5:=zH ad.out.lt;clear x1 x2 nu ad ag;obtain ⟨a0,a1,a2,a3,a4⟩:=gU J.out;have al:=J.out.lt;go_wp2_with fail
    refine (sx.out _ wo.out).mono ?_
    rintro e w9 ⟨b3,hp,hq⟩;have hP:=zH (U.out.trans (b3.mono U.out.size));have wa:=zH (mc.out.below b3 mc.out.lt);have pa:=zH (And.intro mc.out.lt b3.size);clear a0 a1 a2 a3 a4 al J mc U b3 sx;rcases I:jE K.length (sl wh aQ) with _ | x
    rotate_left
    · obtain rfl:=hp x I
      have HR:Hid (r=some x):=by show _=_; rw [l5.out,I]; rfl
      clear hp hq I l5 r5;unfold dS;go_wp2
      exact ⟨rfl,dx.bad HR.out hP.out rfl⟩
    obtain ⟨v,O,rfl,n7,l0,q0⟩:=hq I
    have ra:K.length≤1024:=by
     unfold jE at I;split at I
     · cases I
     · omega
    have pl:=zH ra;have pc:Hid (r=fx qh (sl (sl wh aQ) db) K 0):=by show _=_; rw [l5.out,I]; rfl
    have nz:O.length=K.length:=by
     have h1:=congrArg List.length n7;rw [List.length_map,ox] at h1;exact h1
    obtain ⟨la,lc,rfl⟩:=l0.shape;rw [nz] at l0 ⊢;have vj:=zH l0;have r7:=zH n7;have vk:=zH q0;have r6:=zH nz;obtain ⟨WK,nv⟩ : ∃ WK,WK=sl (sl wh aQ) db:=⟨_,rfl⟩
    have u9:Hid (WK.length≤100000000000):=by
     show _≤_
     rw [nv]; have h1:db.length≤20:=(by decide); have h2:aQ.length≤20:=(by decide); unfold sl; simp only [List.length_append,List.length_cons]; omega
    rw [← nv] at pc r7;clear hp hq I l5 ra nz l0 n7 q0 nv;go_wp2
    go_loopw [50] (fun iv wr=>∃ (n:Nat) (oa:Option Addr) (oc:Nat),n≤K.length∧iv = .int .i64 n∧Hid (w9.grownBy wr (some (w.heap.size+1))∧ak wr (w.heap.size+1) [.string (bs (ae t aG)),.string (bs (ae t ar)),.string (bs (ae t aA)),.string (bs (ae t dE)),.string (bs (ae t aR)),.int .i64 (bZ (ae t cI)),.int .i64 (gN ow),.slice oa n oc]∧aj w9.heap.size 24 2 jj wr (.slice oa n oc) ((K.take n).map qg)∧r=fx qh WK (K.drop n) n)) (fun iv _=>K.length - (intOf iv).toNat)
    case atStart=>exact ⟨0,none,0,Nat.zero_le _,rfl,World.grownBy.refl _ _,wa.out,aj.nil,pc.out⟩
    case round =>
     obtain ⟨n,oa,oc,hi,rfl,hN⟩:=hrel;by_cases hlt:n<K.length
     · have hI:=hN.out.1
       have ql:aj (W9.heap.size) 175 5 yS wr (.slice la K.length lc) O:=by
        have h9:=vj.out;exact h9.keptR hI pa.out.1
       have mn:=zH (aS hI (by omega:w.heap.size≤w.heap.size+1) hP.out.size);have nc:n<O.length:=by rw [r6.out]; exact hlt
       have hy:=congrArg (·[n]?) r7.out;simp only [List.getElem?_map,oy _ _ _ _ hlt,List.getElem?_eq_getElem nc,Option.map_some,Option.some.injEq,Nat.zero_add] at hy;have nx:=ql.slice nf;rw [← r6.out] at nx;obtain ⟨g,o1,t2,hg,hc⟩:=nx.at nc;subst t2;have c0:wr.cell? ⟨g,o1+n*5,none⟩=some (.string (bs O[n].1.1.name)):=by simpa using hc 0 _ rfl
       have c1:=hc 1 _ rfl;have c2:=hc 2 _ rfl;have c3:=hc 3 _ rfl;have c4:=hc 4 _ rfl;have lV:dJ wr O[n].1.1 O[n].1.2.1 O[n].1.2.2:=(vk.out O[n] (List.getElem_mem nc)).keep (pU mn.out mn.out.size (fun k hk=>by have h2 : ¬ w.heap.size≤k:=fun h=>hk (.inl h); omega)) (fun _ _ h=>h.elim);clear hc nx ql hI;generalize O[n]=y at *;obtain ⟨⟨t1,ya,yk⟩,wy⟩:=y;simp only [Prod.mk.injEq] at hy c0 c1 c2 c3 c4 lV;obtain ⟨lF,rfl⟩:=hy;obtain ⟨q1,q2,q3,q4,rfl,rfl,-,-⟩:=lV.shape;have sp:=zH lV;have vb:=zH (by rw [List.take_succ_eq_append_getElem hlt,← lF]:K.take (n+1)=K.take n ++ [t1]);have su:=zH (v4.out t1 (by rw [lF]; exact List.getElem_mem hlt));have pb:=zH (by rw [hN.out.2.2.2,sR hlt,← lF]; rfl:r=((bB t1 (mI WK (n+1)) aG true fH).or (bB t1 (mI WK (n+1)) ar true fH)).or (fx qh WK (K.drop (n+1)) (n+1)))
       have HZ:Hid ((mI WK (n+1)).length+20≤1000000000000):=by
        have h1:=nP (n+1); have h2:=pl.out; have h3:=u9.out;show _≤_
        unfold mI; simp only [List.length_append,List.length_cons,List.length_nil]; omega
       obtain ⟨Y,hY⟩ : ∃ Y:S,Y=bs (mI WK (n+1)):=⟨_,rfl⟩;obtain ⟨E1,oi⟩ : ∃ E1,E1=bB t1 (mI WK (n+1)) aG true fH:=⟨_,rfl⟩;obtain ⟨E2,n9⟩ : ∃ E2,E2=bB t1 (mI WK (n+1)) ar true fH:=⟨_,rfl⟩;obtain ⟨G,hG⟩ : ∃ G:S,G=bs (ae t1 aG):=⟨_,rfl⟩;obtain ⟨A,hA⟩ : ∃ A:S,A=bs (ae t1 ar):=⟨_,rfl⟩;obtain ⟨l,hl⟩ : ∃ l,l=(K.take n).map qg:=⟨_,rfl⟩;obtain ⟨base,hU⟩ : ∃ base,base=w9.heap.size:=⟨_,rfl⟩;have mo:=zH hU;have v5:=zH (by rw [hl,hG,hA]; rfl:l ++ [(⟨G,A⟩:Id)]=(K.take n).map qg ++ [t1].map qg);have sv:Hid (l.length=n):=by show _=_; rw [hl,List.length_map,List.length_take]; omega
       have lp:Hid (r=(E1.or E2).or (fx qh WK (K.drop (n+1)) (n+1))):=by show _=_; rw [oi,n9]; exact pb.out
       have gv:Hid ((∀ x,E1=some x→r=some x)∧(∀ x,E1=none→E2=some x→r=some x)):=⟨fun x h=>by rw [lp.out,h]; rfl,fun x h h'=>by rw [lp.out,h,h']; rfl⟩
       have r0:Hid (∀ W,Below wr.heap.size wr W→Calls Tryz.prog 94 #[.agg #[.string (bs t1.name),.slice q1 t1.attrs.length q2,.slice q3 t1.kids.length q4,.string (bs t1.text),.string Y],.string ⟨#[103,114,111,117,112,73,100]⟩,.bool true,.func (.func 177) #[] #[]] W fun e w'=>Below W.heap.size W w'∧zv E1 G e):=fun W h=>by
        rw [hY,oi,hG];exact (cj _ _ _ t1 (mI WK (n+1)) aG true W _ _ (sp.out.later h) su.out (by have h1:aG.length≤20:=(by decide); have h2:=HZ.out; omega) (ny W)).mono fun e w' h=>h.wd
       have rv:Hid (∀ W,Below wr.heap.size wr W→Calls Tryz.prog 94 #[.agg #[.string (bs t1.name),.slice q1 t1.attrs.length q2,.slice q3 t1.kids.length q4,.string (bs t1.text),.string Y],.string ⟨#[97,114,116,105,102,97,99,116,73,100]⟩,.bool true,.func (.func 177) #[] #[]] W fun e w'=>Below W.heap.size W w'∧zv E2 A e):=fun W h=>by
        rw [hY,n9,hA];exact (cj _ _ _ t1 (mI WK (n+1)) ar true W _ _ (sp.out.later h) su.out (by have h1:ar.length≤20:=(by decide); have h2:=HZ.out; omega) (ny W)).mono fun e w' h=>h.wd
       have pk:Hid (aj base 24 2 jj wr (.slice oa n oc) l):=by show aj _ _ _ _ _ _ _; rw [hU,hl]; exact hN.out.2.2.1
       have sy:=zH hN.out.2.1;have qb:=hN.out.1.size;have ve:=zH qb;have y1:(n:Int)<(K.length:Int):=by omega
       rw [← hY] at c4;clear lF lV hY oi n9 hG hA hl hU qb pb;go_upto_region 17 with fail
       refine ai fun W7 hF=>?_
       have x7:ak W7 wr.heap.size [.string (bs t1.name),.slice q1 t1.attrs.length q2,.slice q3 t1.kids.length q4,.string (bs t1.text),.string Y]:=by rw [hF]; exact ak.new wr [.string (bs t1.name),.slice q1 t1.attrs.length q2,.slice q3 t1.kids.length q4,.string (bs t1.text),.string Y] _ _ rfl
       have k6:Below wr.heap.size wr W7:=by rw [hF]; exact (Below.refl _ wr).alloc (Nat.le_refl _) _
       clear hF c0 c1 c2 c3 c4;have bg:=zH x7;have hv:=zH k6;have ms:=zH ((hP.out.trans mn.out).trans (k6.mono (hP.out.trans mn.out).size));have pn:=zH (sy.out.below k6 sy.out.lt);have vi:=zH (pk.out.below k6);have l3:Hid (∀ W,Below W7.heap.size W7 W→Calls Tryz.prog 94 #[.agg #[.string (bs t1.name),.slice q1 t1.attrs.length q2,.slice q3 t1.kids.length q4,.string (bs t1.text),.string Y],.string ⟨#[103,114,111,117,112,73,100]⟩,.bool true,.func (.func 177) #[] #[]] W fun e w'=>Below W.heap.size W w'∧zv E1 G e):=fun W h=>r0.out W (hv.out.trans (h.mono hv.out.size));have l2:Hid (∀ W,Below W7.heap.size W7 W→Calls Tryz.prog 94 #[.agg #[.string (bs t1.name),.slice q1 t1.attrs.length q2,.slice q3 t1.kids.length q4,.string (bs t1.text),.string Y],.string ⟨#[97,114,116,105,102,97,99,116,73,100]⟩,.bool true,.func (.func 177) #[] #[]] W fun e w'=>Below W.heap.size W w'∧zv E2 A e):=fun W h=>rv.out W (hv.out.trans (h.mono hv.out.size));have sD:Hid (w.heap.size+1<base):=by show _<_; rw [mo.out]; have:=pa.out; omega
       have wn:Hid (base≤W7.heap.size):=by show _≤_; rw [mo.out]; have h1:=ve.out; have h2:=hv.out.size; omega
       have v0:Hid (∀ k,(Value.slice oa n oc).ownBlock=some k→base≤k):=fun k h=>(pk.out.lt _ h).1;have vs:Hid (some (w.heap.size+1)≠(Value.slice oa n oc).ownBlock):=fun h=>by have h1:=(pk.out.lt _ h.symm).1; have h2:=sD.out; omega
       have wk:Hid ((l.length+1)*32≤140737488355328):=by show _≤_; rw [sv.out]; have:=pl.out; omega
       clear x7 k6 r0 rv;refine bm (BQ (w.heap.size+1) (.string (bs t1.name)) (.slice q1 t1.attrs.length q2) (.slice q3 t1.kids.length q4) (.string (bs t1.text)) (.string Y) G A oa n oc base l (fun v=>[.string (bs (ae t aG)),.string (bs (ae t ar)),.string (bs (ae t aA)),.string (bs (ae t dE)),.string (bs (ae t aR)),.int .i64 (bZ (ae t cI)),.int .i64 (gN ow),v]) E1 E2 W7 _ _ _ _ _ _ _ _ _ _ _ _ _ _ _ _ _ _ _ _ _ _ _ _ _ _ _ _ _ _ _ _ _ _ _ _ _ _ _ _ _ _ _ _ _ _ _ _ _ _ _ _ _ _ _ _ _ _ _ _ _ _ _ _ _ _) (by kernel_rfl) 11 rfl (by kernel_rfl) ⟨false,false,false,false,false,false,false,false,false,false,false,0,0,0,rfl,rfl,zH (by simp),zH (by simp),zH (by simp),zH (by simp),zH (by simp),zH (by simp),zH (by simp),zH (by simp),fun _=>aY (Below.refl _ _) 1,by simp,by simp,by simp⟩ ?fin ?step
       case fin =>
        rintro a' w' ⟨f0,f1,f2,f3,f4,f5,f6,f7,f8,f9,f10,H,g8,c8,hl,rfl,a2,a4,a6,a7,a8,b0,n1,n2,hB,h7,h8,e9⟩;have kr:[true,true,true,true,true,true,true,true,true,true,true]=[f0,f1,f2,f3,f4,f5,f6,f7,f8,f9,f10]:=congrArg Array.toList hl;simp only [List.cons.injEq,and_true] at kr;obtain ⟨rfl,rfl,rfl,rfl,rfl,rfl,rfl,rfl,rfl,rfl,rfl⟩:=kr;unfold eW;simp only [cond_true];have qa:=zH (e9 rfl);have ty:=zH (n1.out rfl);have tp:=zH (n2.out rfl);clear a2 a4 a6 a7 a8 b0 n1 n2 hB h7 h8 e9;have xn:n<1024:=by have:=pl.out; omega
        go_wp2
        go_roundw
        case rel =>
         have h1:=hN.out;obtain ⟨g7,nm,yv,t5,t4⟩:=qa.out;rw [sv.out] at g7 nm;rw [mo.out] at g7;refine ⟨n+1,some ⟨g8,0,none⟩,c8,hlt,by go_num,?_⟩
         refine ⟨ui (wS (ol h1.1 hv.out) t5 v0.out (Nat.le_of_eq mo.out.symm)) t4,nm,?_,?_⟩
         · rw [vb.out,List.map_append,← v5.out]; exact g7
         · rw [lp.out,ty.out,tp.out]; rfl
        case measure=>simp [intOf]; omega
       case step =>
        rintro m4 a' w' ⟨f0,f1,f2,f3,f4,f5,f6,f7,f8,f9,f10,H,g8,c8,rfl,rfl,a2,a4,a6,a7,a8,b0,n1,n2,hB,h7,h8,e9⟩ i hi;rw [mem_ready] at hi;obtain ⟨hu,o,ho,ha⟩:=hi;have t3:i<11:=(Array.getElem?_eq_some_iff.1 ho).1;rcases (by omega:i=0∨i=1∨i=2∨i=3∨i=4∨i=5∨i=6∨i=7∨i=8∨i=9∨i=10) with rfl | rfl | rfl | rfl | rfl | rfl | rfl | rfl | rfl | rfl | rfl
        · have bb:=ho
          simp at hu ho;subst hu ho;clear ha;refine .inl ?_
          unfold eW Oper.wp;go_simp
          exact ⟨true,f1,f2,f3,f4,f5,f6,f7,f8,f9,f10,H,g8,c8,rfl,rfl,a2,a4,a6,a7,a8,b0,n1,n2,hB,h7,h8,e9⟩
        · have bb:=ho
          simp at hu ho;subst hu ho;simp [Region.binds] at ha
          obtain rfl:f0=true:=by simp only [ha]
          clear ha;have e8:f8=false:=aP (fun h=>(a8.out h).1) rfl;subst e8;have b5:f10=false:=aP b0.out rfl;subst b5;have Z:=hB rfl;have dn:=Z.size;have k7:=(Z.cell (p:=⟨w.heap.size+1,7,none⟩) (by exact pn.out.lt)).trans (pn.out.cell 7 _ rfl);refine .inl ?_
          unfold eW Oper.wp;go_simp
          exact ⟨true,true,f2,f3,f4,f5,f6,f7,false,f9,false,H,g8,c8,rfl,rfl,a2,a4,a6,a7,zH (by simp),b0,n1,n2,hB,h7,h8,e9⟩
        · have bb:=ho
          simp at hu ho;subst hu ho;clear ha;have e3:f3=false:=aP a2.out rfl;subst e3;have e5:f5=false:=aP (fun h=>(a4.out h).2) rfl;subst e5;have e6:f6=false:=aP (fun h=>(a6.out h).2) rfl;subst e6;have e7:f7=false:=aP a7.out rfl;subst e7;have e8:f8=false:=aP (fun h=>(a8.out h).2.1) rfl;subst e8;have b5:f10=false:=aP b0.out rfl;subst b5;have Z:=hB rfl;have dn:=Z.size;have k0:=(Z.cell (p:=⟨wr.heap.size,0,none⟩) (by exact bg.out.lt)).trans (bg.out.cell 0 _ rfl);have k1:=(Z.cell (p:=⟨wr.heap.size,1,none⟩) (by exact bg.out.lt)).trans (bg.out.cell 1 _ rfl);have k2:=(Z.cell (p:=⟨wr.heap.size,2,none⟩) (by exact bg.out.lt)).trans (bg.out.cell 2 _ rfl);have k3:=(Z.cell (p:=⟨wr.heap.size,3,none⟩) (by exact bg.out.lt)).trans (bg.out.cell 3 _ rfl);have k4:=(Z.cell (p:=⟨wr.heap.size,4,none⟩) (by exact bg.out.lt)).trans (bg.out.cell 4 _ rfl);refine .inl ?_
          unfold eW Oper.wp;go_simp
          exact ⟨f0,f1,true,false,f4,false,false,false,false,f9,false,H,g8,c8,rfl,rfl,zH (by simp),a4,a6,a7,a8,b0,n1,n2,hB,h7,h8,e9⟩
        · have bb:=ho
          simp at hu ho;subst hu ho;simp [Region.binds] at ha
          obtain rfl:f2=true:=by simp only [ha]
          clear ha;have e5:f5=false:=aP (fun h=>(a4.out h).2) rfl;subst e5;have e6:f6=false:=aP (fun h=>(a6.out h).2) rfl;subst e6;have e7:f7=false:=aP a7.out rfl;subst e7;have e8:f8=false:=aP (fun h=>(a8.out h).2.1) rfl;subst e8;have b5:f10=false:=aP b0.out rfl;subst b5;have Z:=hB rfl;have dn:=Z.size;refine .inl ?_
          unfold eW Oper.wp;go_simp
          refine (l3.out _ Z).mono ?_
          rintro e w9 ⟨b3,⟨x,I,rfl⟩ | ⟨I,rfl⟩⟩
          · exact ⟨rfl,dx.bad (gv.out.1 x I) (ms.out.trans ((Z.trans (b3.mono dn)).mono ms.out.size)) rfl⟩
          exact ⟨f0,f1,true,true,f4,false,false,false,false,f9,false,H,g8,c8,rfl,rfl,zH (by simp),zH (by simp),zH (by simp),a7,a8,b0,zH (fun _=>I),n2,fun _=>Z.trans (b3.mono dn),by simp,by simp,by simp⟩
        · have bb:=ho
          simp at hu ho;subst hu ho;clear ha;have e5:f5=false:=aP (fun h=>(a4.out h).1) rfl;subst e5;have e6:f6=false:=aP (fun h=>(a6.out h).2) rfl;subst e6;have e7:f7=false:=aP a7.out rfl;subst e7;have e8:f8=false:=aP (fun h=>(a8.out h).2.1) rfl;subst e8;have b5:f10=false:=aP b0.out rfl;subst b5;have Z:=hB rfl;have dn:=Z.size;have k0:=(Z.cell (p:=⟨wr.heap.size,0,none⟩) (by exact bg.out.lt)).trans (bg.out.cell 0 _ rfl);have k1:=(Z.cell (p:=⟨wr.heap.size,1,none⟩) (by exact bg.out.lt)).trans (bg.out.cell 1 _ rfl);have k2:=(Z.cell (p:=⟨wr.heap.size,2,none⟩) (by exact bg.out.lt)).trans (bg.out.cell 2 _ rfl);have k3:=(Z.cell (p:=⟨wr.heap.size,3,none⟩) (by exact bg.out.lt)).trans (bg.out.cell 3 _ rfl);have k4:=(Z.cell (p:=⟨wr.heap.size,4,none⟩) (by exact bg.out.lt)).trans (bg.out.cell 4 _ rfl);refine .inl ?_
          unfold eW Oper.wp;go_simp
          exact ⟨f0,f1,f2,f3,true,false,false,false,false,f9,false,H,g8,c8,rfl,rfl,a2,zH (by simp),a6,a7,a8,b0,n1,n2,hB,h7,h8,e9⟩
        · have bb:=ho
          simp at hu ho;subst hu ho;simp [Region.binds] at ha
          obtain rfl:f4=true:=by simp only [ha]
          obtain rfl:f3=true:=by simp only [ha]
          clear ha;have e6:f6=false:=aP (fun h=>(a6.out h).2) rfl;subst e6;have e7:f7=false:=aP a7.out rfl;subst e7;have e8:f8=false:=aP (fun h=>(a8.out h).2.1) rfl;subst e8;have b5:f10=false:=aP b0.out rfl;subst b5;have Z:=hB rfl;have dn:=Z.size;refine .inl ?_
          unfold eW Oper.wp;go_simp
          refine (l2.out _ Z).mono ?_
          rintro e w9 ⟨b3,⟨x,I,rfl⟩ | ⟨I,rfl⟩⟩
          · exact ⟨rfl,dx.bad (gv.out.2 x (n1.out rfl) I) (ms.out.trans ((Z.trans (b3.mono dn)).mono ms.out.size)) rfl⟩
          exact ⟨f0,f1,f2,true,true,true,false,false,false,f9,false,H,g8,c8,rfl,rfl,a2,zH (by simp),zH (by simp),a7,zH (by simp),b0,n1,zH (fun _=>I),fun _=>Z.trans (b3.mono dn),by simp,by simp,by simp⟩
        · have bb:=ho
          simp at hu ho;subst hu ho;simp [Region.binds] at ha
          obtain rfl:f3=true:=by simp only [ha]
          obtain rfl:f5=true:=by simp only [ha]
          clear ha;have e7:f7=false:=aP a7.out rfl;subst e7;have e8:f8=false:=aP (fun h=>(a8.out h).2.1) rfl;subst e8;have b5:f10=false:=aP b0.out rfl;subst b5;have Z:=hB rfl;have dn:=Z.size;refine .inl ?_
          unfold eW Oper.wp;go_simp
          exact ⟨f0,f1,f2,true,f4,true,true,false,false,f9,false,H,g8,c8,rfl,rfl,a2,a4,zH (by simp),zH (by simp),a8,b0,n1,n2,hB,h7,h8,e9⟩
        · have bb:=ho
          simp at hu ho;subst hu ho;simp [Region.binds] at ha
          obtain rfl:f6=true:=by simp only [ha]
          clear ha;have e8:f8=false:=aP (fun h=>(a8.out h).2.1) rfl;subst e8;have b5:f10=false:=aP b0.out rfl;subst b5;have Z:=hB rfl;have dn:=Z.size;refine .inl ?_
          unfold eW Oper.wp;go_simp
          exact ⟨f0,f1,f2,f3,f4,f5,true,true,false,f9,false,w'.heap.size,g8,c8,rfl,rfl,a2,a4,a6,zH (by simp),zH (by simp),b0,n1,n2,fun _=>Z.alloc dn _,fun _ _ j u hu=>(ak.new w' [.string G,.string A] _ _ rfl).cell j u hu,by simp,by simp⟩
        · have bb:=ho
          simp at hu ho;subst hu ho;simp [Region.binds] at ha
          obtain rfl:f1=true:=by simp only [ha]
          obtain rfl:f7=true:=by simp only [ha]
          obtain rfl:f5=true:=by simp only [ha]
          clear ha;have b5:f10=false:=aP b0.out rfl;subst b5;have Z:=hB rfl;have dn:=Z.size;have t6:=h7 rfl rfl;unfold eW;refine zQ bb (by rfl) ?_
          refine jZ rfl (.tmp 55) (.tmp 61) 67 rfl base 24 Tryz.underlying67 yE rfl (by decide) sL (.slice oa n oc) l (by simp [Act.eval]) (vi.out.below Z) H ⟨G,A⟩ (by simp [Act.eval]) t6 (yH _) wk.out (by decide) (Nat.le_trans wn.out dn) w'.heap.size rfl ?_
          intro g9 tn w9 p8 nl _ _;simp only [Act.put,List.setIfInBounds_toArray,List.set_cons_succ,List.set_cons_zero];exact ⟨f0,true,f2,f3,f4,true,f6,true,true,f9,false,H,g9,tn,rfl,rfl,a2,a4,a6,a7,zH (by simp),zH (by simp),n1,n2,by simp,by simp,fun _ _=>⟨p8,jB Z nl⟩,by simp⟩
        · have bb:=ho
          simp at hu ho;subst hu ho;simp [Region.binds] at ha
          obtain rfl:f0=true:=by simp only [ha]
          obtain rfl:f1=true:=by simp only [ha]
          obtain rfl:f2=true:=by simp only [ha]
          obtain rfl:f3=true:=by simp only [ha]
          obtain rfl:f4=true:=by simp only [ha]
          obtain rfl:f5=true:=by simp only [ha]
          obtain rfl:f6=true:=by simp only [ha]
          obtain rfl:f7=true:=by simp only [ha]
          obtain rfl:f8=true:=by simp only [ha]
          clear ha;refine .inl ?_
          unfold eW Oper.wp;go_simp
          exact ⟨true,true,true,true,true,true,true,true,true,true,f10,H,g8,c8,rfl,rfl,a2,a4,a6,a7,a8,b0,n1,n2,hB,h7,h8,e9⟩
        · have bb:=ho
          simp at hu ho;subst hu ho;simp [Region.binds] at ha
          obtain rfl:f9=true:=by simp only [ha]
          obtain rfl:f8=true:=by simp only [ha]
          obtain rfl:f0=true:=by simp only [ha]
          obtain rfl:f1=true:=by simp only [ha]
          obtain rfl:f2=true:=by simp only [ha]
          obtain rfl:f3=true:=by simp only [ha]
          obtain rfl:f4=true:=by simp only [ha]
          obtain rfl:f5=true:=by simp only [ha]
          obtain rfl:f6=true:=by simp only [ha]
          obtain rfl:f7=true:=by simp only [ha]
          clear ha;obtain ⟨g7,hI⟩:=h8 rfl rfl;have oj:=pn.out.grown hI vs.out;obtain ⟨z7,u7,l7⟩:=zB oj 7 rfl;have v9:=zH (oj.set 7 (.slice (some ⟨g8,0,none⟩) (l.length+1) c8));have l6:=zH (g7.keptR (ab w' (w.heap.size+1) 7 (.slice (some ⟨g8,0,none⟩) (l.length+1) c8)) sD.out);have v6:=zH hI;clear oj g7 hI;refine .inl ?_
          unfold eW Oper.wp;go_simp
          exact ⟨true,true,true,true,true,true,true,true,true,true,true,H,g8,c8,rfl,rfl,a2,a4,a6,a7,a8,zH (by simp),n1,n2,by simp,by simp,by simp,fun _=>⟨l6.out,v9.out,w',v6.out,ab _ _ _ _⟩⟩
     · obtain rfl:n=K.length:=by omega
       have h1:=hN.out;have D:=zH h1.2.1;have U:=zH (hP.out.trans (aS h1.1 (by omega:w.heap.size≤w.heap.size+1) hP.out.size));have HR:Hid (r=none):=by show _=_; rw [h1.2.2.2,List.drop_length]; rfl
       have hO:=h1.2.2.1;rw [List.take_length] at hO;have HO:=zH hO;clear h1 hO;go_upto_region 19 with fail
       go_wp2_with (first | ((with_reducible show wpList _ _ _ (Oper.mk _ (Op.load 133 (.tmp 4)) _ _ _ _::_) _ _); refine er rfl 133 (.tmp 4) rfl (w.heap.size+1) [.string (bs (ae t aG)),.string (bs (ae t ar)),.string (bs (ae t aA)),.string (bs (ae t dE)),.string (bs (ae t aR)),.int .i64 (bZ (ae t cI)),.int .i64 (gN ow),.slice oa K.length oc] rfl D.out Tryz.underlying133 rfl gZ ?_) | ((with_reducible show wpList _ _ _ (Oper.mk none (Op.store 133 (.tmp 4) (.tmp 65)) _ _ _ _::_) _ _); refine bn rfl 133 (.tmp 4) (.tmp 65) rfl (w.heap.size+1) [.string (bs (ae t aG)),.string (bs (ae t ar)),.string (bs (ae t aA)),.string (bs (ae t dE)),.string (bs (ae t aR)),.int .i64 (bZ (ae t cI)),.int .i64 (gN ow),.slice oa K.length oc] [.string (bs (ae t aG)),.string (bs (ae t ar)),.string (bs (ae t aA)),.string (bs (ae t dE)),.string (bs (ae t aR)),.int .i64 (bZ (ae t cI)),.int .i64 (gN ow),.slice oa K.length oc] rfl rfl D.out rfl gZ (by simp [Value.oneCell']) ?_; intro u5 kb hJ; have ll:=zH kb; have ih:=zH hJ; clear kb hJ))
       refine bodyPost_ret (eY rfl _ _ (w.heap.size+1) [.string (bs (ae t aG)),.string (bs (ae t ar)),.string (bs (ae t aA)),.string (bs (ae t dE)),.string (bs (ae t aR)),.int .i64 (bZ (ae t cI)),.int .i64 (gN ow),.slice oa K.length oc] rfl ll.out Tryz.underlying133 rfl gZ) rfl ?_
       refine dx.good HR.out (U.out.trans (aS ih.out (by omega) U.out.size)) ?_
       rw [r5.out];exact ⟨.slice oa K.length oc,rfl,(HO.out.keptR ih.out (by have:=pa.out; omega)).base_mono hP.out.size⟩
theorem wO:(Tryz.prog.info? 133).map (fun i=>(i.zero,i.size,i.bytes))=some (some (.agg #[.string ⟨#[]⟩,.string ⟨#[]⟩,.string ⟨#[]⟩,.string ⟨#[]⟩,.string ⟨#[]⟩,.int .i64 0,.int .i64 0,.slice none 0 0]),8,120):=by kernel_rfl
theorem il (x:jk × Value):(gQ x).length=8:=rfl
theorem pJ {α β:Type} {b1 b2 J I n1 n2:Nat} {C1:α→List Value} {C2:β→List Value} {w:World} {v1 v2:Value} {U:List α} {O:List β} (h1:aj b1 J n1 C1 w v1 U) (h2:aj b2 I n2 C2 w v2 O) (Z:J≠I):v1.ownBlock=none∨v1.ownBlock≠v2.ownBlock:=by
 rcases h1.2 with ⟨rfl,-⟩ | ⟨g1,c1,u1,rfl,-,D,-⟩
 · exact .inl rfl
 · right
   rcases h2.2 with ⟨rfl,-⟩ | ⟨g2,c2,u2,rfl,-,A,-⟩
   · simp [Value.ownBlock]
   · intro e
     simp only [Value.ownBlock,Option.some.injEq] at e;subst e;rw [D] at A;simp only [Option.some.injEq,Obj.cells.injEq] at A;exact Z A.2.1
theorem AI {base n:Nat} {w:World} {d:jk} {x:Value} {l:List Id} {T:TypeId} (h:aj base T n jj w x l) : ∀ u ∈ gQ (d,x),u.oneCell'=true:=by
 obtain ⟨a,c,rfl⟩:=h.shape;intro u A;simp only [gQ,List.mem_cons,List.not_mem_nil,or_false] at A;rcases A with rfl | rfl | rfl | rfl | rfl | rfl | rfl | rfl <;> rfl
theorem AJ (y:jk × Value) (W:World) (H:Nat) (A:W.heap.size=H):af 8 gQ (W.alloc (.cells (gQ y).toArray 133)) (.slice (some ⟨H,0,none⟩) 1 1) [y]:=by
 have h:=cd il W [y] 133 H 1 A rfl (by unfold maxLen; simp);simpa using h
structure bM (base:Nat) (w:World) (v:Value) (ds:List jk) (L:List (jk × Value)):Prop where
 row:aj base 133 8 gQ w v L
 are:L.map (·.1)=ds
 excl : ∀ p ∈ L,aj base 24 2 jj w p.2 p.1.excl
theorem bM.below {base:Nat} {w w':World} {v:Value} {ds:List jk} {L:List (jk × Value)} (h:bM base w v ds L) (A:Below w.heap.size w w'):bM base w' v ds L :=
 ⟨h.row.below A,h.are,fun p hp=>(h.excl p hp).below A⟩
theorem bM.base_mono {base B:Nat} {w:World} {v:Value} {ds:List jk} {L:List (jk × Value)} (h:bM base w v ds L) (A:B≤base):bM B w v ds L :=
 ⟨h.row.base_mono A,h.are,fun p hp=>(h.excl p hp).base_mono A⟩
theorem bM.nil (base:Nat) (w:World):bM base w (.slice none 0 0) [] []:=⟨aj.nil,rfl,by simp⟩
theorem bM.of {base:Nat} {w:World} {v:Value} {ds:List jk} {L:List (jk × Value)} (h:bM base w v ds L):jN w v ds :=
 ⟨L,h.are,h.row.slice il,fun p hp=>(h.excl p hp).slice sL⟩
theorem bM.keptR {base:Nat} {w w':World} {v:Value} {ds:List jk} {L:List (jk × Value)} {r:Nat} (h:bM base w v ds L) (D:w.grownBy w' (some r)) (A:r<base):bM base w' v ds L :=
 ⟨h.row.keptR D A,h.are,fun p hp=>(h.excl p hp).keptR D A⟩
def zG (w:World) (l:List jk) (e:Ending) (w':World):Prop:=∃ v L,e = .returned v∧bM w.heap.size w' v l L
theorem qm (m:Bool) (t:Tr) (I:Bs) (w:World) (av kv:Value) (ht:dJ w t av kv) (hm:dM t) (hl:I.length≤1000000000) :
    Calls Tryz.prog 97 #[dj t av kv I,.bool m] w (dx (iY m t I) (zG w (lH t)) w):=by
 obtain ⟨ao,ac,ko,kc,rfl,rfl,a7,-⟩:=ht.shape;have HF:Hid (∀ W,Below w.heap.size w W→Calls Tryz.prog 93 #[dj t (.slice ao t.attrs.length ac) (.slice ko t.kids.length kc) I,.string ⟨#[100,101,112,101,110,100,101,110,99,105,101,115]⟩] W (dx (cS t I aE) (kL I aE (cZ t aE)) W)):=fun W h=>l8 t I aE W _ _ (ht.later h) hm.kl (by show _+12≤_; omega);have HM:=zH hm
 have HE:Hid (iY m t I=(cS t I aE).or (match cZ t aE with
  | none=>none
  | some f=>(jE (bV cx f.kids).length (sl I aE)).or (fx (gd m) (sl (sl I aE) cx) (bV cx f.kids) 0))):=rfl
 have HV:Hid (lH t=match cZ t aE with
  | none=>[]
  | some f=>(bV cx f.kids).map mg):=rfl
 obtain ⟨E,hE⟩ : ∃ E,E=iY m t I:=⟨_,rfl⟩;obtain ⟨V,hV⟩ : ∃ V,V=lH t:=⟨_,rfl⟩;rw [← hE] at HE ⊢;rw [← hV] at HV ⊢;clear hE hV ht hm;obtain ⟨X,hX⟩ : ∃ X:S,X=bs I:=⟨_,rfl⟩;obtain ⟨Y,hY⟩ : ∃ Y:S,Y=bs (sl I aE):=⟨_,rfl⟩;have e8:Hid (I.length≤1000000000):=hl;unfold dj at HF ⊢;rw [← hX] at HF ⊢;clear hX hl;go_enter Tryz.func97,Tryz.ntmps97
 go_upto_region 1 with fail
 refine ai fun W hW=>?_
 have x1:ak W w.heap.size [.string (bs t.name),.slice ao t.attrs.length ac,.slice ko t.kids.length kc,.string (bs t.text),.string X]:=by rw [hW]; exact ak.new w [.string (bs t.name),.slice ao t.attrs.length ac,.slice ko t.kids.length kc,.string (bs t.text),.string X] _ _ rfl
 have hb:Below w.heap.size w W:=by rw [hW]; exact (Below.refl _ w).alloc (Nat.le_refl _) _
 clear hW;have d6:=zH x1;have HB:=zH hb;clear x1 hb;obtain ⟨a0,a1,a2,a3,a4⟩:=gU d6.out;have al:=d6.out.lt;go_wp2_with fail
 refine (HF.out _ HB.out).mono ?_
 rintro e w1 ⟨e5,hp,J⟩;have bc:=zH (HB.out.trans (e5.mono HB.out.size));clear a0 a1 a2 a3 a4 al HF d6 e5;cases D:cS t I aE with
 | some x =>
  obtain rfl:=hp x D;have HR:Hid (E=some x):=by show _=_; rw [HE.out,D]; rfl
  clear hp J D HE HV;unfold dS;go_wp2
  exact ⟨rfl,dx.bad HR.out bc.out rfl⟩
 | none =>
  have J:=J D;rw [D,Option.none_or] at HE;clear hp D;cases hO:cZ t aE with
  | none =>
   rw [hO] at HE HV J;simp only [kL,gn] at J;rw [← hY] at J;subst J;have a8:Hid (V=[]):=HV.out;have HR:Hid (E=none):=HE.out;clear hO HV hY HE;have b7:Hid (∀ o,Below w.heap.size w (w1.alloc o)):=fun o=>bc.out.alloc bc.out.size o;go_wp2
   go_ret
   refine dx.good HR.out (b7.out _) ⟨_,[],rfl,?_⟩
   rw [a8.out];exact bM.nil _ _
  | some k =>
   rw [hO] at HE HV J;obtain ⟨km,ka,rfl,hn⟩:=J;obtain ⟨p1,p2,p3,p4,rfl,rfl,-,-⟩:=hn.shape;have cm:=HM.out.one hO;obtain ⟨K,hK⟩ : ∃ K,K=bV cx k.kids:=⟨_,rfl⟩;have a8:Hid (V=K.map mg):=by rw [hK]; exact HV.out
   obtain ⟨U,b3⟩ : ∃ U,U=sl (sl I aE) cx:=⟨_,rfl⟩
   have hJ:Hid (U.length≤1000000100):=by
    show _≤_
    rw [b3]; have h1:aE.length=12:=rfl; have h2:cx.length=10:=rfl; have h3:=e8.out; unfold sl; simp only [List.length_append,List.length_cons]; omega
   have b5:Hid (E=(jE K.length (sl I aE)).or (fx (gd m) U K 0)):=by rw [hK,b3]; exact HE.out
   have fv:Hid (∀ W,Below w1.heap.size w1 W→Calls Tryz.prog 137 #[.agg #[.string (bs k.name),.slice p1 k.attrs.length p2,.slice p3 k.kids.length p4,.string (bs k.text),.string Y],.string ⟨#[100,101,112,101,110,100,101,110,99,121]⟩] W (dx (jE K.length (sl I aE)) (zC (fun _=>False) W (ma U K 0)) W)):=fun W h=>by
    rw [hK,hY,b3];exact pQ (fun _=>False) k (sl I aE) cx W _ _ (hn.later h) cm.kl (by have h1:aE.length=12:=rfl; have h2:cx.length=10:=rfl; have h3:=e8.out; unfold sl; simp only [List.length_append,List.length_cons]; omega)
   have hU:Hid (∀ y ∈ K,dM y):=fun y hy=>cm.kids y (ii (by rw [← hK]; exact hy));clear HE HV hO hn cm hK b3;unfold dj;rw [← hY];clear hY;go_upto_region 4 with fail
   refine ai fun W2 dk=>?_
   have x2:ak W2 w1.heap.size [.string (bs k.name),.slice p1 k.attrs.length p2,.slice p3 k.kids.length p4,.string (bs k.text),.string Y]:=by rw [dk]; exact ak.new w1 [.string (bs k.name),.slice p1 k.attrs.length p2,.slice p3 k.kids.length p4,.string (bs k.text),.string Y] _ _ rfl
   have bg:Below w1.heap.size w1 W2:=by rw [dk]; exact (Below.refl _ w1).alloc (Nat.le_refl _) _
   clear dk;have d5:=zH x2;have hj:=zH bg;have b7:=zH (bc.out.trans (bg.mono bc.out.size));clear x2 bg;obtain ⟨a0,a1,a2,a3,a4⟩:=gU d5.out;have al:=d5.out.lt;go_wp2_with fail
   refine (fv.out _ hj.out).mono ?_
   rintro e w3 ⟨e4,hp,J⟩;have ag:=zH (b7.out.trans (e4.mono b7.out.size));clear a0 a1 a2 a3 a4 al e4 fv d5;rcases D:jE K.length (sl I aE) with _ | x
   rotate_left
   · obtain rfl:=hp x D
     have HR:Hid (E=some x):=by show _=_; rw [b5.out,D]; rfl
     clear hp J D b5 a8;unfold dS;go_wp2
     exact ⟨rfl,dx.bad HR.out ag.out rfl⟩
   obtain ⟨v,O,rfl,dr,dl,e7⟩:=J D
   have ed:Hid (K.length≤1024):=by
    show _≤_
    unfold jE at D;split at D
    · cases D
    · omega
   have hd:Hid (E=fx (gd m) U K 0):=by show _=_; rw [b5.out,D]; rfl
   have dn:O.length=K.length:=by
    have h1:=congrArg List.length dr;rw [List.length_map,ox] at h1;exact h1
   have e6:=dl.slice nf;obtain ⟨la,lc,rfl⟩:=dl.shape;have hN:=zH e6;have hS:=zH dr;have hP:Hid (∀ y ∈ O,dJ w3 y.1.1 y.1.2.1 y.1.2.2):=fun y hy=>(e7 y hy).node;have hR:=zH dn;rw [dn];clear hp J D b5 dn dl e6 dr e7;go_wp2
   go_loopw [4,19] (fun v iv wr=>∃ (n:Nat) (oa:Option Addr) (oc:Nat) (L:List (jk × Value)),n≤K.length∧iv = .int .i64 n∧v = .slice oa n oc∧Hid (Below w3.heap.size w3 wr∧bM w3.heap.size wr (.slice oa n oc) ((K.take n).map mg) L∧E=fx (gd m) U (K.drop n) n)) (fun _ iv _=>K.length - (intOf iv).toNat)
   case atStart=>exact ⟨0,none,0,[],Nat.zero_le _,rfl,rfl,Below.refl _ _,bM.nil _ _,hd.out⟩
   case round =>
    obtain ⟨n,oa,oc,L,hk,rfl,rfl,aa⟩:=hrel;by_cases hlt:n<K.length
    · have ah:=aa.out.1
      have co:n<O.length:=by rw [hR.out]; exact hlt
      have hy:=congrArg (·[n]?) hS.out;simp only [List.getElem?_map,oy _ _ _ _ hlt,List.getElem?_eq_getElem co,Option.map_some,Option.some.injEq,Nat.zero_add] at hy;obtain ⟨g,o1,hs,hg,hc⟩:=(hN.out.below ah).at co;subst hs;have c0:wr.cell? ⟨g,o1+n*5,none⟩=some (.string (bs O[n].1.1.name)):=by simpa using hc 0 _ rfl
      have c1:=hc 1 _ rfl;have c2:=hc 2 _ rfl;have c3:=hc 3 _ rfl;have c4:=hc 4 _ rfl;have b2:=(hP.out O[n] (List.getElem_mem co)).later ah;have bv:=ah.size;clear hc ah;generalize O[n]=y at *;obtain ⟨⟨A,ya,yk⟩,wy⟩:=y;simp only [Prod.mk.injEq] at hy c0 c1 c2 c3 c4 b2;obtain ⟨bo,rfl⟩:=hy;obtain ⟨q1,q2,q3,q4,rfl,rfl,-,-⟩:=b2.shape;have hL:=zH (by rw [List.take_succ_eq_append_getElem hlt,← bo]:K.take (n+1)=K.take n ++ [A]);have hT:=zH (hU.out A (by rw [bo]; exact List.getElem_mem hlt));have b4:=zH (by rw [aa.out.2.2,sR hlt,← bo]:E=(gd m A (mI U (n+1))).or (fx (gd m) U (K.drop (n+1)) (n+1)));obtain ⟨Z,hZ⟩ : ∃ Z:S,Z=bs (mI U (n+1)):=⟨_,rfl⟩
      have fz:Hid (∀ W,Below wr.heap.size wr W→Calls Tryz.prog 138 #[.agg #[.string (bs A.name),.slice q1 A.attrs.length q2,.slice q3 A.kids.length q4,.string (bs A.text),.string Z],.bool m] W (dx (gd m A (mI U (n+1))) (BJ W (mg A)) W)):=fun W h=>by
       rw [hZ];exact yW m A (mI U (n+1)) W _ _ (b2.later h) hT.out (by have h1:=nP (n+1); have h2:=ed.out; have h3:=hJ.out; unfold mI; simp only [List.length_append,List.length_cons,List.length_nil]; omega)
      have kb:(n:Int)<(K.length:Int):=by omega
      have h7:n<1024:=by have:=ed.out; omega
      rw [← hZ] at c4;clear bo b2 hZ;go_upto_region 7 with fail
      refine ai fun W7 dg=>?_
      have x7:ak W7 wr.heap.size [.string (bs A.name),.slice q1 A.attrs.length q2,.slice q3 A.kids.length q4,.string (bs A.text),.string Z]:=by rw [dg]; exact ak.new wr [.string (bs A.name),.slice q1 A.attrs.length q2,.slice q3 A.kids.length q4,.string (bs A.text),.string Z] _ _ rfl
      have eV:Below wr.heap.size wr W7:=by rw [dg]; exact (Below.refl _ wr).alloc (Nat.le_refl _) _
      clear dg c0 c1 c2 c3 c4;have d4:=zH x7;have b6:=zH eV;clear x7 eV;obtain ⟨c0,c1,c2,c3,c4⟩:=gU d4.out;have cl:=d4.out.lt;go_wp2_with fail
      refine (fz.out _ b6.out).mono ?_
      rintro e w8 ⟨cT,hp,J⟩;have bb:=zH (b6.out.trans (cT.mono b6.out.size));have kn:=zH cT.size;clear c0 c1 c2 c3 c4 cl cT d4 fz;rcases D:gd m A (mI U (n+1)) with _ | x
      rotate_left
      · obtain rfl:=hp x D
        have HR:Hid (E=some x):=by show _=_; rw [b4.out,D]; rfl
        clear hp J D b4 a8;unfold dS;go_wp2
        exact ⟨rfl,dx.bad HR.out (ag.out.trans ((aa.out.1.trans (bb.out.mono bv)).mono ag.out.size)) rfl⟩
      obtain ⟨xv,rfl,en⟩:=J D;have h5:Hid (E=fx (gd m) U (K.drop (n+1)) (n+1)):=by show _=_; rw [b4.out,D]; rfl
      have d3:Hid (aj w3.heap.size 24 2 jj w8 xv (mg A).excl):=en.base_mono (Nat.le_trans bv b6.out.size);have d8:=zH (aa.out.2.1.below bb.out)
      have e9:Hid (L.length=n):=by
       have h1:=congrArg List.length aa.out.2.1.are;rw [List.length_map,List.length_map,List.length_take] at h1;show _=_
       omega
      have d9:=zH (AJ (mg A,xv) w8 w8.heap.size rfl);have hi:=zH (AI (d:=mg A) d3.out);have h4:Hid (w3.heap.size≤w8.heap.size):=Nat.le_trans bv bb.out.size;clear hp J D b4 en;simp only [gQ];simp only [gQ] at d9;generalize eU:mg A=dv at *;have h6:=zH eU;clear eU;go_wp2_with (at_builtin; refine ay _ rfl _ _ 53 rfl w3.heap.size 133 Tryz.underlying53 wO rfl (by decide) il (.slice oa n oc) L rfl (d8.out.row.alloc _) _ [(dv,xv)] rfl d9.out (fun y hy=>by obtain rfl:=List.mem_singleton.1 hy; exact hi.out) (by have h1:=e9.out; have h2:=ed.out; simp only [List.length_cons,List.length_nil]; omega) (by decide) (by have h1:=h4.out; simp; omega) ?_; intro v9 w9 b0 a6 el; have d7:=zH b0; have ef:=zH a6; clear b0 a6 el; obtain ⟨a9,c9,rfl⟩:=d7.out.shape; have ex:(L ++ [(dv,xv)]).length=n+1:=(by rw [List.length_append,e9.out]; rfl); rw [ex] at d7 ⊢; clear ex)
      go_roundw
      case rel =>
       have h1:=aa.out;have a7:=(Below.refl w8.heap.size w8).alloc (Nat.le_refl _) (.cells (gQ (dv,xv)).toArray 133);have a5:=d8.out.below a7;refine ⟨n+1,a9,c9,L ++ [(dv,xv)],hlt,by go_num,rfl,?_,⟨d7.out,?_,?_⟩,h5.out⟩
       · exact jF (h1.1.trans ((bb.out.trans (a7.mono bb.out.size)).mono bv)) (Nat.le_refl _) ef.out (fun g hg=>(a5.row.lt g hg).1)
       · rw [List.map_append,d8.out.are,hL.out,List.map_append,List.map_cons,List.map_nil,List.map_cons,List.map_nil,h6.out]
       · intro p hp
         rcases List.mem_append.1 hp with hp | hp
         · exact (a5.excl p hp).kept ef.out (pJ (a5.excl p hp) a5.row (by decide))
         · obtain rfl:=List.mem_singleton.1 hp
           exact (d3.out.below a7).kept ef.out (pJ (d3.out.below a7) a5.row (by decide))
      case measure=>simp [intOf]; omega
    · obtain rfl:n=K.length:=by omega
      go_wp2
      go_ret
      have h1:=aa.out;have hF:E=none:=by rw [h1.2.2,List.drop_length]; rfl
      refine dx.good hF (ag.out.trans (h1.1.mono ag.out.size)) ⟨_,L,rfl,?_⟩
      rw [a8.out];have h2:=h1.2.1;rw [List.take_length] at h2;exact h2.base_mono ag.out.size
theorem xY {w:World} {b:Nat} {p0 p1 p2 p3 Z U O J I D A:Value} (h:ak w b [p0,p1,p2,p3,Z,U,O,J,I,D,A]):ak (((((((((((w.setCell ⟨b,0,none⟩ (.bool false)).setCell ⟨b,1,none⟩ (.string ⟨#[]⟩)).setCell ⟨b,2,none⟩ (.string ⟨#[]⟩)).setCell ⟨b,3,none⟩ (.string ⟨#[]⟩)).setCell ⟨b,4,none⟩ (.string ⟨#[]⟩)).setCell ⟨b,5,none⟩ (.string ⟨#[]⟩)).setCell ⟨b,6,none⟩ (.string ⟨#[]⟩)).setCell ⟨b,7,none⟩ (.string ⟨#[]⟩)).setCell ⟨b,8,none⟩ (.slice none 0 0)).setCell ⟨b,9,none⟩ (.slice none 0 0)).setCell ⟨b,10,none⟩ (.slice none 0 0)) b [.bool false,.string ⟨#[]⟩,.string ⟨#[]⟩,.string ⟨#[]⟩,.string ⟨#[]⟩,.string ⟨#[]⟩,.string ⟨#[]⟩,.string ⟨#[]⟩,.slice none 0 0,.slice none 0 0,.slice none 0 0] :=
 (((((((((((h.set 0 _).set 1 _).set 2 _).set 3 _).set 4 _).set 5 _).set 6 _).set 7 _).set 8 _).set 9 _).set 10 _)
theorem tI (w:World) (b:Nat):w.grownBy (((((((((((w.setCell ⟨b,0,none⟩ (.bool false)).setCell ⟨b,1,none⟩ (.string ⟨#[]⟩)).setCell ⟨b,2,none⟩ (.string ⟨#[]⟩)).setCell ⟨b,3,none⟩ (.string ⟨#[]⟩)).setCell ⟨b,4,none⟩ (.string ⟨#[]⟩)).setCell ⟨b,5,none⟩ (.string ⟨#[]⟩)).setCell ⟨b,6,none⟩ (.string ⟨#[]⟩)).setCell ⟨b,7,none⟩ (.string ⟨#[]⟩)).setCell ⟨b,8,none⟩ (.slice none 0 0)).setCell ⟨b,9,none⟩ (.slice none 0 0)).setCell ⟨b,10,none⟩ (.slice none 0 0)) (some b) :=
 (((((((((((ab _ _ _ _).trans (ab _ _ _ _)).trans (ab _ _ _ _)).trans (ab _ _ _ _)).trans (ab _ _ _ _)).trans (ab _ _ _ _)).trans (ab _ _ _ _)).trans (ab _ _ _ _)).trans (ab _ _ _ _)).trans (ab _ _ _ _)).trans (ab _ _ _ _))
theorem jq (a b c:Addr) (w:World) :
    CallsD Tryz.prog 91 #[.pointer (some a),.pointer (some b),.pointer (some c)] .returning w fun e D w'=>e = .returned (.tuple #[])∧D = .returning∧w'=w:=by
 refine callsD_of_wpS Tryz.func91 rfl fun J cs I=>?_
 apply wpS_seq
 apply wpS_region
 simp [wpOpsS,go_sem,recoverD,I,Tryz.ntmps91,Exit.thenS]
 refine wpS_of_wp ?_
 have A : ∀ a b c v:Value,(#[a,b,c] ++ (Array.replicate 14 undef).setIfInBounds 3 v:Array Value)=#[a,b,c,undef,undef,undef,v,undef,undef,undef,undef,undef,undef,undef,undef,undef,undef]:=fun _ _ _ _=>rfl;rw [A];clear A;go_wp2
 refine ⟨rfl,.returning,?_,.tuple #[],by simp [results,Tryz.results91,go_sem],rfl,rfl,rfl⟩
 cases J
 simp_all
theorem pp (x:Int) (s:S) (w:World):(Instr.typeAssert (.iface 173 (.agg #[.int .i64 x,.string s])) 20 173 true).run Tryz.prog w = .ok (.tuple #[.agg #[.int .i64 x,.string s],.bool true]) w:=by kernel_rfl
def kf (N:Nat) (x:Er) (x0 x1 x2 x3 x4 x5 x6 x7 x8 x9 x10 x11:Value) (f0 f1 f2 f3 f4 _f5 _f6 _f7:Bool)  : Act :=
 ⟨#[x0,x1,x2,x3,x4,x5,x6,x7,x8,x9,x10,x11,cond f0 (.agg #[.bool false,.string ⟨#[]⟩,.string ⟨#[]⟩,.string ⟨#[]⟩,.string ⟨#[]⟩,.string ⟨#[]⟩,.string ⟨#[]⟩,.string ⟨#[]⟩,.slice none 0 0,.slice none 0 0,.slice none 0 0]) undef,cond f1 (.pointer (some ⟨N,0,none⟩)) undef,cond f2 (.int .i64 x.1) undef,cond f3 (.pointer (some ⟨N,1,none⟩)) undef,cond f4 (.string (bs x.2)) undef],[]⟩
def B8 (B N:Nat) (x:Er) (p0 p1 p2 p3 p4 p5 Z U O J D v2 v3:Value) (V:World) (x0 x1 x2 x3 x4 x5 x6 x7 x8 x9 x10 x11:Value) (A:Array Bool) (I:Act) (w':World):Prop :=
 ∃ (f0 f1 f2 f3 f4 f5 f6 f7:Bool) ,A=#[f0,f1,f2,f3,f4,f5,f6,f7]∧I=kf N x x0 x1 x2 x3 x4 x5 x6 x7 x8 x9 x10 x11 f0 f1 f2 f3 f4 f5 f6 f7  ∧ Hid (f6=true→f5=true)∧Hid (f7=true→f6=true)∧ak w' N [.int .i64 x.1,.string (bs x.2)]∧(f5=false→ak w' (B+1) [p0,p1,p2,p3,p4,p5,Z,U,O,J,D])∧(f5=true→ak w' (B+1) [.bool false,.string ⟨#[]⟩,.string ⟨#[]⟩,.string ⟨#[]⟩,.string ⟨#[]⟩,.string ⟨#[]⟩,.string ⟨#[]⟩,.string ⟨#[]⟩,.slice none 0 0,.slice none 0 0,.slice none 0 0])∧(f6=false→ak w' (B+2) [v2])∧(f6=true→ak w' (B+2) [.int .i64 x.1])∧(f7=false→ak w' (B+3) [v3])∧(f7=true→ak w' (B+3) [.string (bs x.2)])∧Below (B+1) V w'
theorem jY (B:Nat) (x:Er) (ad:List PanicEntry) (p0 p1 p2 p3 p4 p5 p6 p7 p8 p9 ah v2 v3:Value) (w:World)
    (h1:ak w (B+1) [p0,p1,p2,p3,p4,p5,p6,p7,p8,p9,ah]) (h2:ak w (B+2) [v2]) (h3:ak w (B+3) [v3]) :
    CallsD Tryz.prog 91 #[.pointer (some ⟨B+1,0,none⟩),.pointer (some ⟨B+2,0,none⟩),.pointer (some ⟨B+3,0,none⟩)] (.panicking ({ v:=eP x,recovered:=false }::ad)) w fun e u' w' =>
     e = .returned (.tuple #[])∧u' = .panicking ({ v:=eP x,recovered:=true }::ad)∧ak w' (B+1) [.bool false,.string ⟨#[]⟩,.string ⟨#[]⟩,.string ⟨#[]⟩,.string ⟨#[]⟩,.string ⟨#[]⟩,.string ⟨#[]⟩,.string ⟨#[]⟩,.slice none 0 0,.slice none 0 0,.slice none 0 0]∧ak w' (B+2) [.int .i64 x.1]∧ak w' (B+3) [.string (bs x.2)]∧Below (B+1) w w':=by
 refine callsD_of_wpS Tryz.func91 rfl fun c₀ cs D=>?_
 apply wpS_seq
 apply wpS_region
 simp [wpOpsS,go_sem,recoverD,D,Tryz.ntmps91,Exit.thenS]
 refine wpS_of_wp ?_
 have ht : ∀ a b c v:Value,(#[a,b,c] ++ (Array.replicate 14 undef).setIfInBounds 3 v:Array Value)=#[a,b,c,undef,undef,undef,v,undef,undef,undef,undef,undef,undef,undef,undef,undef,undef]:=fun _ _ _ _=>rfl;rw [ht];clear ht;simp only [eP];have b3:=pp x.1 (bs x.2);have H0:=zH (And.intro h1 (And.intro h2 h3));have l3:=h3.lt;clear h1 h2 h3;go_upto_region 7 with fail
 refine ai fun W hW=>?_
 have I:ak W w.heap.size [.int .i64 x.1,.string (bs x.2)]:=by rw [hW]; exact ak.new w _ _ _ rfl
 have U:Below w.heap.size w W:=by rw [hW]; exact (Below.refl _ _).alloc (Nat.le_refl _) _
 clear hW b3;have K1:=zH (H0.out.1.below U H0.out.1.lt);have K2:=zH (H0.out.2.1.below U H0.out.2.1.lt);have K3:=zH (H0.out.2.2.below U H0.out.2.2.lt);have KF:=zH I;have b6:=zH U;clear I U H0;refine bm (B8 B w.heap.size x p0 p1 p2 p3 p4 p5 p6 p7 p8 p9 ah v2 v3 W _ _ _ _ _ _ _ _ _ _ _ _) (by kernel_rfl) 8 rfl (by kernel_rfl) ⟨false,false,false,false,false,false,false,false,rfl,rfl,zH (by simp),zH (by simp),⟨KF.out.lt,KF.out.cell,KF.out.free⟩,fun _=>⟨K1.out.lt,K1.out.cell,K1.out.free⟩,by simp,fun _=>⟨K2.out.lt,K2.out.cell,K2.out.free⟩,by simp,fun _=>⟨K3.out.lt,K3.out.cell,K3.out.free⟩,by simp,aY (Below.refl _ _) 1⟩ ?fin ?step
 case fin =>
  rintro a' w' ⟨f0,f1,f2,f3,f4,f5,f6,f7,hl,rfl,Z,O,I,p0,p1,e0,e1,h0,h1,hB⟩;have al:[true,true,true,true,true,true,true,true]=[f0,f1,f2,f3,f4,f5,f6,f7]:=congrArg Array.toList hl;simp only [List.cons.injEq,and_true] at al;obtain ⟨rfl,rfl,rfl,rfl,rfl,rfl,rfl,rfl⟩:=al;unfold kf;simp only [cond_true];have z1:=p1 rfl;have z2:=e1 rfl;have z3:=h1 rfl;exact ⟨rfl,_,rfl,.tuple #[],by simp [results,Tryz.results91,go_sem],rfl,rfl,z1,z2,z3,(b6.out.mono (by omega)).trans hB⟩
 case step =>
  rintro b2 a' w' ⟨f0,f1,f2,f3,f4,f5,f6,f7,rfl,rfl,Z,O,I,p0,p1,e0,e1,h0,h1,hB⟩ i hi;rw [mem_ready] at hi;obtain ⟨D,o,ho,ha⟩:=hi;have cT:i<8:=(Array.getElem?_eq_some_iff.1 ho).1;rcases (by omega:i=0∨i=1∨i=2∨i=3∨i=4∨i=5∨i=6∨i=7) with rfl | rfl | rfl | rfl | rfl | rfl | rfl | rfl
  · have J:=ho
    simp at D ho;subst D ho;clear ha;refine .inl ?_
    unfold kf Oper.wp;go_simp
    exact ⟨true,f1,f2,f3,f4,f5,f6,f7,rfl,rfl,Z,O,I,p0,p1,e0,e1,h0,h1,hB⟩
  · have J:=ho
    simp at D ho;subst D ho;clear ha;refine .inl ?_
    unfold kf Oper.wp;go_simp
    exact ⟨f0,true,f2,f3,f4,f5,f6,f7,rfl,rfl,Z,O,I,p0,p1,e0,e1,h0,h1,hB⟩
  · have J:=ho
    simp at D ho;subst D ho;simp [Region.binds] at ha
    obtain rfl:f1=true:=by simp only [ha]
    clear ha;have k0:=I.cell 0 _ rfl;refine .inl ?_
    unfold kf Oper.wp;go_simp
    exact ⟨f0,true,true,f3,f4,f5,f6,f7,rfl,rfl,Z,O,I,p0,p1,e0,e1,h0,h1,hB⟩
  · have J:=ho
    simp at D ho;subst D ho;clear ha;refine .inl ?_
    unfold kf Oper.wp;go_simp
    exact ⟨f0,f1,f2,true,f4,f5,f6,f7,rfl,rfl,Z,O,I,p0,p1,e0,e1,h0,h1,hB⟩
  · have J:=ho
    simp at D ho;subst D ho;simp [Region.binds] at ha
    obtain rfl:f3=true:=by simp only [ha]
    clear ha;have k1:=I.cell 1 _ rfl;refine .inl ?_
    unfold kf Oper.wp;go_simp
    exact ⟨f0,f1,f2,true,true,f5,f6,f7,rfl,rfl,Z,O,I,p0,p1,e0,e1,h0,h1,hB⟩
  · have J:=ho
    simp at D ho;subst D ho;simp [Region.binds] at ha
    obtain rfl:f0=true:=by simp only [ha]
    clear ha;have e6:f6=false:=aP Z.out rfl;subst e6;have e7:f7=false:=aP O.out rfl;subst e7;have hp:=p0 rfl;obtain ⟨c0,c1,c2,c3,c4,c5,c6,c7,c8,c9,dg⟩:=rH hp;have u0:=hp.free 0;have u1:=hp.free 1;have u2:=hp.free 2;have u3:=hp.free 3;have u4:=hp.free 4;have u5:=hp.free 5;have u6:=hp.free 6;have u7:=hp.free 7;have u8:=hp.free 8;have u9:=hp.free 9;have co:=hp.free 10;have hl:=hp.lt;have aa:=zH (xY hp);have A:=zH (tI w' (B+1));clear hp;refine .inl ?_
    unfold kf Oper.wp;go_simp
    exact ⟨true,f1,f2,f3,f4,true,false,false,rfl,rfl,zH (by simp),O,I.grown A.out (by simp; omega),by simp,fun _=>aa.out,fun h=>(e0 h).grown A.out (by simp),by simp,fun h=>(h0 h).grown A.out (by simp),by simp,hB.trans (aS A.out (Nat.le_refl _) (by have:=hB.size; omega))⟩
  · have J:=ho
    simp at D ho;subst D ho;simp [Region.binds] at ha
    obtain rfl:f2=true:=by simp only [ha]
    obtain rfl:f5=true:=by simp only [ha]
    clear ha;have e7:f7=false:=aP O.out rfl;subst e7;have hp:=e0 rfl;obtain ⟨c0,u0,hl⟩:=zB hp 0 rfl;have aa:=zH (hp.set 0 (.int .i64 x.1));have A:=zH (ab w' (B+2) 0 (.int .i64 x.1));clear hp;refine .inl ?_
    unfold kf Oper.wp;go_simp
    exact ⟨f0,f1,true,f3,f4,true,true,false,rfl,rfl,zH (by simp),zH (by simp),I.grown A.out (by simp; omega),by simp,fun h=>(p1 h).grown A.out (by simp),by simp,fun _=>aa.out,fun h=>(h0 h).grown A.out (by simp),by simp,hB.trans (aS A.out (by omega) (by have:=hB.size; omega))⟩
  · have J:=ho
    simp at D ho;subst D ho;simp [Region.binds] at ha
    obtain rfl:f4=true:=by simp only [ha]
    obtain rfl:f6=true:=by simp only [ha]
    obtain rfl:f0=true:=by simp only [ha]
    obtain rfl:f1=true:=by simp only [ha]
    obtain rfl:f2=true:=by simp only [ha]
    obtain rfl:f3=true:=by simp only [ha]
    obtain rfl:f5=true:=by simp only [ha]
    clear ha;have hp:=h0 rfl;obtain ⟨c0,u0,hl⟩:=zB hp 0 rfl;have aa:=zH (hp.set 0 (.string (bs x.2)));have A:=zH (ab w' (B+3) 0 (.string (bs x.2)));clear hp;refine .inl ?_
    unfold kf Oper.wp;go_simp
    exact ⟨true,true,true,true,true,true,true,true,rfl,rfl,Z,zH (by simp),I.grown A.out (by simp; omega),by simp,fun h=>(p1 h).grown A.out (by simp),by simp,fun h=>(e1 h).grown A.out (by simp),by simp,fun _=>aa.out,hB.trans (aS A.out (by omega) (by have:=hB.size; omega))⟩
end Go.Proofs.YtominiaohfjobaaGreatDoor
