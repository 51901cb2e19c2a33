/- From the readings of the arguments to what the walks ask: a Meta that can be read is one in memory. -/
import Derived.Test.YtominiaohfjobaaGreatDoorPK12
import Derived.ProofKit
import Derived.Deep.Slices
import Derived.Test.YtominiaohfjobaaGreatDoorPK15
import Derived.WideShapes
namespace Go.Proofs.YtominiaohfjobaaGreatDoor
open Go Go.RowKit
variable {H:Type} {enc:TypeId × Value→H} {W:World} {sp:Nat→Bool} {held:Bool}
def Opens {α:Type} (enc:TypeId × Value→H) (W:World) (sp:Nat→Bool) (held:Bool) (t:TypeId) (C:α→List Value) (Ok:α→Prop):Prop :=
 ∀ fuel cs x,DataW.trod enc Tryz.prog W 0 sp held fuel t cs=some x → ∃ a,cs=C a∧Ok a
theorem opens_string:Opens enc W sp held 9 gq (fun s=>s.size≤maxLen):=fun _ _ _ h=>by
 obtain ⟨s,h1,-,h2⟩:=DataW.trod_string Tryz.underlying9 h;exact ⟨s,h1,h2⟩
theorem cells_of {w:World} {a:Addr} {n:Nat} {cs:List Value} (h:w.cells? 0 a n=some cs) (hn:0<n):cs.length=n∧a.spot=none∧a.block<w.heap.size ∧ ∀ j u,cs[j]? = some u→w.cell? ⟨a.block,a.off+j,none⟩=some u:=by
 unfold World.cells? at h;rw [if_pos (Nat.zero_le _)] at h;have hl:cs.length=n:=by simpa using mapM_some_length h
 have hg : ∀ j,j<n→w.cell? (a.add j)=cs[j]?:=fun j hj=>mapM_some_get h j j (by simp [hj])
 have h00:w.cell? a=some cs[0]:=by
  have:=hg 0 hn
  rw [show a.add 0=a from rfl] at this;rw [this]; simp
 have hsp:a.spot=none:=by
  cases hs:a.spot with
  | none=>rfl
  | some x =>
   exfalso
   simp only [World.cell?,hs,Option.isSome_some,if_true] at h00;split at h00 <;> cases h00
 obtain ⟨b,o,s⟩:=a;cases hsp
 refine ⟨hl,rfl,World.block_lt_of_cell? w _ h00,fun j u hu=>?_⟩
 have hj:j<n:=by rw [← hl]; exact (List.getElem?_eq_some_iff.1 hu).1
 have:=hg j hj
 rw [Addr.add_lit,hu] at this;exact this
theorem list_snoc {α:Type} {l:List α} {y:α} {i:Nat} {z:α} (h:(l ++ [y])[i]? = some z):(i<l.length∧l[i]? = some z)∨(i=l.length∧z=y):=by
 by_cases hi:i<l.length
 · left; rw [List.getElem?_append_left hi] at h; exact ⟨hi,h⟩
 · right
   rw [List.getElem?_append_right (by omega)] at h;by_cases h1:i - l.length=0
   · rw [h1] at h; simp at h; exact ⟨by omega,h.symm⟩
   · rw [List.getElem?_eq_none (by simp; omega)] at h; cases h
theorem list_of {α:Type} {len:Nat} {P:Nat→α→Prop} (h : ∀ i,i<len → ∃ y,P i y) : ∃ l:List α,l.length=len ∧ ∀ i y,l[i]? = some y→P i y:=by
 induction len with
 | zero=>exact ⟨[],rfl,fun i y h=>by simp at h⟩
 | succ len ih =>
  obtain ⟨l,hl,hP⟩:=ih (fun i hi=>h i (by omega));obtain ⟨y,hy⟩:=h len (by omega);refine ⟨l ++ [y],by simp [hl],fun i z hz=>?_⟩
  rcases list_snoc hz with ⟨-,h1⟩ | ⟨rfl,rfl⟩
  · exact hP i z h1
  · rw [hl]; exact hy
theorem opens_slice {α:Type} {t e n:Nat} {C:α→List Value} {Ok:α→Prop} (ht:Tryz.prog.underlying t=some (.slice e)) (hn:Tryz.prog.cellsOf e=n) (h0:0<n) (he:Opens enc W sp held e C Ok) :
    Opens enc W sp held t (fun v:Value=>[v]) (fun v=>∃ l,af n C W v l ∧ ∀ a ∈ l,Ok a):=fun fuel cs x h=>by
 rcases Deep.open_slice ht h with ⟨rfl,-⟩ | ⟨a,len,cap,m,n',D,Pl,rfl,-,hlc,hcm,hm,-,hel⟩
 · exact ⟨_,rfl,[],af.nil,by simp⟩
 · rw [hn] at hel
   have hlm:len≤m:=by rw [hm]; split <;> omega
   obtain ⟨l,hl,hP⟩:=list_of (len:=len) (P:=fun i y=>W.cells? 0 (a.add (i*n)) n=some (C y)∧Ok y) (fun i hi=>by
    obtain ⟨cs',h1,h2⟩:=hel i (by omega);obtain ⟨y,rfl,hy⟩:=he _ _ _ h2
    exact ⟨y,h1,hy⟩)
   refine ⟨_,rfl,l,⟨some a,cap,by rw [hl],by omega,hcm,by simp,fun i y hy=>?_⟩,fun y hy=>?_⟩
   · have hil:i<len:=by rw [← hl]; exact (List.getElem?_eq_some_iff.1 hy).1
     obtain ⟨y0,hy0⟩ : ∃ y0,l[0]? = some y0:=⟨l[0]'(by omega),by simp⟩;obtain ⟨-,hs,hb,-⟩:=cells_of (hP 0 y0 hy0).1 h0;rw [Nat.zero_mul,show a.add 0=a from rfl] at hs hb;obtain ⟨b,o,s⟩:=a;cases hs
     obtain ⟨-,-,-,hc⟩:=cells_of (hP i y hy).1 h0;rw [Addr.add_lit] at hc;exact ⟨b,o,rfl,hb,hc⟩
   · obtain ⟨i,hi,rfl⟩:=List.mem_iff_getElem.1 hy
     exact (hP i _ (by simp [hi])).2
theorem cellsOf_str:Tryz.prog.cellsOf 9=1:=by kernel_rfl
theorem cellsOf_id:Tryz.prog.cellsOf 24=2:=by kernel_rfl
theorem le_max {n:Nat} (h:n≤maxLen):n≤9223372036854775807:=Nat.le_trans h (by decide)
theorem lenE2 {l:List Value} (h:l.length=2) : ∃ c0 c1,l=[c0,c1]:=by
 match l,h with
 | [c0,c1],_=>exact ⟨c0,c1,rfl⟩
theorem opens_id:Opens enc W sp held 24 jj (fun i=>i.group.size≤maxLen∧i.artifact.size≤maxLen):=fun fuel cs x h=>by
 obtain ⟨xs,n,-,-,hl,hxs,hf⟩:=DataW.trod_struct Tryz.underlying24 h;rw [cellsOf_id] at hl;obtain ⟨c0,c1,rfl⟩:=lenE2 hl;have f0:DataW.trod enc Tryz.prog W 0 sp held n 9 (([c0,c1].drop 0).take (Tryz.prog.cellsOf 9))=xs[0]?:=hf 0 _ rfl;rw [cellsOf_str,List.getElem?_eq_getElem (by rw [hxs]; decide)] at f0;have f1:DataW.trod enc Tryz.prog W 0 sp held n 9 (([c0,c1].drop 1).take (Tryz.prog.cellsOf 9))=xs[1]?:=hf 1 _ rfl;rw [cellsOf_str,List.getElem?_eq_getElem (by rw [hxs]; decide)] at f1;obtain ⟨a0,h0,k0⟩:=opens_string _ _ _ f0;obtain ⟨a1,h1,k1⟩:=opens_string _ _ _ f1;clear hf f0 f1;cases h0
 cases h1
 exact ⟨⟨a0,a1⟩,rfl,k0,k1⟩
end Go.Proofs.YtominiaohfjobaaGreatDoor
namespace Go.Proofs.YtominiaohfjobaaGreatDoor
open Go Go.RowKit Go.WideShapes
variable {H:Type} {enc:TypeId × Value→H} {W:World} {sp:Nat→Bool} {held:Bool}
theorem cellsOf_gavE:Tryz.prog.cellsOf 26=3:=by kernel_rfl
theorem cellsOf_in:Tryz.prog.cellsOf 48=4:=by kernel_rfl
theorem lenE3 {l:List Value} (h:l.length=3) : ∃ c0 c1 c2,l=[c0,c1,c2]:=by
 match l,h with
 | [c0,c1,c2],_=>exact ⟨c0,c1,c2,rfl⟩
theorem lenE4 {l:List Value} (h:l.length=4) : ∃ c0 c1 c2 c3,l=[c0,c1,c2,c3]:=by
 match l,h with
 | [c0,c1,c2,c3],_=>exact ⟨c0,c1,c2,c3,rfl⟩
theorem opens_gavE:Opens enc W sp held 26 gu vf:=fun fuel cs x h=>by
 obtain ⟨xs,n,-,-,hl,hxs,hf⟩:=DataW.trod_struct Tryz.underlying26 h;rw [cellsOf_gavE] at hl;obtain ⟨c0,c1,c2,rfl⟩:=lenE3 hl;have f0:DataW.trod enc Tryz.prog W 0 sp held n 9 (([c0,c1,c2].drop 0).take (Tryz.prog.cellsOf 9))=xs[0]?:=hf 0 _ rfl;rw [cellsOf_str,List.getElem?_eq_getElem (by rw [hxs]; decide)] at f0;have f1:DataW.trod enc Tryz.prog W 0 sp held n 9 (([c0,c1,c2].drop 1).take (Tryz.prog.cellsOf 9))=xs[1]?:=hf 1 _ rfl;rw [cellsOf_str,List.getElem?_eq_getElem (by rw [hxs]; decide)] at f1;have f2:DataW.trod enc Tryz.prog W 0 sp held n 9 (([c0,c1,c2].drop 2).take (Tryz.prog.cellsOf 9))=xs[2]?:=hf 2 _ rfl;rw [cellsOf_str,List.getElem?_eq_getElem (by rw [hxs]; decide)] at f2;obtain ⟨a0,h0,k0⟩:=opens_string _ _ _ f0;obtain ⟨a1,h1,k1⟩:=opens_string _ _ _ f1;obtain ⟨a2,h2,k2⟩:=opens_string _ _ _ f2;clear hf f0 f1 f2;cases h0
 cases h1
 cases h2
 exact ⟨⟨a0,a1,a2⟩,rfl,le_max k0,le_max k1,le_max k2⟩
theorem opens_in:Opens enc W sp held 48 Ce (fun p=>vf p.1):=fun fuel cs x h=>by
 obtain ⟨xs,n,-,-,hl,hxs,hf⟩:=DataW.trod_struct Tryz.underlying48 h;rw [cellsOf_in] at hl;obtain ⟨c0,c1,c2,c3,rfl⟩:=lenE4 hl;have f0:DataW.trod enc Tryz.prog W 0 sp held n 26 (([c0,c1,c2,c3].drop 0).take (Tryz.prog.cellsOf 26))=xs[0]?:=hf 0 _ rfl;rw [cellsOf_gavE,List.getElem?_eq_getElem (by rw [hxs]; decide)] at f0;have f1:DataW.trod enc Tryz.prog W 0 sp held n 9 (([c0,c1,c2,c3].drop 3).take (Tryz.prog.cellsOf 9))=xs[1]?:=hf 1 _ rfl;rw [cellsOf_str,List.getElem?_eq_getElem (by rw [hxs]; decide)] at f1;obtain ⟨a0,h0,k0⟩:=opens_gavE _ _ _ f0;obtain ⟨a1,h1,k1⟩:=opens_string _ _ _ f1;clear hf f0 f1;cases h0
 cases h1
 exact ⟨(a0,a1),rfl,k0⟩
theorem opens_ins:Opens enc W sp held 22 (fun v:Value=>[v]) (fun v=>∃ l,af 4 Ce W v l ∧ ∀ p ∈ l,vf p.1):=opens_slice Tryz.underlying22 cellsOf_in (by decide) opens_in
set_option maxRecDepth 100000 in
theorem open_id {base:Nat} {v:Value} {d:DataW H} {p:List MemPlace} (hval:Value.okWide Tryz.prog W .any base 24 v)
    (h:DataW.Trod enc Tryz.prog W 0 (fun _=>true) true 24 v d p) : ∃ x:Id,v = .agg #[.string x.group,.string x.artifact]:=by
 obtain ⟨fuel,hf⟩:=h;obtain ⟨x,hcs,-⟩:=opens_id _ _ _ hf;refine ⟨x,?_⟩
 simp only [Value.okWide,Tryz.underlying24] at hval;obtain ⟨cs,rfl,-⟩:=hval;simp only [Value.cells] at hcs;have e:cs=(jj x).toArray:=by rw [← hcs]
 rw [e];rfl
set_option maxRecDepth 100000 in
theorem open_ins {base:Nat} {v:Value} {d:DataW H} {p:List MemPlace} (hval:Value.okWide Tryz.prog W .any base 22 v)
    (h:DataW.Trod enc Tryz.prog W 0 (fun _=>true) true 22 v d p) : ∃ l,af 4 Ce W v l ∧ ∀ p ∈ l,vf p.1:=by
 obtain ⟨fuel,hf⟩:=h;obtain ⟨u,hcs,hok⟩:=opens_ins _ _ _ hf;obtain ⟨l,h1,h2⟩:=hok;obtain ⟨a0,len,cap,rfl⟩:=okWide_slice Tryz.underlying22 hval;have e:Value.slice a0 len cap=u:=by simpa [Value.cells] using hcs
 exact ⟨l,by rw [e]; exact h1,h2⟩
end Go.Proofs.YtominiaohfjobaaGreatDoor
namespace Go.Proofs.YtominiaohfjobaaGreatDoor
open Go Go.RowKit Go.WideShapes
set_option maxRecDepth 100000 in
theorem open_gavP {H:Type} {enc:TypeId × Value→H} {W:World} {base:Nat} {v:Value} {d:DataW H} {p:List MemPlace} (hval:Value.okWide Tryz.prog W .any base 26 v)
    (h:DataW.Trod enc Tryz.prog W 0 (fun _=>true) true 26 v d p) : ∃ x:bp,v = .agg #[.string x.group,.string x.artifact,.string x.version]:=by
 obtain ⟨fuel,hf⟩:=h;obtain ⟨x,hcs,-⟩:=opens_gavE _ _ _ hf;refine ⟨x,?_⟩
 simp only [Value.okWide,Tryz.underlying26] at hval;obtain ⟨cs,rfl,-⟩:=hval;simp only [Value.cells] at hcs;have e:cs=(gu x).toArray:=by rw [← hcs]
 rw [e];rfl
end Go.Proofs.YtominiaohfjobaaGreatDoor
