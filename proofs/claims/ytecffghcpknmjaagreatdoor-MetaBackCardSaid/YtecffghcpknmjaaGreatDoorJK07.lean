/- The builder's memory: the path of open elements, and what keeps it; no program in sight. -/
import Derived.Test.YtecffghcpknmjaaGreatDoorJK06
import Derived.Test.YtecffghcpknmjaaGreatDoorJK04
import Derived.Test.YtecffghcpknmjaaGreatDoorJK05
import Derived.Test.YtecffghcpknmjaaGreatDoorOwn2
import Derived.Test.YtecffghcpknmjaaGreatDoorQB
import Derived.Test.YtecffghcpknmjaaGreatDoorG2
import Derived.Test.YtecffghcpknmjaaGreatDoorK19
import Derived.Test.YtecffghcpknmjaaGreatDoorK4
import Derived.Test.YtecffghcpknmjaaGreatDoorR0
import Derived.Test.YtecffghcpknmjaaGreatDoorL0
import Derived.Test.YtecffghcpknmjaaGreatDoorSB
import Derived.StillTailTactics
import Derived.Deep.AppendLies
import Derived.Deep.RegionLawGrows
namespace Go.Proofs.YtecffghcpknmjaaGreatDoor
open Go Go.RowKit
inductive Up (NT:TypeId) (B:Nat) (X:Nat→Prop) (w:World):Nat→Nat→List Fr→List (Nat × Nat)→Prop where
 | root:Up NT B X w B 0 [] []
 | step {b o b' o':Nat} {f:Fr} {fs:List Fr} {ps:List (Nat × Nat)} (L:List TrV) (av:Value) (cap:Nat) (lt:b'<b) (ho:o=L.length*4) (his:L.map (·.1)=f.kids) (hcap:L.length+1≤cap) (hm:cap≤maxLen) (row:Row w b NT (cap*4))
     (cells:At4 w b' o' (nodeC f.name av (.slice (some ⟨b,0,none⟩) (L.length+1) cap) [])) (kids:At4 w b 0 (L.flatMap trC)) (att:SliceX 2 atC X w av f.attrs) (nodes : ∀ y ∈ L,NodeX X w y.1 y.2.1 y.2.2) (xb:X b') (up:Up NT B X w b' o' fs ps):Up NT B X w b o (f::fs) ((b',o')::ps)
theorem Up.place {NT:TypeId} {B:Nat} {X:Nat→Prop} {w:World} {b o:Nat} {fs:List Fr} {ps:List (Nat × Nat)} (h:Up NT B X w b o fs ps):(b=B∧o=0∧fs=[])∨(B<b ∧ ∃ n,Row w b NT n):=by
 induction h with
 | root=>exact .inl ⟨rfl,rfl,rfl⟩
 | step L av cap lt ho his hcap hm row cells kids att nodes xb up ih =>
  refine .inr ⟨?_,_,row⟩
  rcases ih with ⟨rfl,-⟩ | ⟨h,-⟩
  · exact lt
  · omega
theorem Up.ge {NT:TypeId} {B:Nat} {X:Nat→Prop} {w:World} {b o:Nat} {fs:List Fr} {ps:List (Nat × Nat)} (h:Up NT B X w b o fs ps):B≤b:=by
 rcases h.place with ⟨rfl,-⟩ | ⟨h,-⟩ <;> omega
theorem Up.len {NT:TypeId} {B:Nat} {X:Nat→Prop} {w:World} {b o:Nat} {fs:List Fr} {ps:List (Nat × Nat)} (h:Up NT B X w b o fs ps):ps.length=fs.length:=by
 induction h with
 | root=>rfl
 | step L av cap lt ho his hcap hm row cells kids att nodes xb up ih=>simp [ih]
theorem Up.keep {NT:TypeId} {B:Nat} {X Y:Nat→Prop} {w w':World} {b o:Nat} {fs:List Fr} {ps:List (Nat × Nat)} (h:Up NT B X w b o fs ps) (hk:KeptX X w w') (hY : ∀ k,k<w.heap.size→Y k→X k) (hP : ∀ k,k<b→(k=B ∨ ∃ n,Row w k NT n)→X k→Y k)
    (hcB:b≠B → ∀ j,j<4→w'.cell? ⟨B,j,none⟩=w.cell? ⟨B,j,none⟩) (hcR : ∀ k n,k<b→k≠B→Row w k NT n → ∀ j,w'.cell? ⟨k,j,none⟩=w.cell? ⟨k,j,none⟩)
    (hco : ∀ j,j<o→w'.cell? ⟨b,j,none⟩=w.cell? ⟨b,j,none⟩) (hr : ∀ k n,k≤b→k≠B→Row w k NT n→Row w' k NT n):Up NT B Y w' b o fs ps:=by
 induction h with
 | root=>exact .root
 | @step b o b' o' f fs ps L av cap lt ho his hcap hm row cells kids att nodes xb up ih =>
  have hge:=up.ge;have hbB:b≠B:=by omega
  refine .step L av cap lt ho his hcap hm (hr b _ (Nat.le_refl _) hbB row) (cells.kept fun j hj=>?_) (kids.kept fun j hj=>?_) (att.keep hk hY) (fun y hy=>(nodes y hy).keep hk hY) (hP _ lt (up.place.imp (fun h=>h.1) (fun h=>h.2)) xb) (ih (fun k hkb=>hP k (by omega)) (fun _=>hcB hbB) (fun k n hkb hkB hrw j=>hcR k n (by omega) hkB hrw j) (fun j hj=>?_) (fun k n hkb hkB hrw=>hr k n (by omega) hkB hrw))
  · rcases up.place with ⟨rfl,rfl,-⟩ | ⟨h1,n,h2⟩
    · rw [Nat.zero_add]; exact hcB hbB j hj
    · exact hcR b' n lt (by omega) h2 _
  · rw [Nat.zero_add]; exact hco j (by rw [flat_len trC_len] at hj; omega)
  · rcases up.place with ⟨rfl,rfl,-⟩ | ⟨h1,n,h2⟩
    · omega
    · exact hcR b' n lt (by omega) h2 _
theorem Owns.heap {α:Type} {base:Nat} {E:TypeId} {n:Nat} {C:α→List Value} {w w':World} {v:Value} {l:List α} (h:Owns base E n C w v l) (hg : ∀ g,v.ownBlock=some g→w'.heap[g]? = w.heap[g]?):Owns base E n C w' v l:=by
 refine ⟨h.1,?_⟩
 rcases h.2 with h | ⟨g,cap,cur,rfl,h2,h3,h4⟩
 · exact .inl h
 · exact .inr ⟨g,cap,cur,rfl,h2,(hg g rfl).trans h3,h4⟩
theorem Owns.rowOf {α:Type} {base:Nat} {E:TypeId} {n:Nat} {C:α→List Value} {w:World} {v:Value} {l:List α} (h:Owns base E n C w v l) {g:Nat} (hg:v.ownBlock=some g):base≤g ∧ ∃ m,Row w g E m:=by
 rcases h.2 with ⟨rfl,-⟩ | ⟨g',cap,cur,rfl,h2,h3,h4,h5,h6,h7⟩
 · simp [Value.ownBlock] at hg
 · simp [Value.ownBlock] at hg
   subst hg;exact ⟨h2,_,cur,h3,h6⟩
theorem Row.free {w:World} {g:Nat} {E:TypeId} {n:Nat} (h:Row w g E n) (j:Nat):w.frozen? ⟨g,j,none⟩=false:=by
 obtain ⟨cur,h1,-⟩:=h;simp [World.frozen?,h1]
structure Inner (NT:TypeId) (X:Nat→Prop) (w:World) (b o:Nat) (f:Fr) (L:List TrV) (av kv:Value):Prop where
 cells:At4 w b o (nodeC f.name av kv [])
 att:SliceX 2 atC X w av f.attrs
 own:Owns (b+1) NT 4 trC w kv L
 is:L.map (·.1)=f.kids
 nodes : ∀ y ∈ L,NodeX X w y.1 y.2.1 y.2.2
 blk : ∀ g,kv.ownBlock=some g→X g
 xb:X b
theorem Inner.keep {NT:TypeId} {X Y:Nat→Prop} {w w':World} {b o:Nat} {f:Fr} {L:List TrV} {av kv:Value} (h:Inner NT X w b o f L av kv) (hk:KeptX X w w') (hY : ∀ k,k<w.heap.size→Y k→X k)
    (hc : ∀ j,j<4→w'.cell? ⟨b,o+j,none⟩=w.cell? ⟨b,o+j,none⟩) (hg : ∀ g,kv.ownBlock=some g→w'.heap[g]? = w.heap[g]?) (hP : ∀ k,(k=b∨kv.ownBlock=some k)→Y k):Inner NT Y w' b o f L av kv :=
 ⟨h.cells.kept hc,h.att.keep hk hY,h.own.heap hg,h.is,fun y hy=>(h.nodes y hy).keep hk hY,fun g hgk=>hP g (.inr hgk),hP b (.inl rfl)⟩
def ptC (p:Nat × Nat):List Value:=[.pointer (some ⟨p.1,p.2,none⟩)]
theorem ptC_len (p:Nat × Nat):(ptC p).length=1:=rfl
def OpenSl (PT:TypeId) (B:Nat) (w:World) (ov:Value) (ps:List (Nat × Nat)):Prop :=
 (ov = .slice none 0 0∧ps=[]) ∨ ∃ g cap n,ov = .slice (some ⟨g,0,none⟩) ps.length cap∧B<g∧Row w g PT n∧At4 w g 0 (ps.flatMap ptC)∧ps.length≤cap∧cap≤maxLen∧(cap=n∨(cap=ps.length∧ps.length≤n))
theorem OpenSl.heap {PT:TypeId} {B:Nat} {w w':World} {ov:Value} {ps:List (Nat × Nat)} (h:OpenSl PT B w ov ps) (hg : ∀ g,ov.ownBlock=some g→w'.heap[g]? = w.heap[g]?):OpenSl PT B w' ov ps:=by
 rcases h with h | ⟨g,cap,n,rfl,h2,h3,h4,h5⟩
 · exact .inl h
 · exact .inr ⟨g,cap,n,rfl,h2,h3.kept (hg g rfl),h4.kept (fun j _=>World.cell?_of_block (hg g rfl)),h5⟩
theorem OpenSl.rowOf {PT:TypeId} {B:Nat} {w:World} {ov:Value} {ps:List (Nat × Nat)} (h:OpenSl PT B w ov ps) {g:Nat} (hg:ov.ownBlock=some g):B<g ∧ ∃ n,Row w g PT n:=by
 rcases h with ⟨rfl,-⟩ | ⟨g',cap,n,rfl,h2,h3,-⟩
 · simp [Value.ownBlock] at hg
 · simp [Value.ownBlock] at hg
   subst hg;exact ⟨h2,n,h3⟩
theorem OpenSl.ofOwns {PT:TypeId} {B:Nat} {w:World} {ov:Value} {ps:List (Nat × Nat)} (h:Owns (B+1) PT 1 ptC w ov ps):OpenSl PT B w ov ps:=by
 rcases h.2 with ⟨rfl,h0⟩ | ⟨g,cap,cur,rfl,h2,h3,h4,h5,h6,h7⟩
 · exact .inl ⟨rfl,List.eq_nil_of_length_eq_zero h0⟩
 · exact .inr ⟨g,cap,cap,rfl,by omega,⟨cur,h3,by omega⟩,Owns.cells0 h,h4,h5,.inl rfl⟩
theorem OpenSl.owns {PT:TypeId} {B:Nat} {w:World} {ov:Value} {ps:List (Nat × Nat)} (h:OpenSl PT B w ov ps):Owns (B+1) PT 1 ptC w ov ps ∨ ∃ g,ov = .slice (some ⟨g,0,none⟩) ps.length ps.length∧At4 w g 0 (ps.flatMap ptC):=by
 rcases h with ⟨rfl,rfl⟩ | ⟨g,cap,n,rfl,h2,h3,h4,h5,h6,h7⟩
 · exact .inl Owns.nil
 · rcases h7 with rfl | ⟨rfl,h8⟩
   · exact .inl (Owns.of_cells ptC_len (by omega) (by simpa using h3) h5 h6 h4)
   · exact .inr ⟨g,rfl,h4⟩
theorem ptC_flat (ps:List (Nat × Nat)):ps.flatMap ptC=ps.map fun p=>.pointer (some ⟨p.1,p.2,none⟩):=by
 induction ps with
 | nil=>rfl
 | cons p l ih=>simp [ptC,ih]
theorem OpenSl.at {PT:TypeId} {B:Nat} {w:World} {ov:Value} {ps:List (Nat × Nat)} (h:OpenSl PT B w ov ps) {i:Nat} {p:Nat × Nat} (hi:ps[i]? = some p) : ∃ g cap,ov = .slice (some ⟨g,0,none⟩) ps.length cap∧ps.length≤cap∧cap≤maxLen∧g<w.heap.size∧w.cell? ⟨g,i,none⟩=some (.pointer (some ⟨p.1,p.2,none⟩)):=by
 rcases h with ⟨rfl,rfl⟩ | ⟨g,cap,n,rfl,h2,h3,h4,h5,h6,h7⟩
 · simp at hi
 · refine ⟨g,cap,rfl,h5,h6,h3.lt,?_⟩
   have:=h4 i (.pointer (some ⟨p.1,p.2,none⟩)) (by rw [ptC_flat]; simp [hi])
   simpa using this
theorem OpenSl.pop {PT:TypeId} {B:Nat} {w:World} {ps:List (Nat × Nat)} {p:Nat × Nat} {g cap:Nat} (h:OpenSl PT B w (.slice (some ⟨g,0,none⟩) (ps ++ [p]).length cap) (ps ++ [p])):OpenSl PT B w (.slice (some ⟨g,0,none⟩) ps.length ps.length) ps:=by
 rcases h with ⟨h,-⟩ | ⟨g',cap,n,h1,h2,h3,h4,h5,h6,h7⟩
 · simp at h
 · simp only [Value.slice.injEq,Option.some.injEq,Addr.mk.injEq] at h1
   obtain ⟨⟨rfl,-,-⟩,-,rfl⟩:=h1;refine .inr ⟨g,_,n,rfl,h2,h3,fun j u hu=>h4 j u ?_,Nat.le_refl _,?_,.inr ⟨rfl,?_⟩⟩
   · rw [List.flatMap_append,List.getElem?_append_left (List.getElem?_eq_some_iff.1 hu).1]; exact hu
   · simp at h5; omega
   · simp at h5 h7; omega
inductive TreeOf (NT:TypeId) (B:Nat) (X:Nat→Prop) (w:World):List Fr→Option Tr→List (Nat × Nat)→Prop where
 | empty:TreeOf NT B X w [] none []
 | root {t:Tr} (av kv:Value) (cells:At4 w B 0 (nodeC t.name av kv t.text)) (node:NodeX X w t av kv):TreeOf NT B X w [] (some t) []
 | inside {b o:Nat} {f:Fr} {fs:List Fr} {qs:List (Nat × Nat)} (L:List TrV) (av kv:Value) (inn:Inner NT X w b o f L av kv) (up:Up NT B X w b o fs qs):TreeOf NT B X w (f::fs) none (qs.reverse ++ [(b,o)])
theorem TreeOf.len {NT:TypeId} {B:Nat} {X:Nat→Prop} {w:World} {st:List Fr} {r:Option Tr} {ps:List (Nat × Nat)} (h:TreeOf NT B X w st r ps):ps.length=st.length:=by
 cases h with
 | empty=>rfl
 | root=>rfl
 | inside L av kv inn up=>simp [up.len]
theorem TreeOf.keep {NT:TypeId} {B:Nat} {X Y:Nat→Prop} {w w':World} {st:List Fr} {r:Option Tr} {ps:List (Nat × Nat)} (h:TreeOf NT B X w st r ps) (hk:KeptX X w w') (hY : ∀ k,k<w.heap.size→Y k→X k) (hP : ∀ k,(k=B ∨ ∃ n,Row w k NT n)→X k→Y k)
    (hB : ∀ j,j<4→w'.cell? ⟨B,j,none⟩=w.cell? ⟨B,j,none⟩) (hR : ∀ k n,k≠B→Row w k NT n→w'.heap[k]? = w.heap[k]?):TreeOf NT B Y w' st r ps:=by
 cases h with
 | empty=>exact .empty
 | root av kv cells node=>exact .root av kv (cells.kept fun j hj=>by rw [Nat.zero_add]; exact hB j hj) (node.keep hk hY)
 | @inside b o f fs qs L av kv inn up =>
  have hge:=up.ge;refine .inside L av kv (inn.keep hk hY (fun j hj=>?_) (fun g hg=>?_) (fun k hkk=>?_)) (up.keep hk hY (fun k _=>hP k) (fun _=>hB) (fun k n _ hkB hr j=>World.cell?_of_block (hR k n hkB hr)) (fun j hj=>?_) (fun k n _ hkB hr=>hr.kept (hR k n hkB hr)))
  · rcases up.place with ⟨rfl,rfl,-⟩ | ⟨h1,n,h2⟩
    · rw [Nat.zero_add]; exact hB j hj
    · exact World.cell?_of_block (hR b n (by omega) h2)
  · obtain ⟨h1,n,h2⟩:=inn.own.rowOf hg
    exact hR g n (by omega) h2
  · rcases hkk with rfl | hkk
    · exact hP _ (up.place.imp (fun h=>h.1) (fun h=>h.2)) inn.xb
    · exact hP k (.inr (inn.own.rowOf hkk).2) (inn.blk k hkk)
  · rcases up.place with ⟨rfl,rfl,-⟩ | ⟨h1,n,h2⟩
    · omega
    · exact World.cell?_of_block (hR b n (by omega) h2)
end Go.Proofs.YtecffghcpknmjaaGreatDoor
namespace Go.Proofs.YtecffghcpknmjaaGreatDoor
open Go Go.RowKit
structure Core (NT PT:TypeId) (lo:Nat) (w:World) (B:Nat) (st:List Fr) (r:Option Tr) (X:Nat→Prop) (ov:Value) (ps:List (Nat × Nat)) (c d t:Value):Prop where
 xB:X B
 loB:lo≤B
 xlo : ∀ k,k<lo→X k
 xlt : ∀ k,X k→lo≤k→B≤k∧k<w.heap.size
 free : ∀ k,X k→lo≤k → ∀ j,w.frozen? ⟨k,j,none⟩=false
 box : ∃ u0 u1 u2 u3,Box w B [u0,u1,u2,u3,ov,c,d,t]
 opn:OpenSl PT B w ov ps
 xo : ∀ g,ov.ownBlock=some g→X g
 tree:TreeOf NT B X w st r ps
variable {NT PT:TypeId} {lo:Nat} {w:World} {B:Nat} {st:List Fr} {r:Option Tr} {X:Nat→Prop} {ov:Value} {ps:List (Nat × Nat)} {c d t:Value}
theorem Core.lt (h:Core NT PT lo w B st r X ov ps c d t):B<w.heap.size:=(h.xlt B h.xB h.loB).2
theorem Core.c4 (h:Core NT PT lo w B st r X ov ps c d t):w.cell? ⟨B,4,none⟩=some ov:=by obtain ⟨_,_,_,_,hb⟩:=h.box; exact hb.cell 4 _ rfl
theorem Core.c5 (h:Core NT PT lo w B st r X ov ps c d t):w.cell? ⟨B,5,none⟩=some c:=by obtain ⟨_,_,_,_,hb⟩:=h.box; exact hb.cell 5 _ rfl
theorem Core.c6 (h:Core NT PT lo w B st r X ov ps c d t):w.cell? ⟨B,6,none⟩=some d:=by obtain ⟨_,_,_,_,hb⟩:=h.box; exact hb.cell 6 _ rfl
theorem Core.c7 (h:Core NT PT lo w B st r X ov ps c d t):w.cell? ⟨B,7,none⟩=some t:=by obtain ⟨_,_,_,_,hb⟩:=h.box; exact hb.cell 7 _ rfl
theorem Core.f (h:Core NT PT lo w B st r X ov ps c d t) (j:Nat):w.frozen? ⟨B,j,none⟩=false:=h.free B h.xB h.loB j
theorem Core.xsize (h:Core NT PT lo w B st r X ov ps c d t) : ∀ k,X k→k<w.heap.size:=fun k hk=>by
 by_cases hl:lo≤k
 · exact (h.xlt k hk hl).2
 · have:=h.lt; have:=h.loB; omega
theorem Core.len (h:Core NT PT lo w B st r X ov ps c d t):ps.length=st.length:=h.tree.len
theorem Core.init (w:World) (T:TypeId) (hw:w.heap.size=B) (hl:lo≤B) (u0 u1 u2 u3:Value):Core NT PT lo (w.alloc (.cells #[u0,u1,u2,u3,.slice none 0 0,c,d,t] T)) B [] none (fun k=>k=B∨k<lo) (.slice none 0 0) [] c d t:=by
 have hb:=Box.new w [u0,u1,u2,u3,.slice none 0 0,c,d,t] T B hw
 exact ⟨.inl rfl,hl,fun k hk=>.inr hk,fun k hk hl=>by
  rcases hk with rfl | hk
  · exact ⟨Nat.le_refl _,hb.lt⟩
  · omega,fun k hk hl j=>by
  rcases hk with rfl | hk
  · exact hb.free j
  · omega,⟨u0,u1,u2,u3,hb⟩,.inl ⟨rfl,rfl⟩,by simp [Value.ownBlock],.empty⟩
theorem Core.below (h:Core NT PT lo w B st r X ov ps c d t) {w':World} (hb:Below w.heap.size w w'):Core NT PT lo w' B st r X ov ps c d t:=by
 have hlt : ∀ k,X k→k<w.heap.size:=h.xsize
 refine ⟨h.xB,h.loB,h.xlo,fun k hk hl=>⟨(h.xlt k hk hl).1,Nat.lt_of_lt_of_le (hlt k hk) hb.size⟩,fun k hk hl j=>(hb.frozen (p:=⟨k,j,none⟩) (hlt k hk)).trans (h.free k hk hl j),?_,h.opn.heap fun g hg=>hb.block g (hlt g (h.xo g hg)),h.xo,
  h.tree.keep (KeptX.below hb) (fun _ _ h=>h) (fun _ _ h=>h) (fun j _=>hb.cell (p:=⟨B,j,none⟩) h.lt) (fun k n _ hr=>hb.block k hr.lt)⟩
 obtain ⟨u0,u1,u2,u3,hx⟩:=h.box;exact ⟨u0,u1,u2,u3,hx.below hb hx.lt⟩
theorem Core.drewN (h:Core NT PT lo w B st r X ov ps c d t) (n:Nat):Core NT PT lo (w.drewN n) B st r X ov ps c d t:=h.below (belowN (Below.refl _ _) n)
theorem setCell_block (w:World) (b j:Nat) (v:Value) {k:Nat} (hk:k≠b):(w.setCell ⟨b,j,none⟩ v).heap[k]? = w.heap[k]?:=heap_setCell_other w ⟨b,j,none⟩ k v hk
theorem setCell_far (w:World) (b j:Nat) (v:Value) {k i:Nat} (hk:k≠b∨i≠j):(w.setCell ⟨b,j,none⟩ v).cell? ⟨k,i,none⟩=w.cell? ⟨k,i,none⟩ :=
 World.cell?_setCell_other w _ _ _ (by intro e; simp only [Addr.mk.injEq] at e; rcases hk with h | h <;> omega)
theorem setCell_same (w:World) (b j:Nat) (v:Value) {u:Value} (h:w.cell? ⟨b,j,none⟩=some u):(w.setCell ⟨b,j,none⟩ v).cell? ⟨b,j,none⟩=some v:=World.cell?_setCell_same w _ _ h
theorem keptX_set (w:World) (b j:Nat) (v:Value) (hX:X b):KeptX X w (w.setCell ⟨b,j,none⟩ v):=KeptX.grown (setCell_grown w b j v) (fun g hg=>by cases hg; exact hX)
theorem Core.setTree (h:Core NT PT lo w B st r X ov ps c d t) {j:Nat} (hj:4≤j) (v:Value):TreeOf NT B X (w.setCell ⟨B,j,none⟩ v) st r ps :=
 h.tree.keep (keptX_set w B j v h.xB) (fun _ _ h=>h) (fun _ _ h=>h) (fun i hi=>setCell_far w B j v (.inr (by omega))) (fun k n hk _=>setCell_block w B j v hk)
theorem Core.setRest (h:Core NT PT lo w B st r X ov ps c d t) {j:Nat} (hj:5≤j) (v:Value) {c' d' t':Value} (hb : ∀ u0 u1 u2 u3,[u0,u1,u2,u3,ov,c,d,t].set j v=[u0,u1,u2,u3,ov,c',d',t']):Core NT PT lo (w.setCell ⟨B,j,none⟩ v) B st r X ov ps c' d' t':=by
 refine ⟨h.xB,h.loB,h.xlo,fun k hk hl=>⟨(h.xlt k hk hl).1,by simpa [World.setCell] using (h.xlt k hk hl).2⟩,fun k hk hl i=>by rw [World.frozen?_setCell]; exact h.free k hk hl i,?_,h.opn.heap fun g hg=>setCell_block w B j v (by have:=(h.opn.rowOf hg).1; omega),h.xo,h.setTree (by omega) v⟩
 obtain ⟨u0,u1,u2,u3,hx⟩:=h.box;exact ⟨u0,u1,u2,u3,by rw [← hb]; exact hx.set j v⟩
theorem Core.set5 (h:Core NT PT lo w B st r X ov ps c d t) (v:Value):Core NT PT lo (w.setCell ⟨B,5,none⟩ v) B st r X ov ps v d t:=h.setRest (by omega) v (fun _ _ _ _=>rfl)
theorem Core.set6 (h:Core NT PT lo w B st r X ov ps c d t) (v:Value):Core NT PT lo (w.setCell ⟨B,6,none⟩ v) B st r X ov ps c v t:=h.setRest (by omega) v (fun _ _ _ _=>rfl)
theorem Core.set7 (h:Core NT PT lo w B st r X ov ps c d t) (v:Value):Core NT PT lo (w.setCell ⟨B,7,none⟩ v) B st r X ov ps c d v:=h.setRest (by omega) v (fun _ _ _ _=>rfl)
def Swap (X:Nat→Prop) (v v':Value) (k:Nat):Prop:=(X k∧v.ownBlock≠some k)∨v'.ownBlock=some k
theorem Swap.old {v v':Value} (hX : ∀ g,v.ownBlock=some g→X g) (hv:v'.ownBlock=v.ownBlock ∨ ∀ k,v'.ownBlock=some k→w.heap.size≤k) {k:Nat} (hk:k<w.heap.size) (h:Swap X v v' k):X k:=by
 rcases h with h | h
 · exact h.1
 · rcases hv with e | e
   · exact hX k (e.symm.trans h)
   · have:=e k h; omega
theorem Swap.free {v v':Value} {w1:World} {E:TypeId} (hX : ∀ k,X k→k<w.heap.size) (hf : ∀ k,X k→lo≤k → ∀ j,w.frozen? ⟨k,j,none⟩=false) (hg:w.grownBy w1 v.ownBlock) (hv : ∀ k,v'.ownBlock=some k → ∃ m,Row w1 k E m) {k:Nat} (h:Swap X v v' k) (hl:lo≤k) (j:Nat):w1.frozen? ⟨k,j,none⟩=false:=by
 rcases h with h | h
 · exact (World.frozen?_of_block (by exact hg.block k (hX k h.1) (fun e=>h.2 e.symm))).trans (hf k h.1 hl j)
 · obtain ⟨m,h3⟩:=hv k h
   exact h3.free j
theorem Core.kid {f:Fr} {fs:List Fr} {b o:Nat} {L:List TrV} {av kv:Value} {qs:List (Nat × Nat)} (hNP:NT≠PT) (h:Core NT PT lo w B (f::fs) none X ov (qs.reverse ++ [(b,o)]) c d t) (inn:Inner NT X w b o f L av kv) (up:Up NT B X w b o fs qs)
    {w1:World} {v':Value} {y:TrV} (hy:NodeX X w y.1 y.2.1 y.2.2) (hown:Owns (b+1) NT 4 trC w1 v' (L ++ [y])) (hg:w.grownBy w1 kv.ownBlock) (hv:v'.ownBlock=kv.ownBlock ∨ ∀ k,v'.ownBlock=some k→w.heap.size≤k) :
    Inner NT (Swap X kv v') (w1.setCell ⟨b,o+2,none⟩ v') b o (f.add y.1) (L ++ [y]) av v'∧Up NT B (Swap X kv v') (w1.setCell ⟨b,o+2,none⟩ v') b o fs qs ∧
     Core NT PT lo (w1.setCell ⟨b,o+2,none⟩ v') B (f.add y.1::fs) none (Swap X kv v') ov (qs.reverse ++ [(b,o)]) c d t:=by
 have hge:=up.ge;have hlt : ∀ k,X k→k<w.heap.size:=h.xsize;have hbl:=hlt b inn.xb;have hkb : ∀ g,kv.ownBlock=some g→b<g:=fun g hg=>(inn.own.rowOf hg).1;have hne : ∀ k,k≤b→some k≠kv.ownBlock:=fun k hk e=>by have:=hkb k e.symm; omega
 have hblk : ∀ k,k≤b→w1.heap[k]? = w.heap[k]?:=fun k hk=>hg.block k (by omega) (hne k hk);have hk1:KeptX X w w1:=KeptX.grown hg inn.blk;have hk2:KeptX X w (w1.setCell ⟨b,o+2,none⟩ v'):=hk1.trans (keptX_set w1 b (o+2) v' inn.xb);have hY : ∀ k,k<w.heap.size→Swap X kv v' k→X k:=fun k hk hx=>Swap.old inn.blk hv hk hx;have hkeep : ∀ k,k≤b→X k→Swap X kv v' k:=fun k hk hx=>.inl ⟨hx,fun e=>hne k hk e.symm⟩
 have hfar : ∀ k i,k≤b→(k≠b∨i≠o+2)→(w1.setCell ⟨b,o+2,none⟩ v').cell? ⟨k,i,none⟩=w.cell? ⟨k,i,none⟩:=fun k i hk hi =>
  (setCell_far w1 b (o+2) v' hi).trans (World.cell?_of_block (hblk k hk))
 have hinn:Inner NT (Swap X kv v') (w1.setCell ⟨b,o+2,none⟩ v') b o (f.add y.1) (L ++ [y]) av v':=by
  refine ⟨fun j u hu=>?_,inn.att.keep hk2 hY,hown.keptR (setCell_grown _ _ _ _) (by omega),by simp [inn.is,Fr.add],fun z hz=>?_,fun g hgk=>.inr hgk,hkeep b (Nat.le_refl _) inn.xb⟩
  · by_cases hj:j=2
    · subst hj
      simp [nodeC] at hu
      subst hu;exact setCell_same w1 b (o+2) v' ((World.cell?_of_block (hblk b (Nat.le_refl _))).trans (inn.cells 2 _ rfl))
    · rw [hfar b (o+j) (Nat.le_refl _) (.inr (by omega))]
      refine inn.cells j u ?_
      rw [← hu];unfold nodeC;match j,hj with
      | 0,_=>rfl
      | 1,_=>rfl
      | 3,_=>rfl
      | j+4,_=>rfl
  · rcases List.mem_append.1 hz with hz | hz
    · exact (inn.nodes z hz).keep hk2 hY
    · obtain rfl:=List.mem_singleton.1 hz
      exact hy.keep hk2 hY
 have hup:Up NT B (Swap X kv v') (w1.setCell ⟨b,o+2,none⟩ v') b o fs qs:=by
  refine up.keep hk2 hY (fun k hkb' _ hx=>hkeep k (by omega) hx) (fun hbB j _=>hfar B j hge (.inl (by omega))) (fun k n hkb' _ _ j=>hfar k j (by omega) (.inl (by omega))) (fun j hj=>hfar b j (Nat.le_refl _) (.inr (by omega))) (fun k n hkb' _ hr=>(hr.kept (hblk k hkb')).setCell _ _ _)
 have hob : ∀ g,ov.ownBlock=some g→(w1.setCell ⟨b,o+2,none⟩ v').heap[g]? = w.heap[g]?:=by
  intro g hgo;obtain ⟨h1,n,h2⟩:=h.opn.rowOf hgo
  have hgb:g≠b:=by
   rintro rfl;rcases up.place with ⟨rfl,-⟩ | ⟨-,m,h3⟩
   · omega
   · exact hNP (h3.type h2)
  rw [setCell_block _ _ _ _ hgb];refine hg.block g h2.lt (fun e=>?_)
  obtain ⟨-,m,h3⟩:=inn.own.rowOf e.symm;exact hNP (h3.type h2)
 refine ⟨hinn,hup,hkeep B hge h.xB,h.loB,fun k hk=>hkeep k (by have:=h.loB; omega) (h.xlo k hk),fun k hk hl=>?_,fun k hk hl j=>?_,?_,h.opn.heap hob,fun g hgo=>.inl ⟨h.xo g hgo,fun e=>?_⟩,.inside _ _ _ hinn hup⟩
 · rcases hk with hk | hk
   · exact ⟨(h.xlt k hk.1 hl).1,by rw [World.size_setCell]; exact Nat.lt_of_lt_of_le (hlt k hk.1) hg.size⟩
   · have:=hown.lt k hk
     exact ⟨by omega,by rw [World.size_setCell]; exact this.2⟩
 · rw [World.frozen?_setCell]
   exact Swap.free (E:=NT) hlt (fun k hk hl=>h.free k hk hl) hg (fun k hk=>(hown.rowOf hk).2) hk hl j
 · obtain ⟨u0,u1,u2,u3,hx⟩:=h.box
   have hx1:Box w1 B [u0,u1,u2,u3,ov,c,d,t]:=hx.grown hg (hne B hge);rcases up.place with ⟨rfl,rfl,-⟩ | ⟨h1,-⟩
   · exact ⟨u0,u1,v',u3,hx1.set 2 v'⟩
   · exact ⟨u0,u1,u2,u3,hx1.grownB (setCell_grown _ _ _ _) (by omega)⟩
 · obtain ⟨-,n,h2⟩:=h.opn.rowOf hgo
   obtain ⟨-,m,h3⟩:=inn.own.rowOf e;exact hNP (h3.type h2)
theorem Core.point (hNP:NT≠PT) {st':List Fr} {r':Option Tr} {p:Nat × Nat} (h:Core NT PT lo w B st r X ov ps c d t) (ht:TreeOf NT B X w st' r' (ps ++ [p])) {w1:World} {ov':Value} (hown:Owns (B+1) PT 1 ptC w1 ov' (ps ++ [p])) (hg:w.grownBy w1 ov.ownBlock)
    (hv:ov'.ownBlock=ov.ownBlock ∨ ∀ k,ov'.ownBlock=some k→w.heap.size≤k):Core NT PT lo (w1.setCell ⟨B,4,none⟩ ov') B st' r' (Swap X ov ov') ov' (ps ++ [p]) c d t:=by
 have hlt : ∀ k,X k→k<w.heap.size:=h.xsize;have hBo:some B≠ov.ownBlock:=fun e=>by have:=(h.opn.rowOf e.symm).1; omega
 have hk1:KeptX X w w1:=KeptX.grown hg h.xo;have hk2:KeptX X w (w1.setCell ⟨B,4,none⟩ ov'):=hk1.trans (keptX_set w1 B 4 ov' h.xB);have hY : ∀ k,k<w.heap.size→Swap X ov ov' k→X k:=fun k hk hx=>Swap.old h.xo hv hk hx
 have hrow : ∀ k n,Row w k NT n→ov.ownBlock≠some k:=by
  intro k n hr e;obtain ⟨-,m,h3⟩:=h.opn.rowOf e;exact hNP (hr.type h3)
 have hB1:w1.heap[B]? = w.heap[B]?:=hg.block B h.lt hBo
 refine ⟨.inl ⟨h.xB,fun e=>hBo e.symm⟩,h.loB,fun k hk=>.inl ⟨h.xlo k hk,fun e=>by have:=(h.opn.rowOf e).1; have:=h.loB; omega⟩,fun k hk hl=>?_,fun k hk hl j=>?_,?_,(OpenSl.ofOwns hown).heap fun g hgo=>setCell_block w1 B 4 ov' (by have:=(hown.rowOf hgo).1; omega),fun g hgo=>.inr hgo,
  ht.keep hk2 hY (fun k hk hx=>.inl ⟨hx,fun e=>?_⟩) (fun i hi=>(setCell_far w1 B 4 ov' (.inr (by omega))).trans (World.cell?_of_block hB1)) (fun k n hk hr=>(setCell_block w1 B 4 ov' hk).trans (hg.block k hr.lt (fun e=>hrow k n hr e.symm)))⟩
 · rcases hk with hk | hk
   · exact ⟨(h.xlt k hk.1 hl).1,by rw [World.size_setCell]; exact Nat.lt_of_lt_of_le (hlt k hk.1) hg.size⟩
   · have:=hown.lt k hk
     exact ⟨by omega,by rw [World.size_setCell]; exact this.2⟩
 · rw [World.frozen?_setCell]
   exact Swap.free (E:=PT) hlt (fun k hk hl=>h.free k hk hl) hg (fun k hk=>(hown.rowOf hk).2) hk hl j
 · obtain ⟨u0,u1,u2,u3,hx⟩:=h.box
   exact ⟨u0,u1,u2,u3,(hx.grown hg hBo).set 4 ov'⟩
 · rcases hk with rfl | ⟨n,hr⟩
   · exact hBo e.symm
   · exact hrow k n hr e
theorem nodeC_get {n:Bs} {av kv:Value} {x:Bs} {j:Nat} {u:Value} (h:(nodeC n av kv x)[j]? = some u):j<4:=(List.getElem?_eq_some_iff.1 h).1
theorem flat_at (L:List TrV) (y:TrV) {j:Nat} {u:Value} (h:(trC y)[j]? = some u):((L ++ [y]).flatMap trC)[L.length*4+j]? = some u:=by
 rw [flat_get trC_len (L ++ [y]) L.length j y (by simp) (by have:=(List.getElem?_eq_some_iff.1 h).1; simpa [trC_len] using this)]; exact h
theorem TreeOf.push {f:Fr} {fs:List Fr} {b o g cap:Nat} {L:List TrV} {av ya:Value} {qs:List (Nat × Nat)} {n:Bs} {ats:List At2} (inn:Inner NT X w b o (f.add (.mk n ats [] [])) (L ++ [((.mk n ats [] []:Tr),ya,.slice none 0 0)]) av (.slice (some ⟨g,0,none⟩) (L.length+1) cap)) (up:Up NT B X w b o fs qs)
    (hy:SliceX 2 atC X w ya ats):TreeOf NT B X w (⟨n,ats,[]⟩::f::fs) none (qs.reverse ++ [(b,o)] ++ [(g,L.length*4)]):=by
 obtain ⟨-,hbg,hrow,-,hcap,hm⟩:=inn.own.row;have hcells:=inn.own.cells0
 have his:L.map (·.1)=f.kids:=by
  have:=inn.is
  simp only [List.map_append,List.map_cons,List.map_nil,Fr.add] at this;exact (List.append_inj' this rfl).1
 have hi:Inner NT X w g (L.length*4) ⟨n,ats,[]⟩ [] ya (.slice none 0 0):=by
  refine ⟨fun j u hu=>?_,hy,Owns.nil,rfl,by simp,by simp [Value.ownBlock],inn.blk g rfl⟩
  have:=hcells (L.length*4+j) u (flat_at L _ (by simpa [trC,Tr.name,Tr.text] using hu))
  rwa [Nat.zero_add] at this
 have hu:Up NT B X w g (L.length*4) (f::fs) ((b,o)::qs):=by
  refine .step L av cap (by omega) rfl his (by simpa using hcap) hm hrow inn.cells (fun j u hu=>hcells j u ?_) inn.att (fun y hy=>inn.nodes y (by simp [hy])) inn.xb up
  rw [List.flatMap_append,List.getElem?_append_left (List.getElem?_eq_some_iff.1 hu).1]; exact hu
 have:=TreeOf.inside _ _ _ hi hu
 simpa using this
theorem Core.rootCells (h:Core NT PT lo w B [] none X ov ps c d t) {n:Bs} {ats:List At2} {av:Value} (hy:SliceX 2 atC X w av ats) :
    Core NT PT lo ((((w.setCell ⟨B,0,none⟩ (.string (bs n))).setCell ⟨B,1,none⟩ av).setCell ⟨B,2,none⟩ (.slice none 0 0)).setCell ⟨B,3,none⟩ (.string (bs []))) B [] none X ov ps c d t ∧
     TreeOf NT B X ((((w.setCell ⟨B,0,none⟩ (.string (bs n))).setCell ⟨B,1,none⟩ av).setCell ⟨B,2,none⟩ (.slice none 0 0)).setCell ⟨B,3,none⟩ (.string (bs []))) [⟨n,ats,[]⟩] none (ps ++ [(B,0)]):=by
 have hg:w.grownBy ((((w.setCell ⟨B,0,none⟩ (.string (bs n))).setCell ⟨B,1,none⟩ av).setCell ⟨B,2,none⟩ (.slice none 0 0)).setCell ⟨B,3,none⟩ (.string (bs []))) (some B):=(((setCell_grown _ _ _ _).trans (setCell_grown _ _ _ _)).trans (setCell_grown _ _ _ _)).trans (setCell_grown _ _ _ _);have hk:KeptX X w ((((w.setCell ⟨B,0,none⟩ (.string (bs n))).setCell ⟨B,1,none⟩ av).setCell ⟨B,2,none⟩ (.slice none 0 0)).setCell ⟨B,3,none⟩ (.string (bs []))):=KeptX.grown hg (fun g e=>by cases e; exact h.xB);obtain ⟨u0,u1,u2,u3,hx⟩:=h.box;have hx':=(((hx.set 0 (.string (bs n))).set 1 av).set 2 (.slice none 0 0)).set 3 (.string (bs []));have hp:ps=[]:=List.eq_nil_of_length_eq_zero h.len;subst hp;refine ⟨⟨h.xB,h.loB,h.xlo,fun k hk' hl=>⟨(h.xlt k hk' hl).1,by simpa [World.setCell] using (h.xlt k hk' hl).2⟩,fun k hk' hl i=>by simp only [World.frozen?_setCell]; exact h.free k hk' hl i,⟨_,_,_,_,hx'⟩,h.opn.heap fun g hgo=>hg.block g ?_ (fun e=>?_),h.xo,.empty⟩,?_⟩
 · obtain ⟨-,m,h3⟩:=h.opn.rowOf hgo
   exact h3.lt
 · have:=(h.opn.rowOf hgo).1
   cases e; omega
 · refine TreeOf.inside (qs:=[]) [] av (.slice none 0 0) ⟨fun j u hu=>?_,hy.keep hk (fun _ _ h=>h),Owns.nil,rfl,by simp,by simp [Value.ownBlock],h.xB⟩ .root
   have hj:=nodeC_get hu;rw [Nat.zero_add];refine hx'.cell j u ?_
   rw [← hu];match j,hj with
   | 0,_=>rfl
   | 1,_=>rfl
   | 2,_=>rfl
   | 3,_=>rfl
theorem TreeOf.pop {f:Fr} {fs:List Fr} {b o:Nat} {L:List TrV} {av kv:Value} {qs:List (Nat × Nat)} (inn:Inner NT X w b o f L av kv) (up:Up NT B X w b o fs qs) (n:Nat) :
    TreeOf NT B (fun k=>X k∧kv.ownBlock≠some k) w (closeB f fs none n).stack (closeB f fs none n).root qs.reverse:=by
 have hnode:NodeX (fun k=>X k∧kv.ownBlock≠some k) w f.tree av kv :=
  .of L inn.is (inn.att.keep (KeptX.refl X w) (fun _ _ h=>h.1)) (inn.own.toX trC_len (fun g hg h=>h.2 hg)) (fun y hy=>(inn.nodes y hy).keep (KeptX.refl X w) (fun _ _ h=>h.1))
 have hkb : ∀ k,k≤b→kv.ownBlock≠some k:=fun k hk e=>by have:=(inn.own.rowOf e).1; omega
 cases up with
 | root=>exact .root av kv (by have:=inn.cells; exact this) hnode
 | @step b o b' o' g fs ps L' av' cap lt ho his hcap hm row cells kids att nodes xb up =>
  subst ho
  have hcl:At4 w b 0 ((L' ++ [(f.tree,av,kv)]).flatMap trC):=by
   intro j u hu;rw [List.flatMap_append] at hu;by_cases hj:j<L'.length*4
   · rw [List.getElem?_append_left (by rw [flat_len trC_len]; exact hj)] at hu
     exact kids j u hu
   · rw [List.getElem?_append_right (by rw [flat_len trC_len]; omega),flat_len trC_len] at hu
     have hu':(trC (f.tree,av,kv))[j - L'.length*4]? = some u:=by simpa using hu
     have:=inn.cells _ u hu'
     rwa [show L'.length*4+(j - L'.length*4)=0+j by omega] at this
  have hnew:Inner NT (fun k=>X k∧kv.ownBlock≠some k) w b' o' (g.add f.tree) (L' ++ [(f.tree,av,kv)]) av' (.slice (some ⟨b,0,none⟩) (L'.length+1) cap):=by
   refine ⟨cells,att.keep (KeptX.refl X w) (fun _ _ h=>h.1),?_,by simp [his,Fr.add],fun y hy=>?_,fun k hk=>?_,⟨xb,hkb b' (by omega)⟩⟩
   · have:=Owns.of_cells (base:=b'+1) (l:=L' ++ [(f.tree,av,kv)]) trC_len (by omega) row (by simpa using hcap) hm hcl
     simpa using this
   · rcases List.mem_append.1 hy with hy | hy
     · exact (nodes y hy).keep (KeptX.refl X w) (fun _ _ h=>h.1)
     · obtain rfl:=List.mem_singleton.1 hy
       exact hnode
   · simp [Value.ownBlock] at hk
     subst hk;exact ⟨inn.xb,hkb _ (Nat.le_refl _)⟩
  have:=TreeOf.inside _ _ _ hnew (up.keep (Y:=fun k=>X k∧kv.ownBlock≠some k) (KeptX.refl X w) (fun _ _ h=>h.1) (fun k hk _ hx=>⟨hx,hkb k (by omega)⟩) (fun _ _ _=>rfl) (fun _ _ _ _ _ _=>rfl) (fun _ _=>rfl) (fun _ _ _ _ h=>h))
  simpa [closeB] using this
theorem Core.pop (hNP:NT≠PT) {f:Fr} {fs:List Fr} {b o g cap:Nat} {L:List TrV} {av kv:Value} {qs:List (Nat × Nat)} (h:Core NT PT lo w B (f::fs) none X (.slice (some ⟨g,0,none⟩) (qs.length+1) cap) (qs.reverse ++ [(b,o)]) c d t) (inn:Inner NT X w b o f L av kv) (up:Up NT B X w b o fs qs) (n:Nat) :
    Core NT PT lo (w.setCell ⟨B,4,none⟩ (.slice (some ⟨g,0,none⟩) qs.length qs.length)) B (closeB f fs none n).stack (closeB f fs none n).root (fun k=>X k∧kv.ownBlock≠some k) (.slice (some ⟨g,0,none⟩) qs.length qs.length) qs.reverse c d t:=by
 have hBk:kv.ownBlock≠some B:=fun e=>by have:=(inn.own.rowOf e).1; have:=up.ge; omega
 have hop:OpenSl PT B w (.slice (some ⟨g,0,none⟩) qs.length qs.length) qs.reverse:=by
  have:=OpenSl.pop (ps:=qs.reverse) (p:=(b,o)) (g:=g) (cap:=cap) (by simpa using h.opn)
  simpa using this
 have hgB:g≠B:=by have:=(h.opn.rowOf (g:=g) rfl).1; omega
 have hk:KeptX (fun k=>X k∧kv.ownBlock≠some k) w (w.setCell ⟨B,4,none⟩ (.slice (some ⟨g,0,none⟩) qs.length qs.length)):=keptX_set w B 4 _ ⟨h.xB,hBk⟩
 refine ⟨⟨h.xB,hBk⟩,h.loB,fun k hk=>⟨h.xlo k hk,fun e=>by have:=(inn.own.rowOf e).1; have:=up.ge; have:=h.loB; omega⟩,fun k hk hl=>⟨(h.xlt k hk.1 hl).1,by simpa [World.setCell] using (h.xlt k hk.1 hl).2⟩,fun k hk hl i=>by rw [World.frozen?_setCell]; exact h.free k hk.1 hl i,?_,hop.heap fun k hk=>setCell_block _ _ _ _ (by simp [Value.ownBlock] at hk; omega),fun k hk=>?_,
  (TreeOf.pop inn up n).keep hk (fun _ _ h=>h) (fun _ _ h=>h) (fun i hi=>setCell_far w B 4 _ (.inr (by omega))) (fun k n hk _=>setCell_block w B 4 _ hk)⟩
 · obtain ⟨u0,u1,u2,u3,hx⟩:=h.box
   exact ⟨u0,u1,u2,u3,hx.set 4 _⟩
 · refine ⟨h.xo k hk,fun e=>?_⟩
   simp [Value.ownBlock] at hk
   subst hk;obtain ⟨-,m,h3⟩:=inn.own.rowOf e;obtain ⟨-,m',h4⟩:=h.opn.rowOf (g:=g) rfl;exact hNP (h3.type h4)
theorem addText_snoc (s:Bs) (l:List Tr) (n:Bs) (a:List At2) (k:List Tr) (x:Bs):addText s (l ++ [.mk n a k x])=l ++ [.mk n a k (x ++ s)]:=by
 induction l with
 | nil=>rfl
 | cons t l ih =>
  cases l with
  | nil=>simp [addText]
  | cons u l=>simp only [List.cons_append,addText] at ih ⊢; rw [ih]
theorem Core.more (hNP:NT≠PT) {f:Fr} {fs:List Fr} {b o g cap:Nat} {L:List TrV} {av ya yk:Value} {qs:List (Nat × Nat)} {n x s:Bs} {a:List At2} {k:List Tr} (h:Core NT PT lo w B (f::fs) none X ov (qs.reverse ++ [(b,o)]) c d t)
    (inn:Inner NT X w b o f (L ++ [((.mk n a k x:Tr),ya,yk)]) av (.slice (some ⟨g,0,none⟩) (L.length+1) cap)) (up:Up NT B X w b o fs qs) :
    Core NT PT lo (w.setCell ⟨g,L.length*4+3,none⟩ (.string (bs (x ++ s)))) B (f.more s::fs) none X ov (qs.reverse ++ [(b,o)]) c d t:=by
 obtain ⟨-,hbg,hrow,-,hcap,hm⟩:=inn.own.row;have hge:=up.ge;have hXg:X g:=inn.blk g rfl;have hk:KeptX X w (w.setCell ⟨g,L.length*4+3,none⟩ (.string (bs (x ++ s)))):=keptX_set w g _ _ hXg;have hcells:=inn.own.cells0
 have hlast:w.cell? ⟨g,L.length*4+3,none⟩=some (.string (bs x)):=by
  have:=hcells (L.length*4+3) _ (flat_at L _ (j:=3) rfl)
  rwa [Nat.zero_add] at this
 have hrow':=hrow.setCell g (L.length*4+3) (.string (bs (x ++ s)))
 have hcl:At4 (w.setCell ⟨g,L.length*4+3,none⟩ (.string (bs (x ++ s)))) g 0 ((L ++ [((.mk n a k (x ++ s):Tr),ya,yk)]).flatMap trC):=by
  intro j u hu;rw [Nat.zero_add];by_cases hj:j=L.length*4+3
  · subst hj
    rw [flat_at L _ (j:=3) rfl] at hu;cases hu
    exact setCell_same w g _ _ hlast
  · rw [setCell_far w g _ _ (.inr hj)]
    have hu2:((L ++ [((.mk n a k x:Tr),ya,yk)]).flatMap trC)[j]? = some u:=by
     rw [List.flatMap_append] at hu ⊢;by_cases hj2:j<L.length*4
     · rw [List.getElem?_append_left (by rw [flat_len trC_len]; exact hj2)] at hu ⊢
       exact hu
     · rw [List.getElem?_append_right (by rw [flat_len trC_len]; omega),flat_len trC_len] at hu ⊢
       rw [← hu];obtain ⟨i,rfl⟩ : ∃ i,j=L.length*4+i:=⟨j - L.length*4,by omega⟩;rw [show L.length*4+i - L.length*4=i by omega];match i,hj with
       | 0,_=>rfl
       | 1,_=>rfl
       | 2,_=>rfl
       | i+4,_=>rfl
    have:=hcells j u hu2
    rwa [Nat.zero_add] at this
 have hnode : ∀ y ∈ L ++ [((.mk n a k (x ++ s):Tr),ya,yk)],NodeX X (w.setCell ⟨g,L.length*4+3,none⟩ (.string (bs (x ++ s)))) y.1 y.2.1 y.2.2:=by
  intro y hy;rcases List.mem_append.1 hy with hy | hy
  · exact (inn.nodes y (by simp [hy])).keep hk (fun _ _ h=>h)
  · obtain rfl:=List.mem_singleton.1 hy
    obtain ⟨M,h1,h2,h3,h4⟩:=((inn.nodes _ (by simp:((.mk n a k x:Tr),ya,yk) ∈ L ++ [((.mk n a k x:Tr),ya,yk)])).keep (Y:=X) hk (fun _ _ h=>h)).parts;exact .of M h1 h2 h3 h4
 have hinn:Inner NT X (w.setCell ⟨g,L.length*4+3,none⟩ (.string (bs (x ++ s)))) b o (f.more s) (L ++ [((.mk n a k (x ++ s):Tr),ya,yk)]) av (.slice (some ⟨g,0,none⟩) (L.length+1) cap):=by
  refine ⟨inn.cells.kept (fun j _=>setCell_far w g _ _ (.inl (by omega))),inn.att.keep hk (fun _ _ h=>h),?_,?_,hnode,inn.blk,inn.xb⟩
  · have:=Owns.of_cells (base:=b+1) (l:=L ++ [((.mk n a k (x ++ s):Tr),ya,yk)]) trC_len hbg hrow' (by simpa using hcap) hm hcl
    simpa using this
  · have h1:=inn.is
    simp only [List.map_append,List.map_cons,List.map_nil] at h1;simp only [List.map_append,List.map_cons,List.map_nil,Fr.more,← h1];exact (addText_snoc s _ n a k x).symm
 have hup:Up NT B X (w.setCell ⟨g,L.length*4+3,none⟩ (.string (bs (x ++ s)))) b o fs qs :=
  up.keep hk (fun _ _ h=>h) (fun _ _ _ h=>h) (fun _ _ _=>setCell_far w g _ _ (.inl (by omega))) (fun k n hkb _ _ j=>setCell_far w g _ _ (.inl (by omega))) (fun j _=>setCell_far w g _ _ (.inl (by omega))) (fun k n _ _ hr=>hr.setCell _ _ _)
 refine ⟨h.xB,h.loB,h.xlo,fun k hk hl=>⟨(h.xlt k hk hl).1,by simpa [World.setCell] using (h.xlt k hk hl).2⟩,fun k hk hl i=>by rw [World.frozen?_setCell]; exact h.free k hk hl i,?_,h.opn.heap fun k hko=>setCell_block _ _ _ _ (fun e=>?_),h.xo,.inside _ _ _ hinn hup⟩
 · obtain ⟨u0,u1,u2,u3,hx⟩:=h.box
   exact ⟨u0,u1,u2,u3,hx.grownB (setCell_grown _ _ _ _) (by omega)⟩
 · subst e
   obtain ⟨-,m',h4⟩:=h.opn.rowOf hko;exact hNP (hrow.type h4)
end Go.Proofs.YtecffghcpknmjaaGreatDoor
namespace Go.Proofs.YtecffghcpknmjaaGreatDoor
open Go Go.RowKit
variable {lo:Nat}
theorem node_ptr:32≠133:=by decide
theorem snoc_get (qs:List (Nat × Nat)) (p:Nat × Nat):(qs.reverse ++ [p])[qs.length]? = some p:=by simp
set_option maxHeartbeats 4000000 in
theorem top_any {w:World} {B:Nat} {f:Fr} {fs:List Fr} {r:Option Tr} {X:Nat→Prop} {ov:Value} {qs:List (Nat × Nat)} {b o:Nat} {c d t:Value} (h:Core 32 133 lo w B (f::fs) r X ov (qs.reverse ++ [(b,o)]) c d t) :
    Calls Tryz.prog 58 #[.pointer (some ⟨B,0,none⟩)] w (Qt (.pointer (some ⟨b,o,none⟩)) w):=by
 obtain ⟨g,cap,rfl,hc,hm,hg,hp⟩:=h.opn.at (snoc_get qs (b,o));have hlt:=h.lt;have c4:=h.c4;have hql:(qs.reverse ++ [(b,o)]).length=qs.length+1:=by simp
 rw [hql] at c4 hc;generalize qs.length=n at *;clear h hql;have hn1:IntKind.i64.wrap (n:Int)=n:=IntWalk.i64_in _ (by unfold maxLen at hm; omega);have hn3:(n:Int)<(n:Int)+1:=by omega
 have hn4:(0:Int)≤n:=by omega
 have hn2:(n:Int)<((n+1:Nat):Int):=by omega
 go_enter Tryz.func58,Tryz.ntmps58
 go_wp2
 go_quiet (fail)
 go_wp2
 go_ret
 exact ⟨rfl,_,rfl⟩
set_option maxHeartbeats 4000000 in
theorem one_any (w:World) (B n:Nat) (c5:w.cell? ⟨B,5,none⟩=some (.int .i64 n)) (hf:w.frozen? ⟨B,5,none⟩=false) (hn:n≤1000000) :
    Calls Tryz.prog 89 #[.pointer (some ⟨B,0,none⟩)] w fun e w'=>e = .returned (.bool (decide (n+1≤4096)))∧w'=w.setCell ⟨B,5,none⟩ (.int .i64 (n+1:Nat)):=by
 have hw:IntKind.i64.wrap ((n:Int)+1)=(n:Int)+1:=IntWalk.i64_in _ (by omega);go_enter Tryz.func89,Tryz.ntmps89
 go_wp2
 go_ret
 refine ⟨ret_bool ?_,rfl⟩
 rw [decide_eq_decide]; omega
theorem below_set {B:Nat} {w w':World} (h:Below B w w') (b j:Nat) (v:Value) (hb:B≤b):Below B w (w'.setCell ⟨b,j,none⟩ v):=h.setCell (by exact hb) v
set_option maxHeartbeats 4000000 in
set_option maxRecDepth 100000 in
theorem end_any {w:World} {B:Nat} {f:Fr} {fs:List Fr} {X:Nat→Prop} {ov:Value} {ps:List (Nat × Nat)} {c d t:Value} (h:Core 32 133 lo w B (f::fs) none X ov ps c d t) :
    Calls Tryz.prog 57 #[.pointer (some ⟨B,0,none⟩)] w fun e w'=>e = .returned (.tuple #[]) ∧ ∃ X' ov' ps',Core 32 133 lo w' B (closeB f fs none 0).stack (closeB f fs none 0).root X' ov' ps' c (.bool (closeB f fs none 0).root.isSome) (.bool false)∧Below B w w':=by
 obtain ⟨b,o,L,av,kv,qs,rfl,inn,up⟩ : ∃ b o L av kv qs,ps=qs.reverse ++ [(b,o)]∧Inner 32 X w b o f L av kv∧Up 32 B X w b o fs qs:=by
  cases h.tree with
  | inside L av kv inn up=>exact ⟨_,_,L,av,kv,_,rfl,inn,up⟩
 obtain ⟨g,cap,rfl,hc,hm,hg,hp⟩:=h.opn.at (snoc_get qs (b,o));have hql:(qs.reverse ++ [(b,o)]).length=qs.length+1:=by simp
 have hfs:=up.len;rw [hql] at h hc;have hlt:=h.lt;have c4:=h.c4;have f4:=h.f 4;have c6:=h.c6;have c7:=h.c7;have f6:=h.f 6;have f7:=h.f 7
 have HP:=Lib.hid fun W (hW:W=w.drew)=>(by rw [hW]; exact Core.pop node_ptr (h.drewN 1) (inn.keep (KeptX.below (belowN (Below.refl _ w) 1)) (fun _ _ h=>h) (fun _ _=>rfl) (fun _ _=>rfl) (fun k hk=>hk.elim (fun e=>e ▸ inn.xb) (fun e=>inn.blk k e))) (up.keep (KeptX.below (belowN (Below.refl _ w) 1)) (fun _ _ h=>h) (fun _ _ _ h=>h) (fun _ _ _=>rfl) (fun _ _ _ _ _ _=>rfl) (fun _ _=>rfl) (fun _ _ _ _ h=>h)) 0 :
  Core 32 133 lo (W.setCell ⟨B,4,none⟩ (.slice (some ⟨g,0,none⟩) qs.length qs.length)) B (closeB f fs none 0).stack (closeB f fs none 0).root (fun k=>X k∧kv.ownBlock≠some k) (.slice (some ⟨g,0,none⟩) qs.length qs.length) qs.reverse c d t)
 have hroot:(closeB f fs none 0).root.isSome=decide ((qs.length:Int)=0):=by
  rw [hfs];cases fs with
  | nil=>rfl
  | cons g l=>simp [closeB]; omega
 have HR:=Lib.hid hroot;clear h inn up hp hql hfs hroot;generalize qs.length=n at *;have hn1:IntKind.i64.wrap (n:Int)=n:=IntWalk.i64_in _ (by unfold maxLen at hm; omega);have hn3:(n:Int)<(n:Int)+1:=by omega
 have hn4:(0:Int)≤n:=by omega
 have hn5:n≤cap:=by omega
 go_enter Tryz.func57,Tryz.ntmps57
 go_wp2
 go_still_tail 18,(by kernel_rfl)
 change wpList _ _ _ _ _ w.drew
 go_wp2
 go_end0
 have h1:=((HP.out w.drew rfl).set6 (.bool (decide ((n:Int)=0)))).set7 (.bool false);exact ⟨rfl,_,_,_,by rw [HR.out]; exact h1,below_set (below_set (below_set (belowN (Below.refl B w) 1) B 4 _ (Nat.le_refl _)) B 6 _ (Nat.le_refl _)) B 7 _ (Nat.le_refl _)⟩
end Go.Proofs.YtecffghcpknmjaaGreatDoor
namespace Go.Proofs.YtecffghcpknmjaaGreatDoor
open Go Go.RowKit
variable {lo:Nat}
def tmax (n:Nat):Nat:=n*2000000
theorem tmax_mono {n m:Nat} (h:n≤m):tmax n≤tmax m:=Nat.mul_le_mul_right _ h
theorem tmax_succ (n:Nat):tmax (n+1)=tmax n+2000000:=by unfold tmax; rw [Nat.add_mul,Nat.one_mul]
theorem tmax_le {n:Nat} (h:n≤1000000):tmax n≤2000000000000:=by
 have:=tmax_mono h
 have h2:tmax 1000000=2000000000000:=by decide
 omega
structure BOf (lo:Nat) (w:World) (B:Nat) (st:BSt) (n:Nat) (X:Nat→Prop) (ov:Value) (ps:List (Nat × Nat)):Prop where
 core:Core 32 133 lo w B st.stack st.root X ov ps (.int .i64 st.count) (.bool st.root.isSome) (.bool st.text)
 tx:st.text=true → ∃ f fs ks t,st.stack=f::fs∧f.kids=ks ++ [t]∧t.text.length≤tmax n
 kd : ∀ f ∈ st.stack,f.kids.length≤n
 cn:st.count≤n
 sn:st.stack.length≤n
def StepOut (lo:Nat) (w:World) (B n:Nat):StR→Ending→World→Prop
 | .ok st=>fun e w'=>e = .returned (.int .i64 0)∧(∃ X ov ps,BOf lo w' B st n X ov ps)∧Below B w w'
 | .bad x=>fun e w'=>e = .returned (.int .i64 x)∧w.grownBy w' (some B)∧Below B w w'
theorem BOf.mono {w:World} {B:Nat} {st:BSt} {n m:Nat} {X:Nat→Prop} {ov:Value} {ps:List (Nat × Nat)} (h:BOf lo w B st n X ov ps) (hnm:n≤m):BOf lo w B st m X ov ps :=
 ⟨h.core,fun ht=>by obtain ⟨f,fs,ks,t,h1,h2,h3⟩:=h.tx ht; exact ⟨f,fs,ks,t,h1,h2,Nat.le_trans h3 (tmax_mono hnm)⟩,fun f hf=>Nat.le_trans (h.kd f hf) hnm,Nat.le_trans h.cn hnm,Nat.le_trans h.sn hnm⟩
theorem BOf.below {w w':World} {B:Nat} {st:BSt} {n:Nat} {X:Nat→Prop} {ov:Value} {ps:List (Nat × Nat)} (h:BOf lo w B st n X ov ps) (hb:Below w.heap.size w w'):BOf lo w' B st n X ov ps:=⟨h.core.below hb,h.tx,h.kd,h.cn,h.sn⟩
theorem BOf.drewN {w:World} {B:Nat} {st:BSt} {n:Nat} {X:Nat→Prop} {ov:Value} {ps:List (Nat × Nat)} (h:BOf lo w B st n X ov ps) (k:Nat):BOf lo (w.drewN k) B st n X ov ps:=h.below (belowN (Below.refl _ _) k)
theorem BOf.shape {w:World} {B:Nat} {st:BSt} {n:Nat} {X:Nat→Prop} {ov:Value} {ps:List (Nat × Nat)} (h:BOf lo w B st n X ov ps) : ∃ ao cap,ov = .slice ao st.stack.length cap:=by
 rcases h.core.opn with ⟨rfl,rfl⟩ | ⟨g,cap,k,rfl,-⟩
 · exact ⟨none,0,by rw [← h.core.len]; rfl⟩
 · exact ⟨_,cap,by rw [h.core.len]⟩
theorem BOf.more {w:World} {B:Nat} {f:Fr} {fs:List Fr} {r:Option Tr} {c n:Nat} {X:Nat→Prop} {ov:Value} {ps:List (Nat × Nat)} (s:Bs) (h:BOf lo w B ⟨f::fs,r,c,true⟩ n X ov ps) (hs:s.length≤2000000) :
    ∃ (b o:Nat) (av:Value) (g cap k:Nat) (x:Bs) (qs:List (Nat × Nat)),ps=qs.reverse ++ [(b,o)]∧k+1≤n∧x.length≤tmax n∧g<w.heap.size∧b<w.heap.size∧B≤g∧k+1≤cap∧cap≤maxLen∧w.cell? ⟨b,o+2,none⟩=some (.slice (some ⟨g,0,none⟩) (k+1) cap)∧w.cell? ⟨g,k*4+3,none⟩=some (.string (bs x))∧w.frozen? ⟨g,k*4+3,none⟩=false ∧
     w.cell? ⟨b,o+1,none⟩=some av ∧ ∃ X' ov' ps',BOf lo (w.setCell ⟨g,k*4+3,none⟩ (.string (bs (x ++ s)))) B ⟨f.more s::fs,r,c,true⟩ (n+1) X' ov' ps':=by
 obtain ⟨f',fs',ks,t,h1,h2,h3⟩:=h.tx rfl;simp only [List.cons.injEq] at h1;obtain ⟨rfl,rfl⟩:=h1;have ht:=h.core.tree;generalize hst:f::fs=st at ht;cases ht with
 | empty=>cases hst
 | root=>cases hst
 | @inside b o f' fs' qs L av kv inn up =>
  cases hst
  have his:=inn.is;rw [h2] at his
  obtain ⟨L',y,rfl⟩ : ∃ L' y,L=L' ++ [y]:=by
   rcases List.eq_nil_or_concat L with rfl | ⟨L',y,rfl⟩
   · simp at his
   · exact ⟨L',y,by simp⟩
  rw [List.map_append] at his;obtain ⟨hk1,hk2⟩:=List.append_inj' his rfl;obtain ⟨t',ya,yk⟩:=y;simp only [List.map_cons,List.map_nil,List.cons.injEq,and_true] at hk2;subst hk2;obtain ⟨tn,ta,tk,tx⟩:=t'
  have hLn:L'.length+1≤n:=by
   have:=h.kd f (by simp)
   rw [h2,← hk1] at this;simpa using this
  obtain ⟨ao,cap,rfl⟩:=inn.own.shape;rcases ao with _ | ⟨g,z,sp⟩
  · rcases inn.own.2 with ⟨e,-⟩ | ⟨g,cap',cur,e,-⟩ <;> simp at e
  · have hsp:sp=none∧z=0:=by
     rcases inn.own.2 with ⟨e,-⟩ | ⟨g,cap',cur,e,-⟩
     · simp at e
     · simp only [Value.slice.injEq,Option.some.injEq,Addr.mk.injEq] at e; exact ⟨e.1.2.2,e.1.2.1⟩
    obtain ⟨rfl,rfl⟩:=hsp;have hlen:(L' ++ [((.mk tn ta tk tx:Tr),ya,yk)]).length=L'.length+1:=by simp
    rw [hlen] at inn;obtain ⟨-,hbg,hrow,-,hcap,hm⟩:=inn.own.row;have hge:=up.ge
    have hcell:w.cell? ⟨g,L'.length*4+3,none⟩=some (.string (bs tx)):=by
     have:=inn.own.cells0 (L'.length*4+3) _ (flat_at L' _ (j:=3) rfl)
     rwa [Nat.zero_add] at this
    refine ⟨b,o,av,g,cap,L'.length,tx,qs,rfl,hLn,h3,hrow.lt,h.core.xsize b inn.xb,by omega,by simpa using hcap,hm,inn.cells 2 _ rfl,hcell,hrow.free _,inn.cells 1 _ rfl,X,ov,_,Core.more node_ptr h.core inn up,fun _=>⟨_,_,L'.map (·.1),.mk tn ta tk (tx ++ s),rfl,?_,?_⟩,fun f' hf'=>?_,by have:=h.cn; simp at this ⊢; omega,by have:=h.sn; simp at this ⊢; omega⟩
    · simp only [Fr.more,h2,← hk1]
      exact addText_snoc s _ tn ta tk tx
    · have h3':tx.length≤tmax n:=h3
      show (tx ++ s).length≤_
      rw [List.length_append,tmax_succ]; omega
    · rcases List.mem_cons.1 hf' with rfl | hf'
      · simp only [Fr.more,h2,← hk1,addText_snoc]
        simp; omega
      · have:=h.kd f' (by simp [hf']); omega
end Go.Proofs.YtecffghcpknmjaaGreatDoor
namespace Go.Proofs.YtecffghcpknmjaaGreatDoor
open Go Go.RowKit
variable {lo:Nat}
theorem info_node:(Tryz.prog.info? 32).map (fun i=>(i.zero,i.size,i.bytes))=some (some (.agg #[.string ⟨#[]⟩,.slice none 0 0,.slice none 0 0,.string ⟨#[]⟩]),4,80):=by kernel_rfl
def zeroNode:TrV:=((.mk [] [] [] []:Tr),.slice none 0 0,.slice none 0 0)
theorem zeroNode_one : ∀ u ∈ trC zeroNode,u.oneCell'=true:=by
 intro u hu;simp only [trC,nodeC,zeroNode,Tr.name,Tr.text,List.mem_cons,List.not_mem_nil,or_false] at hu;rcases hu with rfl | rfl | rfl | rfl <;> rfl
theorem setCell_comm (w:World) (a b:Addr) (u v:Value) (h:a.block≠b.block):(w.setCell a u).setCell b v=(w.setCell b v).setCell a u:=by
 unfold World.setCell;congr 1
 apply Array.ext_getElem?
 intro i;simp only [Array.getElem?_modify];by_cases h1:a.block=i
 · have h2 : ¬ b.block=i:=fun e=>h (h1.trans e.symm)
   simp [h1,h2]
 · by_cases h2:b.block=i
   · simp [h1,h2]
   · simp [h1,h2]
theorem Core.data {w:World} {B:Nat} {f:Fr} {fs:List Fr} {r:Option Tr} {X:Nat→Prop} {ov:Value} {ps:List (Nat × Nat)} {c d t:Value} (h:Core 32 133 lo w B (f::fs) r X ov ps c d t) :
    ∃ (b o:Nat) (L:List TrV) (av:Value) (ao:Option Addr) (cap:Nat) (qs:List (Nat × Nat)),r=none∧ps=qs.reverse ++ [(b,o)]∧Inner 32 X w b o f L av (.slice ao L.length cap)∧Up 32 B X w b o fs qs∧b<w.heap.size∧B≤b∧(b=B→o=0) ∧
     w.cell? ⟨b,o,none⟩=some (.string (bs f.name))∧w.cell? ⟨b,o+2,none⟩=some (.slice ao L.length cap)∧w.frozen? ⟨b,o+2,none⟩=false:=by
 have ht:=h.tree;generalize hst:f::fs=st at ht;cases ht with
 | empty=>cases hst
 | root=>cases hst
 | @inside b o f' fs' qs L av kv inn up =>
  cases hst
  obtain ⟨ao,cap,rfl⟩:=inn.own.shape;exact ⟨b,o,L,av,ao,cap,qs,rfl,rfl,inn,up,h.xsize b inn.xb,up.ge,fun e=>by rcases up.place with ⟨-,h0,-⟩ | ⟨h1,-⟩ <;> omega,inn.cells 0 _ rfl,inn.cells 2 _ rfl,h.free b inn.xb (Nat.le_trans h.loB up.ge) _⟩
theorem Owns.nodeSt {base E g cap:Nat} {w:World} {L:List TrV} (h:Owns base E 4 trC w (.slice (some ⟨g,0,none⟩) (L.length+1) cap) (L ++ [zeroNode])) (n:Bs) (ats:List At2) (x:Bs) (av:Value) :
    Owns base E 4 trC ((((w.setCell ⟨g,L.length*4,none⟩ (.string (bs n))).setCell ⟨g,L.length*4+1,none⟩ av).setCell ⟨g,L.length*4+2,none⟩ (.slice none 0 0)).setCell ⟨g,L.length*4+3,none⟩ (.string (bs x))) (.slice (some ⟨g,0,none⟩) (L.length+1) cap) (L ++ [((.mk n ats [] x:Tr),av,.slice none 0 0)]):=by
 have hl : ∀ y:TrV,(L ++ [y])[L.length]? = some y:=fun y=>by simp
 have hs : ∀ y z:TrV,(L ++ [y]).set L.length z=L ++ [z]:=fun y z=>by simp
 obtain ⟨g1,e1,-,-,-,-,-,s1⟩:=own_store (j:=0) trC_len h (hl _) (by decide);cases e1
 have h1:=s1 (.string (bs n)) ((.mk n [] [] []:Tr),.slice none 0 0,.slice none 0 0) rfl;rw [hs,Nat.add_zero] at h1;obtain ⟨g1,e1,-,-,-,-,-,s1⟩:=own_store (j:=1) trC_len h1 (hl _) (by decide);cases e1
 have h2:=s1 av ((.mk n ats [] []:Tr),av,.slice none 0 0) rfl;rw [hs] at h2;obtain ⟨g1,e1,-,-,-,-,-,s1⟩:=own_store (j:=2) trC_len h2 (hl _) (by decide);cases e1
 have h3:=s1 (.slice none 0 0) ((.mk n ats [] []:Tr),av,.slice none 0 0) rfl;rw [hs] at h3;obtain ⟨g1,e1,-,-,-,-,-,s1⟩:=own_store (j:=3) trC_len h3 (hl _) (by decide);cases e1
 have h4:=s1 (.string (bs x)) ((.mk n ats [] x:Tr),av,.slice none 0 0) rfl;rw [hs] at h4;exact h4
theorem Owns.nodeCells {base E g cap:Nat} {w:World} {L:List TrV} (h:Owns base E 4 trC w (.slice (some ⟨g,0,none⟩) (L.length+1) cap) (L ++ [zeroNode])) (j:Nat) (hj:j<4) :
    w.frozen? ⟨g,L.length*4+j,none⟩=false ∧ ∃ u,w.cell? ⟨g,L.length*4+j,none⟩=some u:=by
 obtain ⟨g1,e1,-,-,h1,h2,-⟩:=own_store (j:=j) trC_len h (by simp:(L ++ [zeroNode])[L.length]? = some zeroNode) hj;cases e1
 exact ⟨h2,_,by rw [h1]; exact List.getElem?_eq_getElem (by rw [trC_len]; exact hj)⟩
theorem grown_set4 {w w1:World} {g m:Nat} {row:Option Nat} (h:w.grownBy w1 row) (hg:row=some g∨g=w.heap.size) (u0 u1 u2 u3:Value) :
    w.grownBy ((((w1.setCell ⟨g,m,none⟩ u0).setCell ⟨g,m+1,none⟩ u1).setCell ⟨g,m+2,none⟩ u2).setCell ⟨g,m+3,none⟩ u3) row:=by
 have hs:w1.grownBy ((((w1.setCell ⟨g,m,none⟩ u0).setCell ⟨g,m+1,none⟩ u1).setCell ⟨g,m+2,none⟩ u2).setCell ⟨g,m+3,none⟩ u3) (some g):=(((setCell_grown _ _ _ _).trans (setCell_grown _ _ _ _)).trans (setCell_grown _ _ _ _)).trans (setCell_grown _ _ _ _);refine ⟨hs.os.trans h.os,hs.tape.trans h.tape,hs.output.trans h.output,Nat.le_trans h.size hs.size,fun k hk hne=>(hs.block k (Nat.lt_of_lt_of_le hk h.size) (fun e=>?_)).trans (h.block k hk hne)⟩
 cases e
 rcases hg with e | e
 · exact hne e.symm
 · omega
set_option maxRecDepth 100000 in
set_option maxHeartbeats 8000000 in
theorem lettersB_out (w:World) (B n:Nat) (r:Option Tr) (c:Nat) (tx:Bool) (X:Nat→Prop) (ov:Value) (ps:List (Nat × Nat)) (s:Bs) (h:BOf lo w B ⟨[],r,c,tx⟩ n X ov ps) (hs:s.length≤2000000) :
    Calls Tryz.prog 55 #[.pointer (some ⟨B,0,none⟩),.string (bs s)] w (StepOut lo w B (n+1) (lettersB ⟨[],r,c,tx⟩ s)):=by
 have hlt:=h.core.lt;have c4:=h.core.c4;obtain ⟨ao,cap,hov⟩:=h.shape;rw [hov] at c4;simp only [List.length_nil] at c4;have H:=Lib.hid h;clear h hov;go_enter Tryz.func55,Tryz.ntmps55
 go_wp2_with fail
 refine (trim_any (bs s) w (by rw [bs_size]; omega)).mono ?_
 rintro e w' ⟨x,rfl,hx,rfl⟩;rw [bs_data] at hx
 have he:x.toList.isEmpty=(trimB s).isEmpty:=by
  rw [empty_data,← size_data,hx];cases trimB s <;> simp
 have HX:=Lib.hid hx;clear hx;cases ht:(trimB s).isEmpty with
 | true =>
  rw [ht] at he;have HT:=Lib.hid ht;clear ht;go_wp2
  go_ret
  have:lettersB ⟨[],r,c,tx⟩ s = .ok ⟨[],r,c,tx⟩:=by simp only [lettersB,HT.out,if_true]
  rw [this];exact ⟨rfl,⟨X,ov,ps,H.out.mono (Nat.le_succ n)⟩,Below.refl _ _⟩
 | false =>
  rw [ht] at he;have HT:=Lib.hid ht;clear ht;go_wp2
  go_ret
  have:lettersB ⟨[],r,c,tx⟩ s = .bad 16:=by simp only [lettersB,HT.out]; rfl
  rw [this];exact ⟨rfl,World.grownBy.refl _ _,Below.refl _ _⟩
end Go.Proofs.YtecffghcpknmjaaGreatDoor
namespace Go.Proofs.YtecffghcpknmjaaGreatDoor
open Go Go.RowKit
variable {lo:Nat}
set_option maxRecDepth 100000 in
set_option maxHeartbeats 8000000 in
theorem lettersB_none (w:World) (B n:Nat) (f:Fr) (fs:List Fr) (r:Option Tr) (c:Nat) (tx:Bool) (X:Nat→Prop) (ov:Value) (ps:List (Nat × Nat)) (h:BOf lo w B ⟨f::fs,r,c,tx⟩ n X ov ps) :
    Calls Tryz.prog 55 #[.pointer (some ⟨B,0,none⟩),.string (bs [])] w (StepOut lo w B (n+1) (lettersB ⟨f::fs,r,c,tx⟩ [])):=by
 have hlt:=h.core.lt;have c4:=h.core.c4;obtain ⟨ao,cap,hov⟩:=h.shape;rw [hov] at c4;simp only [List.length_cons] at c4;obtain ⟨b,o,L,av,ao2,cap2,qs,-,hps,-⟩:=h.core.data;have HT:=Lib.hid (top_any (by have:=h.core; rw [hps] at this; exact this));have hn1:((fs.length+1:Nat):Int)≠0:=by omega
 have H:=Lib.hid h;clear h hov hps;have he:(bs []:S).toList.isEmpty=true:=by rw [empty_data]; rfl
 generalize (bs []:S)=e0 at *;go_enter Tryz.func55,Tryz.ntmps55
 go_wp2_with fail
 refine HT.out.mono ?_
 rintro e w' ⟨rfl,k,rfl⟩;go_wp2
 go_ret
 exact ⟨rfl,⟨X,ov,ps,(H.out.drewN k).mono (Nat.le_succ n)⟩,belowN (Below.refl _ _) k⟩
set_option maxRecDepth 100000 in
set_option maxHeartbeats 8000000 in
theorem lettersB_text (w:World) (B n:Nat) (f:Fr) (fs:List Fr) (r:Option Tr) (c:Nat) (X:Nat→Prop) (ov:Value) (ps:List (Nat × Nat)) (s:Bs) (h:BOf lo w B ⟨f::fs,r,c,true⟩ n X ov ps) (hs0:s≠[]) (hs:s.length≤2000000) (hn:n≤1000000) :
    Calls Tryz.prog 55 #[.pointer (some ⟨B,0,none⟩),.string (bs s)] w (StepOut lo w B (n+1) (lettersB ⟨f::fs,r,c,true⟩ s)):=by
 have hlt:=h.core.lt;have c4:=h.core.c4;obtain ⟨ao,cap,hov⟩:=h.shape;rw [hov] at c4;simp only [List.length_cons] at c4;obtain ⟨b,o,L,av,ao2,cap2,qs,-,hps,-⟩:=h.core.data;have HT:=Lib.hid (top_any (by have:=h.core; rw [hps] at this; exact this));have hn1:((fs.length+1:Nat):Int)≠0:=by omega
 have H:=Lib.hid h;clear h hov;have he:(bs s:S).toList.isEmpty=false:=by rw [empty_data,bs_size]; simpa using hs0
 have hl:lettersB ⟨f::fs,r,c,true⟩ s = .ok ⟨f.more s::fs,r,c,true⟩:=by
  cases s with
  | nil=>exact absurd rfl hs0
  | cons x s=>simp [lettersB]
 rw [hl];have HSZ:Hid ((bs s:S).size=s.length):=bs_size s;obtain ⟨S1,hS1⟩ : ∃ S1:S,S1=bs s:=⟨_,rfl⟩;have HS1:=Lib.hid hS1;rw [← hS1] at he ⊢;clear hS1 hl;go_enter Tryz.func55,Tryz.ntmps55
 go_wp2_with fail
 refine HT.out.mono ?_
 rintro e w' ⟨rfl,k,rfl⟩;obtain ⟨b',o',av',g,cap',z,x,qs',hps',hz,hx,hg,hb,hBg,hzc,hm,q2,q3,f3,q1,X',ov',ps',HB⟩:=((H.out.drewN k).drewN 1).more s hs
 obtain ⟨rfl,rfl⟩:b=b'∧o=o':=by
  rw [hps] at hps';have:=(List.append_inj' hps' rfl).2
  simpa using this
 have HBB:=Lib.hid HB;have c7:=(H.out.drewN k).core.c7;obtain ⟨T1,hT1⟩ : ∃ T1:S,T1=bs x:=⟨_,rfl⟩
 have hsum : ¬ 9223372036854775807<T1.size+S1.size:=by
  rw [hT1,bs_size,HS1.out,HSZ.out];have:=tmax_le hn
  omega
 have hT1':T1 ++ S1=bs (x ++ s):=by rw [hT1,HS1.out,bs_append]
 have HTT:=Lib.hid hT1';rw [← hT1] at q3;clear hT1 HB hT1' hps hps';have e2:(w.drewN k).cell? ⟨b,o+2,none⟩=some (.slice (some ⟨g,0,none⟩) (z+1) cap'):=q2;have e3:(w.drewN k).cell? ⟨g,z*4+3,none⟩=some (.string T1):=q3;have ef:(w.drewN k).frozen? ⟨g,z*4+3,none⟩=false:=f3;have eg:g<(w.drewN k).heap.size:=hg;have eb:b<(w.drewN k).heap.size:=hb;have hz1:IntKind.i64.wrap (z:Int)=z:=IntWalk.i64_in _ (by omega);have hz2:(z:Int)<(z:Int)+1:=by omega
 have hz3:(0:Int)≤z:=by omega
 clear q1 q2 q3 f3 hg hb;have hBB:Below B w (w.drewN k):=belowN (Below.refl _ _) k;have HBW:=Lib.hid hBB
 have HB2:Hid (∀ W,W=w.drewN k→BOf lo (W.drew.setCell ⟨g,z*4+3,none⟩ (.string (T1 ++ S1))) B ⟨f.more s::fs,r,c,true⟩ (n+1) X' ov' ps'):=by
  intro W hW;rw [hW,HTT.out];exact HBB.out
 have HB3:=HB2.out (w.drewN k) rfl;have HB4:=Lib.hid HB3;have hltk:B<(w.drewN k).heap.size:=hlt;clear hBB HBB HB2 HB3 hlt HT c4;generalize w.drewN k=W at *;go_wp2
 go_still_tail 14,(by kernel_rfl)
 change wpList _ _ _ _ _ W.drew
 go_wp2
 go_ret
 exact ⟨rfl,⟨X',ov',ps',HB4.out⟩,below_set (belowN HBW.out 1) g _ _ hBg⟩
end Go.Proofs.YtecffghcpknmjaaGreatDoor
namespace Go.Proofs.YtecffghcpknmjaaGreatDoor
open Go Go.RowKit
variable {lo:Nat}
theorem Core.step_kid {W:World} {B:Nat} {f:Fr} {fs:List Fr} {X:Nat→Prop} {ov:Value} {c d t:Value} {b o:Nat} {L:List TrV} {av:Value} {ao:Option Addr} {cap:Nat} {qs:List (Nat × Nat)}
    (h:Core 32 133 lo W B (f::fs) none X ov (qs.reverse ++ [(b,o)]) c d t) (inn:Inner 32 X W b o f L av (.slice ao L.length cap)) (up:Up 32 B X W b o fs qs) {W1:World} (hb1:Below W.heap.size W W1)
    {g cap8:Nat} {w8:World} (ho:Owns (b+1) 32 4 trC w8 (.slice (some ⟨g,0,none⟩) (L.length+1) cap8) (L ++ [zeroNode])) (hg:W1.grownBy w8 (Value.slice ao L.length cap).ownBlock) (hat:(Value.slice ao L.length cap).ownBlock=some g∨g=W1.heap.size)
    (nm:Bs) (ats:List At2) (x:Bs) (ya:Value) (hy:SliceX 2 atC X W ya ats) :
    ∃ X',Inner 32 X' (((((w8.setCell ⟨g,L.length*4,none⟩ (.string (bs nm))).setCell ⟨g,L.length*4+1,none⟩ ya).setCell ⟨g,L.length*4+2,none⟩ (.slice none 0 0)).setCell ⟨g,L.length*4+3,none⟩ (.string (bs x))).setCell ⟨b,o+2,none⟩ (.slice (some ⟨g,0,none⟩) (L.length+1) cap8)) b o (f.add (.mk nm ats [] x)) (L ++ [((.mk nm ats [] x:Tr),ya,.slice none 0 0)]) av (.slice (some ⟨g,0,none⟩) (L.length+1) cap8) ∧
     Up 32 B X' (((((w8.setCell ⟨g,L.length*4,none⟩ (.string (bs nm))).setCell ⟨g,L.length*4+1,none⟩ ya).setCell ⟨g,L.length*4+2,none⟩ (.slice none 0 0)).setCell ⟨g,L.length*4+3,none⟩ (.string (bs x))).setCell ⟨b,o+2,none⟩ (.slice (some ⟨g,0,none⟩) (L.length+1) cap8)) b o fs qs ∧
     Core 32 133 lo (((((w8.setCell ⟨g,L.length*4,none⟩ (.string (bs nm))).setCell ⟨g,L.length*4+1,none⟩ ya).setCell ⟨g,L.length*4+2,none⟩ (.slice none 0 0)).setCell ⟨g,L.length*4+3,none⟩ (.string (bs x))).setCell ⟨b,o+2,none⟩ (.slice (some ⟨g,0,none⟩) (L.length+1) cap8)) B (f.add (.mk nm ats [] x)::fs) none X' ov (qs.reverse ++ [(b,o)]) c d t ∧
     (∀ k,k<W.heap.size→X' k→X k)∧KeptX X W (((((w8.setCell ⟨g,L.length*4,none⟩ (.string (bs nm))).setCell ⟨g,L.length*4+1,none⟩ ya).setCell ⟨g,L.length*4+2,none⟩ (.slice none 0 0)).setCell ⟨g,L.length*4+3,none⟩ (.string (bs x))).setCell ⟨b,o+2,none⟩ (.slice (some ⟨g,0,none⟩) (L.length+1) cap8)) ∧
     Below B W (((((w8.setCell ⟨g,L.length*4,none⟩ (.string (bs nm))).setCell ⟨g,L.length*4+1,none⟩ ya).setCell ⟨g,L.length*4+2,none⟩ (.slice none 0 0)).setCell ⟨g,L.length*4+3,none⟩ (.string (bs x))).setCell ⟨b,o+2,none⟩ (.slice (some ⟨g,0,none⟩) (L.length+1) cap8)):=by
 have hsz:=hb1.size;have inn1:Inner 32 X W1 b o f L av (.slice ao L.length cap):=inn.keep (KeptX.below hb1) (fun _ _ h=>h) (fun j _=>hb1.cell (p:=⟨b,o+j,none⟩) (h.xsize b inn.xb)) (fun k hk=>hb1.block k (h.xsize k (inn.blk k hk))) (fun k hk=>hk.elim (fun e=>e ▸ inn.xb) (fun e=>inn.blk k e));have up1:Up 32 B X W1 b o fs qs:=up.keep (KeptX.below hb1) (fun _ _ h=>h) (fun _ _ _ h=>h) (fun _ j _=>hb1.cell (p:=⟨B,j,none⟩) h.lt) (fun k n hk _ hr j=>hb1.cell (p:=⟨k,j,none⟩) hr.lt) (fun j _=>hb1.cell (p:=⟨b,j,none⟩) (h.xsize b inn.xb)) (fun k n _ _ hr=>hr.kept (hb1.block k hr.lt));have h1:=h.below hb1;have hk1:KeptX X W W1:=KeptX.below hb1;have hy1:SliceX 2 atC X W1 ya ats:=hy.keep hk1 (fun _ _ h=>h);have hg4:=grown_set4 (m:=L.length*4) hg hat (.string (bs nm)) ya (.slice none 0 0) (.string (bs x));have hbx : ∀ k,(Value.slice ao L.length cap).ownBlock=some k→X k:=inn.blk
 have hloc:(Value.slice (some ⟨g,0,none⟩) (L.length+1) cap8).ownBlock=(Value.slice ao L.length cap).ownBlock ∨ ∀ k,(Value.slice (some ⟨g,0,none⟩) (L.length+1) cap8).ownBlock=some k→W1.heap.size≤k:=by
  rcases hat with e | e
  · exact .inl (by rw [e]; rfl)
  · exact .inr fun k hk=>by cases hk; exact Nat.le_of_eq e.symm
 have hnode:NodeX X W1 (.mk nm ats [] x) ya (.slice none 0 0):=.mk [] hy1 rfl SliceX.nil (by simp);obtain ⟨r1,r2,r3⟩:=Core.kid node_ptr h1 inn1 up1 (y:=((.mk nm ats [] x:Tr),ya,.slice none 0 0)) hnode (ho.nodeSt nm ats x ya) hg4 hloc;refine ⟨_,r1,r2,r3,fun k hk hx=>?_,?_,?_⟩
 · exact Swap.old (w:=W1) hbx hloc (Nat.lt_of_lt_of_le hk hsz) hx
 · exact hk1.trans ((KeptX.grown hg4 hbx).trans (keptX_set _ b (o+2) _ inn.xb))
 · refine below_set ?_ b (o+2) _ up.ge
   have hB1:Below B W W1:=hb1.mono (Nat.le_of_lt h.lt);refine ⟨hg4.os.trans hB1.os,hg4.tape.trans hB1.tape,hg4.output.trans hB1.output,Nat.le_trans hB1.size hg4.size,fun k hk=>(hg4.block k ?_ (fun e=>?_)).trans (hB1.block k hk)⟩
   · have:=h.lt; omega
   · have:=(inn.own.rowOf e.symm).1; have:=up.ge; omega
theorem kid_facts {W1 w8:World} {b o g cap8:Nat} {L:List TrV} {v:Value} {row:Option Nat} (hbl:b<W1.heap.size) (c2:W1.cell? ⟨b,o+2,none⟩=some v) (f2:W1.frozen? ⟨b,o+2,none⟩=false) (hrow : ∀ k,row=some k→b<k)
    (ho:Owns (b+1) 32 4 trC w8 (.slice (some ⟨g,0,none⟩) (L.length+1) cap8) (L ++ [zeroNode])) (hg:W1.grownBy w8 row) :
    b<w8.heap.size∧w8.cell? ⟨b,o+2,none⟩=some v∧w8.frozen? ⟨b,o+2,none⟩=false∧b≠g∧g<w8.heap.size∧L.length+1≤cap8∧cap8≤maxLen:=by
 have hb:w8.heap[b]? = W1.heap[b]?:=hg.block b hbl (fun e=>by have:=hrow b e.symm; omega);obtain ⟨-,h2,h3,-,h5,h6⟩:=ho.row;exact ⟨Nat.lt_of_lt_of_le hbl hg.size,(World.cell?_of_block (by exact hb)).trans c2,(World.frozen?_of_block (by exact hb)).trans f2,by omega,h3.lt,by simpa using h5,h6⟩
set_option maxRecDepth 100000 in
set_option maxHeartbeats 8000000 in
theorem lettersB_full (w:World) (B n:Nat) (f:Fr) (fs:List Fr) (r:Option Tr) (c:Nat) (X:Nat→Prop) (ov:Value) (ps:List (Nat × Nat)) (s:Bs) (h:BOf lo w B ⟨f::fs,r,c,false⟩ n X ov ps) (hs0:s≠[]) (hn:n≤1000000) (hc:4096<c+1) :
    Calls Tryz.prog 55 #[.pointer (some ⟨B,0,none⟩),.string (bs s)] w (StepOut lo w B (n+1) (lettersB ⟨f::fs,r,c,false⟩ s)):=by
 have hlt:=h.core.lt;have c4:=h.core.c4;obtain ⟨ao,cap,hov⟩:=h.shape;rw [hov] at c4;simp only [List.length_cons] at c4;obtain ⟨b,o,L,av,ao2,cap2,qs,-,hps,-⟩:=h.core.data;have HT:=Lib.hid (top_any (by have:=h.core; rw [hps] at this; exact this));have hn1:((fs.length+1:Nat):Int)≠0:=by omega
 have H:=Lib.hid h;have hcn:c≤n:=h.cn;clear h hov;have he:(bs s:S).toList.isEmpty=false:=by rw [empty_data,bs_size]; simpa using hs0
 have hl:lettersB ⟨f::fs,r,c,false⟩ s = .bad 2:=by
  cases s with
  | nil=>exact absurd rfl hs0
  | cons x s=>simp [lettersB,hc]
 rw [hl];have hd:decide (c+1≤4096)=false:=by rw [decide_eq_false_iff_not]; omega
 generalize (bs s:S)=S1 at *;clear hl;go_enter Tryz.func55,Tryz.ntmps55
 go_wp2_with fail
 refine HT.out.mono ?_
 rintro e w' ⟨rfl,k,rfl⟩;have c7:=(H.out.drewN k).core.c7;have HO:=Lib.hid (one_any (w.drewN k) B c (H.out.drewN k).core.c5 ((H.out.drewN k).core.f 5) (by omega));rw [hd] at HO;have hBB:Below B w (w.drewN k):=belowN (Below.refl _ _) k;have HBW:=Lib.hid hBB;have HGW:=Lib.hid (grownN w k (some B));have hltk:B<(w.drewN k).heap.size:=hlt;clear hBB hlt HT c4 hd;generalize w.drewN k=W at *;go_wp2_with fail
 refine HO.out.mono ?_
 rintro e w' ⟨rfl,rfl⟩;go_wp2
 go_ret
 exact ⟨rfl,HGW.out.trans (setCell_grown _ _ _ _),below_set HBW.out B _ _ (Nat.le_refl _)⟩
set_option maxRecDepth 100000 in
set_option maxHeartbeats 8000000 in
theorem lettersB_add (w:World) (B n:Nat) (f:Fr) (fs:List Fr) (r:Option Tr) (c:Nat) (X:Nat→Prop) (ov:Value) (ps:List (Nat × Nat)) (s:Bs) (h:BOf lo w B ⟨f::fs,r,c,false⟩ n X ov ps) (hs0:s≠[]) (hs:s.length≤2000000) (hn:n≤1000000) (hc : ¬ 4096<c+1) :
    Calls Tryz.prog 55 #[.pointer (some ⟨B,0,none⟩),.string (bs s)] w (StepOut lo w B (n+1) (lettersB ⟨f::fs,r,c,false⟩ s)):=by
 have hlt:=h.core.lt;have c4:=h.core.c4;obtain ⟨ao,cap,hov⟩:=h.shape;rw [hov] at c4;simp only [List.length_cons] at c4;obtain ⟨b,o,L0,av0,ao0,cap0,qs0,-,hps,-⟩:=h.core.data;have HT:=Lib.hid (top_any (by have:=h.core; rw [hps] at this; exact this));have hn1:((fs.length+1:Nat):Int)≠0:=by omega
 have H:=Lib.hid h;have hcn:c≤n:=h.cn;clear h hov;have he:(bs s:S).toList.isEmpty=false:=by rw [empty_data,bs_size]; simpa using hs0
 have hl:lettersB ⟨f::fs,r,c,false⟩ s = .ok ⟨f.add (.mk [] [] [] s)::fs,r,c+1,true⟩:=by
  cases s with
  | nil=>exact absurd rfl hs0
  | cons x s=>simp [lettersB,hc]
 rw [hl];have hd:decide (c+1≤4096)=true:=by rw [decide_eq_true_iff]; omega
 obtain ⟨S1,hS1⟩ : ∃ S1:S,S1=bs s:=⟨_,rfl⟩;have HS1:=Lib.hid hS1;rw [← hS1] at he ⊢;clear hl hS1;go_enter Tryz.func55,Tryz.ntmps55
 go_wp2_with fail
 refine HT.out.mono ?_
 rintro e w' ⟨rfl,k,rfl⟩;have c7:=(H.out.drewN k).core.c7;have HO:=Lib.hid (one_any (w.drewN k) B c (H.out.drewN k).core.c5 ((H.out.drewN k).core.f 5) (by omega));rw [hd] at HO;have hBB:Below B w (w.drewN k):=belowN (Below.refl _ _) k;have HBW:=Lib.hid hBB;have hltk:B<(w.drewN k).heap.size:=hlt;have hC:=(H.out.drewN k).core.set5 (.int .i64 (c+1:Nat));have HC:=Lib.hid hC;clear hBB hlt HT c4 hd hC;generalize w.drewN k=W at *;go_wp2_with fail
 refine HO.out.mono ?_
 rintro e w' ⟨rfl,rfl⟩;have HBW2:=Lib.hid (below_set HBW.out B 5 (.int .i64 (c+1:Nat)) (Nat.le_refl _));have hltk2:B<(W.setCell ⟨B,5,none⟩ (.int .i64 (c+1:Nat))).heap.size:=by simpa [World.setCell] using hltk
 clear HBW hltk HO c7;generalize W.setCell ⟨B,5,none⟩ (.int .i64 (c+1:Nat))=W2 at *;obtain ⟨b',o',L,av,ao2,cap2,qs,hr,hps',inn,up,hbl,hBb,hbo,-,q2,f2⟩:=HC.out.data
 obtain ⟨rfl,rfl⟩:b=b'∧o=o':=by
  rw [hps] at hps';have:=(List.append_inj' hps' rfl).2
  simpa using this
 have hcr:=HC.out;subst hr;rw [hps'] at hcr
 have hLn:L.length≤n:=by
  have h1:=H.out.kd f (by simp);rw [← inn.is,List.length_map] at h1; exact h1
 have hLi:((L.length:Int):Int)<(L.length:Int)+1:=by omega
 have hL0:(0:Int)≤(L.length:Int):=by omega
 have HK:=Lib.hid fun (W1:World) (hb1:Below W2.heap.size W2 W1)=>@Core.step_kid lo W2 B f fs X ov _ _ _ b o L av ao2 cap2 qs hcr inn up W1 hb1;have HKB:Hid (∀ k,(Value.slice ao2 L.length cap2).ownBlock=some k→b<k):=fun k hk=>(inn.own.rowOf hk).1;have HOW:=Lib.hid inn.own;clear hps hps' hcr inn up HC;have hown4:=Lib.hid ((HOW.out.alloc (.cells (trC zeroNode).toArray 32)).drew);have hbl4:Hid (b<((W2.alloc (.cells (trC zeroNode).toArray 32)).drew).heap.size):=by show _<_; simp; omega
 have hb4:Hid (Below W2.heap.size W2 ((W2.alloc (.cells (trC zeroNode).toArray 32)).drew)):=belowN ((Below.refl _ W2).alloc (Nat.le_refl _) _) 1;have HNW:Hid (∀ j u,(trC zeroNode)[j]? = some u→((W2.alloc (.cells (trC zeroNode).toArray 32)).drew).cell? ⟨W2.heap.size,j,none⟩=some u):=fun j u hu=>(Box.new W2 (trC zeroNode) 32 _ rfl).cell j u hu;have hbs:Hid (b+1≤((W2.alloc (.cells (trC zeroNode).toArray 32)).drew).heap.size):=by show _≤_; simp; omega
 have hsz4:Hid (((W2.alloc (.cells (trC zeroNode).toArray 32)).drew).heap.size=W2.heap.size+1):=by show _=_; simp
 have hbl5:Hid ((L.length+1)*80≤140737488355328):=by show _≤_; omega
 have HQ2:=Lib.hid (((hb4.out.cell (p:=⟨b,o+2,none⟩) hbl).trans q2));have HF2:=Lib.hid (((hb4.out.frozen (p:=⟨b,o+2,none⟩) hbl).trans f2));go_wp2
 go_region_law (first | (refine step_append_one rfl (.tmp 20) (.tmp 24) 30 rfl (b+1) 32 Tryz.underlying30 info_node rfl (by decide) trC_len (.slice ao2 L.length cap2) L (by simp [Act.eval,Act.put]) hown4.out W2.heap.size zeroNode (by simp [Act.eval,Act.put]) HNW.out zeroNode_one hbl5.out (by decide) hbs.out (W2.heap.size+1) hsz4.out ?_; intro g8 cap8 w8 hown8 hgrow8 hat8 hlt8; obtain ⟨x1,x2,x3,x4,x5,x6,x7⟩:=kid_facts hbl4.out HQ2.out HF2.out HKB.out hown8 hgrow8; obtain ⟨y0,z0,t0⟩:=hown8.nodeCells 0 (by decide); obtain ⟨y1,z1,t1⟩:=hown8.nodeCells 1 (by decide); obtain ⟨y2,z2,t2⟩:=hown8.nodeCells 2 (by decide); obtain ⟨y3,z3,t3⟩:=hown8.nodeCells 3 (by decide); rw [Nat.add_zero] at y0 t0; have ho9:=Lib.hid hown8; have hg9:=Lib.hid hgrow8; have ha9:=Lib.hid hat8; clear hown8 hgrow8 hat8))
 all_goals
  obtain ⟨X',-,-,r3,-,-,r6⟩:=HK.out _ hb4.out ho9.out hg9.out (by rw [hsz4.out]; exact ha9.out) [] [] s (.slice none 0 0) SliceX.nil;rw [← HS1.out] at r3 r6;have hsw : ∀ (W:World) (j:Nat) (u v:Value),(W.setCell ⟨b,o+2,none⟩ u).setCell ⟨g8,j,none⟩ v=(W.setCell ⟨g8,j,none⟩ v).setCell ⟨b,o+2,none⟩ u:=fun W j u v=>setCell_comm W _ _ _ _ x4;try simp only [hsw]
  obtain ⟨W9,hW9⟩ : ∃ W9,W9=((((w8.setCell ⟨g8,L.length*4,none⟩ (.string ⟨#[]⟩)).setCell ⟨g8,L.length*4+1,none⟩ (.slice none 0 0)).setCell ⟨g8,L.length*4+2,none⟩ (.slice none 0 0)).setCell ⟨g8,L.length*4+3,none⟩ (.string S1)).setCell ⟨b,o+2,none⟩ (.slice (some ⟨g8,0,none⟩) (L.length+1) cap8):=⟨_,rfl⟩;rw [← hW9];have r3':Core 32 133 lo W9 B (f.add (.mk [] [] [] s)::fs) none X' ov (qs.reverse ++ [(b,o)]) (.int .i64 (c+1:Nat)) (.bool (none:Option Tr).isSome) (.bool false):=by rw [hW9]; exact r3
  have r6':Below B W2 W9:=by rw [hW9]; exact r6
  clear r3 r6 hW9 hsw x1 x2 x3 x4 x5 x6 x7 y0 z0 t0 y1 z1 t1 y2 z2 t2 y3 z3 t3 ho9 hg9 ha9 q2 f2 hlt8;have c7:=r3'.c7;have f7:=r3'.f 7;have hlt9:=r3'.lt;have HR:=Lib.hid r3';have HR6:=Lib.hid r6';clear r3' r6';go_wp2
  go_ret
  refine ⟨rfl,⟨X',ov,_,HR.out.set7 (.bool true),fun _=>⟨_,_,f.kids,.mk [] [] [] s,rfl,rfl,?_⟩,fun f' hf'=>?_,?_,?_⟩,below_set (HBW2.out.trans HR6.out) B 7 _ (Nat.le_refl _)⟩
  · show s.length≤_
    rw [tmax_succ]; omega
  · rcases List.mem_cons.1 hf' with rfl | hf'
    · have:=H.out.kd f (by simp)
      simp [Fr.add]; omega
    · have:=H.out.kd f' (by simp [hf']); omega
  · show c+1≤n+1
    omega
  · have:=H.out.sn
    simp at this ⊢; omega
theorem lettersB_any (w:World) (B n:Nat) (st:BSt) (X:Nat→Prop) (ov:Value) (ps:List (Nat × Nat)) (s:Bs) (h:BOf lo w B st n X ov ps) (hs:s.length≤2000000) (hn:n≤1000000) :
    Calls Tryz.prog 55 #[.pointer (some ⟨B,0,none⟩),.string (bs s)] w (StepOut lo w B (n+1) (lettersB st s)):=by
 obtain ⟨stack,r,c,tx⟩:=st;cases stack with
 | nil=>exact lettersB_out w B n r c tx X ov ps s h hs
 | cons f fs =>
  by_cases h0:s=[]
  · subst h0
    exact lettersB_none w B n f fs r c tx X ov ps h
  · cases tx with
    | true=>exact lettersB_text w B n f fs r c X ov ps s h h0 hs hn
    | false =>
     by_cases hc:4096<c+1
     · exact lettersB_full w B n f fs r c X ov ps s h h0 hn hc
     · exact lettersB_add w B n f fs r c X ov ps s h h0 hs hn hc
end Go.Proofs.YtecffghcpknmjaaGreatDoor
namespace Go.Proofs.YtecffghcpknmjaaGreatDoor
open Go Go.RowKit
variable {lo:Nat}
theorem info_ptr:(Tryz.prog.info? 133).map (fun i=>(i.zero,i.size,i.bytes))=some (some (.pointer none),1,8):=by kernel_rfl
theorem ptC_one (p:Nat × Nat) : ∀ u ∈ ptC p,u.oneCell'=true:=by intro u hu; simp [ptC] at hu; subst hu; rfl
theorem step_append_open {ops:Array Oper} {o:Oper} {a:Act} {w:World} {K:Act→World→Prop} {Q:Exit→Act→World→Prop} {E:Prop} (hgd:o.guard=none) (s x:Operand)
    (ho:o.op = .call { callee:=.builtin .append,args:=#[s,x],argTypes:=#[64,64] }) {B:Nat} (ov:Value) (ps:List (Nat × Nat)) (hs:a.eval s=ov) (hopn:OpenSl 133 B w ov ps) (H:Nat) (p:Nat × Nat) (hx:a.eval x = .slice (some ⟨H,0,none⟩) 1 1)
    (hnew:w.cell? ⟨H,0,none⟩=some (.pointer (some ⟨p.1,p.2,none⟩))) (hl:ps.length≤1000000) (hB:B+1≤w.heap.size) (N:Nat) (hN:w.heap.size=N)
    (h : ∀ g cap w',Owns (B+1) 133 1 ptC w' (.slice (some ⟨g,0,none⟩) (ps.length+1) cap) (ps ++ [p])→w.grownBy w' ov.ownBlock→(ov.ownBlock=some g∨N≤g)→K (a.put o.dst (.slice (some ⟨g,0,none⟩) (ps.length+1) cap)) w') :
    if Region.wanted o (yielded ops a.tmps)=true then Oper.wp Tryz.prog o a w K Q else E:=by
 have hnews : ∀ j u,(ptC p)[j]? = some u→w.cell? ⟨H,j,none⟩=some u:=fun j u hu=>by
  cases j with
  | zero=>simp [ptC] at hu; subst hu; exact hnew
  | succ j=>simp [ptC] at hu
 rcases hopn.owns with hown | ⟨g,rfl,hat⟩
 · exact step_append_one hgd s x 64 ho (B+1) 133 Tryz.underlying64 info_ptr rfl (by decide) ptC_len ov ps hs hown H p hx hnews (ptC_one p) (by omega) (by decide) hB N hN (fun g cap w' h1 h2 h3 _=>h g cap w' h1 h2 (h3.imp id fun e=>by omega))
 · obtain ⟨i,hi,hz,hsize,hby⟩:=info_parts info_ptr
   refine step_append_grows hgd s x 64 ho 133 i _ 1 8 Tryz.underlying64 hi hz hsize hby rfl (by decide) (some ⟨g,0,none⟩) ps.length ps.length (ps.flatMap ptC) hs (by simp) (flat_len ptC_len ps) (fun b hb j u hu=>by cases hb; rw [Addr.add_lit]; exact hat j u hu)
    ⟨H,0,none⟩ 1 1 (ptC p) hx rfl (fun j u hu=>by rw [Addr.add_lit,Nat.zero_add]; exact hnews j u hu) (ptC_one p) (by omega) (by unfold maxLen; omega) (by omega) ?_
   intro v' w' h1 h2;rcases h1.2 with ⟨-,h0⟩ | ⟨g2,cap2,cur,rfl,hb,hg,hrest⟩
   · omega
   · refine h g2 cap2 w' ⟨by rw [flat_len ptC_len],?_⟩ ⟨h2.os,h2.tape,h2.output,h2.size,fun k hk _=>h2.block k hk (by simp)⟩ (.inr ?_)
     · refine .inr ⟨g2,cap2,cur,by simp,by omega,hg,by simpa using hrest.1,hrest.2.1,hrest.2.2.1,?_⟩
       rw [List.flatMap_append]; simpa using hrest.2.2.2
     · omega
def BeginOut (lo:Nat) (X:Nat→Prop) (w:World) (B n:Nat):StR→Ending→World→Prop
 | .ok st=>fun e w'=>StepOut lo w B n (.ok st) e w'∧KeptX X w w'
 | .bad x=>StepOut lo w B n (.bad x)
def tokV (t:Tk) (av:Value) (p q r:Int):Value:=.agg #[.int .i64 t.kind,.string (bs t.name),av,.string (bs t.text),.int .i64 p,.int .i64 q,.int .i64 r]
def AttB (lo B:Nat) (w:World) (av:Value) (l:List At2):Prop:=SliceX 2 atC (fun k=>B≤k∨k<lo) w av l
theorem AttB.x {B:Nat} {w w':World} {av:Value} {l:List At2} {X:Nat→Prop} (h:AttB lo B w av l) (hb:Below B w w') (hX : ∀ k,X k→B≤k∨k<lo):SliceX 2 atC X w' av l :=
 SliceX.keep h ⟨hb.size,fun k j _ hn=>hb.cell (p:=⟨k,j,none⟩) (by exact Nat.lt_of_not_le (fun e=>hn (.inl e)))⟩ (fun k _ h=>hX k h)
theorem AttB.below {B:Nat} {w w':World} {av:Value} {l:List At2} (h:AttB lo B w av l) (hb:Below B w w'):AttB lo B w' av l:=h.x hb (fun _ h=>h)
theorem AttB.shape {B:Nat} {w:World} {av:Value} {l:List At2} (h:AttB lo B w av l) : ∃ ao cap,av = .slice ao l.length cap:=SliceX.shape h
set_option maxRecDepth 100000 in
set_option maxHeartbeats 8000000 in
theorem begin_done (w:World) (B n:Nat) (st:BSt) (X:Nat→Prop) (ov:Value) (ps:List (Nat × Nat)) (h:BOf lo w B st n X ov ps) (t:Tk) (av:Value) (p q r:Int) (hr:st.root.isSome=true) :
    Calls Tryz.prog 56 #[.pointer (some ⟨B,0,none⟩),tokV t av p q r] w (BeginOut lo X w B (n+1) (beginB st t)):=by
 have hlt:=h.core.lt;have c6:=h.core.c6;rw [hr] at c6;have hl:beginB st t = .bad 16:=by unfold beginB; rw [if_pos hr]
 rw [hl];unfold tokV;go_enter Tryz.func56,Tryz.ntmps56
 go_wp2
 go_ret
 exact ⟨rfl,World.grownBy_alloc _ _ _,(Below.refl _ _).alloc (by omega) _⟩
set_option maxRecDepth 100000 in
set_option maxHeartbeats 8000000 in
theorem begin_deep (w:World) (B n:Nat) (st:BSt) (X:Nat→Prop) (ov:Value) (ps:List (Nat × Nat)) (h:BOf lo w B st n X ov ps) (t:Tk) (av:Value) (p q r:Int) (hr:st.root.isSome=false) (hd:64≤st.stack.length) :
    Calls Tryz.prog 56 #[.pointer (some ⟨B,0,none⟩),tokV t av p q r] w (BeginOut lo X w B (n+1) (beginB st t)):=by
 have hlt:=h.core.lt;have c6:=h.core.c6;rw [hr] at c6;have c4:=h.core.c4;obtain ⟨ao,cap,rfl⟩:=h.shape;have hl:beginB st t = .bad 2:=by unfold beginB; rw [hr,if_neg (by simp),if_pos hd]
 rw [hl];have hdI:(64:Int)≤(st.stack.length:Int):=by omega
 have hlt2:B<(w.heap.size+1):=by omega
 clear h;unfold tokV;go_enter Tryz.func56,Tryz.ntmps56
 go_wp2
 go_ret
 exact ⟨rfl,World.grownBy_alloc _ _ _,(Below.refl _ _).alloc (by omega) _⟩
set_option maxRecDepth 100000 in
set_option maxHeartbeats 8000000 in
theorem begin_full (w:World) (B n:Nat) (st:BSt) (X:Nat→Prop) (ov:Value) (ps:List (Nat × Nat)) (h:BOf lo w B st n X ov ps) (t:Tk) (av:Value) (p q r:Int) (hr:st.root.isSome=false) (hd : ¬ 64≤st.stack.length) (hc:4096<st.count+1) (hn:n≤1000000) :
    Calls Tryz.prog 56 #[.pointer (some ⟨B,0,none⟩),tokV t av p q r] w (BeginOut lo X w B (n+1) (beginB st t)):=by
 have hlt:=h.core.lt;have c6:=h.core.c6;rw [hr] at c6;have c4:=h.core.c4;have hcn:=h.cn;obtain ⟨ao,cap,rfl⟩:=h.shape;have hl:beginB st t = .bad 2:=by unfold beginB; rw [hr,if_neg (by simp),if_neg hd,if_pos hc]
 rw [hl];have hdI : ¬ (64:Int)≤(st.stack.length:Int):=by omega
 have hdd:decide (st.count+1≤4096)=false:=by rw [decide_eq_false_iff_not]; omega
 have hCW:=fun o=>h.core.below ((Below.refl _ w).alloc (Nat.le_refl _) o);have HO:=Lib.hid fun o=>one_any (w.alloc o) B st.count (hCW o).c5 ((hCW o).f 5) (by omega);rw [hdd] at HO;clear h hCW;unfold tokV;go_enter Tryz.func56,Tryz.ntmps56
 go_wp2_with fail
 refine (HO.out _).mono ?_
 rintro e w' ⟨rfl,rfl⟩;go_wp2
 go_ret
 exact ⟨rfl,(setCell_grown _ _ _ _).trans (World.grownBy_alloc _ _ _),(below_set (Below.refl B w) B _ _ (Nat.le_refl _)).alloc (by simp; omega) _⟩
end Go.Proofs.YtecffghcpknmjaaGreatDoor
