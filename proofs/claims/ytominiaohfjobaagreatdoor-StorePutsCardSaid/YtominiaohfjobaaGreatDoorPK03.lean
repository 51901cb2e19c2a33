/- The builder's memory: the path of open elements, and what keeps it; no program in sight. -/
import Derived.Test.YtominiaohfjobaaGreatDoorPK02
import Derived.Test.YtominiaohfjobaaGreatDoorPK01
import Derived.StillTailTactics
import Derived.Deep.AppendLies
import Derived.Deep.RegionLaw
set_option maxRecDepth 100000
set_option maxHeartbeats 64000000
namespace Go.Proofs.YtominiaohfjobaaGreatDoor
open Go Go.RowKit
inductive Up (NT:TypeId) (B:Nat) (X:Nat→Prop) (w:World):Nat→Nat→List Fr→List (Nat × Nat)→Prop where
 | root:Up NT B X w B 0 [] []
 | step {b o b' o':Nat} {f:Fr} {fs:List Fr} {ps:List (Nat × Nat)} (L:List iq) (av:Value) (cap:Nat) (lt:b'<b) (ho:o=L.length*4) (his:L.map (·.1)=f.kids) (hcap:L.length+1≤cap) (hm:cap≤maxLen) (row:kN w b NT (cap*4))
     (cells:vA w b' o' (kh f.name av (.slice (some ⟨b,0,none⟩) (L.length+1) cap) [])) (kids:vA w b 0 (L.flatMap fu)) (att:bJ 2 gJ X w av f.attrs) (nodes : ∀ y ∈ L,bj X w y.1 y.2.1 y.2.2) (xb:X b') (up:Up NT B X w b' o' fs ps):Up NT B X w b o (f::fs) ((b',o')::ps)
theorem Up.place {NT:TypeId} {B:Nat} {X:Nat→Prop} {w:World} {b o:Nat} {fs:List Fr} {ps:List (Nat × Nat)} (h:Up NT B X w b o fs ps):(b=B∧o=0∧fs=[])∨(B<b ∧ ∃ n,kN w b NT n):=by
 induction h with
 | root=>exact .inl ⟨rfl,rfl,rfl⟩
 | step L av cap lt ho his hcap hm row cells kids att nodes xb up A =>
  refine .inr ⟨?_,_,row⟩
  rcases A with ⟨rfl,-⟩ | ⟨h,-⟩
  · exact lt
  · omega
theorem Up.ge {NT:TypeId} {B:Nat} {X:Nat→Prop} {w:World} {b o:Nat} {fs:List Fr} {ps:List (Nat × Nat)} (h:Up NT B X w b o fs ps):B≤b:=by
 rcases h.place with ⟨rfl,-⟩ | ⟨h,-⟩ <;> omega
theorem Up.len {NT:TypeId} {B:Nat} {X:Nat→Prop} {w:World} {b o:Nat} {fs:List Fr} {ps:List (Nat × Nat)} (h:Up NT B X w b o fs ps):ps.length=fs.length:=by
 induction h with
 | root=>rfl
 | step L av cap lt ho his hcap hm row cells kids att nodes xb up A=>simp [A]
theorem Up.keep {NT:TypeId} {B:Nat} {X Y:Nat→Prop} {w w':World} {b o:Nat} {fs:List Fr} {ps:List (Nat × Nat)} (h:Up NT B X w b o fs ps) (hk:aK X w w') (hY : ∀ k,k<w.heap.size→Y k→X k) (hP : ∀ k,k<b→(k=B ∨ ∃ n,kN w k NT n)→X k→Y k)
    (Z:b≠B → ∀ j,j<4→w'.cell? ⟨B,j,none⟩=w.cell? ⟨B,j,none⟩) (I : ∀ k n,k<b→k≠B→kN w k NT n → ∀ j,w'.cell? ⟨k,j,none⟩=w.cell? ⟨k,j,none⟩)
    (ac : ∀ j,j<o→w'.cell? ⟨b,j,none⟩=w.cell? ⟨b,j,none⟩) (hr : ∀ k n,k≤b→k≠B→kN w k NT n→kN w' k NT n):Up NT B Y w' b o fs ps:=by
 induction h with
 | root=>exact .root
 | @step b o b' o' f fs ps L av cap lt ho his hcap hm row cells kids att nodes xb up ih =>
  have al:=up.ge;have J:b≠B:=by omega
  refine .step L av cap lt ho his hcap hm (hr b _ (Nat.le_refl _) J row) (cells.kept fun j O=>?_) (kids.kept fun j O=>?_) (att.keep hk hY) (fun y hy=>(nodes y hy).keep hk hY) (hP _ lt (up.place.imp (fun h=>h.1) (fun h=>h.2)) xb) (ih (fun k U=>hP k (by omega)) (fun _=>Z J) (fun k n U D A j=>I k n (by omega) D A j) (fun j O=>?_) (fun k n U D A=>hr k n (by omega) D A))
  · rcases up.place with ⟨rfl,rfl,-⟩ | ⟨h1,n,h2⟩
    · rw [Nat.zero_add]; exact Z J j O
    · exact I b' n lt (by omega) h2 _
  · rw [Nat.zero_add]; exact ac j (by rw [bG bY] at O; omega)
  · rcases up.place with ⟨rfl,rfl,-⟩ | ⟨h1,n,h2⟩
    · omega
    · exact I b' n lt (by omega) h2 _
theorem aj.heap {α:Type} {base:Nat} {E:TypeId} {n:Nat} {C:α→List Value} {w w':World} {v:Value} {l:List α} (h:aj base E n C w v l) (D : ∀ g,v.ownBlock=some g→w'.heap[g]? = w.heap[g]?):aj base E n C w' v l:=by
 refine ⟨h.1,?_⟩
 rcases h.2 with h | ⟨g,cap,A,rfl,h2,h3,I⟩
 · exact .inl h
 · exact .inr ⟨g,cap,A,rfl,h2,(D g rfl).trans h3,I⟩
theorem aj.rowOf {α:Type} {base:Nat} {E:TypeId} {n:Nat} {C:α→List Value} {w:World} {v:Value} {l:List α} (h:aj base E n C w v l) {g:Nat} (A:v.ownBlock=some g):base≤g ∧ ∃ m,kN w g E m:=by
 rcases h.2 with ⟨rfl,-⟩ | ⟨Z,cap,D,rfl,h2,h3,U,O,I,J⟩
 · simp [Value.ownBlock] at A
 · simp [Value.ownBlock] at A
   subst A;exact ⟨h2,_,D,h3,I⟩
theorem kN.free {w:World} {g:Nat} {E:TypeId} {n:Nat} (h:kN w g E n) (j:Nat):w.frozen? ⟨g,j,none⟩=false:=by
 obtain ⟨A,h1,-⟩:=h;simp [World.frozen?,h1]
structure eD (NT:TypeId) (X:Nat→Prop) (w:World) (b o:Nat) (f:Fr) (L:List iq) (av kv:Value):Prop where
 cells:vA w b o (kh f.name av kv [])
 att:bJ 2 gJ X w av f.attrs
 own:aj (b+1) NT 4 fu w kv L
 is:L.map (·.1)=f.kids
 nodes : ∀ y ∈ L,bj X w y.1 y.2.1 y.2.2
 blk : ∀ g,kv.ownBlock=some g→X g
 xb:X b
theorem eD.keep {NT:TypeId} {X Y:Nat→Prop} {w w':World} {b o:Nat} {f:Fr} {L:List iq} {av kv:Value} (h:eD NT X w b o f L av kv) (hk:aK X w w') (D : ∀ k,k<w.heap.size→Y k→X k)
    (O : ∀ j,j<4→w'.cell? ⟨b,o+j,none⟩=w.cell? ⟨b,o+j,none⟩) (J : ∀ g,kv.ownBlock=some g→w'.heap[g]? = w.heap[g]?) (I : ∀ k,(k=b∨kv.ownBlock=some k)→Y k):eD NT Y w' b o f L av kv :=
 ⟨h.cells.kept O,h.att.keep hk D,h.own.heap J,h.is,fun y hy=>(h.nodes y hy).keep hk D,fun g A=>I g (.inr A),I b (.inl rfl)⟩
def td (p:Nat × Nat):List Value:=[.pointer (some ⟨p.1,p.2,none⟩)]
theorem m0 (p:Nat × Nat):(td p).length=1:=rfl
def dy (PT:TypeId) (B:Nat) (w:World) (ov:Value) (ps:List (Nat × Nat)):Prop :=
 (ov = .slice none 0 0∧ps=[]) ∨ ∃ g cap n,ov = .slice (some ⟨g,0,none⟩) ps.length cap∧B<g∧kN w g PT n∧vA w g 0 (ps.flatMap td)∧ps.length≤cap∧cap≤maxLen∧(cap=n∨(cap=ps.length∧ps.length≤n))
theorem dy.heap {PT:TypeId} {B:Nat} {w w':World} {ov:Value} {ps:List (Nat × Nat)} (h:dy PT B w ov ps) (A : ∀ g,ov.ownBlock=some g→w'.heap[g]? = w.heap[g]?):dy PT B w' ov ps:=by
 rcases h with h | ⟨g,cap,n,rfl,h2,h3,I,D⟩
 · exact .inl h
 · exact .inr ⟨g,cap,n,rfl,h2,h3.kept (A g rfl),I.kept (fun j _=>World.cell?_of_block (A g rfl)),D⟩
theorem dy.rowOf {PT:TypeId} {B:Nat} {w:World} {ov:Value} {ps:List (Nat × Nat)} (h:dy PT B w ov ps) {g:Nat} (A:ov.ownBlock=some g):B<g ∧ ∃ n,kN w g PT n:=by
 rcases h with ⟨rfl,-⟩ | ⟨D,cap,n,rfl,h2,h3,-⟩
 · simp [Value.ownBlock] at A
 · simp [Value.ownBlock] at A
   subst A;exact ⟨h2,n,h3⟩
theorem dy.ofOwns {PT:TypeId} {B:Nat} {w:World} {ov:Value} {ps:List (Nat × Nat)} (h:aj (B+1) PT 1 td w ov ps):dy PT B w ov ps:=by
 rcases h.2 with ⟨rfl,h0⟩ | ⟨g,cap,A,rfl,h2,h3,I,D,O,J⟩
 · exact .inl ⟨rfl,List.eq_nil_of_length_eq_zero h0⟩
 · exact .inr ⟨g,cap,cap,rfl,by omega,⟨A,h3,by omega⟩,aj.cells0 h,I,D,.inl rfl⟩
theorem dy.owns {PT:TypeId} {B:Nat} {w:World} {ov:Value} {ps:List (Nat × Nat)} (h:dy PT B w ov ps):aj (B+1) PT 1 td w ov ps ∨ ∃ g,ov = .slice (some ⟨g,0,none⟩) ps.length ps.length∧vA w g 0 (ps.flatMap td):=by
 rcases h with ⟨rfl,rfl⟩ | ⟨g,cap,n,rfl,h2,h3,A,J,I,D⟩
 · exact .inl aj.nil
 · rcases D with rfl | ⟨rfl,O⟩
   · exact .inl (aj.of_cells m0 (by omega) (by simpa using h3) J I A)
   · exact .inr ⟨g,rfl,A⟩
theorem yo (ps:List (Nat × Nat)):ps.flatMap td=ps.map fun p=>.pointer (some ⟨p.1,p.2,none⟩):=by
 induction ps with
 | nil=>rfl
 | cons p l A=>simp [td,A]
theorem dy.at {PT:TypeId} {B:Nat} {w:World} {ov:Value} {ps:List (Nat × Nat)} (h:dy PT B w ov ps) {i:Nat} {p:Nat × Nat} (A:ps[i]? = some p) : ∃ g cap,ov = .slice (some ⟨g,0,none⟩) ps.length cap∧ps.length≤cap∧cap≤maxLen∧g<w.heap.size∧w.cell? ⟨g,i,none⟩=some (.pointer (some ⟨p.1,p.2,none⟩)):=by
 rcases h with ⟨rfl,rfl⟩ | ⟨g,cap,n,rfl,h2,h3,J,I,D,O⟩
 · simp at A
 · refine ⟨g,cap,rfl,I,D,h3.lt,?_⟩
   have:=J i (.pointer (some ⟨p.1,p.2,none⟩)) (by rw [yo]; simp [A])
   simpa using this
theorem dy.pop {PT:TypeId} {B:Nat} {w:World} {ps:List (Nat × Nat)} {p:Nat × Nat} {g cap:Nat} (h:dy PT B w (.slice (some ⟨g,0,none⟩) (ps ++ [p]).length cap) (ps ++ [p])):dy PT B w (.slice (some ⟨g,0,none⟩) ps.length ps.length) ps:=by
 rcases h with ⟨h,-⟩ | ⟨U,cap,n,h1,h2,h3,J,D,O,I⟩
 · simp at h
 · simp only [Value.slice.injEq,Option.some.injEq,Addr.mk.injEq] at h1
   obtain ⟨⟨rfl,-,-⟩,-,rfl⟩:=h1;refine .inr ⟨g,_,n,rfl,h2,h3,fun j u A=>J j u ?_,Nat.le_refl _,?_,.inr ⟨rfl,?_⟩⟩
   · rw [List.flatMap_append,List.getElem?_append_left (List.getElem?_eq_some_iff.1 A).1]; exact A
   · simp at D; omega
   · simp at D I; omega
inductive cD (NT:TypeId) (B:Nat) (X:Nat→Prop) (w:World):List Fr→Option Tr→List (Nat × Nat)→Prop where
 | empty:cD NT B X w [] none []
 | root {t:Tr} (av kv:Value) (cells:vA w B 0 (kh t.name av kv t.text)) (node:bj X w t av kv):cD NT B X w [] (some t) []
 | inside {b o:Nat} {f:Fr} {fs:List Fr} {qs:List (Nat × Nat)} (L:List iq) (av kv:Value) (inn:eD NT X w b o f L av kv) (up:Up NT B X w b o fs qs):cD NT B X w (f::fs) none (qs.reverse ++ [(b,o)])
theorem cD.len {NT:TypeId} {B:Nat} {X:Nat→Prop} {w:World} {st:List Fr} {r:Option Tr} {ps:List (Nat × Nat)} (h:cD NT B X w st r ps):ps.length=st.length:=by
 cases h with
 | empty=>rfl
 | root=>rfl
 | inside L av kv inn up=>simp [up.len]
theorem cD.keep {NT:TypeId} {B:Nat} {X Y:Nat→Prop} {w w':World} {st:List Fr} {r:Option Tr} {ps:List (Nat × Nat)} (h:cD NT B X w st r ps) (hk:aK X w w') (O : ∀ k,k<w.heap.size→Y k→X k) (U : ∀ k,(k=B ∨ ∃ n,kN w k NT n)→X k→Y k)
    (hB : ∀ j,j<4→w'.cell? ⟨B,j,none⟩=w.cell? ⟨B,j,none⟩) (D : ∀ k n,k≠B→kN w k NT n→w'.heap[k]? = w.heap[k]?):cD NT B Y w' st r ps:=by
 cases h with
 | empty=>exact .empty
 | root av kv cells node=>exact .root av kv (cells.kept fun j J=>by rw [Nat.zero_add]; exact hB j J) (node.keep hk O)
 | @inside b o f fs qs L av kv inn up =>
  have aa:=up.ge;refine .inside L av kv (inn.keep hk O (fun j J=>?_) (fun g Z=>?_) (fun k hkk=>?_)) (up.keep hk O (fun k _=>U k) (fun _=>hB) (fun k n _ A I j=>World.cell?_of_block (D k n A I)) (fun j J=>?_) (fun k n _ A I=>I.kept (D k n A I)))
  · rcases up.place with ⟨rfl,rfl,-⟩ | ⟨h1,n,h2⟩
    · rw [Nat.zero_add]; exact hB j J
    · exact World.cell?_of_block (D b n (by omega) h2)
  · obtain ⟨h1,n,h2⟩:=inn.own.rowOf Z
    exact D g n (by omega) h2
  · rcases hkk with rfl | hkk
    · exact U _ (up.place.imp (fun h=>h.1) (fun h=>h.2)) inn.xb
    · exact U k (.inr (inn.own.rowOf hkk).2) (inn.blk k hkk)
  · rcases up.place with ⟨rfl,rfl,-⟩ | ⟨h1,n,h2⟩
    · omega
    · exact World.cell?_of_block (D b n (by omega) h2)
end Go.Proofs.YtominiaohfjobaaGreatDoor
namespace Go.Proofs.YtominiaohfjobaaGreatDoor
open Go Go.RowKit
structure bD (NT PT:TypeId) (lo:Nat) (w:World) (B:Nat) (st:List Fr) (r:Option Tr) (X:Nat→Prop) (ov:Value) (ps:List (Nat × Nat)) (c d t:Value):Prop where
 xB:X B
 loB:lo≤B
 xlo : ∀ k,k<lo→X k
 xlt : ∀ k,X k→lo≤k→B≤k∧k<w.heap.size
 free : ∀ k,X k→lo≤k → ∀ j,w.frozen? ⟨k,j,none⟩=false
 box : ∃ u0 u1 u2 u3,ak w B [u0,u1,u2,u3,ov,c,d,t]
 opn:dy PT B w ov ps
 xo : ∀ g,ov.ownBlock=some g→X g
 tree:cD NT B X w st r ps
variable {NT PT:TypeId} {lo:Nat} {w:World} {B:Nat} {st:List Fr} {r:Option Tr} {X:Nat→Prop} {ov:Value} {ps:List (Nat × Nat)} {c d t:Value}
theorem bD.lt (h:bD NT PT lo w B st r X ov ps c d t):B<w.heap.size:=(h.xlt B h.xB h.loB).2
theorem bD.c4 (h:bD NT PT lo w B st r X ov ps c d t):w.cell? ⟨B,4,none⟩=some ov:=by obtain ⟨_,_,_,_,A⟩:=h.box; exact A.cell 4 _ rfl
theorem bD.c5 (h:bD NT PT lo w B st r X ov ps c d t):w.cell? ⟨B,5,none⟩=some c:=by obtain ⟨_,_,_,_,A⟩:=h.box; exact A.cell 5 _ rfl
theorem bD.c6 (h:bD NT PT lo w B st r X ov ps c d t):w.cell? ⟨B,6,none⟩=some d:=by obtain ⟨_,_,_,_,A⟩:=h.box; exact A.cell 6 _ rfl
theorem bD.c7 (h:bD NT PT lo w B st r X ov ps c d t):w.cell? ⟨B,7,none⟩=some t:=by obtain ⟨_,_,_,_,A⟩:=h.box; exact A.cell 7 _ rfl
theorem bD.f (h:bD NT PT lo w B st r X ov ps c d t) (j:Nat):w.frozen? ⟨B,j,none⟩=false:=h.free B h.xB h.loB j
theorem bD.xsize (h:bD NT PT lo w B st r X ov ps c d t) : ∀ k,X k→k<w.heap.size:=fun k hk=>by
 by_cases A:lo≤k
 · exact (h.xlt k hk A).2
 · have:=h.lt; have:=h.loB; omega
theorem bD.len (h:bD NT PT lo w B st r X ov ps c d t):ps.length=st.length:=h.tree.len
theorem bD.init (w:World) (T:TypeId) (I:w.heap.size=B) (A:lo≤B) (u0 u1 u2 u3:Value):bD NT PT lo (w.alloc (.cells #[u0,u1,u2,u3,.slice none 0 0,c,d,t] T)) B [] none (fun k=>k=B∨k<lo) (.slice none 0 0) [] c d t:=by
 have D:=ak.new w [u0,u1,u2,u3,.slice none 0 0,c,d,t] T B I
 exact ⟨.inl rfl,A,fun k hk=>.inr hk,fun k hk A=>by
  rcases hk with rfl | hk
  · exact ⟨Nat.le_refl _,D.lt⟩
  · omega,fun k hk A j=>by
  rcases hk with rfl | hk
  · exact D.free j
  · omega,⟨u0,u1,u2,u3,D⟩,.inl ⟨rfl,rfl⟩,by simp [Value.ownBlock],.empty⟩
theorem bD.below (h:bD NT PT lo w B st r X ov ps c d t) {w':World} (A:Below w.heap.size w w'):bD NT PT lo w' B st r X ov ps c d t:=by
 have hlt : ∀ k,X k→k<w.heap.size:=h.xsize
 refine ⟨h.xB,h.loB,h.xlo,fun k hk D=>⟨(h.xlt k hk D).1,Nat.lt_of_lt_of_le (hlt k hk) A.size⟩,fun k hk D j=>(A.frozen (p:=⟨k,j,none⟩) (hlt k hk)).trans (h.free k hk D j),?_,h.opn.heap fun g J=>A.block g (hlt g (h.xo g J)),h.xo,
  h.tree.keep (aK.below A) (fun _ _ h=>h) (fun _ _ h=>h) (fun j _=>A.cell (p:=⟨B,j,none⟩) h.lt) (fun k n _ I=>A.block k I.lt)⟩
 obtain ⟨u0,u1,u2,u3,hx⟩:=h.box;exact ⟨u0,u1,u2,u3,hx.below A hx.lt⟩
theorem bD.drewN (h:bD NT PT lo w B st r X ov ps c d t) (n:Nat):bD NT PT lo (w.drewN n) B st r X ov ps c d t:=h.below (aY (Below.refl _ _) n)
theorem cK (w:World) (b j:Nat) (v:Value) {k:Nat} (hk:k≠b):(w.setCell ⟨b,j,none⟩ v).heap[k]? = w.heap[k]?:=heap_setCell_other w ⟨b,j,none⟩ k v hk
theorem cW (w:World) (b j:Nat) (v:Value) {k i:Nat} (hk:k≠b∨i≠j):(w.setCell ⟨b,j,none⟩ v).cell? ⟨k,i,none⟩=w.cell? ⟨k,i,none⟩ :=
 World.cell?_setCell_other w _ _ _ (by intro e; simp only [Addr.mk.injEq] at e; rcases hk with h | h <;> omega)
theorem kY (w:World) (b j:Nat) (v:Value) {u:Value} (h:w.cell? ⟨b,j,none⟩=some u):(w.setCell ⟨b,j,none⟩ v).cell? ⟨b,j,none⟩=some v:=World.cell?_setCell_same w _ _ h
theorem aZ (w:World) (b j:Nat) (v:Value) (D:X b):aK X w (w.setCell ⟨b,j,none⟩ v):=aK.grown (ab w b j v) (fun g A=>by cases A; exact D)
theorem bD.setTree (h:bD NT PT lo w B st r X ov ps c d t) {j:Nat} (A:4≤j) (v:Value):cD NT B X (w.setCell ⟨B,j,none⟩ v) st r ps :=
 h.tree.keep (aZ w B j v h.xB) (fun _ _ h=>h) (fun _ _ h=>h) (fun i D=>cW w B j v (.inr (by omega))) (fun k n hk _=>cK w B j v hk)
theorem bD.setRest (h:bD NT PT lo w B st r X ov ps c d t) {j:Nat} (Z:5≤j) (v:Value) {J I D:Value} (U : ∀ u0 u1 u2 u3,[u0,u1,u2,u3,ov,c,d,t].set j v=[u0,u1,u2,u3,ov,J,I,D]):bD NT PT lo (w.setCell ⟨B,j,none⟩ v) B st r X ov ps J I D:=by
 refine ⟨h.xB,h.loB,h.xlo,fun k hk A=>⟨(h.xlt k hk A).1,by simpa [World.setCell] using (h.xlt k hk A).2⟩,fun k hk A i=>by rw [World.frozen?_setCell]; exact h.free k hk A i,?_,h.opn.heap fun g O=>cK w B j v (by have:=(h.opn.rowOf O).1; omega),h.xo,h.setTree (by omega) v⟩
 obtain ⟨u0,u1,u2,u3,hx⟩:=h.box;exact ⟨u0,u1,u2,u3,by rw [← U]; exact hx.set j v⟩
theorem bD.set5 (h:bD NT PT lo w B st r X ov ps c d t) (v:Value):bD NT PT lo (w.setCell ⟨B,5,none⟩ v) B st r X ov ps v d t:=h.setRest (by omega) v (fun _ _ _ _=>rfl)
theorem bD.set6 (h:bD NT PT lo w B st r X ov ps c d t) (v:Value):bD NT PT lo (w.setCell ⟨B,6,none⟩ v) B st r X ov ps c v t:=h.setRest (by omega) v (fun _ _ _ _=>rfl)
theorem bD.set7 (h:bD NT PT lo w B st r X ov ps c d t) (v:Value):bD NT PT lo (w.setCell ⟨B,7,none⟩ v) B st r X ov ps c d v:=h.setRest (by omega) v (fun _ _ _ _=>rfl)
def jh (X:Nat→Prop) (v A:Value) (k:Nat):Prop:=(X k∧v.ownBlock≠some k)∨A.ownBlock=some k
theorem jh.old {v A:Value} (I : ∀ g,v.ownBlock=some g→X g) (D:A.ownBlock=v.ownBlock ∨ ∀ k,A.ownBlock=some k→w.heap.size≤k) {k:Nat} (hk:k<w.heap.size) (h:jh X v A k):X k:=by
 rcases h with h | h
 · exact h.1
 · rcases D with e | e
   · exact I k (e.symm.trans h)
   · have:=e k h; omega
theorem jh.free {v A:Value} {w1:World} {E:TypeId} (O : ∀ k,X k→k<w.heap.size) (hf : ∀ k,X k→lo≤k → ∀ j,w.frozen? ⟨k,j,none⟩=false) (J:w.grownBy w1 v.ownBlock) (D : ∀ k,A.ownBlock=some k → ∃ m,kN w1 k E m) {k:Nat} (h:jh X v A k) (I:lo≤k) (j:Nat):w1.frozen? ⟨k,j,none⟩=false:=by
 rcases h with h | h
 · exact (World.frozen?_of_block (by exact J.block k (O k h.1) (fun e=>h.2 e.symm))).trans (hf k h.1 I j)
 · obtain ⟨m,h3⟩:=D k h
   exact h3.free j
theorem bD.kid {f:Fr} {fs:List Fr} {b o:Nat} {L:List iq} {av kv:Value} {qs:List (Nat × Nat)} (a0:NT≠PT) (h:bD NT PT lo w B (f::fs) none X ov (qs.reverse ++ [(b,o)]) c d t) (inn:eD NT X w b o f L av kv) (up:Up NT B X w b o fs qs)
    {w1:World} {A:Value} {y:iq} (hy:bj X w y.1 y.2.1 y.2.2) (O:aj (b+1) NT 4 fu w1 A (L ++ [y])) (J:w.grownBy w1 kv.ownBlock) (hv:A.ownBlock=kv.ownBlock ∨ ∀ k,A.ownBlock=some k→w.heap.size≤k) :
    eD NT (jh X kv A) (w1.setCell ⟨b,o+2,none⟩ A) b o (f.add y.1) (L ++ [y]) av A∧Up NT B (jh X kv A) (w1.setCell ⟨b,o+2,none⟩ A) b o fs qs ∧
     bD NT PT lo (w1.setCell ⟨b,o+2,none⟩ A) B (f.add y.1::fs) none (jh X kv A) ov (qs.reverse ++ [(b,o)]) c d t:=by
 have al:=up.ge;have hlt : ∀ k,X k→k<w.heap.size:=h.xsize;have b0:=hlt b inn.xb;have ba : ∀ g,kv.ownBlock=some g→b<g:=fun g J=>(inn.own.rowOf J).1;have ad : ∀ k,k≤b→some k≠kv.ownBlock:=fun k hk e=>by have:=ba k e.symm; omega
 have Z : ∀ k,k≤b→w1.heap[k]? = w.heap[k]?:=fun k hk=>J.block k (by omega) (ad k hk);have bb:aK X w w1:=aK.grown J inn.blk;have aa:aK X w (w1.setCell ⟨b,o+2,none⟩ A):=bb.trans (aZ w1 b (o+2) A inn.xb);have hY : ∀ k,k<w.heap.size→jh X kv A k→X k:=fun k hk hx=>jh.old inn.blk hv hk hx;have D : ∀ k,k≤b→X k→jh X kv A k:=fun k hk hx=>.inl ⟨hx,fun e=>ad k hk e.symm⟩
 have I : ∀ k i,k≤b→(k≠b∨i≠o+2)→(w1.setCell ⟨b,o+2,none⟩ A).cell? ⟨k,i,none⟩=w.cell? ⟨k,i,none⟩:=fun k i hk hi =>
  (cW w1 b (o+2) A hi).trans (World.cell?_of_block (Z k hk))
 have ah:eD NT (jh X kv A) (w1.setCell ⟨b,o+2,none⟩ A) b o (f.add y.1) (L ++ [y]) av A:=by
  refine ⟨fun j u hu=>?_,inn.att.keep aa hY,O.keptR (ab _ _ _ _) (by omega),by simp [inn.is,Fr.add],fun z hz=>?_,fun g bc=>.inr bc,D b (Nat.le_refl _) inn.xb⟩
  · by_cases hj:j=2
    · subst hj
      simp [kh] at hu
      subst hu;exact kY w1 b (o+2) A ((World.cell?_of_block (Z b (Nat.le_refl _))).trans (inn.cells 2 _ rfl))
    · rw [I b (o+j) (Nat.le_refl _) (.inr (by omega))]
      refine inn.cells j u ?_
      rw [← hu];unfold kh;match j,hj with
      | 0,_=>rfl
      | 1,_=>rfl
      | 3,_=>rfl
      | j+4,_=>rfl
  · rcases List.mem_append.1 hz with hz | hz
    · exact (inn.nodes z hz).keep aa hY
    · obtain rfl:=List.mem_singleton.1 hz
      exact hy.keep aa hY
 have a6:Up NT B (jh X kv A) (w1.setCell ⟨b,o+2,none⟩ A) b o fs qs:=by
  refine up.keep aa hY (fun k U _ hx=>D k (by omega) hx) (fun b2 j _=>I B j al (.inl (by omega))) (fun k n U _ _ j=>I k j (by omega) (.inl (by omega))) (fun j hj=>I b j (Nat.le_refl _) (.inr (by omega))) (fun k n U _ hr=>(hr.kept (Z k U)).setCell _ _ _)
 have a9 : ∀ g,ov.ownBlock=some g→(w1.setCell ⟨b,o+2,none⟩ A).heap[g]? = w.heap[g]?:=by
  intro g ac;obtain ⟨h1,n,h2⟩:=h.opn.rowOf ac
  have bg:g≠b:=by
   rintro rfl;rcases up.place with ⟨rfl,-⟩ | ⟨-,m,h3⟩
   · omega
   · exact a0 (h3.type h2)
  rw [cK _ _ _ _ bg];refine J.block g h2.lt (fun e=>?_)
  obtain ⟨-,m,h3⟩:=inn.own.rowOf e.symm;exact a0 (h3.type h2)
 refine ⟨ah,a6,D B al h.xB,h.loB,fun k hk=>D k (by have:=h.loB; omega) (h.xlo k hk),fun k hk hl=>?_,fun k hk hl j=>?_,?_,h.opn.heap a9,fun g ac=>.inl ⟨h.xo g ac,fun e=>?_⟩,.inside _ _ _ ah a6⟩
 · rcases hk with hk | hk
   · exact ⟨(h.xlt k hk.1 hl).1,by rw [World.size_setCell]; exact Nat.lt_of_lt_of_le (hlt k hk.1) J.size⟩
   · have:=O.lt k hk
     exact ⟨by omega,by rw [World.size_setCell]; exact this.2⟩
 · rw [World.frozen?_setCell]
   exact jh.free (E:=NT) hlt (fun k hk hl=>h.free k hk hl) J (fun k hk=>(O.rowOf hk).2) hk hl j
 · obtain ⟨u0,u1,u2,u3,hx⟩:=h.box
   have a5:ak w1 B [u0,u1,u2,u3,ov,c,d,t]:=hx.grown J (ad B al);rcases up.place with ⟨rfl,rfl,-⟩ | ⟨h1,-⟩
   · exact ⟨u0,u1,A,u3,a5.set 2 A⟩
   · exact ⟨u0,u1,u2,u3,a5.grownB (ab _ _ _ _) (by omega)⟩
 · obtain ⟨-,n,h2⟩:=h.opn.rowOf ac
   obtain ⟨-,m,h3⟩:=inn.own.rowOf e;exact a0 (h3.type h2)
theorem bD.point (ah:NT≠PT) {ac:List Fr} {r':Option Tr} {p:Nat × Nat} (h:bD NT PT lo w B st r X ov ps c d t) (ht:cD NT B X w ac r' (ps ++ [p])) {w1:World} {A:Value} (D:aj (B+1) PT 1 td w1 A (ps ++ [p])) (O:w.grownBy w1 ov.ownBlock)
    (hv:A.ownBlock=ov.ownBlock ∨ ∀ k,A.ownBlock=some k→w.heap.size≤k):bD NT PT lo (w1.setCell ⟨B,4,none⟩ A) B ac r' (jh X ov A) A (ps ++ [p]) c d t:=by
 have hlt : ∀ k,X k→k<w.heap.size:=h.xsize;have I:some B≠ov.ownBlock:=fun e=>by have:=(h.opn.rowOf e.symm).1; omega
 have ag:aK X w w1:=aK.grown O h.xo;have ad:aK X w (w1.setCell ⟨B,4,none⟩ A):=ag.trans (aZ w1 B 4 A h.xB);have hY : ∀ k,k<w.heap.size→jh X ov A k→X k:=fun k hk hx=>jh.old h.xo hv hk hx
 have U : ∀ k n,kN w k NT n→ov.ownBlock≠some k:=by
  intro k n J e;obtain ⟨-,m,h3⟩:=h.opn.rowOf e;exact ah (J.type h3)
 have al:w1.heap[B]? = w.heap[B]?:=O.block B h.lt I
 refine ⟨.inl ⟨h.xB,fun e=>I e.symm⟩,h.loB,fun k hk=>.inl ⟨h.xlo k hk,fun e=>by have:=(h.opn.rowOf e).1; have:=h.loB; omega⟩,fun k hk Z=>?_,fun k hk Z j=>?_,?_,(dy.ofOwns D).heap fun g aa=>cK w1 B 4 A (by have:=(D.rowOf aa).1; omega),fun g aa=>.inr aa,
  ht.keep ad hY (fun k hk hx=>.inl ⟨hx,fun e=>?_⟩) (fun i hi=>(cW w1 B 4 A (.inr (by omega))).trans (World.cell?_of_block al)) (fun k n hk J=>(cK w1 B 4 A hk).trans (O.block k J.lt (fun e=>U k n J e.symm)))⟩
 · rcases hk with hk | hk
   · exact ⟨(h.xlt k hk.1 Z).1,by rw [World.size_setCell]; exact Nat.lt_of_lt_of_le (hlt k hk.1) O.size⟩
   · have:=D.lt k hk
     exact ⟨by omega,by rw [World.size_setCell]; exact this.2⟩
 · rw [World.frozen?_setCell]
   exact jh.free (E:=PT) hlt (fun k hk Z=>h.free k hk Z) O (fun k hk=>(D.rowOf hk).2) hk Z j
 · obtain ⟨u0,u1,u2,u3,hx⟩:=h.box
   exact ⟨u0,u1,u2,u3,(hx.grown O I).set 4 A⟩
 · rcases hk with rfl | ⟨n,J⟩
   · exact I e.symm
   · exact U k n J e
theorem wB {n:Bs} {av kv:Value} {x:Bs} {j:Nat} {u:Value} (h:(kh n av kv x)[j]? = some u):j<4:=(List.getElem?_eq_some_iff.1 h).1
theorem nb (L:List iq) (y:iq) {j:Nat} {u:Value} (h:(fu y)[j]? = some u):((L ++ [y]).flatMap fu)[L.length*4+j]? = some u:=by
 rw [dC bY (L ++ [y]) L.length j y (by simp) (by have:=(List.getElem?_eq_some_iff.1 h).1; simpa [bY] using this)]; exact h
theorem cD.push {f:Fr} {fs:List Fr} {b o g cap:Nat} {L:List iq} {av I:Value} {qs:List (Nat × Nat)} {n:Bs} {ats:List eE} (inn:eD NT X w b o (f.add (.mk n ats [] [])) (L ++ [((.mk n ats [] []:Tr),I,.slice none 0 0)]) av (.slice (some ⟨g,0,none⟩) (L.length+1) cap)) (up:Up NT B X w b o fs qs)
    (hy:bJ 2 gJ X w I ats):cD NT B X w (⟨n,ats,[]⟩::f::fs) none (qs.reverse ++ [(b,o)] ++ [(g,L.length*4)]):=by
 obtain ⟨-,U,J,-,hcap,hm⟩:=inn.own.row;have A:=inn.own.cells0
 have his:L.map (·.1)=f.kids:=by
  have:=inn.is
  simp only [List.map_append,List.map_cons,List.map_nil,Fr.add] at this;exact (List.append_inj' this rfl).1
 have O:eD NT X w g (L.length*4) ⟨n,ats,[]⟩ [] I (.slice none 0 0):=by
  refine ⟨fun j u D=>?_,hy,aj.nil,rfl,by simp,by simp [Value.ownBlock],inn.blk g rfl⟩
  have:=A (L.length*4+j) u (nb L _ (by simpa [fu,Tr.name,Tr.text] using D))
  rwa [Nat.zero_add] at this
 have D:Up NT B X w g (L.length*4) (f::fs) ((b,o)::qs):=by
  refine .step L av cap (by omega) rfl his (by simpa using hcap) hm J inn.cells (fun j u D=>A j u ?_) inn.att (fun y hy=>inn.nodes y (by simp [hy])) inn.xb up
  rw [List.flatMap_append,List.getElem?_append_left (List.getElem?_eq_some_iff.1 D).1]; exact D
 have:=cD.inside _ _ _ O D
 simpa using this
theorem bD.rootCells (h:bD NT PT lo w B [] none X ov ps c d t) {n:Bs} {ats:List eE} {av:Value} (hy:bJ 2 gJ X w av ats) :
    bD NT PT lo ((((w.setCell ⟨B,0,none⟩ (.string (bs n))).setCell ⟨B,1,none⟩ av).setCell ⟨B,2,none⟩ (.slice none 0 0)).setCell ⟨B,3,none⟩ (.string (bs []))) B [] none X ov ps c d t ∧
     cD NT B X ((((w.setCell ⟨B,0,none⟩ (.string (bs n))).setCell ⟨B,1,none⟩ av).setCell ⟨B,2,none⟩ (.slice none 0 0)).setCell ⟨B,3,none⟩ (.string (bs []))) [⟨n,ats,[]⟩] none (ps ++ [(B,0)]):=by
 have U:w.grownBy ((((w.setCell ⟨B,0,none⟩ (.string (bs n))).setCell ⟨B,1,none⟩ av).setCell ⟨B,2,none⟩ (.slice none 0 0)).setCell ⟨B,3,none⟩ (.string (bs []))) (some B):=(((ab _ _ _ _).trans (ab _ _ _ _)).trans (ab _ _ _ _)).trans (ab _ _ _ _);have hk:aK X w ((((w.setCell ⟨B,0,none⟩ (.string (bs n))).setCell ⟨B,1,none⟩ av).setCell ⟨B,2,none⟩ (.slice none 0 0)).setCell ⟨B,3,none⟩ (.string (bs []))):=aK.grown U (fun g e=>by cases e; exact h.xB);obtain ⟨u0,u1,u2,u3,hx⟩:=h.box;have I:=(((hx.set 0 (.string (bs n))).set 1 av).set 2 (.slice none 0 0)).set 3 (.string (bs []));have hp:ps=[]:=List.eq_nil_of_length_eq_zero h.len;subst hp;refine ⟨⟨h.xB,h.loB,h.xlo,fun k A D=>⟨(h.xlt k A D).1,by simpa [World.setCell] using (h.xlt k A D).2⟩,fun k A D i=>by simp only [World.frozen?_setCell]; exact h.free k A D i,⟨_,_,_,_,I⟩,h.opn.heap fun g J=>U.block g ?_ (fun e=>?_),h.xo,.empty⟩,?_⟩
 · obtain ⟨-,m,h3⟩:=h.opn.rowOf J
   exact h3.lt
 · have:=(h.opn.rowOf J).1
   cases e; omega
 · refine cD.inside (qs:=[]) [] av (.slice none 0 0) ⟨fun j u O=>?_,hy.keep hk (fun _ _ h=>h),aj.nil,rfl,by simp,by simp [Value.ownBlock],h.xB⟩ .root
   have Z:=wB O;rw [Nat.zero_add];refine I.cell j u ?_
   rw [← O];match j,Z with
   | 0,_=>rfl
   | 1,_=>rfl
   | 2,_=>rfl
   | 3,_=>rfl
theorem cD.pop {f:Fr} {fs:List Fr} {b o:Nat} {L:List iq} {av kv:Value} {qs:List (Nat × Nat)} (inn:eD NT X w b o f L av kv) (up:Up NT B X w b o fs qs) (n:Nat) :
    cD NT B (fun k=>X k∧kv.ownBlock≠some k) w (cp f fs none n).stack (cp f fs none n).root qs.reverse:=by
 have D:bj (fun k=>X k∧kv.ownBlock≠some k) w f.tree av kv :=
  .of L inn.is (inn.att.keep (aK.refl X w) (fun _ _ h=>h.1)) (inn.own.toX bY (fun g hg h=>h.2 hg)) (fun y hy=>(inn.nodes y hy).keep (aK.refl X w) (fun _ _ h=>h.1))
 have J : ∀ k,k≤b→kv.ownBlock≠some k:=fun k hk e=>by have:=(inn.own.rowOf e).1; omega
 cases up with
 | root=>exact .root av kv (by have:=inn.cells; exact this) D
 | @step b o b' o' g fs ps A aa cap lt ho his hcap hm row cells kids att nodes xb up =>
  subst ho
  have Z:vA w b 0 ((A ++ [(f.tree,av,kv)]).flatMap fu):=by
   intro j u I;rw [List.flatMap_append] at I;by_cases hj:j<A.length*4
   · rw [List.getElem?_append_left (by rw [bG bY]; exact hj)] at I
     exact kids j u I
   · rw [List.getElem?_append_right (by rw [bG bY]; omega),bG bY] at I
     have U:(fu (f.tree,av,kv))[j - A.length*4]? = some u:=by simpa using I
     have:=inn.cells _ u U
     rwa [show A.length*4+(j - A.length*4)=0+j by omega] at this
  have O:eD NT (fun k=>X k∧kv.ownBlock≠some k) w b' o' (g.add f.tree) (A ++ [(f.tree,av,kv)]) aa (.slice (some ⟨b,0,none⟩) (A.length+1) cap):=by
   refine ⟨cells,att.keep (aK.refl X w) (fun _ _ h=>h.1),?_,by simp [his,Fr.add],fun y hy=>?_,fun k hk=>?_,⟨xb,J b' (by omega)⟩⟩
   · have:=aj.of_cells (base:=b'+1) (l:=A ++ [(f.tree,av,kv)]) bY (by omega) row (by simpa using hcap) hm Z
     simpa using this
   · rcases List.mem_append.1 hy with hy | hy
     · exact (nodes y hy).keep (aK.refl X w) (fun _ _ h=>h.1)
     · obtain rfl:=List.mem_singleton.1 hy
       exact D
   · simp [Value.ownBlock] at hk
     subst hk;exact ⟨inn.xb,J _ (Nat.le_refl _)⟩
  have:=cD.inside _ _ _ O (up.keep (Y:=fun k=>X k∧kv.ownBlock≠some k) (aK.refl X w) (fun _ _ h=>h.1) (fun k hk _ hx=>⟨hx,J k (by omega)⟩) (fun _ _ _=>rfl) (fun _ _ _ _ _ _=>rfl) (fun _ _=>rfl) (fun _ _ _ _ h=>h))
  simpa [cp] using this
theorem bD.pop (J:NT≠PT) {f:Fr} {fs:List Fr} {b o g cap:Nat} {L:List iq} {av kv:Value} {qs:List (Nat × Nat)} (h:bD NT PT lo w B (f::fs) none X (.slice (some ⟨g,0,none⟩) (qs.length+1) cap) (qs.reverse ++ [(b,o)]) c d t) (inn:eD NT X w b o f L av kv) (up:Up NT B X w b o fs qs) (n:Nat) :
    bD NT PT lo (w.setCell ⟨B,4,none⟩ (.slice (some ⟨g,0,none⟩) qs.length qs.length)) B (cp f fs none n).stack (cp f fs none n).root (fun k=>X k∧kv.ownBlock≠some k) (.slice (some ⟨g,0,none⟩) qs.length qs.length) qs.reverse c d t:=by
 have D:kv.ownBlock≠some B:=fun e=>by have:=(inn.own.rowOf e).1; have:=up.ge; omega
 have I:dy PT B w (.slice (some ⟨g,0,none⟩) qs.length qs.length) qs.reverse:=by
  have:=dy.pop (ps:=qs.reverse) (p:=(b,o)) (g:=g) (cap:=cap) (by simpa using h.opn)
  simpa using this
 have U:g≠B:=by have:=(h.opn.rowOf (g:=g) rfl).1; omega
 have hk:aK (fun k=>X k∧kv.ownBlock≠some k) w (w.setCell ⟨B,4,none⟩ (.slice (some ⟨g,0,none⟩) qs.length qs.length)):=aZ w B 4 _ ⟨h.xB,D⟩
 refine ⟨⟨h.xB,D⟩,h.loB,fun k hk=>⟨h.xlo k hk,fun e=>by have:=(inn.own.rowOf e).1; have:=up.ge; have:=h.loB; omega⟩,fun k hk A=>⟨(h.xlt k hk.1 A).1,by simpa [World.setCell] using (h.xlt k hk.1 A).2⟩,fun k hk A i=>by rw [World.frozen?_setCell]; exact h.free k hk.1 A i,?_,I.heap fun k hk=>cK _ _ _ _ (by simp [Value.ownBlock] at hk; omega),fun k hk=>?_,
  (cD.pop inn up n).keep hk (fun _ _ h=>h) (fun _ _ h=>h) (fun i hi=>cW w B 4 _ (.inr (by omega))) (fun k n hk _=>cK w B 4 _ hk)⟩
 · obtain ⟨u0,u1,u2,u3,hx⟩:=h.box
   exact ⟨u0,u1,u2,u3,hx.set 4 _⟩
 · refine ⟨h.xo k hk,fun e=>?_⟩
   simp [Value.ownBlock] at hk
   subst hk;obtain ⟨-,m,h3⟩:=inn.own.rowOf e;obtain ⟨-,Z,O⟩:=h.opn.rowOf (g:=g) rfl;exact J (h3.type O)
theorem iO (s:Bs) (l:List Tr) (n:Bs) (a:List eE) (k:List Tr) (x:Bs):lL s (l ++ [.mk n a k x])=l ++ [.mk n a k (x ++ s)]:=by
 induction l with
 | nil=>rfl
 | cons t l A =>
  cases l with
  | nil=>simp [lL]
  | cons u l=>simp only [List.cons_append,lL] at A ⊢; rw [A]
theorem bD.more (a9:NT≠PT) {f:Fr} {fs:List Fr} {b o g cap:Nat} {L:List iq} {av D A:Value} {qs:List (Nat × Nat)} {n x s:Bs} {a:List eE} {k:List Tr} (h:bD NT PT lo w B (f::fs) none X ov (qs.reverse ++ [(b,o)]) c d t)
    (inn:eD NT X w b o f (L ++ [((.mk n a k x:Tr),D,A)]) av (.slice (some ⟨g,0,none⟩) (L.length+1) cap)) (up:Up NT B X w b o fs qs) :
    bD NT PT lo (w.setCell ⟨g,L.length*4+3,none⟩ (.string (bs (x ++ s)))) B (f.more s::fs) none X ov (qs.reverse ++ [(b,o)]) c d t:=by
 obtain ⟨-,a7,O,-,hcap,hm⟩:=inn.own.row;have bc:=up.ge;have a8:X g:=inn.blk g rfl;have hk:aK X w (w.setCell ⟨g,L.length*4+3,none⟩ (.string (bs (x ++ s)))):=aZ w g _ _ a8;have I:=inn.own.cells0
 have aa:w.cell? ⟨g,L.length*4+3,none⟩=some (.string (bs x)):=by
  have:=I (L.length*4+3) _ (nb L _ (j:=3) rfl)
  rwa [Nat.zero_add] at this
 have U:=O.setCell g (L.length*4+3) (.string (bs (x ++ s)))
 have a6:vA (w.setCell ⟨g,L.length*4+3,none⟩ (.string (bs (x ++ s)))) g 0 ((L ++ [((.mk n a k (x ++ s):Tr),D,A)]).flatMap fu):=by
  intro j u J;rw [Nat.zero_add];by_cases hj:j=L.length*4+3
  · subst hj
    rw [nb L _ (j:=3) rfl] at J;cases J
    exact kY w g _ _ aa
  · rw [cW w g _ _ (.inr hj)]
    have a0:((L ++ [((.mk n a k x:Tr),D,A)]).flatMap fu)[j]? = some u:=by
     rw [List.flatMap_append] at J ⊢;by_cases a5:j<L.length*4
     · rw [List.getElem?_append_left (by rw [bG bY]; exact a5)] at J ⊢
       exact J
     · rw [List.getElem?_append_right (by rw [bG bY]; omega),bG bY] at J ⊢
       rw [← J];obtain ⟨i,rfl⟩ : ∃ i,j=L.length*4+i:=⟨j - L.length*4,by omega⟩;rw [show L.length*4+i - L.length*4=i by omega];match i,hj with
       | 0,_=>rfl
       | 1,_=>rfl
       | 2,_=>rfl
       | i+4,_=>rfl
    have:=I j u a0
    rwa [Nat.zero_add] at this
 have Z : ∀ y ∈ L ++ [((.mk n a k (x ++ s):Tr),D,A)],bj X (w.setCell ⟨g,L.length*4+3,none⟩ (.string (bs (x ++ s)))) y.1 y.2.1 y.2.2:=by
  intro y hy;rcases List.mem_append.1 hy with hy | hy
  · exact (inn.nodes y (by simp [hy])).keep hk (fun _ _ h=>h)
  · obtain rfl:=List.mem_singleton.1 hy
    obtain ⟨M,h1,h2,h3,h4⟩:=((inn.nodes _ (by simp:((.mk n a k x:Tr),D,A) ∈ L ++ [((.mk n a k x:Tr),D,A)])).keep (Y:=X) hk (fun _ _ h=>h)).parts;exact .of M h1 h2 h3 h4
 have ag:eD NT X (w.setCell ⟨g,L.length*4+3,none⟩ (.string (bs (x ++ s)))) b o (f.more s) (L ++ [((.mk n a k (x ++ s):Tr),D,A)]) av (.slice (some ⟨g,0,none⟩) (L.length+1) cap):=by
  refine ⟨inn.cells.kept (fun j _=>cW w g _ _ (.inl (by omega))),inn.att.keep hk (fun _ _ h=>h),?_,?_,Z,inn.blk,inn.xb⟩
  · have:=aj.of_cells (base:=b+1) (l:=L ++ [((.mk n a k (x ++ s):Tr),D,A)]) bY a7 U (by simpa using hcap) hm a6
    simpa using this
  · have h1:=inn.is
    simp only [List.map_append,List.map_cons,List.map_nil] at h1;simp only [List.map_append,List.map_cons,List.map_nil,Fr.more,← h1];exact (iO s _ n a k x).symm
 have al:Up NT B X (w.setCell ⟨g,L.length*4+3,none⟩ (.string (bs (x ++ s)))) b o fs qs :=
  up.keep hk (fun _ _ h=>h) (fun _ _ _ h=>h) (fun _ _ _=>cW w g _ _ (.inl (by omega))) (fun k n bb _ _ j=>cW w g _ _ (.inl (by omega))) (fun j _=>cW w g _ _ (.inl (by omega))) (fun k n _ _ hr=>hr.setCell _ _ _)
 refine ⟨h.xB,h.loB,h.xlo,fun k hk hl=>⟨(h.xlt k hk hl).1,by simpa [World.setCell] using (h.xlt k hk hl).2⟩,fun k hk hl i=>by rw [World.frozen?_setCell]; exact h.free k hk hl i,?_,h.opn.heap fun k a4=>cK _ _ _ _ (fun e=>?_),h.xo,.inside _ _ _ ag al⟩
 · obtain ⟨u0,u1,u2,u3,hx⟩:=h.box
   exact ⟨u0,u1,u2,u3,hx.grownB (ab _ _ _ _) (by omega)⟩
 · subst e
   obtain ⟨-,m',h4⟩:=h.opn.rowOf a4;exact a9 (O.type h4)
end Go.Proofs.YtominiaohfjobaaGreatDoor
namespace Go.Proofs.YtominiaohfjobaaGreatDoor
open Go Go.RowKit
def ik (m:Bs):Bs:=(m.reverse.dropWhile cBlank).reverse
theorem xI (l:Bs):gW l=ik (l.dropWhile cBlank):=rfl
theorem wX (p:UInt8→Bool) (l:Bs):l.drop (aI p l)=l.dropWhile p:=by
 induction l with
 | nil=>rfl
 | cons c l A =>
  simp only [aI,List.dropWhile];cases p c with
  | false=>simp
  | true=>simpa using A
theorem ki (m:Bs) (c:UInt8):ik (m ++ [c])=if cBlank c then ik m else m ++ [c]:=by
 unfold ik;rw [List.reverse_append,List.reverse_singleton,List.singleton_append,List.dropWhile_cons];cases cBlank c <;> simp
theorem oV (s:S) (w:World) (J:s.size≤9223372036854775807) :
    Calls Tryz.prog 195 #[.string s,.func (.func 188) #[] #[]] w fun e w'=>e = .returned (.int .i64 (aI cBlank s.data.toList))∧w=w':=by
 have D:=fc (cBlank) s.data.toList;rw [au] at D;go_enter Tryz.func195,Tryz.ntmps195
 go_wp2
 go_loop [5] (fun i=>∃ k:Nat,k≤s.size∧i = .int .i64 k∧Hid (aI cBlank s.data.toList=k+aI cBlank (s.data.toList.drop k))) (fun i=>s.size - (intOf i).toNat)
 case atStart=>exact ⟨0,Nat.zero_le _,rfl,by show _=_; simp⟩
 case round =>
  obtain ⟨k,hk,rfl,H⟩:=hrel;by_cases hlt:k<s.size
  · have I:=zH (bW s k hlt)
    cases hp:cBlank s[k]
    all_goals
     have A:=zH hp;clear hp;go_wp2_with (go_at_call 188; refine (fj _ _).mono ?_; rintro e w' ⟨rfl,rfl⟩; rw [A.out])
    · go_ret
      exact ⟨dK (by rw [H.out,I.out]; simp [aI,A.out]),rfl⟩
    · go_round
      case rel=>exact ⟨k+1,by omega,by go_num,by show _=_; rw [H.out,I.out]; simp only [aI,A.out,if_true]; omega⟩
      case measure=>simp [intOf]; omega
  · go_wp2
    go_ret
    exact ⟨dK (by rw [H.out,List.drop_of_length_le (by rw [au]; omega)]; simp [aI]),rfl⟩
theorem lG (s:S) (a b:Nat):(s.extract a b).data.toList=(s.data.toList.drop a).take (b - a):=by
 simp [ByteArray.data_extract,Array.toList_extract,List.extract_eq_take_drop]
theorem vK (s:S) (k:Nat) (h:s.size=k+1):s.data.toList=s.data.toList.take k ++ [s[k]'(by rw [h]; exact Nat.lt_succ_self k)]:=by
 have h0:s.data.toList.drop (k+1)=[]:=List.drop_of_length_le (by rw [au]; omega);have h1:s.data.toList.drop k=s[k]::s.data.toList.drop (k+1):=bW s k (by rw [h]; exact Nat.lt_succ_self k);rw [h0] at h1;rw [← h1,List.take_append_drop]
def mX (v:Value):Nat:=match v with | .string s=>s.size | _=>0
theorem rK (s:S) (w:World) (hs:s.size≤1000000000) :
    Calls Tryz.prog 158 #[.string s] w fun e w'=>∃ x:S,e = .returned (.string x)∧x.data.toList=gW s.data.toList∧w=w':=by
 have I:=fc cBlank s.data.toList;rw [au] at I
 have Z:Hid (gW s.data.toList=ik ((s.extract (aI cBlank s.data.toList) s.size).data.toList)):=by
  show _=_
  rw [lG,xI,← wX,List.take_of_length_le (by simp)]
 have U:=zH (oV s);generalize aI cBlank s.data.toList=n at *;go_enter Tryz.func158,Tryz.ntmps158
 go_wp2_with (go_at_call 195; refine (U.out _ (by omega)).mono ?_; rintro e w' ⟨rfl,rfl⟩)
 go_loop [0] (fun v=>∃ x:S,v = .string x∧x.size≤s.size∧Hid (gW s.data.toList=ik x.data.toList)) (fun v=>mX v)
 case atStart=>exact ⟨_,rfl,by simp,Z⟩
 case round =>
  obtain ⟨x,rfl,hx,A⟩:=hrel;by_cases h0:x.size=0
  · have he:x.toList.isEmpty=true:=by rw [bH]; simpa using h0
    have J:x.data.toList=[]:=List.eq_nil_of_length_eq_zero (by rw [au]; exact h0);have HD:=zH J;clear J;go_wp2
    go_ret
    exact ⟨x,rfl,by rw [A.out,HD.out]; rfl,rfl⟩
  · obtain ⟨k,hk⟩ : ∃ k,x.size=k+1:=⟨x.size - 1,by omega⟩
    have he:x.toList.isEmpty=false:=by rw [bH]; simpa using h0
    have O:=zH (vK x k hk);have ac:k<x.size:=by omega
    cases hp:cBlank x[k]
    all_goals
     have D:=zH hp;clear hp;go_wp2_with (go_at_call 188; refine (fj _ _).mono ?_; rintro e w' ⟨rfl,rfl⟩; rw [D.out])
    · go_ret
      exact ⟨x,rfl,by rw [A.out,O.out,ki,D.out]; simp,rfl⟩
    · go_round
      case rel=>exact ⟨_,rfl,by simp; omega,by show _=_; rw [A.out,O.out,ki,D.out,if_pos rfl,lG]; simp⟩
      case measure=>simp [mX]; omega
end Go.Proofs.YtominiaohfjobaaGreatDoor
namespace Go.Proofs.YtominiaohfjobaaGreatDoor
open Go Go.RowKit
variable {lo:Nat}
theorem ju:114≠212:=by decide
theorem rX (qs:List (Nat × Nat)) (p:Nat × Nat):(qs.reverse ++ [p])[qs.length]? = some p:=by simp
theorem jQ {w:World} {B:Nat} {f:Fr} {fs:List Fr} {r:Option Tr} {X:Nat→Prop} {ov:Value} {qs:List (Nat × Nat)} {b o:Nat} {c d t:Value} (h:bD 114 212 lo w B (f::fs) r X ov (qs.reverse ++ [(b,o)]) c d t) :
    Calls Tryz.prog 126 #[.pointer (some ⟨B,0,none⟩)] w (Qt (.pointer (some ⟨b,o,none⟩)) w):=by
 obtain ⟨g,cap,rfl,D,hm,Z,hp⟩:=h.opn.at (rX qs (b,o));have hlt:=h.lt;have c4:=h.c4;have A:(qs.reverse ++ [(b,o)]).length=qs.length+1:=by simp
 rw [A] at c4 D;generalize qs.length=n at *;clear h A;have U:IntKind.i64.wrap (n:Int)=n:=IntWalk.i64_in _ (by unfold maxLen at hm; omega);have J:(n:Int)<(n:Int)+1:=by omega
 have I:(0:Int)≤n:=by omega
 have O:(n:Int)<((n+1:Nat):Int):=by omega
 go_enter Tryz.func126,Tryz.ntmps126
 go_wp2
 go_quiet (fail)
 go_wp2
 go_ret
 exact ⟨rfl,_,rfl⟩
theorem ls (w:World) (B n:Nat) (c5:w.cell? ⟨B,5,none⟩=some (.int .i64 n)) (hf:w.frozen? ⟨B,5,none⟩=false) (hn:n≤1000000) :
    Calls Tryz.prog 159 #[.pointer (some ⟨B,0,none⟩)] w fun e w'=>e = .returned (.bool (decide (n+1≤4096)))∧w'=w.setCell ⟨B,5,none⟩ (.int .i64 (n+1:Nat)):=by
 have A:IntKind.i64.wrap ((n:Int)+1)=(n:Int)+1:=IntWalk.i64_in _ (by omega);go_enter Tryz.func159,Tryz.ntmps159
 go_wp2
 go_ret
 refine ⟨aD ?_,rfl⟩
 rw [decide_eq_decide]; omega
theorem bf {B:Nat} {w w':World} (h:Below B w w') (b j:Nat) (v:Value) (A:B≤b):Below B w (w'.setCell ⟨b,j,none⟩ v):=h.setCell (by exact A) v
theorem AB {w:World} {B:Nat} {f:Fr} {fs:List Fr} {X:Nat→Prop} {ov:Value} {ps:List (Nat × Nat)} {c d t:Value} (h:bD 114 212 lo w B (f::fs) none X ov ps c d t) :
    Calls Tryz.prog 125 #[.pointer (some ⟨B,0,none⟩)] w fun e w'=>e = .returned (.tuple #[]) ∧ ∃ X' O J,bD 114 212 lo w' B (cp f fs none 0).stack (cp f fs none 0).root X' O J c (.bool (cp f fs none 0).root.isSome) (.bool false)∧Below B w w':=by
 obtain ⟨b,o,L,av,kv,qs,rfl,inn,up⟩ : ∃ b o L av kv qs,ps=qs.reverse ++ [(b,o)]∧eD 114 X w b o f L av kv∧Up 114 B X w b o fs qs:=by
  cases h.tree with
  | inside L av kv inn up=>exact ⟨_,_,L,av,kv,_,rfl,inn,up⟩
 obtain ⟨g,cap,rfl,U,hm,hg,hp⟩:=h.opn.at (rX qs (b,o));have D:(qs.reverse ++ [(b,o)]).length=qs.length+1:=by simp
 have I:=up.len;rw [D] at h U;have hlt:=h.lt;have c4:=h.c4;have f4:=h.f 4;have c6:=h.c6;have c7:=h.c7;have f6:=h.f 6;have f7:=h.f 7
 have HP:=zH fun W (Z:W=w.drew)=>(by rw [Z]; exact bD.pop ju (h.drewN 1) (inn.keep (aK.below (aY (Below.refl _ w) 1)) (fun _ _ h=>h) (fun _ _=>rfl) (fun _ _=>rfl) (fun k hk=>hk.elim (fun e=>e ▸ inn.xb) (fun e=>inn.blk k e))) (up.keep (aK.below (aY (Below.refl _ w) 1)) (fun _ _ h=>h) (fun _ _ _ h=>h) (fun _ _ _=>rfl) (fun _ _ _ _ _ _=>rfl) (fun _ _=>rfl) (fun _ _ _ _ h=>h)) 0 :
  bD 114 212 lo (W.setCell ⟨B,4,none⟩ (.slice (some ⟨g,0,none⟩) qs.length qs.length)) B (cp f fs none 0).stack (cp f fs none 0).root (fun k=>X k∧kv.ownBlock≠some k) (.slice (some ⟨g,0,none⟩) qs.length qs.length) qs.reverse c d t)
 have A:(cp f fs none 0).root.isSome=decide ((qs.length:Int)=0):=by
  rw [I];cases fs with
  | nil=>rfl
  | cons g l=>simp [cp]; omega
 have HR:=zH A;clear h inn up hp D I A;generalize qs.length=n at *;have a0:IntKind.i64.wrap (n:Int)=n:=IntWalk.i64_in _ (by unfold maxLen at hm; omega);have al:(n:Int)<(n:Int)+1:=by omega
 have ah:(0:Int)≤n:=by omega
 have ag:n≤cap:=by omega
 go_enter Tryz.func125,Tryz.ntmps125
 go_wp2
 go_still_tail 18,(by kernel_rfl)
 change wpList _ _ _ _ _ w.drew
 go_wp2
 go_end0
 have h1:=((HP.out w.drew rfl).set6 (.bool (decide ((n:Int)=0)))).set7 (.bool false);exact ⟨rfl,_,_,_,by rw [HR.out]; exact h1,bf (bf (bf (aY (Below.refl B w) 1) B 4 _ (Nat.le_refl _)) B 6 _ (Nat.le_refl _)) B 7 _ (Nat.le_refl _)⟩
end Go.Proofs.YtominiaohfjobaaGreatDoor
namespace Go.Proofs.YtominiaohfjobaaGreatDoor
open Go Go.RowKit
structure kp where
 t:Tk
 av:Value
 off:Int
 line:Int
 col:Int
def cz (x:kp):List Value:=[.int .i64 x.t.kind,.string (bs x.t.name),x.av,.string (bs x.t.text),.int .i64 x.off,.int .i64 x.line,.int .i64 x.col]
theorem df (x:kp):(cz x).length=7:=rfl
theorem cQ:(Tryz.prog.info? 162).map (fun i=>(i.zero,i.size,i.bytes))=some (some (.agg #[.int .i64 0,.string ⟨#[]⟩,.slice none 0 0,.string ⟨#[]⟩,.int .i64 0,.int .i64 0,.int .i64 0]),7,88):=by kernel_rfl
structure jJ (w:World) (b:Nat) (s:S) (l:Bs) (ov:Value) (L:List kp):Prop where
 rd:Rd w b s l ov
 own:aj (b+1) 162 7 cz w ov L
 att : ∀ x ∈ L,aj (b+1) 166 2 gJ w x.av x.t.attrs
def uE (b:Nat) (s:S) (p:Nat) (L:List kp) (w:World):cO Tk→Ending→World→Prop
 | .ok t r=>fun e w'=>e = .returned (.tuple #[]) ∧ ∃ ov av,jJ w' b s r ov (L ++ [⟨t,av,p,0,0⟩])∧Below b w w'
 | .bad e r=>fun x w'=>x = .panicked [{ v:=kF e (aB s r),recovered:=false }]∧Below b w w'
theorem aj.form {α:Type} {base:Nat} {E:TypeId} {n:Nat} {C:α→List Value} {w:World} {v:Value} {l:List α} (h:aj base E n C w v l) : ∃ ao cap,v = .slice ao l.length cap:=h.shape
theorem bi {b:Nat} {w w':World} (h:w.grownBy w' (some b)) (A:b≤w.heap.size):Below b w w':=⟨h.os,h.tape,h.output,h.size,fun k hk=>h.block k (by omega) (by simp; omega)⟩
theorem jJ.kept {w w':World} {b:Nat} {s:S} {l r:Bs} {ov:Value} {L:List kp} (h:jJ w b s l ov L) (A:w.grownBy w' (some b)) (D:Rd w' b s r ov):jJ w' b s r ov L :=
 ⟨D,h.own.keptR A (by omega),fun x hx=>(h.att x hx).keptR A (by omega)⟩
theorem aW {P:Program} {ops:Array Oper} {o:Oper} {a:Act} {w:World} {K:Act→World→Prop} {Q:Exit→Act→World→Prop} {E:Prop} {α:Type} {C:α→List Value} (ad:o.guard=none) (s x:Operand) (t:TypeId)
    (ho:o.op = .call { callee:=.builtin .append,args:=#[s,x],argTypes:=#[t,t] })
    (base:Nat) (e:TypeId) {z:Value} {size bytes:Nat} (ht:P.underlying t=some (.slice e)) (O:(P.info? e).map (fun i=>(i.zero,i.size,i.bytes))=some (some z,size,bytes)) (aa:z.cells.size=size) (ac:0<size) (hC : ∀ y,(C y).length=size)
    (v:Value) (l:List α) (hs:a.eval s=v) (Z:aj base e size C w v l) (H:Nat) (y:α) (hx:a.eval x = .slice (some ⟨H,0,none⟩) 1 1) (J : ∀ j u,(C y)[j]? = some u→w.cell? ⟨H,j,none⟩=some u) (h1 : ∀ u ∈ C y,u.oneCell'=true)
    (D:(l.length+1)*bytes≤140737488355328) (ah:0<bytes) (U:base≤w.heap.size) (N:Nat) (hN:w.heap.size=N)
    (h : ∀ g cap w',aj base e size C w' (.slice (some ⟨g,0,none⟩) (l.length+1) cap) (l ++ [y])→w.grownBy w' v.ownBlock→(v.ownBlock=some g∨g=N)→g<w'.heap.size→K (a.put o.dst (.slice (some ⟨g,0,none⟩) (l.length+1) cap)) w') :
    if Region.wanted o (yielded ops a.tmps)=true then Oper.wp P o a w K Q else E:=by
 have A:l.length+1≤maxLen:=by
  have:l.length+1≤(l.length+1)*bytes:=Nat.le_mul_of_pos_right _ ah
  unfold maxLen; omega
 obtain ⟨i,hi,hz,I,ag⟩:=info_parts O;refine step_append_lies w ad s x t ho base e i z size bytes ht hi hz I ag aa ac v l.length (l.flatMap C) hs Z ⟨H,0,none⟩ 1 1 (C y) hx (by rw [hC]; simp) (fun j u hu=>by rw [Addr.add_lit,Nat.zero_add]; exact J j u hu) h1 (by decide) A D U N hN ?_
 intro g cap w' h2 h3 h4 h5;refine h g cap w' ?_ h3 h4 h5
 unfold aj;rw [List.length_append,List.flatMap_append];simpa using h2
theorem aj.drew {α:Type} {base:Nat} {E:TypeId} {n:Nat} {C:α→List Value} {w:World} {v:Value} {l:List α} (h:aj base E n C w v l):aj base E n C w.drew v l:=h
theorem ak.drew {w:World} {b:Nat} {cs:List Value} (h:ak w b cs):ak w.drew b cs:=⟨h.lt,h.cell,h.free⟩
theorem pI {α β:Type} {b1 b2 I D n1 n2:Nat} {C1:α→List Value} {C2:β→List Value} {w:World} {v1 v2:Value} {O:List α} {J:List β} (h1:aj b1 I n1 C1 w v1 O) (h2:aj b2 D n2 C2 w v2 J) (Z:I≠D):v1.ownBlock=none∨v1.ownBlock≠v2.ownBlock:=by
 rcases h1.2 with ⟨rfl,-⟩ | ⟨g,cap,al,rfl,-,U,-⟩
 · exact .inl rfl
 · right
   rcases h2.2 with ⟨rfl,-⟩ | ⟨g2,ac,aa,rfl,-,A,-⟩
   · simp [Value.ownBlock]
   · intro e
     simp only [Value.ownBlock,Option.some.injEq] at e;subst e;rw [U] at A;simp only [Option.some.injEq,Obj.cells.injEq] at A;exact Z A.2.1
theorem jJ.push {w D A:World} {b:Nat} {s:S} {r:Bs} {ov v:Value} {L:List kp} {x:kp} {o:Obj} (J:jJ D b s r ov L) (O:w.grownBy D (some b)) (hlt:b<w.heap.size) (ac:aj (b+1) 166 2 gJ D x.av x.t.attrs)
    (I:((D.alloc o).drew).grownBy A ov.ownBlock) (U:aj (b+1) 162 7 cz A v (L ++ [x])) :
    jJ (A.setCell ⟨b,2,none⟩ v) b s r v (L ++ [x])∧Below b w (A.setCell ⟨b,2,none⟩ v):=by
 have hW:=O.size;have Z:some b≠ov.ownBlock:=fun e=>by have:=(J.own.lt b e.symm).1; omega
 have aa:ak A b [.string s,.int .i64 (aB s r:Nat),ov]:=(J.rd.box.alloc o).drew.grown I Z;refine ⟨⟨⟨aa.set 2 v,J.rd.suf⟩,U.keptR (ab A b 2 v) (by omega),fun y hy=>?_⟩,?_⟩
 · have h1:aj (b+1) 166 2 gJ D y.av y.t.attrs:=by
    rcases List.mem_append.1 hy with h | h
    · exact J.att y h
    · simp at h; subst h; exact ac
   have h2:aj (b+1) 166 2 gJ ((D.alloc o).drew) y.av y.t.attrs:=(h1.alloc o).drew;exact (h2.kept I (pI h1 J.own (by decide))).keptR (ab A b 2 v) (by omega)
 · refine ⟨I.os.trans O.os,I.tape.trans O.tape,I.output.trans O.output,?_,fun k hk=>?_⟩
   · have:=I.size
     simp [World.setCell] at this ⊢; omega
   · have h1:(A.setCell ⟨b,2,none⟩ v).heap[k]? = A.heap[k]?:=Below.heap_setCell A ⟨b,2,none⟩ v k (by simp; omega)
     have h2:A.heap[k]? = ((D.alloc o).drew).heap[k]?:=I.block k (by simp; omega) (fun e=>by have:=(J.own.lt k e.symm).1; omega);have h3:((D.alloc o).drew).heap[k]? = D.heap[k]?:=Below.heap_alloc D o k (by omega);rw [h1,h2,h3];exact O.block k (by omega) (by simp; omega)
theorem bz {w x:World} {row:Option Nat} (h:w.grownBy x row) {k:Nat} (hk:w.heap.size≤k) (j:Nat) (v:Value):w.grownBy (x.setCell ⟨k,j,none⟩ v) row :=
 ⟨h.os,h.tape,h.output,by simpa [World.setCell] using h.size,fun i D A=>(Below.heap_setCell x ⟨k,j,none⟩ v i (by simp; omega)).trans (h.block i D A)⟩
theorem Rd.setOther {w:World} {b:Nat} {s:S} {l:Bs} {ov:Value} (h:Rd w b s l ov) {k:Nat} (hk:k≠b) (j:Nat) (v:Value):Rd (w.setCell ⟨k,j,none⟩ v) b s l ov :=
 ⟨h.box.grownB (ab w k j v) (Ne.symm hk),h.suf⟩
theorem xL (b:Nat) (s:S) (l:Bs) (ao:Option Addr) (cap:Nat) (L:List kp) (m:Int) (w:World) (h:jJ w b s l (.slice ao L.length cap) L) (hs:s.size≤65536) (hm:w.cell? ⟨0,0,none⟩=some (.int .i64 m)) (hL:L.length≤1000000)
    (Z:iT.isPrefixOf l=true) :
    Calls Tryz.prog 121 #[.pointer (some ⟨b,0,none⟩)] w (uE b s (aB s l) L w ((plain mE (l.drop 4)).map fun t=>⟨5,[],[],t⟩)):=by
 have b3:=h.rd.box.lt;have c1:=h.rd.c1;have H0:=zH h;have cT:s.size≤1000000:=by omega
 have HM:=zH hm;have hp:=aT h.rd.suf;have eg:(aB s l:Int)≤65536:=by omega
 have HA:Hid (∀ w,Rd w b s l (.slice ao L.length cap)→Calls Tryz.prog 149 #[.pointer (some ⟨b,0,none⟩),.string ⟨#[60,33,45,45]⟩] w (Qt (.bool true) w)):=fun w h=>by
  have:=bQ b s l (.slice ao L.length cap) ⟨#[60,33,45,45]⟩ w h
  rw [show (⟨#[60,33,45,45]⟩:S).data.toList.isPrefixOf l=true from Z] at this; exact this
 have b4:iT.length≤l.length:=(List.isPrefixOf_iff_prefix.1 Z).length_le;clear Z
 have HU:Hid (∀ w,Rd w b s l (.slice ao L.length cap)→w.cell? ⟨0,0,none⟩=some (.int .i64 m)→Calls Tryz.prog 150 #[.pointer (some ⟨b,0,none⟩),.string ⟨#[60,33,45,45]⟩,.string ⟨#[45,45,62]⟩] w (zL (fun t=>.string (bs t)) b s (.slice ao L.length cap) w (plain mE (l.drop 4)))):=fun w h hm =>
  lN b s ⟨#[60,33,45,45]⟩ ⟨#[45,45,62]⟩ l (l.drop 4) (.slice ao L.length cap) m w h rfl b4 cT hm (by simp) (by decide)
 clear h hm;have hR:Rd (w.alloc (.cells #[.int .i64 0,.string ⟨#[]⟩,.slice none 0 0,.string ⟨#[]⟩,.int .i64 (aB s l),.int .i64 0,.int .i64 0] 162)) b s l (.slice ao L.length cap):=H0.out.rd.below ((Below.refl _ _).alloc (Nat.le_refl _) _);go_enter Tryz.func121,Tryz.ntmps121
 go_wp2_with fail
 refine Calls.world ?_
 intro W hW;have hx:ak W w.heap.size [.int .i64 0,.string ⟨#[]⟩,.slice none 0 0,.string ⟨#[]⟩,.int .i64 (aB s l),.int .i64 0,.int .i64 0]:=by rw [hW]; exact ak.new w _ _ _ rfl
 have hG:w.grownBy W (some b):=by rw [hW]; exact World.grownBy_alloc _ _ _
 rw [← hW] at hR;have hm:W.cell? ⟨0,0,none⟩=some (.int .i64 m):=by rw [hW,World.cell?_alloc_lt _ _ _ (by simp; omega)]; exact HM.out
 clear hW;clear c1;refine (HA.out W hR).mono ?_
 rintro e w1 ⟨rfl,n0,rfl⟩;have A:=HU.out (W.drewN n0) (hR.drewN _) hm;cases O:plain mE (l.drop 4) with
 | bad x r =>
  rw [O] at A;have HP:=zH O;clear O;have ad:=zH A;clear A hR hx;go_wp2_with fail
  refine ad.out.mono ?_
  intro e w2 hO;obtain ⟨rfl,hg⟩:mU x s r b _ e w2:=hO;go_wp2
  rw [HP.out];exact ⟨rfl,rfl,bi ((hG.trans (aX _ _ _)).trans hg) (by omega)⟩
 | ok t r =>
  rw [O] at A;have HP:=zH O;clear O;have ad:=zH A;clear A;go_wp2_with fail
  refine ad.out.mono ?_
  intro e w2 hO;obtain ⟨rfl,bb,hg⟩:ft (.string (bs t)) b s r (.slice ao L.length cap) _ e w2:=hO;have I:=(hx.drewN n0).grownB hg (by omega);have bc:=(hG.trans (aX _ n0 _)).trans hg;have q0:=I.cell 0 _ rfl;have q3:=I.cell 3 _ rfl;have co:=I.free 0;have cm:=I.free 3;have cf:=I.lt;have bg:=zH I;have bo:=zH bc;have bl:=zH bb;clear hx I hg hG bc hR bb hm ad;go_wp2
  refine ai fun D ac=>?_
  have ag:ak D w.heap.size [.int .i64 5,.string ⟨#[]⟩,.slice none 0 0,.string (bs t),.int .i64 (aB s l),.int .i64 0,.int .i64 0]:=by rw [ac]; exact (bg.out.set 0 _).set 3 _
  have U:Rd D b s r (.slice ao L.length cap):=by rw [ac]; exact (bl.out.setOther (by omega) _ _).setOther (by omega) _ _
  have a5:w.grownBy D (some b):=by rw [ac]; exact bz (bz bo.out (Nat.le_refl _) _ _) (Nat.le_refl _) _ _
  have d2:Hid (aj (b+1) 166 2 gJ D (.slice none 0 0) ([]:List eE)):=aj.nil;clear ac bg bo bl q0 q3 co cm cf;have c2:=U.c2;have f2:=U.box.free 2;have d6:=U.box.lt;obtain ⟨t0,t1,t2,t3,t4,t5,t6⟩:=xE ag;have ef:=ag.lt;have a6:=zH (H0.out.kept a5 U);have dl:=zH U;have dr:=zH a5;clear ag U a5;have b2:Hid (some b≠(Value.slice ao L.length cap).ownBlock):=fun e=>by have:=(a6.out.own.lt b e.symm).1; omega
  have b5:Hid (ak ((D.alloc (.cells (cz ⟨⟨5,[],[],t⟩,.slice none 0 0,aB s l,0,0⟩).toArray 162)).drew) b [.string s,.int .i64 (aB s r:Nat),.slice ao L.length cap]):=(dl.out.box.alloc _).drew;have a9 : ∀ j u,(cz ⟨⟨5,[],[],t⟩,.slice none 0 0,aB s l,0,0⟩)[j]? = some u→((D.alloc (.cells (cz ⟨⟨5,[],[],t⟩,.slice none 0 0,aB s l,0,0⟩).toArray 162)).drew).cell? ⟨D.heap.size,j,none⟩=some u:=fun j u hu=>(ak.new D (cz ⟨⟨5,[],[],t⟩,.slice none 0 0,aB s l,0,0⟩) 162 _ rfl).cell j u hu;have ba : ∀ u ∈ cz ⟨⟨5,[],[],t⟩,.slice none 0 0,aB s l,0,0⟩,u.oneCell'=true:=by intro u hu; simp [cz] at hu; rcases hu with rfl | rfl | rfl | rfl | rfl | rfl | rfl <;> rfl
  have dn:=zH a9;have d0:=zH ba;have a8:=zH ((a6.out.own.alloc (.cells (cz ⟨⟨5,[],[],t⟩,.slice none 0 0,aB s l,0,0⟩).toArray 162)).drew);have dk:Hid ((L.length+1)*88≤140737488355328):=by show _≤_; omega
  have dg:Hid (b+1≤((D.alloc (.cells (cz ⟨⟨5,[],[],t⟩,.slice none 0 0,aB s l,0,0⟩).toArray 162)).drew).heap.size):=by show _≤_; simp; omega
  have b0:Hid (((D.alloc (.cells (cz ⟨⟨5,[],[],t⟩,.slice none 0 0,aB s l,0,0⟩).toArray 162)).drew).heap.size=D.heap.size+1):=by show _=_; simp
  clear a9 ba;go_region_law (first | (refine aW rfl (.tmp 110) (.tmp 112) 154 rfl (b+1) 162 Tryz.underlying154 cQ rfl (by decide) df (.slice ao L.length cap) L (by simp [Act.eval]) a8.out D.heap.size ⟨⟨5,[],[],t⟩,.slice none 0 0,aB s l,0,0⟩ (by simp [Act.eval]) dn.out d0.out dk.out (by decide) dg.out (D.heap.size+1) b0.out ?_; intro g8 d7 w8 aa J b6 d5; have al:=zH (b5.out.grown J b2.out); have e2:=al.out.cell 2 _ rfl; have el:=al.out.free 2; have ei:=al.out.lt; have c8:=zH aa; have c9:=zH J; clear aa J b6))
  all_goals
   go_end0
   rw [HP.out];obtain ⟨h1,h2⟩:=a6.out.push dr.out b3 (x:=⟨⟨5,[],[],t⟩,.slice none 0 0,aB s l,0,0⟩) d2.out c9.out c8.out;exact ⟨rfl,_,_,h1,h2⟩
theorem xN (b:Nat) (s:S) (l:Bs) (ao:Option Addr) (cap:Nat) (L:List kp) (m:Int) (w:World) (h:jJ w b s l (.slice ao L.length cap) L) (hs:s.size≤65536) (hm:w.cell? ⟨0,0,none⟩=some (.int .i64 m)) (hL:L.length≤1000000)
    (ba:iT.isPrefixOf l=false) (Z:ld.isPrefixOf l=true) :
    Calls Tryz.prog 121 #[.pointer (some ⟨b,0,none⟩)] w (uE b s (aB s l) L w ((plain qj (l.drop 9)).map fun t=>⟨4,[],[],t⟩)):=by
 have b4:=h.rd.box.lt;have c1:=h.rd.c1;have H0:=zH h;have c8:s.size≤1000000:=by omega
 have HM:=zH hm;have hp:=aT h.rd.suf;have el:(aB s l:Int)≤65536:=by omega
 have HA:Hid (∀ w,Rd w b s l (.slice ao L.length cap)→Calls Tryz.prog 149 #[.pointer (some ⟨b,0,none⟩),.string ⟨#[60,33,45,45]⟩] w (Qt (.bool false) w)):=fun w h=>by
  have:=bQ b s l (.slice ao L.length cap) ⟨#[60,33,45,45]⟩ w h
  rw [show (⟨#[60,33,45,45]⟩:S).data.toList.isPrefixOf l=false from ba] at this; exact this
 have HB:Hid (∀ w,Rd w b s l (.slice ao L.length cap)→Calls Tryz.prog 149 #[.pointer (some ⟨b,0,none⟩),.string ⟨#[60,33,91,67,68,65,84,65,91]⟩] w (Qt (.bool true) w)):=fun w h=>by
  have:=bQ b s l (.slice ao L.length cap) ⟨#[60,33,91,67,68,65,84,65,91]⟩ w h
  rw [show (⟨#[60,33,91,67,68,65,84,65,91]⟩:S).data.toList.isPrefixOf l=true from Z] at this; exact this
 have b5:ld.length≤l.length:=(List.isPrefixOf_iff_prefix.1 Z).length_le;clear Z ba
 have HU:Hid (∀ w,Rd w b s l (.slice ao L.length cap)→w.cell? ⟨0,0,none⟩=some (.int .i64 m)→Calls Tryz.prog 150 #[.pointer (some ⟨b,0,none⟩),.string ⟨#[60,33,91,67,68,65,84,65,91]⟩,.string ⟨#[93,93,62]⟩] w (zL (fun t=>.string (bs t)) b s (.slice ao L.length cap) w (plain qj (l.drop 9)))):=fun w h hm =>
  lN b s ⟨#[60,33,91,67,68,65,84,65,91]⟩ ⟨#[93,93,62]⟩ l (l.drop 9) (.slice ao L.length cap) m w h rfl b5 c8 hm (by simp) (by decide)
 clear h hm;have hR:Rd (w.alloc (.cells #[.int .i64 0,.string ⟨#[]⟩,.slice none 0 0,.string ⟨#[]⟩,.int .i64 (aB s l),.int .i64 0,.int .i64 0] 162)) b s l (.slice ao L.length cap):=H0.out.rd.below ((Below.refl _ _).alloc (Nat.le_refl _) _);go_enter Tryz.func121,Tryz.ntmps121
 go_wp2_with fail
 refine Calls.world ?_
 intro W hW;have hx:ak W w.heap.size [.int .i64 0,.string ⟨#[]⟩,.slice none 0 0,.string ⟨#[]⟩,.int .i64 (aB s l),.int .i64 0,.int .i64 0]:=by rw [hW]; exact ak.new w _ _ _ rfl
 have hG:w.grownBy W (some b):=by rw [hW]; exact World.grownBy_alloc _ _ _
 rw [← hW] at hR;have hm:W.cell? ⟨0,0,none⟩=some (.int .i64 m):=by rw [hW,World.cell?_alloc_lt _ _ _ (by simp; omega)]; exact HM.out
 clear hW;clear c1;refine (HA.out W hR).mono ?_
 rintro e w1 ⟨rfl,n0,rfl⟩;go_wp2_with fail
 refine (HB.out _ (hR.drewN _)).mono ?_
 rintro e w1 ⟨rfl,n1,rfl⟩;have A:=HU.out (W.drewN (n0+n1)) (hR.drewN _) hm;cases O:plain qj (l.drop 9) with
 | bad x r =>
  rw [O] at A;have HP:=zH O;clear O;have ad:=zH A;clear A hR hx;go_wp2_with fail
  refine ad.out.mono ?_
  intro e w2 hO;obtain ⟨rfl,hg⟩:mU x s r b _ e w2:=hO;go_wp2
  rw [HP.out];exact ⟨rfl,rfl,bi ((hG.trans (aX _ _ _)).trans hg) (by omega)⟩
 | ok t r =>
  rw [O] at A;have HP:=zH O;clear O;have ad:=zH A;clear A;go_wp2_with fail
  refine ad.out.mono ?_
  intro e w2 hO;obtain ⟨rfl,bc,hg⟩:ft (.string (bs t)) b s r (.slice ao L.length cap) _ e w2:=hO;have I:=(hx.drewN (n0+n1)).grownB hg (by omega);have bg:=(hG.trans (aX _ (n0+n1) _)).trans hg;have q0:=I.cell 0 _ rfl;have q3:=I.cell 3 _ rfl;have cT:=I.free 0;have co:=I.free 3;have cm:=I.lt;have bl:=zH I;have bv:=zH bg;have bo:=zH bc;clear hx I hg hG bg hR bc hm ad;go_wp2
  refine ai fun D ac=>?_
  have ah:ak D w.heap.size [.int .i64 4,.string ⟨#[]⟩,.slice none 0 0,.string (bs t),.int .i64 (aB s l),.int .i64 0,.int .i64 0]:=by rw [ac]; exact (bl.out.set 0 _).set 3 _
  have U:Rd D b s r (.slice ao L.length cap):=by rw [ac]; exact (bo.out.setOther (by omega) _ _).setOther (by omega) _ _
  have a5:w.grownBy D (some b):=by rw [ac]; exact bz (bz bv.out (Nat.le_refl _) _ _) (Nat.le_refl _) _ _
  have d3:Hid (aj (b+1) 166 2 gJ D (.slice none 0 0) ([]:List eE)):=aj.nil;clear ac bl bv bo q0 q3 cT co cm;have c2:=U.c2;have f2:=U.box.free 2;have d7:=U.box.lt;obtain ⟨t0,t1,t2,t3,t4,t5,t6⟩:=xE ah;have ei:=ah.lt;have a6:=zH (H0.out.kept a5 U);have dn:=zH U;have d0:=zH a5;clear ah U a5;have b3:Hid (some b≠(Value.slice ao L.length cap).ownBlock):=fun e=>by have:=(a6.out.own.lt b e.symm).1; omega
  have b6:Hid (ak ((D.alloc (.cells (cz ⟨⟨4,[],[],t⟩,.slice none 0 0,aB s l,0,0⟩).toArray 162)).drew) b [.string s,.int .i64 (aB s r:Nat),.slice ao L.length cap]):=(dn.out.box.alloc _).drew;have a9 : ∀ j u,(cz ⟨⟨4,[],[],t⟩,.slice none 0 0,aB s l,0,0⟩)[j]? = some u→((D.alloc (.cells (cz ⟨⟨4,[],[],t⟩,.slice none 0 0,aB s l,0,0⟩).toArray 162)).drew).cell? ⟨D.heap.size,j,none⟩=some u:=fun j u hu=>(ak.new D (cz ⟨⟨4,[],[],t⟩,.slice none 0 0,aB s l,0,0⟩) 162 _ rfl).cell j u hu;have bb : ∀ u ∈ cz ⟨⟨4,[],[],t⟩,.slice none 0 0,aB s l,0,0⟩,u.oneCell'=true:=by intro u hu; simp [cz] at hu; rcases hu with rfl | rfl | rfl | rfl | rfl | rfl | rfl <;> rfl
  have dr:=zH a9;have d2:=zH bb;have a8:=zH ((a6.out.own.alloc (.cells (cz ⟨⟨4,[],[],t⟩,.slice none 0 0,aB s l,0,0⟩).toArray 162)).drew);have dl:Hid ((L.length+1)*88≤140737488355328):=by show _≤_; omega
  have dk:Hid (b+1≤((D.alloc (.cells (cz ⟨⟨4,[],[],t⟩,.slice none 0 0,aB s l,0,0⟩).toArray 162)).drew).heap.size):=by show _≤_; simp; omega
  have b2:Hid (((D.alloc (.cells (cz ⟨⟨4,[],[],t⟩,.slice none 0 0,aB s l,0,0⟩).toArray 162)).drew).heap.size=D.heap.size+1):=by show _=_; simp
  clear a9 bb;go_region_law (first | (refine aW rfl (.tmp 110) (.tmp 112) 154 rfl (b+1) 162 Tryz.underlying154 cQ rfl (by decide) df (.slice ao L.length cap) L (by simp [Act.eval]) a8.out D.heap.size ⟨⟨4,[],[],t⟩,.slice none 0 0,aB s l,0,0⟩ (by simp [Act.eval]) dr.out d2.out dl.out (by decide) dk.out (D.heap.size+1) b2.out ?_; intro g8 d8 w8 aa J b7 d6; have a0:=zH (b6.out.grown J b3.out); have e2:=a0.out.cell 2 _ rfl; have en:=a0.out.free 2; have em:=a0.out.lt; have c9:=zH aa; have dg:=zH J; clear aa J b7))
  all_goals
   go_end0
   rw [HP.out];obtain ⟨h1,h2⟩:=a6.out.push d0.out b4 (x:=⟨⟨4,[],[],t⟩,.slice none 0 0,aB s l,0,0⟩) d3.out dg.out c9.out;exact ⟨rfl,_,_,h1,h2⟩
theorem xM (b:Nat) (s:S) (l:Bs) (ao:Option Addr) (cap:Nat) (L:List kp) (m:Int) (w:World) (h:jJ w b s l (.slice ao L.length cap) L) (hs:s.size≤65536) (hm:w.cell? ⟨0,0,none⟩=some (.int .i64 m)) (hL:L.length≤1000000)
    (bl:iT.isPrefixOf l=false) (a0:ld.isPrefixOf l=false) (bc:aB s l=0) (D:da l=true) :
    Calls Tryz.prog 121 #[.pointer (some ⟨b,0,none⟩)] w (uE b s (aB s l) L w ((plain mF (l.drop 5)).map fun t=>⟨6,[],[],t⟩)):=by
 have b8:=h.rd.box.lt;have c1:=h.rd.c1;have H0:=zH h;have bb:s.size≤1000000:=by omega
 have HM:=zH hm;have hp:=aT h.rd.suf;have eU:(aB s l:Int)≤65536:=by omega
 have ah:nC.isPrefixOf l=true:=by unfold da at D; rw [Bool.and_eq_true] at D; exact D.1
 have HA:Hid (∀ w,Rd w b s l (.slice ao L.length cap)→Calls Tryz.prog 149 #[.pointer (some ⟨b,0,none⟩),.string ⟨#[60,33,45,45]⟩] w (Qt (.bool false) w)):=fun w h=>by
  have:=bQ b s l (.slice ao L.length cap) ⟨#[60,33,45,45]⟩ w h
  rw [show (⟨#[60,33,45,45]⟩:S).data.toList.isPrefixOf l=false from bl] at this; exact this
 have HB:Hid (∀ w,Rd w b s l (.slice ao L.length cap)→Calls Tryz.prog 149 #[.pointer (some ⟨b,0,none⟩),.string ⟨#[60,33,91,67,68,65,84,65,91]⟩] w (Qt (.bool false) w)):=fun w h=>by
  have:=bQ b s l (.slice ao L.length cap) ⟨#[60,33,91,67,68,65,84,65,91]⟩ w h
  rw [show (⟨#[60,33,91,67,68,65,84,65,91]⟩:S).data.toList.isPrefixOf l=false from a0] at this; exact this
 have d4:Hid (∀ w,Rd w b s l (.slice ao L.length cap)→Calls Tryz.prog 151 #[.pointer (some ⟨b,0,none⟩)] w (Qt (.bool true) w)):=fun w h=>by
  have:=iD b s l (.slice ao L.length cap) w h bb
  rw [show da l=true from D] at this; exact this
 have b9:nC.length≤l.length:=(List.isPrefixOf_iff_prefix.1 ah).length_le;clear ah D bl a0
 have HU:Hid (∀ w,Rd w b s l (.slice ao L.length cap)→w.cell? ⟨0,0,none⟩=some (.int .i64 m)→Calls Tryz.prog 150 #[.pointer (some ⟨b,0,none⟩),.string ⟨#[60,63,120,109,108]⟩,.string ⟨#[63,62]⟩] w (zL (fun t=>.string (bs t)) b s (.slice ao L.length cap) w (plain mF (l.drop 5)))):=fun w h hm =>
  lN b s ⟨#[60,63,120,109,108]⟩ ⟨#[63,62]⟩ l (l.drop 5) (.slice ao L.length cap) m w h rfl b9 bb hm (by simp) (by decide)
 have e0:(((aB s l:Nat):Int) == 0)=true:=by rw [bc]; rfl
 clear bc;clear h hm;have hR:Rd (w.alloc (.cells #[.int .i64 0,.string ⟨#[]⟩,.slice none 0 0,.string ⟨#[]⟩,.int .i64 (aB s l),.int .i64 0,.int .i64 0] 162)) b s l (.slice ao L.length cap):=H0.out.rd.below ((Below.refl _ _).alloc (Nat.le_refl _) _);go_enter Tryz.func121,Tryz.ntmps121
 go_wp2_with fail
 refine Calls.world ?_
 intro W hW;have hx:ak W w.heap.size [.int .i64 0,.string ⟨#[]⟩,.slice none 0 0,.string ⟨#[]⟩,.int .i64 (aB s l),.int .i64 0,.int .i64 0]:=by rw [hW]; exact ak.new w _ _ _ rfl
 have hG:w.grownBy W (some b):=by rw [hW]; exact World.grownBy_alloc _ _ _
 rw [← hW] at hR;have hm:W.cell? ⟨0,0,none⟩=some (.int .i64 m):=by rw [hW,World.cell?_alloc_lt _ _ _ (by simp; omega)]; exact HM.out
 clear hW;clear c1;have c1:=hR.c1;refine (HA.out W hR).mono ?_
 rintro e w1 ⟨rfl,n0,rfl⟩;go_wp2_with fail
 refine (HB.out _ (hR.drewN _)).mono ?_
 rintro e w1 ⟨rfl,n1,rfl⟩;go_wp2_with fail
 refine (d4.out _ (hR.drewN _)).mono ?_
 rintro e w1 ⟨rfl,n2,rfl⟩;have A:=HU.out (W.drewN (n0+n1+n2)) (hR.drewN _) hm;cases U:plain mF (l.drop 5) with
 | bad x r =>
  rw [U] at A;have HP:=zH U;clear U;have ag:=zH A;clear A hR hx;go_wp2_with fail
  refine ag.out.mono ?_
  intro e w2 hO;obtain ⟨rfl,hg⟩:mU x s r b _ e w2:=hO;go_wp2
  rw [HP.out];exact ⟨rfl,rfl,bi ((hG.trans (aX _ _ _)).trans hg) (by omega)⟩
 | ok t r =>
  rw [U] at A;have HP:=zH U;clear U;have ag:=zH A;clear A;go_wp2_with fail
  refine ag.out.mono ?_
  intro e w2 hO;obtain ⟨rfl,bv,hg⟩:ft (.string (bs t)) b s r (.slice ao L.length cap) _ e w2:=hO;have J:=(hx.drewN (n0+n1+n2)).grownB hg (by omega);have b0:=(hG.trans (aX _ (n0+n1+n2) _)).trans hg;have q0:=J.cell 0 _ rfl;have q3:=J.cell 3 _ rfl;have dk:=J.free 0;have dg:=J.free 3;have c9:=J.lt;have b2:=zH J;have b4:=zH b0;have b3:=zH bv;clear hx J hg hG b0 hR bv hm ag;go_wp2
  refine ai fun I ad=>?_
  have al:ak I w.heap.size [.int .i64 6,.string ⟨#[]⟩,.slice none 0 0,.string (bs t),.int .i64 (aB s l),.int .i64 0,.int .i64 0]:=by rw [ad]; exact (b2.out.set 0 _).set 3 _
  have Z:Rd I b s r (.slice ao L.length cap):=by rw [ad]; exact (b3.out.setOther (by omega) _ _).setOther (by omega) _ _
  have a7:w.grownBy I (some b):=by rw [ad]; exact bz (bz b4.out (Nat.le_refl _) _ _) (Nat.le_refl _) _ _
  have d7:Hid (aj (b+1) 166 2 gJ I (.slice none 0 0) ([]:List eE)):=aj.nil;clear ad b2 b4 b3 q0 q3 dk dg c9;have c2:=Z.c2;have f2:=Z.box.free 2;have ef:=Z.box.lt;obtain ⟨t0,t1,t2,t3,t4,t5,t6⟩:=xE al;have ex:=al.lt;have a8:=zH (H0.out.kept a7 Z);have d2:=zH Z;have d5:=zH a7;clear al Z a7;have b7:Hid (some b≠(Value.slice ao L.length cap).ownBlock):=fun e=>by have:=(a8.out.own.lt b e.symm).1; omega
  have cf:Hid (ak ((I.alloc (.cells (cz ⟨⟨6,[],[],t⟩,.slice none 0 0,aB s l,0,0⟩).toArray 162)).drew) b [.string s,.int .i64 (aB s r:Nat),.slice ao L.length cap]):=(d2.out.box.alloc _).drew;have bg : ∀ j u,(cz ⟨⟨6,[],[],t⟩,.slice none 0 0,aB s l,0,0⟩)[j]? = some u→((I.alloc (.cells (cz ⟨⟨6,[],[],t⟩,.slice none 0 0,aB s l,0,0⟩).toArray 162)).drew).cell? ⟨I.heap.size,j,none⟩=some u:=fun j u hu=>(ak.new I (cz ⟨⟨6,[],[],t⟩,.slice none 0 0,aB s l,0,0⟩) 162 _ rfl).cell j u hu;have bo : ∀ u ∈ cz ⟨⟨6,[],[],t⟩,.slice none 0 0,aB s l,0,0⟩,u.oneCell'=true:=by intro u hu; simp [cz] at hu; rcases hu with rfl | rfl | rfl | rfl | rfl | rfl | rfl <;> rfl
  have d3:=zH bg;have d6:=zH bo;have ba:=zH ((a8.out.own.alloc (.cells (cz ⟨⟨6,[],[],t⟩,.slice none 0 0,aB s l,0,0⟩).toArray 162)).drew);have d0:Hid ((L.length+1)*88≤140737488355328):=by show _≤_; omega
  have dr:Hid (b+1≤((I.alloc (.cells (cz ⟨⟨6,[],[],t⟩,.slice none 0 0,aB s l,0,0⟩).toArray 162)).drew).heap.size):=by show _≤_; simp; omega
  have b6:Hid (((I.alloc (.cells (cz ⟨⟨6,[],[],t⟩,.slice none 0 0,aB s l,0,0⟩).toArray 162)).drew).heap.size=I.heap.size+1):=by show _=_; simp
  clear bg bo;go_region_law (first | (refine aW rfl (.tmp 110) (.tmp 112) 154 rfl (b+1) 162 Tryz.underlying154 cQ rfl (by decide) df (.slice ao L.length cap) L (by simp [Act.eval]) ba.out I.heap.size ⟨⟨6,[],[],t⟩,.slice none 0 0,aB s l,0,0⟩ (by simp [Act.eval]) d3.out d6.out d0.out (by decide) dr.out (I.heap.size+1) b6.out ?_; intro g8 eg w8 ac O cm ed; have a5:=zH (cf.out.grown O b7.out); have e2:=a5.out.cell 2 _ rfl; have e4:=a5.out.free 2; have eV:=a5.out.lt; have dl:=zH ac; have dn:=zH O; clear ac O cm))
  all_goals
   go_end0
   rw [HP.out];obtain ⟨h1,h2⟩:=a8.out.push d5.out b8 (x:=⟨⟨6,[],[],t⟩,.slice none 0 0,aB s l,0,0⟩) d7.out dn.out dl.out;exact ⟨rfl,_,_,h1,h2⟩
end Go.Proofs.YtominiaohfjobaaGreatDoor
namespace Go.Proofs.YtominiaohfjobaaGreatDoor
open Go Go.RowKit
variable {lo:Nat}
def oT (n:Nat):Nat:=n*2000000
theorem px {n m:Nat} (h:n≤m):oT n≤oT m:=Nat.mul_le_mul_right _ h
theorem pw (n:Nat):oT (n+1)=oT n+2000000:=by unfold oT; rw [Nat.add_mul,Nat.one_mul]
theorem zY {n:Nat} (h:n≤1000000):oT n≤2000000000000:=by
 have:=px h
 have h2:oT 1000000=2000000000000:=by decide
 omega
structure gT (lo:Nat) (w:World) (B:Nat) (st:lM) (n:Nat) (X:Nat→Prop) (ov:Value) (ps:List (Nat × Nat)):Prop where
 core:bD 114 212 lo w B st.stack st.root X ov ps (.int .i64 st.count) (.bool st.root.isSome) (.bool st.text)
 tx:st.text=true → ∃ f fs ks t,st.stack=f::fs∧f.kids=ks ++ [t]∧t.text.length≤oT n
 kd : ∀ f ∈ st.stack,f.kids.length≤n
 cn:st.count≤n
 sn:st.stack.length≤n
def cA (lo:Nat) (w:World) (B n:Nat):zx→Ending→World→Prop
 | .ok st=>fun e w'=>e = .returned (.int .i64 0)∧(∃ X ov ps,gT lo w' B st n X ov ps)∧Below B w w'
 | .bad x=>fun e w'=>e = .returned (.int .i64 x)∧w.grownBy w' (some B)∧Below B w w'
theorem gT.mono {w:World} {B:Nat} {st:lM} {n m:Nat} {X:Nat→Prop} {ov:Value} {ps:List (Nat × Nat)} (h:gT lo w B st n X ov ps) (A:n≤m):gT lo w B st m X ov ps :=
 ⟨h.core,fun D=>by obtain ⟨f,fs,ks,t,h1,h2,h3⟩:=h.tx D; exact ⟨f,fs,ks,t,h1,h2,Nat.le_trans h3 (px A)⟩,fun f hf=>Nat.le_trans (h.kd f hf) A,Nat.le_trans h.cn A,Nat.le_trans h.sn A⟩
theorem gT.below {w w':World} {B:Nat} {st:lM} {n:Nat} {X:Nat→Prop} {ov:Value} {ps:List (Nat × Nat)} (h:gT lo w B st n X ov ps) (A:Below w.heap.size w w'):gT lo w' B st n X ov ps:=⟨h.core.below A,h.tx,h.kd,h.cn,h.sn⟩
theorem gT.drewN {w:World} {B:Nat} {st:lM} {n:Nat} {X:Nat→Prop} {ov:Value} {ps:List (Nat × Nat)} (h:gT lo w B st n X ov ps) (k:Nat):gT lo (w.drewN k) B st n X ov ps:=h.below (aY (Below.refl _ _) k)
theorem gT.shape {w:World} {B:Nat} {st:lM} {n:Nat} {X:Nat→Prop} {ov:Value} {ps:List (Nat × Nat)} (h:gT lo w B st n X ov ps) : ∃ ao cap,ov = .slice ao st.stack.length cap:=by
 rcases h.core.opn with ⟨rfl,rfl⟩ | ⟨g,cap,k,rfl,-⟩
 · exact ⟨none,0,by rw [← h.core.len]; rfl⟩
 · exact ⟨_,cap,by rw [h.core.len]⟩
theorem gT.more {w:World} {B:Nat} {f:Fr} {fs:List Fr} {r:Option Tr} {c n:Nat} {X:Nat→Prop} {ov:Value} {ps:List (Nat × Nat)} (s:Bs) (h:gT lo w B ⟨f::fs,r,c,true⟩ n X ov ps) (hs:s.length≤2000000) :
    ∃ (b o:Nat) (av:Value) (g cap k:Nat) (x:Bs) (qs:List (Nat × Nat)),ps=qs.reverse ++ [(b,o)]∧k+1≤n∧x.length≤oT n∧g<w.heap.size∧b<w.heap.size∧B≤g∧k+1≤cap∧cap≤maxLen∧w.cell? ⟨b,o+2,none⟩=some (.slice (some ⟨g,0,none⟩) (k+1) cap)∧w.cell? ⟨g,k*4+3,none⟩=some (.string (bs x))∧w.frozen? ⟨g,k*4+3,none⟩=false ∧
     w.cell? ⟨b,o+1,none⟩=some av ∧ ∃ X' al ah,gT lo (w.setCell ⟨g,k*4+3,none⟩ (.string (bs (x ++ s)))) B ⟨f.more s::fs,r,c,true⟩ (n+1) X' al ah:=by
 obtain ⟨f',a6,ks,t,h1,h2,h3⟩:=h.tx rfl;simp only [List.cons.injEq] at h1;obtain ⟨rfl,rfl⟩:=h1;have ht:=h.core.tree;generalize D:f::fs=st at ht;cases ht with
 | empty=>cases D
 | root=>cases D
 | @inside b o f' a6 qs L av kv inn up =>
  cases D
  have his:=inn.is;rw [h2] at his
  obtain ⟨A,y,rfl⟩ : ∃ A y,L=A ++ [y]:=by
   rcases List.eq_nil_or_concat L with rfl | ⟨A,y,rfl⟩
   · simp at his
   · exact ⟨A,y,by simp⟩
  rw [List.map_append] at his;obtain ⟨J,U⟩:=List.append_inj' his rfl;obtain ⟨t',ya,yk⟩:=y;simp only [List.map_cons,List.map_nil,List.cons.injEq,and_true] at U;subst U;obtain ⟨Z,ta,tk,tx⟩:=t'
  have a5:A.length+1≤n:=by
   have:=h.kd f (by simp)
   rw [h2,← J] at this;simpa using this
  obtain ⟨ao,cap,rfl⟩:=inn.own.shape;rcases ao with _ | ⟨g,z,sp⟩
  · rcases inn.own.2 with ⟨e,-⟩ | ⟨g,ag,a7,e,-⟩ <;> simp at e
  · have a4:sp=none∧z=0:=by
     rcases inn.own.2 with ⟨e,-⟩ | ⟨g,ag,a7,e,-⟩
     · simp at e
     · simp only [Value.slice.injEq,Option.some.injEq,Addr.mk.injEq] at e; exact ⟨e.1.2.2,e.1.2.1⟩
    obtain ⟨rfl,rfl⟩:=a4;have ac:(A ++ [((.mk Z ta tk tx:Tr),ya,yk)]).length=A.length+1:=by simp
    rw [ac] at inn;obtain ⟨-,bl,I,-,hcap,hm⟩:=inn.own.row;have bg:=up.ge
    have O:w.cell? ⟨g,A.length*4+3,none⟩=some (.string (bs tx)):=by
     have:=inn.own.cells0 (A.length*4+3) _ (nb A _ (j:=3) rfl)
     rwa [Nat.zero_add] at this
    refine ⟨b,o,av,g,cap,A.length,tx,qs,rfl,a5,h3,I.lt,h.core.xsize b inn.xb,by omega,by simpa using hcap,hm,inn.cells 2 _ rfl,O,I.free _,inn.cells 1 _ rfl,X,ov,_,bD.more ju h.core inn up,fun _=>⟨_,_,A.map (·.1),.mk Z ta tk (tx ++ s),rfl,?_,?_⟩,fun f' hf'=>?_,by have:=h.cn; simp at this ⊢; omega,by have:=h.sn; simp at this ⊢; omega⟩
    · simp only [Fr.more,h2,← J]
      exact iO s _ Z ta tk tx
    · have bo:tx.length≤oT n:=h3
      show (tx ++ s).length≤_
      rw [List.length_append,pw]; omega
    · rcases List.mem_cons.1 hf' with rfl | hf'
      · simp only [Fr.more,h2,← J,iO]
        simp; omega
      · have:=h.kd f' (by simp [hf']); omega
end Go.Proofs.YtominiaohfjobaaGreatDoor
namespace Go.Proofs.YtominiaohfjobaaGreatDoor
open Go Go.RowKit
variable {lo:Nat}
theorem lX:(Tryz.prog.info? 114).map (fun i=>(i.zero,i.size,i.bytes))=some (some (.agg #[.string ⟨#[]⟩,.slice none 0 0,.slice none 0 0,.string ⟨#[]⟩]),4,80):=by kernel_rfl
def bq:iq:=((.mk [] [] [] []:Tr),.slice none 0 0,.slice none 0 0)
theorem kO : ∀ u ∈ fu bq,u.oneCell'=true:=by
 intro u A;simp only [fu,kh,bq,Tr.name,Tr.text,List.mem_cons,List.not_mem_nil,or_false] at A;rcases A with rfl | rfl | rfl | rfl <;> rfl
theorem kZ (w:World) (a b:Addr) (u v:Value) (h:a.block≠b.block):(w.setCell a u).setCell b v=(w.setCell b v).setCell a u:=by
 unfold World.setCell;congr 1
 apply Array.ext_getElem?
 intro i;simp only [Array.getElem?_modify];by_cases h1:a.block=i
 · have h2 : ¬ b.block=i:=fun e=>h (h1.trans e.symm)
   simp [h1,h2]
 · by_cases h2:b.block=i
   · simp [h1,h2]
   · simp [h1,h2]
theorem bD.data {w:World} {B:Nat} {f:Fr} {fs:List Fr} {r:Option Tr} {X:Nat→Prop} {ov:Value} {ps:List (Nat × Nat)} {c d t:Value} (h:bD 114 212 lo w B (f::fs) r X ov ps c d t) :
    ∃ (b o:Nat) (L:List iq) (av:Value) (ao:Option Addr) (cap:Nat) (qs:List (Nat × Nat)),r=none∧ps=qs.reverse ++ [(b,o)]∧eD 114 X w b o f L av (.slice ao L.length cap)∧Up 114 B X w b o fs qs∧b<w.heap.size∧B≤b∧(b=B→o=0) ∧
     w.cell? ⟨b,o,none⟩=some (.string (bs f.name))∧w.cell? ⟨b,o+2,none⟩=some (.slice ao L.length cap)∧w.frozen? ⟨b,o+2,none⟩=false:=by
 have D:=h.tree;generalize A:f::fs=st at D;cases D with
 | empty=>cases A
 | root=>cases A
 | @inside b o J I qs L av kv inn up =>
  cases A
  obtain ⟨ao,cap,rfl⟩:=inn.own.shape;exact ⟨b,o,L,av,ao,cap,qs,rfl,rfl,inn,up,h.xsize b inn.xb,up.ge,fun e=>by rcases up.place with ⟨-,h0,-⟩ | ⟨h1,-⟩ <;> omega,inn.cells 0 _ rfl,inn.cells 2 _ rfl,h.free b inn.xb (Nat.le_trans h.loB up.ge) _⟩
theorem aj.nodeSt {base E g cap:Nat} {w:World} {L:List iq} (h:aj base E 4 fu w (.slice (some ⟨g,0,none⟩) (L.length+1) cap) (L ++ [bq])) (n:Bs) (ats:List eE) (x:Bs) (av:Value) :
    aj base E 4 fu ((((w.setCell ⟨g,L.length*4,none⟩ (.string (bs n))).setCell ⟨g,L.length*4+1,none⟩ av).setCell ⟨g,L.length*4+2,none⟩ (.slice none 0 0)).setCell ⟨g,L.length*4+3,none⟩ (.string (bs x))) (.slice (some ⟨g,0,none⟩) (L.length+1) cap) (L ++ [((.mk n ats [] x:Tr),av,.slice none 0 0)]):=by
 have I : ∀ y:iq,(L ++ [y])[L.length]? = some y:=fun y=>by simp
 have D : ∀ y z:iq,(L ++ [y]).set L.length z=L ++ [z]:=fun y z=>by simp
 obtain ⟨J,e1,-,-,-,-,-,A⟩:=bO (j:=0) bY h (I _) (by decide);cases e1
 have h1:=A (.string (bs n)) ((.mk n [] [] []:Tr),.slice none 0 0,.slice none 0 0) rfl;rw [D,Nat.add_zero] at h1;obtain ⟨J,e1,-,-,-,-,-,A⟩:=bO (j:=1) bY h1 (I _) (by decide);cases e1
 have h2:=A av ((.mk n ats [] []:Tr),av,.slice none 0 0) rfl;rw [D] at h2;obtain ⟨J,e1,-,-,-,-,-,A⟩:=bO (j:=2) bY h2 (I _) (by decide);cases e1
 have h3:=A (.slice none 0 0) ((.mk n ats [] []:Tr),av,.slice none 0 0) rfl;rw [D] at h3;obtain ⟨J,e1,-,-,-,-,-,A⟩:=bO (j:=3) bY h3 (I _) (by decide);cases e1
 have O:=A (.string (bs x)) ((.mk n ats [] x:Tr),av,.slice none 0 0) rfl;rw [D] at O;exact O
theorem aj.nodeCells {base E g cap:Nat} {w:World} {L:List iq} (h:aj base E 4 fu w (.slice (some ⟨g,0,none⟩) (L.length+1) cap) (L ++ [bq])) (j:Nat) (A:j<4) :
    w.frozen? ⟨g,L.length*4+j,none⟩=false ∧ ∃ u,w.cell? ⟨g,L.length*4+j,none⟩=some u:=by
 obtain ⟨D,e1,-,-,h1,h2,-⟩:=bO (j:=j) bY h (by simp:(L ++ [bq])[L.length]? = some bq) A;cases e1
 exact ⟨h2,_,by rw [h1]; exact List.getElem?_eq_getElem (by rw [bY]; exact A)⟩
theorem uh {w w1:World} {g m:Nat} {row:Option Nat} (h:w.grownBy w1 row) (I:row=some g∨g=w.heap.size) (u0 u1 u2 u3:Value) :
    w.grownBy ((((w1.setCell ⟨g,m,none⟩ u0).setCell ⟨g,m+1,none⟩ u1).setCell ⟨g,m+2,none⟩ u2).setCell ⟨g,m+3,none⟩ u3) row:=by
 have A:w1.grownBy ((((w1.setCell ⟨g,m,none⟩ u0).setCell ⟨g,m+1,none⟩ u1).setCell ⟨g,m+2,none⟩ u2).setCell ⟨g,m+3,none⟩ u3) (some g):=(((ab _ _ _ _).trans (ab _ _ _ _)).trans (ab _ _ _ _)).trans (ab _ _ _ _);refine ⟨A.os.trans h.os,A.tape.trans h.tape,A.output.trans h.output,Nat.le_trans h.size A.size,fun k hk D=>(A.block k (Nat.lt_of_lt_of_le hk h.size) (fun e=>?_)).trans (h.block k hk D)⟩
 cases e
 rcases I with e | e
 · exact D e.symm
 · omega
theorem qP (w:World) (B n:Nat) (r:Option Tr) (c:Nat) (tx:Bool) (X:Nat→Prop) (ov:Value) (ps:List (Nat × Nat)) (s:Bs) (h:gT lo w B ⟨[],r,c,tx⟩ n X ov ps) (J:s.length≤2000000) :
    Calls Tryz.prog 123 #[.pointer (some ⟨B,0,none⟩),.string (bs s)] w (cA lo w B (n+1) (bU ⟨[],r,c,tx⟩ s)):=by
 have hlt:=h.core.lt;have c4:=h.core.c4;obtain ⟨ao,cap,D⟩:=h.shape;rw [D] at c4;simp only [List.length_nil] at c4;have H:=zH h;clear h D;go_enter Tryz.func123,Tryz.ntmps123
 go_wp2_with fail
 refine (rK (bs s) w (by rw [ax]; omega)).mono ?_
 rintro e w' ⟨x,rfl,hx,rfl⟩;rw [cH] at hx
 have he:x.toList.isEmpty=(gW s).isEmpty:=by
  rw [bH,← au,hx];cases gW s <;> simp
 have O:=zH hx;clear hx;cases A:(gW s).isEmpty with
 | true =>
  rw [A] at he;have I:=zH A;clear A;go_wp2
  go_ret
  have:bU ⟨[],r,c,tx⟩ s = .ok ⟨[],r,c,tx⟩:=by simp only [bU,I.out,if_true]
  rw [this];exact ⟨rfl,⟨X,ov,ps,H.out.mono (Nat.le_succ n)⟩,Below.refl _ _⟩
 | false =>
  rw [A] at he;have I:=zH A;clear A;go_wp2
  go_ret
  have:bU ⟨[],r,c,tx⟩ s = .bad 16:=by simp only [bU,I.out]; rfl
  rw [this];exact ⟨rfl,World.grownBy.refl _ _,Below.refl _ _⟩
end Go.Proofs.YtominiaohfjobaaGreatDoor
namespace Go.Proofs.YtominiaohfjobaaGreatDoor
open Go Go.RowKit
variable {lo:Nat}
theorem oY (w:World) (B n:Nat) (f:Fr) (fs:List Fr) (r:Option Tr) (c:Nat) (tx:Bool) (X:Nat→Prop) (ov:Value) (ps:List (Nat × Nat)) (h:gT lo w B ⟨f::fs,r,c,tx⟩ n X ov ps) :
    Calls Tryz.prog 123 #[.pointer (some ⟨B,0,none⟩),.string (bs [])] w (cA lo w B (n+1) (bU ⟨f::fs,r,c,tx⟩ [])):=by
 have hlt:=h.core.lt;have c4:=h.core.c4;obtain ⟨ao,cap,D⟩:=h.shape;rw [D] at c4;simp only [List.length_cons] at c4;obtain ⟨b,o,L,av,U,I,qs,-,A,-⟩:=h.core.data;have J:=zH (jQ (by have:=h.core; rw [A] at this; exact this));have O:((fs.length+1:Nat):Int)≠0:=by omega
 have H:=zH h;clear h D A;have he:(bs []:S).toList.isEmpty=true:=by rw [bH]; rfl
 generalize (bs []:S)=e0 at *;go_enter Tryz.func123,Tryz.ntmps123
 go_wp2_with fail
 refine J.out.mono ?_
 rintro e w' ⟨rfl,k,rfl⟩;go_wp2
 go_ret
 exact ⟨rfl,⟨X,ov,ps,(H.out.drewN k).mono (Nat.le_succ n)⟩,aY (Below.refl _ _) k⟩
theorem oX (w:World) (B n:Nat) (f:Fr) (fs:List Fr) (r:Option Tr) (c:Nat) (X:Nat→Prop) (ov:Value) (ps:List (Nat × Nat)) (s:Bs) (h:gT lo w B ⟨f::fs,r,c,true⟩ n X ov ps) (ad:s≠[]) (hs:s.length≤2000000) (hn:n≤1000000) :
    Calls Tryz.prog 123 #[.pointer (some ⟨B,0,none⟩),.string (bs s)] w (cA lo w B (n+1) (bU ⟨f::fs,r,c,true⟩ s)):=by
 have hlt:=h.core.lt;have c4:=h.core.c4;obtain ⟨ao,cap,ag⟩:=h.shape;rw [ag] at c4;simp only [List.length_cons] at c4;obtain ⟨b,o,L,av,c8,b6,qs,-,J,-⟩:=h.core.data;have HT:=zH (jQ (by have:=h.core; rw [J] at this; exact this));have co:((fs.length+1:Nat):Int)≠0:=by omega
 have H:=zH h;clear h ag;have he:(bs s:S).toList.isEmpty=false:=by rw [bH,ax]; simpa using ad
 have hl:bU ⟨f::fs,r,c,true⟩ s = .ok ⟨f.more s::fs,r,c,true⟩:=by
  cases s with
  | nil=>exact absurd rfl ad
  | cons x s=>simp [bU]
 rw [hl];have bl:Hid ((bs s:S).size=s.length):=ax s;obtain ⟨Z,U⟩ : ∃ Z:S,Z=bs s:=⟨_,rfl⟩;have al:=zH U;rw [← U] at he ⊢;clear U hl;go_enter Tryz.func123,Tryz.ntmps123
 go_wp2_with fail
 refine HT.out.mono ?_
 rintro e w' ⟨rfl,k,rfl⟩;obtain ⟨b',o',cT,g,a6,z,x,b7,A,hz,hx,hg,hb,ba,b8,hm,q2,q3,f3,q1,X',ac,aa,HB⟩:=((H.out.drewN k).drewN 1).more s hs
 obtain ⟨rfl,rfl⟩:b=b'∧o=o':=by
  rw [J] at A;have:=(List.append_inj' A rfl).2
  simpa using this
 have a0:=zH HB;have c7:=(H.out.drewN k).core.c7;obtain ⟨I,D⟩ : ∃ I:S,I=bs x:=⟨_,rfl⟩
 have b2 : ¬ 9223372036854775807<I.size+Z.size:=by
  rw [D,ax,al.out,bl.out];have:=zY hn
  omega
 have O:I ++ Z=bs (x ++ s):=by rw [D,al.out,cU]
 have bc:=zH O;rw [← D] at q3;clear D HB O J A;have e2:(w.drewN k).cell? ⟨b,o+2,none⟩=some (.slice (some ⟨g,0,none⟩) (z+1) a6):=q2;have e3:(w.drewN k).cell? ⟨g,z*4+3,none⟩=some (.string I):=q3;have ef:(w.drewN k).frozen? ⟨g,z*4+3,none⟩=false:=f3;have eg:g<(w.drewN k).heap.size:=hg;have eb:b<(w.drewN k).heap.size:=hb;have cm:IntKind.i64.wrap (z:Int)=z:=IntWalk.i64_in _ (by omega);have cf:(z:Int)<(z:Int)+1:=by omega
 have b9:(0:Int)≤z:=by omega
 clear q1 q2 q3 f3 hg hb;have ah:Below B w (w.drewN k):=aY (Below.refl _ _) k;have bo:=zH ah
 have a5:Hid (∀ W,W=w.drewN k→gT lo (W.drew.setCell ⟨g,z*4+3,none⟩ (.string (I ++ Z))) B ⟨f.more s::fs,r,c,true⟩ (n+1) X' ac aa):=by
  intro W hW;rw [hW,bc.out];exact a0.out
 have a4:=a5.out (w.drewN k) rfl;have bv:=zH a4;have b4:B<(w.drewN k).heap.size:=hlt;clear ah a0 a5 a4 hlt HT c4;generalize w.drewN k=W at *;go_wp2
 go_still_tail 14,(by kernel_rfl)
 change wpList _ _ _ _ _ W.drew
 go_wp2
 go_ret
 exact ⟨rfl,⟨X',ac,aa,bv.out⟩,bf (aY bo.out 1) g _ _ ba⟩
end Go.Proofs.YtominiaohfjobaaGreatDoor
