/- Rows of nodes of the call's own that grow; walks of pom's leaf and branch; the conditions stand in the theorems. -/
import Derived.Test.YtbbbfjcikhpmbaaGreatJH12
import Derived.Test.YtbbbfjcikhpmbaaGreatJH14
import Derived.Test.YtbbbfjcikhpmbaaGreatJH18
import Derived.Test.YtbbbfjcikhpmbaaGreatJH13
import Derived.Test.YtbbbfjcikhpmbaaGreatJH06
import Derived.Deep.RegionHeld3
import Derived.Deep.CutBlock

namespace Go.Proofs.YtbbbfjcikhpmbaaGreat
open Go Go.RowKit

/-- A row of trees made by the call: all in blocks from b on, no tree in the row's own block. -/
structure Grow (b : Nat) (w : World) (v : Value) (ts : List Tr) (L : List TrV) : Prop where
 are : L.map (·.1) = ts
 own : Owns b 25 4 trC w v L
 nodes : ∀ y ∈ L, NodeX (fun j => j < b ∨ some j = v.ownBlock) w y.1 y.2.1 y.2.2
theorem Grow.len {b : Nat} {w : World} {v : Value} {ts : List Tr} {L : List TrV} (h : Grow b w v ts L) : L.length = ts.length := by rw [← h.are, List.length_map]
theorem Grow.nil (b : Nat) (w : World) : Grow b w (.slice none 0 0) [] [] := ⟨rfl, Owns.nil, by simp⟩
theorem Grow.below {b : Nat} {w w' : World} {v : Value} {ts : List Tr} {L : List TrV} (h : Grow b w v ts L) (hb : Below w.heap.size w w') : Grow b w' v ts L :=
 ⟨h.are, h.own.below hb, fun y hy => (h.nodes y hy).later hb⟩
theorem Grow.lt {b : Nat} {w : World} {v : Value} {ts : List Tr} {L : List TrV} (h : Grow b w v ts L) : ∀ g, v.ownBlock = some g → b ≤ g ∧ g < w.heap.size := h.own.lt
/-- Another row of nodes that stands by itself. -/
theorem Grow.sliceX {b : Nat} {w : World} {v : Value} {ts : List Tr} {L : List TrV} (h : Grow b w v ts L) {X : Nat → Prop} (hX : ∀ g, v.ownBlock = some g → ¬ X g) : SliceX 4 trC X w v L := h.own.toX trC_len hX
/-- One more tree, all of it in blocks from B on, behind the row. -/
theorem Grow.snoc {b : Nat} {w w1 w' : World} {v v' : Value} {ts : List Tr} {L : List TrV} {t : Tr} {av kv : Value} (h : Grow b w v ts L) (hw : Below w.heap.size w w1) (hown : Owns b 25 4 trC w' v' (L ++ [(t, av, kv)])) (hg : w1.grownBy w' v.ownBlock)
    (hl : v'.ownBlock = v.ownBlock ∨ v'.ownBlock = some w1.heap.size) (hn : NodeX (fun j => j < b ∨ some j = v.ownBlock) w1 t av kv) : Grow b w' v' (ts ++ [t]) (L ++ [(t, av, kv)]) := by
 have hY : ∀ k, k < w1.heap.size → (k < b ∨ some k = v'.ownBlock) → (k < b ∨ some k = v.ownBlock) := fun k hk h => h.elim .inl (fun h => by
  rcases hl with e | e
  · exact .inr (by rw [h, e])
  · rw [e] at h; cases h; omega)
 have hk1 : KeptX (fun j => j < b ∨ some j = v.ownBlock) w1 w' := KeptX.grown hg (fun g e => .inr e.symm)
 refine ⟨by rw [List.map_append, h.are]; rfl, hown, fun y hy => ?_⟩
 rcases List.mem_append.1 hy with hy | hy
 · exact ((h.nodes y hy).later hw).keep hk1 hY
 · obtain rfl := List.mem_singleton.1 hy
   exact hn.keep hk1 hY
def leafT (n : Bs) (s : S) : List Tr := if s.toList.isEmpty then [] else [.mk n [] [.mk [] [] [] s.data.toList] []]
def branchT (n : Bs) (l : List Tr) : List Tr := match l with
 | [] => []
 | k :: r => [.mk n [] (k :: r) []]
theorem tr_one (n : Bs) (a1 a3 : Option Addr) (l1 l3 c1 c3 : Nat) (x : Bs) (ats : List At2) (ks : List Tr) : ∀ u ∈ trC (.mk n ats ks x, .slice a1 l1 c1, .slice a3 l3 c3), u.oneCell' = true := by
 intro u hu
 simp only [trC, nodeC, List.mem_cons, List.not_mem_nil, or_false] at hu
 rcases hu with rfl | rfl | rfl | rfl <;> rfl
theorem tr_lit (y : TrV) (W : World) (H : Nat) (hH : W.heap.size = H) : SliceOf 4 trC (W.alloc (.cells (trC y).toArray 25)) (.slice (some ⟨H, 0, none⟩) 1 1) [y] := by
 have h := sliceLit trC_len W [y] 25 H 1 hH rfl (by unfold maxLen; simp)
 simpa using h
/-- A leaf just made. -/
theorem leaf_node (X : Nat → Prop) (n x : Bs) (w : World) (H : Nat) (hH : w.heap.size = H) (hX : ¬ X H) : NodeX X (w.alloc (.cells #[.string ⟨#[]⟩, .slice none 0 0, .slice none 0 0, .string (bs x)] 25)) (.mk n [] [.mk [] [] [] x] []) (.slice none 0 0) (.slice (some ⟨H, 0, none⟩) 1 1) := by
 have hl := tr_lit ((.mk [] [] [] x, .slice none 0 0, .slice none 0 0) : TrV) w H hH
 refine .mk [(.mk [] [] [] x, .slice none 0 0, .slice none 0 0)] SliceX.nil rfl ?_ ?_
 · obtain ⟨ao, cap, e, h1, h2, h3, h4⟩ := hl
   simp only [Value.slice.injEq] at e
   obtain ⟨rfl, -, rfl⟩ := e
   refine ⟨_, _, rfl, h1, h2, h3, fun i y hy => ?_⟩
   obtain ⟨g, o, e1, e2, e3⟩ := h4 i y hy
   cases e1
   exact ⟨_, _, rfl, e2, hX, e3⟩
 · intro y hy
   obtain rfl := List.mem_singleton.1 hy
   exact .mk [] SliceX.nil rfl SliceX.nil (by simp)
/-- The post of a function that lets a row grow. -/
def GrowP (b : Nat) (w : World) (v : Value) (ts : List Tr) (e : Ending) (w' : World) : Prop := ∃ v' L', e = .returned v' ∧ Grow b w' v' ts L' ∧ w.grownBy w' v.ownBlock ∧ (v'.ownBlock = v.ownBlock ∨ ∃ g, v'.ownBlock = some g ∧ w.heap.size ≤ g)
set_option maxRecDepth 100000 in
set_option maxHeartbeats 4000000 in
theorem leafQ_any (b : Nat) (v : Value) (ts : List Tr) (L : List TrV) (n : Bs) (s : S) (w : World) (h : Grow b w v ts L) (hb : b ≤ w.heap.size) (hl : ts.length ≤ 100000) :
    Calls Tryz.prog 54 #[v, .string (bs n), .string s] w (GrowP b w v (ts ++ leafT n s)) := by
 have hLl := h.len
 obtain ⟨ao, ac, rfl⟩ := h.own.shape
 have HG := Lib.hid h
 have HLL := Lib.hid hLl
 have HLM : Hid (L.length ≤ 100000) := by show _ ≤ _; omega
 have HBW : Hid (b ≤ w.heap.size) := hb
 obtain ⟨em, hem⟩ : ∃ em, em = s.toList.isEmpty := ⟨_, rfl⟩
 have HE : Hid (leafT n s = if em then [] else [.mk n [] [.mk [] [] [] s.data.toList] []]) := by show _ = _; rw [hem]; rfl
 have hE : s.toList.isEmpty = em := hem.symm
 clear h hLl hl hb hem
 cases em with
 | true =>
  have HT : Hid (leafT n s = []) := HE.out
  clear HE
  go_enter Tryz.func54, Tryz.ntmps54
  go_wp2
  go_ret
  refine ⟨_, L, rfl, ?_, World.grownBy.refl _ _, .inl rfl⟩
  rw [HT.out, List.append_nil]
  exact HG.out
 | false =>
  have HT : Hid (leafT n s = [.mk n [] [.mk [] [] [] s.data.toList] []]) := HE.out
  have HA : Hid (∀ o1, Grow b (w.alloc o1) (.slice ao L.length ac) ts L) := fun o1 => HG.out.below ((Below.refl _ w).alloc (Nat.le_refl _) o1)
  have HA2 : Hid (∀ o1 o2, Grow b ((w.alloc o1).alloc o2) (.slice ao L.length ac) ts L) := fun o1 o2 => HG.out.below (((Below.refl _ w).alloc (Nat.le_refl _) o1).alloc (by simp) o2)
  have HLT : Hid (SliceOf 4 trC ((w.alloc (.cells #[.string ⟨#[]⟩, .slice none 0 0, .slice none 0 0, .string s] 25)).alloc (.cells #[.string (bs n), .slice none 0 0, .slice (some ⟨w.heap.size, 0, none⟩) 1 1, .string ⟨#[]⟩] 25)) (.slice (some ⟨w.heap.size + 1, 0, none⟩) 1 1) [((.mk n [] [.mk [] [] [] s.data.toList] [], .slice none 0 0, .slice (some ⟨w.heap.size, 0, none⟩) 1 1) : TrV)]) := tr_lit (.mk n [] [.mk [] [] [] s.data.toList] [], .slice none 0 0, .slice (some ⟨w.heap.size, 0, none⟩) 1 1) (w.alloc _) (w.heap.size + 1) (by simp)
  have HND : Hid (NodeX (fun j => j < b ∨ some j = (Value.slice ao L.length ac).ownBlock) ((w.alloc (.cells #[.string ⟨#[]⟩, .slice none 0 0, .slice none 0 0, .string s] 25)).alloc (.cells #[.string (bs n), .slice none 0 0, .slice (some ⟨w.heap.size, 0, none⟩) 1 1, .string ⟨#[]⟩] 25)) (.mk n [] [.mk [] [] [] s.data.toList] []) (.slice none 0 0) (.slice (some ⟨w.heap.size, 0, none⟩) 1 1)) := by
   have h1 := leaf_node (fun j => j < b ∨ some j = (Value.slice ao L.length ac).ownBlock) n s.data.toList w w.heap.size rfl (fun h => h.elim (fun h => absurd HBW.out (by omega)) (fun h => by have := (HG.out.lt _ h.symm).2; omega))
   rw [data_bs] at h1
   exact h1.later ((Below.refl _ _).alloc (Nat.le_refl _) _)
  go_enter Tryz.func54, Tryz.ntmps54
  go_wp2_with (at_builtin; refine wpList_append_slice _ rfl _ _ 23 rfl b 25 Tryz.underlying23 info_node rfl (by decide) trC_len (.slice ao L.length ac) L rfl (HA2.out _ _).own _ [((.mk n [] [.mk [] [] [] s.data.toList] [], .slice none 0 0, .slice (some ⟨w.heap.size, 0, none⟩) 1 1) : TrV)] rfl HLT.out (fun y hy => by obtain rfl := List.mem_singleton.1 hy; exact tr_one _ _ _ _ _ _ _ _ _ _) (by have h1 := HLM.out; simp only [List.length_cons, List.length_nil]; omega) (by decide) (by have h1 := HBW.out; simp; omega) ?_; intro v9 w9 hown9 hgrow9 hloc9; have HO9 := Lib.hid hown9; have HG9 := Lib.hid hgrow9; have HL9 := Lib.hid hloc9; clear hown9 hgrow9 hloc9)
  go_ret
  have hal : Below w.heap.size w ((w.alloc (.cells #[.string ⟨#[]⟩, .slice none 0 0, .slice none 0 0, .string s] 25)).alloc (.cells #[.string (bs n), .slice none 0 0, .slice (some ⟨w.heap.size, 0, none⟩) 1 1, .string ⟨#[]⟩] 25)) := ((Below.refl _ w).alloc (Nat.le_refl _) _).alloc (by simp) _
  refine ⟨v9, L ++ [(.mk n [] [.mk [] [] [] s.data.toList] [], .slice none 0 0, .slice (some ⟨w.heap.size, 0, none⟩) 1 1)], rfl, ?_, grown_after hal HG9.out, ?_⟩
  · rw [HT.out]
    exact HG.out.snoc hal HO9.out HG9.out HL9.out HND.out
  · exact HL9.out.imp id (fun h => ⟨_, h, by simp; omega⟩)
set_option maxRecDepth 100000 in
set_option maxHeartbeats 4000000 in
theorem branchQ_any (b kb : Nat) (v kv : Value) (ts ks : List Tr) (L KL : List TrV) (n : Bs) (w : World) (h : Grow b w v ts L) (hk : Grow kb w kv ks KL) (hb : b ≤ kb) (hv : ∀ g, v.ownBlock = some g → g < kb) (hbw : b ≤ w.heap.size) (hl : ts.length ≤ 100000) :
    Calls Tryz.prog 53 #[v, .string (bs n), kv] w (GrowP b w v (ts ++ branchT n ks)) := by
 have hLl := h.len
 have hKl := hk.len
 have hkm : KL.length ≤ 9223372036854775807 := by obtain ⟨a, c, e, h2, h3, -⟩ := hk.own.slice trC_len; exact Nat.le_trans h2 (Nat.le_trans h3 (by decide))
 obtain ⟨ao, ac, rfl⟩ := h.own.shape
 obtain ⟨ko, kc, rfl⟩ := hk.own.shape
 have HG := Lib.hid h
 have HK := Lib.hid hk
 have HLL := Lib.hid hLl
 have HLM : Hid (L.length ≤ 100000) := by show _ ≤ _; omega
 have HBK : Hid (b ≤ kb) := hb
 have HBW : Hid (b ≤ w.heap.size) := hbw
 have HV := Lib.hid hv
 clear h hk hLl hl hb hv hbw
 by_cases h0 : KL.length = 0
 · have HT : Hid (branchT n ks = []) := by
    show _ = _
    have : ks = [] := List.eq_nil_of_length_eq_zero (by omega)
    rw [this]; rfl
   have hz : ((KL.length : Int) == 0) = true := by rw [h0]; rfl
   clear hKl
   go_enter Tryz.func53, Tryz.ntmps53
   go_wp2
   go_ret
   refine ⟨_, L, rfl, ?_, World.grownBy.refl _ _, .inl rfl⟩
   rw [HT.out, List.append_nil]
   exact HG.out
 · have HT : Hid (branchT n ks = [.mk n [] ks []]) := by
    show _ = _
    cases ks with
    | nil => exact absurd hKl h0
    | cons k r => rfl
   have hz : ((KL.length : Int) == 0) = false := beq_eq_false_iff_ne.2 (by omega)
   have HA : Hid (∀ o1, Grow b (w.alloc o1) (.slice ao L.length ac) ts L) := fun o1 => HG.out.below ((Below.refl _ w).alloc (Nat.le_refl _) o1)
   have HLT : Hid (SliceOf 4 trC (w.alloc (.cells #[.string (bs n), .slice none 0 0, .slice ko KL.length kc, .string ⟨#[]⟩] 25)) (.slice (some ⟨w.heap.size, 0, none⟩) 1 1) [((.mk n [] ks [], .slice none 0 0, .slice ko KL.length kc) : TrV)]) := tr_lit (.mk n [] ks [], .slice none 0 0, .slice ko KL.length kc) w w.heap.size rfl
   have HND : Hid (NodeX (fun j => j < b ∨ some j = (Value.slice ao L.length ac).ownBlock) w (.mk n [] ks []) (.slice none 0 0) (.slice ko KL.length kc)) := by
    refine .mk KL SliceX.nil HK.out.are (HK.out.sliceX ?_) (fun y hy => (HK.out.nodes y hy).keep (KeptX.refl _ _) ?_)
    · intro g hg hX
      have h1 := (HK.out.lt g hg).1
      have h2 := HBK.out
      rcases hX with hX | hX
      · omega
      · have := HV.out g hX.symm; omega
    · intro j _ hX
      have h2 := HBK.out
      rcases hX with hX | hX
      · exact .inl (by omega)
      · exact .inl (HV.out j hX.symm)
   clear hKl h0
   go_enter Tryz.func53, Tryz.ntmps53
   go_wp2_with (at_builtin; refine wpList_append_slice _ rfl _ _ 23 rfl b 25 Tryz.underlying23 info_node rfl (by decide) trC_len (.slice ao L.length ac) L rfl (HA.out _).own _ [((.mk n [] ks [], .slice none 0 0, .slice ko KL.length kc) : TrV)] rfl HLT.out (fun y hy => by obtain rfl := List.mem_singleton.1 hy; exact tr_one _ _ _ _ _ _ _ _ _ _) (by have h1 := HLM.out; simp only [List.length_cons, List.length_nil]; omega) (by decide) (by have h1 := HBW.out; simp; omega) ?_; intro v9 w9 hown9 hgrow9 hloc9; have HO9 := Lib.hid hown9; have HG9 := Lib.hid hgrow9; have HL9 := Lib.hid hloc9; clear hown9 hgrow9 hloc9)
   go_ret
   have hal : Below w.heap.size w (w.alloc (.cells #[.string (bs n), .slice none 0 0, .slice ko KL.length kc, .string ⟨#[]⟩] 25)) := (Below.refl _ w).alloc (Nat.le_refl _) _
   refine ⟨v9, L ++ [(.mk n [] ks [], .slice none 0 0, .slice ko KL.length kc)], rfl, ?_, grown_after hal HG9.out, ?_⟩
   · rw [HT.out]
     exact HG.out.snoc hal HO9.out HG9.out HL9.out (HND.out.later hal)
   · exact HL9.out.imp id (fun h => ⟨_, h, by simp⟩)

end Go.Proofs.YtbbbfjcikhpmbaaGreat

/- The walk of pom.writeDeps; the conditions stand in the theorem. -/
namespace Go.Proofs.YtbbbfjcikhpmbaaGreat
open Go Go.RowKit

def exT (x : Id) : Tr := .mk bExclusion [] (leafT bGroup x.group ++ leafT bArtifact x.artifact) []
def optT (n : Int) : List Tr := if n = 1 then leafT bOptional (bs bTrue) else if n = 2 then leafT bOptional (bs bFalse) else []
def depT (d : Dep) : Tr := .mk bDependency [] ((((((([] ++ leafT bGroup d.group) ++ leafT bArtifact d.artifact) ++ leafT bVersion d.version) ++ leafT bType d.type) ++ leafT bClassifier d.classifier) ++ leafT bScope (bs (wordB d.scope))) ++ optT d.opt ++ branchT bExclusions (d.excl.map exT)) []
def depsT (ds : List Dep) : List Tr := branchT bDependencies (ds.map depT)
theorem below_own {B : Nat} {w w' : World} {row : Option Nat} (hg : w.grownBy w' row) (hX : ∀ g, row = some g → B ≤ g) (hs : B ≤ w.heap.size) : Below B w w' :=
 ⟨hg.os, hg.tape, hg.output, hg.size, fun k hk => hg.block k (by omega) (fun e => by have := hX k e.symm; omega)⟩
theorem Grow.node {kb : Nat} {w : World} {kv : Value} {ks : List Tr} {KL : List TrV} (h : Grow kb w kv ks KL) (n : Bs) {X : Nat → Prop} (hX : ∀ j, X j → j < kb) : NodeX X w (.mk n [] ks []) (.slice none 0 0) kv :=
 .mk KL SliceX.nil h.are (h.sliceX (fun g hg hx => by have h1 := (h.lt g hg).1; have h2 := hX g hx; omega)) (fun y hy => (h.nodes y hy).keep (KeptX.refl _ _) (fun k _ hx => .inl (hX k hx)))
theorem leafT_len (n : Bs) (s : S) : (leafT n s).length ≤ 1 := by unfold leafT; split <;> simp
theorem optT_len (n : Int) : (optT n).length ≤ 1 := by
 unfold optT
 split
 · exact leafT_len _ _
 · split
   · exact leafT_len _ _
   · simp
theorem leaf_len {ts : List Tr} {m : Nat} (h : ts.length ≤ m) (n : Bs) (s : S) : (ts ++ leafT n s).length ≤ m + 1 := by rw [List.length_append]; have := leafT_len n s; omega
set_option maxRecDepth 100000 in
set_option maxHeartbeats 16000000 in
theorem writeDepsQ_any (b : Nat) (v dv : Value) (ts : List Tr) (L : List TrV) (ds : List Dep) (w : World) (h : Grow b w v ts L) (hd : DepsOf w dv ds) (hb : b ≤ w.heap.size) (hl : ts.length ≤ 10000) (hn : ds.length ≤ 2000) (hx : ∀ d ∈ ds, d.excl.length ≤ 2000) :
    Calls Tryz.prog 55 #[v, dv] w (GrowP b w v (ts ++ depsT ds)) := by
 have hLl := h.len
 obtain ⟨ao, ac, rfl⟩ := h.own.shape
 obtain ⟨l, hel, hdl, hdo⟩ := hd
 have hlen : l.length = ds.length := by rw [← hel, List.length_map]
 obtain ⟨lo, lc, rfl⟩ := hdl.shape
 have HG := Lib.hid h
 have HDL := Lib.hid hdl
 have HDO := Lib.hid hdo
 have HEL := Lib.hid hel
 have HXN : Hid (∀ q ∈ l, q.1.excl.length ≤ 2000) := fun q hq => hx _ (by rw [← hel]; exact List.mem_map.2 ⟨q, hq, rfl⟩)
 have HTS : Hid (ts.length ≤ 100000) := by show _ ≤ _; omega
 have HLN : Hid (l.length ≤ 2000) := by show _ ≤ _; omega
 have HBW0 : Hid (b ≤ w.heap.size) := hb
 clear h hel hdl hdo hx hlen hl hn hb hLl
 go_enter Tryz.func55, Tryz.ntmps55
 go_wp2
 go_loopw [5, 14] (fun av i wr => ∃ (k : Nat) (oa : Option Addr) (oc : Nat) (AL : List TrV), k ≤ l.length ∧ i = .int .i64 k ∧ av = .slice oa AL.length oc ∧ Hid (Below w.heap.size w wr ∧ Grow w.heap.size wr (.slice oa AL.length oc) ((l.take k).map (fun q => depT q.1)) AL)) (fun _ i _ => l.length - (intOf i).toNat)
 case atStart => exact ⟨0, none, 0, [], Nat.zero_le _, rfl, rfl, Below.refl _ _, Grow.nil _ _⟩
 case round =>
  obtain ⟨k, oa, oc, AL, hk, rfl, rfl, HRR⟩ := hrel
  by_cases hlt : k < l.length
  · have HTK := Lib.hid (List.take_succ_eq_append_getElem hlt)
    have HXK := Lib.hid (HXN.out l[k] (List.getElem_mem hlt))
    have hok := (HDO.out l[k] (List.getElem_mem hlt)).below HRR.out.1
    obtain ⟨g, o, rfl, hg, c0, c1, c2, c3, c4, c5, c6, c7⟩ := (HDL.out.below HRR.out.1).atDep hlt
    have hsr := HRR.out.1.size
    have HLT : Hid (k < l.length) := hlt
    have hkI : (k : Int) < (l.length : Int) := by omega
    have hk20 : k < 2000 := by have := HLN.out; omega
    generalize l[k] = q at *
    obtain ⟨d, dx⟩ := q
    obtain ⟨xo, xc, rfl⟩ := hok.shape
    simp only at c0 c1 c2 c3 c4 c5 c6 c7
    have HOK : Hid (SliceOf 2 idC wr (.slice xo d.excl.length xc) d.excl) := hok
    clear hok
    go_upto_region 5 with fail
    refine wp_world ?_
    intro W4 hW4
    have x4 : Box W4 wr.heap.size [.string d.group, .string d.artifact, .string d.version, .string d.type, .string d.classifier, .int .i64 d.scope, .int .i64 d.opt, .slice xo d.excl.length xc] := by rw [hW4]; exact Box.new wr [.string d.group, .string d.artifact, .string d.version, .string d.type, .string d.classifier, .int .i64 d.scope, .int .i64 d.opt, .slice xo d.excl.length xc] _ _ rfl
    have hb4 : Below wr.heap.size wr W4 := by rw [hW4]; exact (Below.refl _ _).alloc (Nat.le_refl _) _
    clear hW4 c0 c1 c2 c3 c4 c5 c6 c7
    have HD4 := Lib.hid x4
    have HD := Lib.hid x4
    have HB4 := Lib.hid hb4
    have HAL4 := Lib.hid (HRR.out.2.below hb4)
    have HOK4 := Lib.hid (HOK.out.below hb4)
    have HSW : Hid (w.heap.size ≤ W4.heap.size) := by show _ ≤ _; have := hb4.size; omega
    have HK := Lib.hid (Grow.nil W4.heap.size W4)
    have HBW := Lib.hid (Below.refl W4.heap.size W4)
    have HKL : Hid (([] : List Tr).length ≤ 1000) := by show _ ≤ _; simp
    clear x4 hb4 HOK
    obtain ⟨d0, d1, d2, d3, d4, d5, d6, d7⟩ := bxc8 HD.out
    have dl := HD.out.lt
    go_wp2_with fail
    refine (leafQ_any W4.heap.size _ _ _ bGroup d.group _ HK.out HBW.out.size (Nat.le_trans HKL.out (by decide))).mono ?_
    intro e w7 hO
    obtain ⟨kv7, KL7, rfl, hk7, hg7, hl7⟩ := hO
    have HB7 := Lib.hid (below_own hg7 (fun g hg => (HK.out.lt g hg).1) HBW.out.size)
    have HK7 := Lib.hid hk7
    have HBW7 := Lib.hid (HBW.out.trans HB7.out)
    have HD7 := Lib.hid (HD4.out.below HBW7.out HD4.out.lt)
    obtain ⟨ko7, kc7, rfl⟩ := hk7.own.shape
    have HKL7 := Lib.hid (leaf_len HKL.out bGroup d.group)
    clear d0 d1 d2 d3 d4 d5 d6 d7 dl
    clear hk7 hg7 hl7 HB7 HK HBW HD HKL
    have HK := HK7
    have HBW := HBW7
    have HD := HD7
    have HKL := HKL7
    clear HK7 HBW7 HD7 HKL7
    obtain ⟨d0, d1, d2, d3, d4, d5, d6, d7⟩ := bxc8 HD.out
    have dl := HD.out.lt
    go_wp2_with fail
    refine (leafQ_any W4.heap.size _ _ _ bArtifact d.artifact _ HK.out HBW.out.size (Nat.le_trans HKL.out (by decide))).mono ?_
    intro e w7 hO
    obtain ⟨kv7, KL7, rfl, hk7, hg7, hl7⟩ := hO
    have HB7 := Lib.hid (below_own hg7 (fun g hg => (HK.out.lt g hg).1) HBW.out.size)
    have HK7 := Lib.hid hk7
    have HBW7 := Lib.hid (HBW.out.trans HB7.out)
    have HD7 := Lib.hid (HD4.out.below HBW7.out HD4.out.lt)
    obtain ⟨ko7, kc7, rfl⟩ := hk7.own.shape
    have HKL7 := Lib.hid (leaf_len HKL.out bArtifact d.artifact)
    clear d0 d1 d2 d3 d4 d5 d6 d7 dl
    clear hk7 hg7 hl7 HB7 HK HBW HD HKL
    have HK := HK7
    have HBW := HBW7
    have HD := HD7
    have HKL := HKL7
    clear HK7 HBW7 HD7 HKL7
    obtain ⟨d0, d1, d2, d3, d4, d5, d6, d7⟩ := bxc8 HD.out
    have dl := HD.out.lt
    go_wp2_with fail
    refine (leafQ_any W4.heap.size _ _ _ bVersion d.version _ HK.out HBW.out.size (Nat.le_trans HKL.out (by decide))).mono ?_
    intro e w7 hO
    obtain ⟨kv7, KL7, rfl, hk7, hg7, hl7⟩ := hO
    have HB7 := Lib.hid (below_own hg7 (fun g hg => (HK.out.lt g hg).1) HBW.out.size)
    have HK7 := Lib.hid hk7
    have HBW7 := Lib.hid (HBW.out.trans HB7.out)
    have HD7 := Lib.hid (HD4.out.below HBW7.out HD4.out.lt)
    obtain ⟨ko7, kc7, rfl⟩ := hk7.own.shape
    have HKL7 := Lib.hid (leaf_len HKL.out bVersion d.version)
    clear d0 d1 d2 d3 d4 d5 d6 d7 dl
    clear hk7 hg7 hl7 HB7 HK HBW HD HKL
    have HK := HK7
    have HBW := HBW7
    have HD := HD7
    have HKL := HKL7
    clear HK7 HBW7 HD7 HKL7
    obtain ⟨d0, d1, d2, d3, d4, d5, d6, d7⟩ := bxc8 HD.out
    have dl := HD.out.lt
    go_wp2_with fail
    refine (leafQ_any W4.heap.size _ _ _ bType d.type _ HK.out HBW.out.size (Nat.le_trans HKL.out (by decide))).mono ?_
    intro e w7 hO
    obtain ⟨kv7, KL7, rfl, hk7, hg7, hl7⟩ := hO
    have HB7 := Lib.hid (below_own hg7 (fun g hg => (HK.out.lt g hg).1) HBW.out.size)
    have HK7 := Lib.hid hk7
    have HBW7 := Lib.hid (HBW.out.trans HB7.out)
    have HD7 := Lib.hid (HD4.out.below HBW7.out HD4.out.lt)
    obtain ⟨ko7, kc7, rfl⟩ := hk7.own.shape
    have HKL7 := Lib.hid (leaf_len HKL.out bType d.type)
    clear d0 d1 d2 d3 d4 d5 d6 d7 dl
    clear hk7 hg7 hl7 HB7 HK HBW HD HKL
    have HK := HK7
    have HBW := HBW7
    have HD := HD7
    have HKL := HKL7
    clear HK7 HBW7 HD7 HKL7
    obtain ⟨d0, d1, d2, d3, d4, d5, d6, d7⟩ := bxc8 HD.out
    have dl := HD.out.lt
    go_wp2_with fail
    refine (leafQ_any W4.heap.size _ _ _ bClassifier d.classifier _ HK.out HBW.out.size (Nat.le_trans HKL.out (by decide))).mono ?_
    intro e w7 hO
    obtain ⟨kv7, KL7, rfl, hk7, hg7, hl7⟩ := hO
    have HB7 := Lib.hid (below_own hg7 (fun g hg => (HK.out.lt g hg).1) HBW.out.size)
    have HK7 := Lib.hid hk7
    have HBW7 := Lib.hid (HBW.out.trans HB7.out)
    have HD7 := Lib.hid (HD4.out.below HBW7.out HD4.out.lt)
    obtain ⟨ko7, kc7, rfl⟩ := hk7.own.shape
    have HKL7 := Lib.hid (leaf_len HKL.out bClassifier d.classifier)
    clear d0 d1 d2 d3 d4 d5 d6 d7 dl
    clear hk7 hg7 hl7 HB7 HK HBW HD HKL
    have HK := HK7
    have HBW := HBW7
    have HD := HD7
    have HKL := HKL7
    clear HK7 HBW7 HD7 HKL7
    obtain ⟨d0, d1, d2, d3, d4, d5, d6, d7⟩ := bxc8 HD.out
    have dl := HD.out.lt
    go_wp2_with fail
    refine (word_any d.scope _).mono ?_
    rintro e w6 ⟨rfl, hw6⟩
    obtain rfl := hw6
    go_wp2_with fail
    refine (leafQ_any W4.heap.size _ _ _ bScope (bs (wordB d.scope)) _ HK.out HBW.out.size (Nat.le_trans HKL.out (by decide))).mono ?_
    intro e w7 hO
    obtain ⟨kv7, KL7, rfl, hk7, hg7, hl7⟩ := hO
    have HB7 := Lib.hid (below_own hg7 (fun g hg => (HK.out.lt g hg).1) HBW.out.size)
    have HK7 := Lib.hid hk7
    have HBW7 := Lib.hid (HBW.out.trans HB7.out)
    have HD7 := Lib.hid (HD4.out.below HBW7.out HD4.out.lt)
    obtain ⟨ko7, kc7, rfl⟩ := hk7.own.shape
    have HKL7 := Lib.hid (leaf_len HKL.out bScope (bs (wordB d.scope)))
    clear d0 d1 d2 d3 d4 d5 d6 d7 dl
    clear hk7 hg7 hl7 HB7 HK HBW HD HKL
    have HK := HK7
    have HBW := HBW7
    have HD := HD7
    have HKL := HKL7
    clear HK7 HBW7 HD7 HKL7
    obtain ⟨K6, hK6⟩ : ∃ X, X = ([] ++ leafT bGroup d.group ++ leafT bArtifact d.artifact ++ leafT bVersion d.version ++ leafT bType d.type ++ leafT bClassifier d.classifier ++ leafT bScope (bs (wordB d.scope))) := ⟨_, rfl⟩
    rw [← hK6] at HK HKL
    have HK6 := Lib.hid hK6
    clear hK6
    obtain ⟨d0, d1, d2, d3, d4, d5, d6, d7⟩ := bxc8 HD.out
    have dl := HD.out.lt
    go_upto_block 2 with fail
    clear d0 d1 d2 d3 d4 d5 d6 d7 dl
    go_cut [8] from 45 to 52 (fun kvx wx => ∃ ko kc KL, kvx = .slice ko (KL : List TrV).length kc ∧ Hid (Grow W4.heap.size wx (.slice ko KL.length kc) (K6 ++ optT d.opt) KL ∧ Below W4.heap.size W4 wx))
    case first =>
     by_cases h1 : d.opt = 1
     · have HOP : Hid (optT d.opt = leafT bOptional (bs bTrue)) := by show _ = _; unfold optT; rw [if_pos h1]
       have k1 : (d.opt == 1) = true := by rw [h1]; rfl
       clear h1
       obtain ⟨d0, d1, d2, d3, d4, d5, d6, d7⟩ := bxc8 HD.out
       have dl := HD.out.lt
       go_wp2_with fail
       refine (leafQ_any W4.heap.size _ _ _ bOptional (bs bTrue) _ HK.out HBW.out.size (Nat.le_trans HKL.out (by decide))).mono ?_
       intro e w7 hO
       obtain ⟨kv7, KL7, rfl, hk7, hg7, hl7⟩ := hO
       have HB7 := Lib.hid (below_own hg7 (fun g hg => (HK.out.lt g hg).1) HBW.out.size)
       have HK7 := Lib.hid hk7
       have HBW7 := Lib.hid (HBW.out.trans HB7.out)
       obtain ⟨ko7, kc7, rfl⟩ := hk7.own.shape
       clear d0 d1 d2 d3 d4 d5 d6 d7 dl
       clear hk7 hg7 hl7 HB7
       go_wp2
       go_meet
       case rel => exact ⟨_, _, _, rfl, by rw [HOP.out]; exact HK7.out, HBW7.out⟩
     · by_cases h2 : d.opt = 2
       · have HOP : Hid (optT d.opt = leafT bOptional (bs bFalse)) := by show _ = _; unfold optT; rw [if_neg h1, if_pos h2]
         have k1 : (d.opt == 1) = false := beq_eq_false_iff_ne.2 h1
         have k2 : (d.opt == 2) = true := by rw [h2]; rfl
         clear h1 h2
         obtain ⟨d0, d1, d2, d3, d4, d5, d6, d7⟩ := bxc8 HD.out
         have dl := HD.out.lt
         go_wp2_with fail
         refine (leafQ_any W4.heap.size _ _ _ bOptional (bs bFalse) _ HK.out HBW.out.size (Nat.le_trans HKL.out (by decide))).mono ?_
         intro e w7 hO
         obtain ⟨kv7, KL7, rfl, hk7, hg7, hl7⟩ := hO
         have HB7 := Lib.hid (below_own hg7 (fun g hg => (HK.out.lt g hg).1) HBW.out.size)
         have HK7 := Lib.hid hk7
         have HBW7 := Lib.hid (HBW.out.trans HB7.out)
         obtain ⟨ko7, kc7, rfl⟩ := hk7.own.shape
         clear d0 d1 d2 d3 d4 d5 d6 d7 dl
         clear hk7 hg7 hl7 HB7
         go_wp2
         go_meet
         case rel => exact ⟨_, _, _, rfl, by rw [HOP.out]; exact HK7.out, HBW7.out⟩
       · have HOP : Hid (optT d.opt = []) := by show _ = _; unfold optT; rw [if_neg h1, if_neg h2]
         have k1 : (d.opt == 1) = false := beq_eq_false_iff_ne.2 h1
         have k2 : (d.opt == 2) = false := beq_eq_false_iff_ne.2 h2
         have HKK := Lib.hid HK.out.own.shape
         clear h1 h2
         obtain ⟨ko7, kc7, hkv⟩ := HKK.out
         go_wp2
         go_meet
         case rel => exact ⟨_, _, _, rfl, by rw [HOP.out, List.append_nil]; exact HK.out, HBW.out⟩
    case rest =>
     obtain ⟨ko, kc, KL, rfl, hcc⟩ := hcut
     have HKQ := Lib.hid hcc.out.1
     have HBQ := Lib.hid hcc.out.2
     clear hcc HK HBW HD
     have HD := Lib.hid (HD4.out.below HBQ.out HD4.out.lt)
     have HOKC := Lib.hid (HOK4.out.below HBQ.out)
     have HSC : Hid (W4.heap.size ≤ wc.heap.size) := HBQ.out.size
     obtain ⟨d0, d1, d2, d3, d4, d5, d6, d7⟩ := bxc8 HD.out
     have dl := HD.out.lt
     go_wp2
     clear d0 d1 d2 d3 d4 d5 d6 d7 dl
     obtain ⟨wo, rfl⟩ : ∃ wo : World, wo = wr := ⟨_, rfl⟩
     go_loopw [9, 56] (fun xv i wr => ∃ (j : Nat) (eo : Option Addr) (ec : Nat) (XL : List TrV), j ≤ d.excl.length ∧ i = .int .i64 j ∧ xv = .slice eo XL.length ec ∧ Hid (Below wc.heap.size wc wr ∧ Grow wc.heap.size wr (.slice eo XL.length ec) ((d.excl.take j).map exT) XL)) (fun _ i _ => d.excl.length - (intOf i).toNat)
     case atStart => exact ⟨0, none, 0, [], Nat.zero_le _, rfl, rfl, Below.refl _ _, Grow.nil _ _⟩
     case round =>
      obtain ⟨j, eo, ec, XL, hj, rfl, rfl, HJJ⟩ := hrel
      by_cases hjl : j < d.excl.length
      · have HTJ := Lib.hid (List.take_succ_eq_append_getElem hjl)
        obtain ⟨g2, o2, hgo, hg2, c0, c1⟩ := (HOKC.out.below HJJ.out.1).atId hjl
        have hsj := HJJ.out.1.size
        have HXL : Hid (XL.length ≤ 2000) := by
         show _ ≤ _
         have h1 := HJJ.out.2.len
         rw [List.length_map, List.length_take] at h1
         have := HXK.out
         omega
        have HJT : Hid (j < d.excl.length) := hjl
        have hj20 : j < 2000 := by have h9 : d.excl.length ≤ 2000 := HXK.out; omega
        have hjI : (j : Int) < (d.excl.length : Int) := by omega
        subst hgo
        generalize d.excl[j] = y at *
        obtain ⟨y1, y2⟩ := y
        simp only at c0 c1
        go_upto_region 20 with fail
        refine wp_world ?_
        intro W19 hW19
        have x9 : Box W19 wr.heap.size [.string y1, .string y2] := by rw [hW19]; exact Box.new wr [.string y1, .string y2] _ _ rfl
        have hb9 : Below wr.heap.size wr W19 := by rw [hW19]; exact (Below.refl _ _).alloc (Nat.le_refl _) _
        clear hW19 c0 c1
        have HX9 := Lib.hid x9
        have HB9 := Lib.hid hb9
        have HXG := Lib.hid (HJJ.out.2.below hb9)
        have HXO : Hid (∀ g, (Value.slice eo XL.length ec).ownBlock = some g → g < wr.heap.size) := fun g hg => (HJJ.out.2.lt g hg).2
        have HSW9 : Hid (wr.heap.size < W19.heap.size) := x9.lt
        have a0 := x9.cell 0 _ rfl
        have a1 := x9.cell 1 _ rfl
        have al := x9.lt
        clear x9 hb9
        have HC1 : Hid (∀ X, Below W19.heap.size W19 X → Calls Tryz.prog 54 #[.slice none 0 0, .string ⟨#[103, 114, 111, 117, 112, 73, 100]⟩, .string y1] X fun e w' => ∃ v1o v1c L1, e = .returned (.slice v1o (L1 : List TrV).length v1c) ∧ Hid (Grow W19.heap.size w' (.slice v1o L1.length v1c) ([] ++ leafT bGroup y1) L1 ∧ Below W19.heap.size W19 w')) := fun X h => (leafQ_any W19.heap.size _ [] [] bGroup y1 X (Grow.nil _ _) h.size (by simp)).mono fun e w' ⟨v', L', h1, h2, h3, h4⟩ => by
         obtain ⟨v1o, v1c, rfl⟩ := h2.own.shape
         exact ⟨v1o, v1c, L', h1, h2, h.trans (below_own h3 (by simp [Value.ownBlock]) h.size)⟩
        have HC2 : Hid (∀ X v1o v1c L1, Grow W19.heap.size X (.slice v1o (L1 : List TrV).length v1c) ([] ++ leafT bGroup y1) L1 ∧ Below W19.heap.size W19 X → Calls Tryz.prog 54 #[.slice v1o L1.length v1c, .string ⟨#[97, 114, 116, 105, 102, 97, 99, 116, 73, 100]⟩, .string y2] X fun e w' => ∃ v2o v2c L2, e = .returned (.slice v2o (L2 : List TrV).length v2c) ∧ Hid (Grow W19.heap.size w' (.slice v2o L2.length v2c) ([] ++ leafT bGroup y1 ++ leafT bArtifact y2) L2 ∧ Below W19.heap.size W19 w')) := fun X v1o v1c L1 h => (leafQ_any W19.heap.size _ _ L1 bArtifact y2 X h.1 h.2.size (by have := leafT_len bGroup y1; simp; omega)).mono fun e w' ⟨v', L', h1, h2, h3, h4⟩ => by
         obtain ⟨v2o, v2c, rfl⟩ := h2.own.shape
         exact ⟨v2o, v2c, L', h1, h2, h.2.trans (below_own h3 (fun g hg => (h.1.lt g hg).1) h.2.size)⟩
        have HDR : Hid (Below W19.heap.size W19 W19.drew) := belowN (Below.refl _ _) 1
        have HBY : Hid ((XL.length + 1) * 80 ≤ 140737488355328) := by show _ ≤ _; have := HXL.out; omega
        have HNW : Hid (∀ (V : World) (y : TrV) j u, (trC y)[j]? = some u → (V.alloc (.cells (trC y).toArray 25)).cell? ⟨V.heap.size, j, none⟩ = some u) := fun V y j u hu => (Box.new V (trC y) _ _ rfl).cell j u hu
        have HBS : Hid (∀ (V : World) (o : Obj), W19.heap.size ≤ V.heap.size → wc.heap.size ≤ (V.alloc o).heap.size) := fun V o h => by have h2 := HB9.out.size; have h3 := HJJ.out.1.size; show _ ≤ (V.heap.push o).size; simp only [Array.size_push]; omega
        have HNE : Hid (some wr.heap.size ≠ (Value.slice eo XL.length ec).ownBlock) := fun h => by have := HXO.out _ h.symm; omega
        go_region_held3 (fun w' => w'.cell? ⟨wr.heap.size, 0, none⟩ = some (.string y1) ∧ w'.cell? ⟨wr.heap.size, 1, none⟩ = some (.string y2)) (first | exact ⟨a0, a1⟩ | exact ⟨b0, b1⟩ | exact ⟨f0, f1⟩ | exact ⟨z9.out.cell 0 _ rfl, z9.out.cell 1 _ rfl⟩ | (go_keep; done)) (first | (have _x := hG1; go_at_call 54; refine (HC2.out _ _ _ _ hG1.out).mono ?_; rintro e u2 ⟨v2o, v2c, L2, rfl, hG2⟩; have y9 := Lib.hid (HX9.out.below hG2.out.2 HSW9.out); have f0 := y9.out.cell 0 _ rfl; have f1 := y9.out.cell 1 _ rfl) | (go_at_call 54; refine (HC1.out _ HDR.out).mono ?_; rintro e u1 ⟨v1o, v1c, L1, rfl, hG1⟩; have y8 := Lib.hid (HX9.out.below hG1.out.2 HSW9.out); have b0 := y8.out.cell 0 _ rfl; have b1 := y8.out.cell 1 _ rfl) | (refine step_append_one rfl (.tmp 60) (.tmp 68) 23 rfl wc.heap.size 25 Tryz.underlying23 info_node rfl (by decide) trC_len (.slice eo XL.length ec) XL (by simp [Act.eval]) (Owns.alloc (HXG.out.own.below hG2.out.2) _) u2.heap.size ((.mk bExclusion [] ([] ++ leafT bGroup y1 ++ leafT bArtifact y2) [], .slice none 0 0, .slice v2o L2.length v2c) : TrV) (by simp [Act.eval]) (HNW.out u2 _) (tr_one _ _ _ _ _ _ _ _ _ _) HBY.out (by decide) (HBS.out _ _ hG2.out.2.size) (u2.heap.size + 1) (by simp) ?_; intro g9 c9 w9 hown9 hgrow9 hloc9 hlt9; have z9 := Lib.hid ((Box.alloc y9.out _).grown hgrow9 HNE.out); have HO9 := Lib.hid hown9; have HG9 := Lib.hid hgrow9; have HL9 := Lib.hid hloc9; clear hown9 hgrow9 hloc9 hlt9))
        go_wp2
        go_roundw
        case rel =>
         have hw1 : Below wr.heap.size wr (u2.alloc (.cells (trC ((.mk bExclusion [] ([] ++ leafT bGroup y1 ++ leafT bArtifact y2) [], .slice none 0 0, .slice v2o L2.length v2c) : TrV)).toArray 25)) := (HB9.out.trans (hG2.out.2.mono HB9.out.size)).alloc (Nat.le_trans HB9.out.size hG2.out.2.size) _
         have hnd := (hG2.out.1.node bExclusion (X := fun j => j < wc.heap.size ∨ some j = (Value.slice eo XL.length ec).ownBlock) (fun j hj => hj.elim (fun h => by have h1 := HSW9.out; have h2 := HJJ.out.1.size; omega) (fun h => by have h1 := HXO.out j h.symm; have h2 := HSW9.out; omega))).later ((Below.refl u2.heap.size u2).alloc (Nat.le_refl _) (.cells (trC ((.mk bExclusion [] ([] ++ leafT bGroup y1 ++ leafT bArtifact y2) [], .slice none 0 0, .slice v2o L2.length v2c) : TrV)).toArray 25))
         have hgr := HJJ.out.2.snoc hw1 HO9.out HG9.out (HL9.out.elim (fun h => .inl h.symm) (fun h => .inr (by rw [h]; simp [Value.ownBlock]))) hnd
         have hll : (XL ++ [((.mk bExclusion [] ([] ++ leafT bGroup y1 ++ leafT bArtifact y2) [], .slice none 0 0, .slice v2o L2.length v2c) : TrV)]).length = XL.length + 1 := by simp
         refine ⟨j + 1, some ⟨g9, 0, none⟩, c9, XL ++ [((.mk bExclusion [] ([] ++ leafT bGroup y1 ++ leafT bArtifact y2) [], .slice none 0 0, .slice v2o L2.length v2c) : TrV)], HJT.out, by go_num, by rw [hll], ?_⟩
         rw [hll]
         refine ⟨HJJ.out.1.trans ((hw1.mono HJJ.out.1.size).trans (below_own HG9.out (fun g hg => (HJJ.out.2.lt g hg).1) (Nat.le_trans HJJ.out.1.size hw1.size))), ?_⟩
         rw [HTJ.out, List.map_append]
         exact hgr
        case measure => simp [intOf]; have := HJT.out; omega
      · obtain rfl : j = d.excl.length := by omega
        have hX := HJJ.out.2
        rw [List.take_length] at hX
        have HXX := Lib.hid hX
        have HKX := Lib.hid (HKQ.out.below HJJ.out.1)
        have HBX := Lib.hid (HBQ.out.trans (HJJ.out.1.mono HSC.out))
        have HKO : Hid (∀ g, (Value.slice ko KL.length kc).ownBlock = some g → g < wc.heap.size) := fun g hg => (HKQ.out.lt g hg).2
        have HKN : Hid ((K6 ++ optT d.opt).length ≤ 100000) := by
         show _ ≤ _
         rw [List.length_append]
         have h1 := HKL.out
         have h2 := optT_len d.opt
         omega
        clear hX HKQ
        go_wp2_with fail
        refine (branchQ_any W4.heap.size wc.heap.size _ _ _ _ KL XL bExclusions _ HKX.out HXX.out HSC.out HKO.out HBX.out.size HKN.out).mono ?_
        intro e w8 hO
        obtain ⟨kv8, KL8, rfl, hk8, hg8, hl8⟩ := hO
        have HB8 := Lib.hid (HBX.out.trans (below_own hg8 (fun g hg => (HKX.out.lt g hg).1) HBX.out.size))
        have HK8 := Lib.hid hk8
        have HA8 := Lib.hid (HAL4.out.below HB8.out)
        have HAO : Hid (∀ g, (Value.slice oa AL.length oc).ownBlock = some g → g < W4.heap.size) := fun g hg => (HAL4.out.lt g hg).2
        obtain ⟨ko8, kc8, rfl⟩ := hk8.own.shape
        have HAL : Hid (AL.length ≤ 2000) := by
         show _ ≤ _
         have h1 := HRR.out.2.len
         rw [List.length_map, List.length_take] at h1
         have := HLN.out
         omega
        have HDT : Hid (Tr.mk bDependency [] (K6 ++ optT d.opt ++ branchT bExclusions (d.excl.map exT)) [] = depT d) := by show _ = _; rw [HK6.out]; rfl
        clear hk8 hg8 hl8 HXX HKX HKL HKO HKN HK6
        obtain ⟨KK, hKK⟩ : ∃ KK, KK = K6 ++ optT d.opt ++ branchT bExclusions (d.excl.map exT) := ⟨_, rfl⟩
        rw [← hKK] at HK8 HDT
        clear hKK
        have HLT8 : Hid (SliceOf 4 trC (w8.alloc (.cells #[.string (bs bDependency), .slice none 0 0, .slice ko8 KL8.length kc8, .string ⟨#[]⟩] 25)) (.slice (some ⟨w8.heap.size, 0, none⟩) 1 1) [((.mk bDependency [] KK [], .slice none 0 0, .slice ko8 KL8.length kc8) : TrV)]) := tr_lit (.mk bDependency [] KK [], .slice none 0 0, .slice ko8 KL8.length kc8) w8 w8.heap.size rfl
        have HND : Hid (NodeX (fun j => j < w.heap.size ∨ some j = (Value.slice oa AL.length oc).ownBlock) w8 (.mk bDependency [] KK []) (.slice none 0 0) (.slice ko8 KL8.length kc8)) := HK8.out.node bDependency (fun j hj => hj.elim (fun h => by have := HSW.out; omega) (fun h => HAO.out j h.symm))
        go_wp2_with (at_builtin; refine wpList_append_slice _ rfl _ _ 23 rfl w.heap.size 25 Tryz.underlying23 info_node rfl (by decide) trC_len (.slice oa AL.length oc) AL rfl (HA8.out.own.alloc _) _ [((.mk bDependency [] KK [], .slice none 0 0, .slice ko8 KL8.length kc8) : TrV)] rfl HLT8.out (fun y hy => by obtain rfl := List.mem_singleton.1 hy; exact tr_one _ _ _ _ _ _ _ _ _ _) (by have h1 := HAL.out; simp only [List.length_cons, List.length_nil]; omega) (by decide) (by have h1 := HSW.out; have h2 := HB8.out.size; simp; omega) ?_; intro v9 w9 hown9 hgrow9 hloc9; have HO9 := Lib.hid hown9; have HG9 := Lib.hid hgrow9; have HL9 := Lib.hid hloc9; clear hown9 hgrow9 hloc9; obtain ⟨a9, c9, rfl⟩ := HO9.out.shape)
        go_roundw
        case rel =>
         have hal := (Below.refl w8.heap.size w8).alloc (Nat.le_refl _) (.cells #[.string (bs bDependency), .slice none 0 0, .slice ko8 KL8.length kc8, .string ⟨#[]⟩] 25)
         have hw : Below wo.heap.size wo (w8.alloc (.cells #[.string (bs bDependency), .slice none 0 0, .slice ko8 KL8.length kc8, .string ⟨#[]⟩] 25)) := (HB4.out.trans (HB8.out.mono HB4.out.size)).alloc (Nat.le_trans HB4.out.size HB8.out.size) _
         have hgr := HRR.out.2.snoc hw HO9.out HG9.out HL9.out (HND.out.later hal)
         refine ⟨k + 1, a9, c9, AL ++ [((.mk bDependency [] KK [], .slice none 0 0, .slice ko8 KL8.length kc8) : TrV)], HLT.out, by go_num, by simp, HRR.out.1.trans ((hw.mono HRR.out.1.size).trans (below_own HG9.out (fun g hg => (HRR.out.2.lt g hg).1) (Nat.le_trans HRR.out.1.size hw.size))), ?_⟩
         rw [HTK.out, List.map_append, List.map_cons, List.map_nil, ← HDT.out]
         exact hgr
        case measure => simp [intOf]; have := HLT.out; omega
  · obtain rfl : k = l.length := by omega
    have hA := HRR.out.2
    rw [List.take_length, show l.map (fun q => depT q.1) = ds.map depT by rw [← HEL.out, List.map_map]; rfl] at hA
    have HAA := Lib.hid hA
    have HGG := Lib.hid (HG.out.below HRR.out.1)
    have HVO : Hid (∀ g, (Value.slice ao L.length ac).ownBlock = some g → g < w.heap.size) := fun g hg => (HG.out.lt g hg).2
    have HBB := Lib.hid HRR.out.1
    clear hA hlt
    go_wp2_with fail
    refine (branchQ_any b w.heap.size _ _ _ _ L AL bDependencies _ HGG.out HAA.out HBW0.out HVO.out (Nat.le_trans HBW0.out HBB.out.size) HTS.out).mono ?_
    intro e w8 hO
    obtain ⟨kv8, KL8, rfl, hk8, hg8, hl8⟩ := hO
    have HK8 := Lib.hid hk8
    have HG8 := Lib.hid hg8
    have HL8 := Lib.hid hl8
    clear hk8 hg8 hl8
    go_wp2
    go_ret
    exact ⟨_, _, rfl, HK8.out, grown_after HBB.out HG8.out, HL8.out.imp id (fun ⟨g, h1, h2⟩ => ⟨g, h1, Nat.le_trans HBB.out.size h2⟩)⟩

end Go.Proofs.YtbbbfjcikhpmbaaGreat
