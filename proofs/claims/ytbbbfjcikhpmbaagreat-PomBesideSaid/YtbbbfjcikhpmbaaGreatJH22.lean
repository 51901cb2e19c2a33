/- The walk of pom.Write; the conditions stand in the theorem. -/
import Derived.Test.YtbbbfjcikhpmbaaGreatJH21
import Derived.Test.YtbbbfjcikhpmbaaGreatJH11
import Derived.Test.YtbbbfjcikhpmbaaGreatJH20

namespace Go.Proofs.YtbbbfjcikhpmbaaGreat
open Go Go.RowKit

def propT (x : Prp) : Tr := .mk x.name.data.toList [] (if x.value.toList.isEmpty then [] else [.mk [] [] [] x.value.data.toList]) []
def parentL (hp : Bool) (g : Gav) : List Tr := if hp then [] ++ branchT bParent ([] ++ leafT bGroup g.group ++ leafT bArtifact g.artifact ++ leafT bVersion g.version) else []
/-- The tree of a project. -/
def writeT (p : Pom) : Tr := .mk bProject [] (parentL p.hasParent p.parent ++ leafT bGroup p.group ++ leafT bArtifact p.artifact ++ leafT bVersion p.version ++ leafT bPackaging p.packaging ++ branchT bProperties (p.props.map propT) ++ branchT bManagement ([] ++ depsT p.managed) ++ depsT p.deps) []
theorem branchT_len (n : Bs) (l : List Tr) : (branchT n l).length ≤ 1 := by unfold branchT; split <;> simp
theorem br_len {ts : List Tr} {m : Nat} (h : ts.length ≤ m) (n : Bs) (l : List Tr) : (ts ++ branchT n l).length ≤ m + 1 := by rw [List.length_append]; have := branchT_len n l; omega
theorem size_node : (Tryz.prog.info? 25).map (·.size) = some 4 := by kernel_rfl
theorem parentL_len (hp : Bool) (g : Gav) : (parentL hp g).length ≤ 1 := by
 unfold parentL
 split
 · rw [List.nil_append]; exact branchT_len _ _
 · simp
/-- A tree, all of it in new blocks. -/
def WriteX (t : Tr) (w : World) (e : Ending) (w' : World) : Prop := ∃ kv, e = .returned (nodeV t (.slice none 0 0) kv) ∧ NodeX (fun j => j < w.heap.size) w' t (.slice none 0 0) kv ∧ Below w.heap.size w w'
set_option maxRecDepth 100000 in
set_option maxHeartbeats 16000000 in
theorem writeX_any (p : Pom) (pv mv dv : Value) (w : World) (hp : PomOf w (.agg (pomC p pv mv dv).toArray) p pv mv dv) (n1 : p.props.length ≤ 2000) (n2 : p.managed.length ≤ 2000) (n3 : p.deps.length ≤ 2000) (x2 : ∀ d ∈ p.managed, d.excl.length ≤ 2000) (x3 : ∀ d ∈ p.deps, d.excl.length ≤ 2000) :
    Calls Tryz.prog 18 #[.agg (pomC p pv mv dv).toArray] w (WriteX (writeT p) w) := by
 obtain ⟨-, p1, p2, p3⟩ := hp
 have HWT : Hid (∀ t, t = writeT p → WriteX t = WriteX (writeT p)) := fun t h => by rw [h]
 obtain ⟨T, hT⟩ : ∃ T, T = writeT p := ⟨_, rfl⟩
 have HT := Lib.hid hT
 rw [← hT]
 clear HWT hT
 obtain ⟨hp, ⟨px, py, pz⟩, dg, da, dv', dk, dp, dm, dd⟩ := p
 simp only [pomC]
 simp only at p1 p2 p3 n1 n2 n3 x2 x3
 obtain ⟨ao1, cap1, rfl⟩ := p1.shape
 obtain ⟨ao2, cap2, rfl⟩ := p2.shape
 obtain ⟨ao3, cap3, rfl⟩ := p3.shape
 have H1 := Lib.hid p1
 have H2 := Lib.hid p2
 have H3 := Lib.hid p3
 have HN1 := Lib.hid n1
 have HN2 := Lib.hid n2
 have HN3 := Lib.hid n3
 have HX2 := Lib.hid x2
 have HX3 := Lib.hid x3
 clear p1 p2 p3 n1 n2 n3 x2 x3
 go_enter Tryz.func18, Tryz.ntmps18
 go_upto_region 1 with fail
 refine wp_world ?_
 intro W2 hW2
 have x0 : Box W2 w.heap.size [.bool hp, .string px, .string py, .string pz, .string dg, .string da, .string dv', .string dk, .slice ao1 dp.length cap1, .slice ao2 dm.length cap2, .slice ao3 dd.length cap3] := by rw [hW2]; exact (Box.new w [.bool hp, .string px, .string py, .string pz, .string dg, .string da, .string dv', .string dk, .slice ao1 dp.length cap1, .slice ao2 dm.length cap2, .slice ao3 dd.length cap3] _ _ rfl).alloc _
 have x1 : Box W2 (w.heap.size + 1) [.string ⟨#[]⟩, .slice none 0 0, .slice none 0 0, .string ⟨#[]⟩] := by rw [hW2]; exact Box.new _ [.string ⟨#[]⟩, .slice none 0 0, .slice none 0 0, .string ⟨#[]⟩] _ _ (by simp)
 have hb2 : Below w.heap.size w W2 := by rw [hW2]; exact ((Below.refl _ w).alloc (Nat.le_refl _) _).alloc (by simp) _
 clear hW2
 have HP0 := Lib.hid x0
 have HR0 := Lib.hid x1
 have HB2 := Lib.hid hb2
 have HSR : Hid (w.heap.size + 1 < W2.heap.size) := x1.lt
 have HD := Lib.hid x0
 clear x0 x1 hb2
 obtain ⟨c0, c1, c2, c3, c4, c5, c6, c7, c8, c9, c10⟩ := bxc11 HD.out
 have cl := HD.out.lt
 go_upto_if 9 with fail
 go_cut [3] from 10 to 23 (fun lv wx => ∃ lo lc LL, lv = .slice lo (LL : List TrV).length lc ∧ Hid (Grow W2.heap.size wx (.slice lo LL.length lc) (parentL hp ⟨px, py, pz⟩) LL ∧ Below W2.heap.size W2 wx))
 case first =>
  cases hp with
  | false =>
   go_wp2
   go_meet
   case rel => exact ⟨none, 0, [], rfl, Grow.nil _ _, Below.refl _ _⟩
  | true =>
   have HC1 : Hid (∀ X, Below W2.heap.size W2 X → Calls Tryz.prog 54 #[.slice none 0 0, .string ⟨#[103, 114, 111, 117, 112, 73, 100]⟩, .string px] X fun e w' => ∃ v1o v1c L1, e = .returned (.slice v1o (L1 : List TrV).length v1c) ∧ Hid (Grow W2.heap.size w' (.slice v1o L1.length v1c) ([] ++ leafT bGroup px) L1 ∧ Below W2.heap.size W2 w')) := fun X h => (leafQ_any W2.heap.size _ [] [] bGroup px X (Grow.nil _ _) h.size (by simp)).mono fun e w' ⟨v', L', h1, h2, h3, h4⟩ => by
    obtain ⟨v1o, v1c, rfl⟩ := h2.own.shape
    exact ⟨v1o, v1c, L', h1, h2, h.trans (below_own h3 (by simp [Value.ownBlock]) h.size)⟩
   have HC2 : Hid (∀ X v1o v1c L1, Grow W2.heap.size X (.slice v1o (L1 : List TrV).length v1c) ([] ++ leafT bGroup px) L1 ∧ Below W2.heap.size W2 X → Calls Tryz.prog 54 #[.slice v1o L1.length v1c, .string ⟨#[97, 114, 116, 105, 102, 97, 99, 116, 73, 100]⟩, .string py] X fun e w' => ∃ v2o v2c L2, e = .returned (.slice v2o (L2 : List TrV).length v2c) ∧ Hid (Grow W2.heap.size w' (.slice v2o L2.length v2c) ([] ++ leafT bGroup px ++ leafT bArtifact py) L2 ∧ Below W2.heap.size W2 w')) := fun X v1o v1c L1 h => (leafQ_any W2.heap.size _ _ L1 bArtifact py X h.1 h.2.size (by have := leafT_len bGroup px; simp; omega)).mono fun e w' ⟨v', L', h1, h2, h3, h4⟩ => by
    obtain ⟨v2o, v2c, rfl⟩ := h2.own.shape
    exact ⟨v2o, v2c, L', h1, h2, h.2.trans (below_own h3 (fun g hg => (h.1.lt g hg).1) h.2.size)⟩
   have HC3 : Hid (∀ X v1o v1c L1, Grow W2.heap.size X (.slice v1o (L1 : List TrV).length v1c) ([] ++ leafT bGroup px ++ leafT bArtifact py) L1 ∧ Below W2.heap.size W2 X → Calls Tryz.prog 54 #[.slice v1o L1.length v1c, .string ⟨#[118, 101, 114, 115, 105, 111, 110]⟩, .string pz] X fun e w' => ∃ v3o v3c L3, e = .returned (.slice v3o (L3 : List TrV).length v3c) ∧ Hid (Grow W2.heap.size w' (.slice v3o L3.length v3c) ([] ++ leafT bGroup px ++ leafT bArtifact py ++ leafT bVersion pz) L3 ∧ Below W2.heap.size W2 w')) := fun X v1o v1c L1 h => (leafQ_any W2.heap.size _ _ L1 bVersion pz X h.1 h.2.size (by have h1 := leafT_len bGroup px; have h2 := leafT_len bArtifact py; simp; omega)).mono fun e w' ⟨v', L', h1, h2, h3, h4⟩ => by
    obtain ⟨v3o, v3c, rfl⟩ := h2.own.shape
    exact ⟨v3o, v3c, L', h1, h2, h.2.trans (below_own h3 (fun g hg => (h.1.lt g hg).1) h.2.size)⟩
   have HC4 : Hid (∀ X v1o v1c L1, Grow W2.heap.size X (.slice v1o (L1 : List TrV).length v1c) ([] ++ leafT bGroup px ++ leafT bArtifact py ++ leafT bVersion pz) L1 ∧ Below W2.heap.size W2 X → Calls Tryz.prog 53 #[.slice none 0 0, .string ⟨#[112, 97, 114, 101, 110, 116]⟩, .slice v1o L1.length v1c] X fun e w' => ∃ v4o v4c L4, e = .returned (.slice v4o (L4 : List TrV).length v4c) ∧ Hid (Grow W2.heap.size w' (.slice v4o L4.length v4c) (parentL true ⟨px, py, pz⟩) L4 ∧ Below W2.heap.size W2 w')) := fun X v1o v1c L1 h => (branchQ_any W2.heap.size W2.heap.size _ _ [] _ [] L1 bParent X (Grow.nil _ _) h.1 (Nat.le_refl _) (by simp [Value.ownBlock]) h.2.size (by simp)).mono fun e w' ⟨v', L', h1, h2, h3, h4⟩ => by
    obtain ⟨v4o, v4c, rfl⟩ := h2.own.shape
    exact ⟨v4o, v4c, L', h1, h2, h.2.trans (below_own h3 (by simp [Value.ownBlock]) h.2.size)⟩
   have HDR : Hid (Below W2.heap.size W2 W2.drew) := belowN (Below.refl _ _) 1
   have HPL : Hid (∀ X, Below W2.heap.size W2 X → Box X w.heap.size [.bool true, .string px, .string py, .string pz, .string dg, .string da, .string dv', .string dk, .slice ao1 dp.length cap1, .slice ao2 dm.length cap2, .slice ao3 dd.length cap3]) := fun X h => HP0.out.below h HP0.out.lt
   go_upto_region 3 with fail
   go_region_held3 (fun w' => w'.cell? ⟨w.heap.size, 1, none⟩ = some (.string px) ∧ w'.cell? ⟨w.heap.size, 2, none⟩ = some (.string py) ∧ w'.cell? ⟨w.heap.size, 3, none⟩ = some (.string pz)) (first | exact ⟨c1, c2, c3⟩ | exact ⟨y1.out.cell 1 _ rfl, y1.out.cell 2 _ rfl, y1.out.cell 3 _ rfl⟩ | exact ⟨y2.out.cell 1 _ rfl, y2.out.cell 2 _ rfl, y2.out.cell 3 _ rfl⟩ | exact ⟨y3.out.cell 1 _ rfl, y3.out.cell 2 _ rfl, y3.out.cell 3 _ rfl⟩ | exact ⟨y4.out.cell 1 _ rfl, y4.out.cell 2 _ rfl, y4.out.cell 3 _ rfl⟩ | (go_keep; done)) (first | (have _x := hG3; go_at_call 53; refine (HC4.out _ _ _ _ hG3.out).mono ?_; rintro e u4 ⟨v4o, v4c, L4, rfl, hG4⟩; have y4 := Lib.hid (HPL.out _ hG4.out.2)) | (have _x := hG2; go_at_call 54; refine (HC3.out _ _ _ _ hG2.out).mono ?_; rintro e u3 ⟨v3o, v3c, L3, rfl, hG3⟩; have y3 := Lib.hid (HPL.out _ hG3.out.2)) | (have _x := hG1; go_at_call 54; refine (HC2.out _ _ _ _ hG1.out).mono ?_; rintro e u2 ⟨v2o, v2c, L2, rfl, hG2⟩; have y2 := Lib.hid (HPL.out _ hG2.out.2)) | (go_at_call 54; refine (HC1.out _ HDR.out).mono ?_; rintro e u1 ⟨v1o, v1c, L1, rfl, hG1⟩; have y1 := Lib.hid (HPL.out _ hG1.out.2)))
   go_wp2
   go_meet
   case rel => exact ⟨_, _, L4, rfl, hG4.out⟩
 case rest =>
  obtain ⟨lo, lc, LL, rfl, hcc⟩ := hcut
  have HK := Lib.hid hcc.out.1
  have HBW := Lib.hid hcc.out.2
  have HKL : Hid ((parentL hp ⟨px, py, pz⟩).length ≤ 1000) := by show _ ≤ _; have := parentL_len hp ⟨px, py, pz⟩; omega
  clear c0 c1 c2 c3 c4 c5 c6 c7 c8 c9 c10 cl
  clear hcc HD
  have HD := Lib.hid (HP0.out.below HBW.out HP0.out.lt)
  obtain ⟨c0, c1, c2, c3, c4, c5, c6, c7, c8, c9, c10⟩ := bxc11 HD.out
  have cl := HD.out.lt
  go_wp2_with fail
  refine (leafQ_any W2.heap.size _ _ _ bGroup dg _ HK.out HBW.out.size (Nat.le_trans HKL.out (by decide))).mono ?_
  intro e w7 hO
  obtain ⟨kv7, KL7, rfl, hk7, hg7, hl7⟩ := hO
  have HB7 := Lib.hid (below_own hg7 (fun g hg => (HK.out.lt g hg).1) HBW.out.size)
  have HK7 := Lib.hid hk7
  have HBW7 := Lib.hid (HBW.out.trans HB7.out)
  have HD7 := Lib.hid (HP0.out.below HBW7.out HP0.out.lt)
  obtain ⟨ko7, kc7, rfl⟩ := hk7.own.shape
  have HKL7 := Lib.hid (leaf_len HKL.out bGroup dg)
  clear c0 c1 c2 c3 c4 c5 c6 c7 c8 c9 c10 cl
  clear hk7 hg7 hl7 HB7 HK HBW HD HKL
  have HK := HK7
  have HBW := HBW7
  have HD := HD7
  have HKL := HKL7
  clear HK7 HBW7 HD7 HKL7
  obtain ⟨c0, c1, c2, c3, c4, c5, c6, c7, c8, c9, c10⟩ := bxc11 HD.out
  have cl := HD.out.lt
  go_wp2_with fail
  refine (leafQ_any W2.heap.size _ _ _ bArtifact da _ HK.out HBW.out.size (Nat.le_trans HKL.out (by decide))).mono ?_
  intro e w7 hO
  obtain ⟨kv7, KL7, rfl, hk7, hg7, hl7⟩ := hO
  have HB7 := Lib.hid (below_own hg7 (fun g hg => (HK.out.lt g hg).1) HBW.out.size)
  have HK7 := Lib.hid hk7
  have HBW7 := Lib.hid (HBW.out.trans HB7.out)
  have HD7 := Lib.hid (HP0.out.below HBW7.out HP0.out.lt)
  obtain ⟨ko7, kc7, rfl⟩ := hk7.own.shape
  have HKL7 := Lib.hid (leaf_len HKL.out bArtifact da)
  clear c0 c1 c2 c3 c4 c5 c6 c7 c8 c9 c10 cl
  clear hk7 hg7 hl7 HB7 HK HBW HD HKL
  have HK := HK7
  have HBW := HBW7
  have HD := HD7
  have HKL := HKL7
  clear HK7 HBW7 HD7 HKL7
  obtain ⟨c0, c1, c2, c3, c4, c5, c6, c7, c8, c9, c10⟩ := bxc11 HD.out
  have cl := HD.out.lt
  go_wp2_with fail
  refine (leafQ_any W2.heap.size _ _ _ bVersion dv' _ HK.out HBW.out.size (Nat.le_trans HKL.out (by decide))).mono ?_
  intro e w7 hO
  obtain ⟨kv7, KL7, rfl, hk7, hg7, hl7⟩ := hO
  have HB7 := Lib.hid (below_own hg7 (fun g hg => (HK.out.lt g hg).1) HBW.out.size)
  have HK7 := Lib.hid hk7
  have HBW7 := Lib.hid (HBW.out.trans HB7.out)
  have HD7 := Lib.hid (HP0.out.below HBW7.out HP0.out.lt)
  obtain ⟨ko7, kc7, rfl⟩ := hk7.own.shape
  have HKL7 := Lib.hid (leaf_len HKL.out bVersion dv')
  clear c0 c1 c2 c3 c4 c5 c6 c7 c8 c9 c10 cl
  clear hk7 hg7 hl7 HB7 HK HBW HD HKL
  have HK := HK7
  have HBW := HBW7
  have HD := HD7
  have HKL := HKL7
  clear HK7 HBW7 HD7 HKL7
  obtain ⟨c0, c1, c2, c3, c4, c5, c6, c7, c8, c9, c10⟩ := bxc11 HD.out
  have cl := HD.out.lt
  go_wp2_with fail
  refine (leafQ_any W2.heap.size _ _ _ bPackaging dk _ HK.out HBW.out.size (Nat.le_trans HKL.out (by decide))).mono ?_
  intro e w7 hO
  obtain ⟨kv7, KL7, rfl, hk7, hg7, hl7⟩ := hO
  have HB7 := Lib.hid (below_own hg7 (fun g hg => (HK.out.lt g hg).1) HBW.out.size)
  have HK7 := Lib.hid hk7
  have HBW7 := Lib.hid (HBW.out.trans HB7.out)
  have HD7 := Lib.hid (HP0.out.below HBW7.out HP0.out.lt)
  obtain ⟨ko7, kc7, rfl⟩ := hk7.own.shape
  have HKL7 := Lib.hid (leaf_len HKL.out bPackaging dk)
  clear c0 c1 c2 c3 c4 c5 c6 c7 c8 c9 c10 cl
  clear hk7 hg7 hl7 HB7 HK HBW HD HKL
  have HK := HK7
  have HBW := HBW7
  have HD := HD7
  have HKL := HKL7
  clear HK7 HBW7 HD7 HKL7
  obtain ⟨K4, hK4⟩ : ∃ K4, K4 = parentL hp ⟨px, py, pz⟩ ++ leafT bGroup dg ++ leafT bArtifact da ++ leafT bVersion dv' ++ leafT bPackaging dk := ⟨_, rfl⟩
  rw [← hK4] at HK HKL
  have HK4 := Lib.hid hK4
  clear hK4
  obtain ⟨c0, c1, c2, c3, c4, c5, c6, c7, c8, c9, c10⟩ := bxc11 HD.out
  have cl := HD.out.lt
  go_upto_region 9 with fail
  refine wp_world ?_
  intro W8 hW8
  have hw8 : w7 = W8 := hW8.symm
  subst hw8
  clear c0 c1 c2 c3 c4 c5 c6 c7 c8 c9 c10 cl
  go_loopw [4, 43] (fun xv i wr => ∃ (j : Nat) (eo : Option Addr) (ec : Nat) (XL : List TrV), j ≤ dp.length ∧ i = .int .i64 j ∧ xv = .slice eo XL.length ec ∧ Hid (Below w7.heap.size w7 wr ∧ Grow w7.heap.size wr (.slice eo XL.length ec) ((dp.take j).map propT) XL)) (fun _ i _ => dp.length - (intOf i).toNat)
  case atStart => exact ⟨0, none, 0, [], Nat.zero_le _, rfl, rfl, Below.refl _ _, Grow.nil _ _⟩
  case round =>
   obtain ⟨j, eo, ec, XL, hj, rfl, rfl, HJJ⟩ := hrel
   by_cases hjl : j < dp.length
   · have HTJ := Lib.hid (List.take_succ_eq_append_getElem hjl)
     have hbwr := HB2.out.trans ((HBW.out.trans (HJJ.out.1.mono HBW.out.size)).mono HB2.out.size)
     obtain ⟨g2, o2, hgo, hg2, c0, c1⟩ := (H1.out.below hbwr).atPrp hjl
     have hsj := HJJ.out.1.size
     have HXL : Hid (XL.length ≤ 2000) := by
      show _ ≤ _
      have h1 := HJJ.out.2.len
      rw [List.length_map, List.length_take] at h1
      have := HN1.out
      omega
     have HJT : Hid (j < dp.length) := hjl
     have hj20 : j < 2000 := by have := HN1.out; omega
     have hjI : (j : Int) < (dp.length : Int) := by omega
     subst hgo
     clear hbwr
     generalize dp[j] = y at *
     obtain ⟨y1, y2⟩ := y
     simp only at c0 c1
     go_upto_region 12 with fail
     refine wp_world ?_
     intro W11 hW11
     have x6 : Box W11 wr.heap.size [.string y1, .string y2] := by rw [hW11]; exact (Box.new wr [.string y1, .string y2] _ _ rfl).alloc _
     have x7 : Box W11 (wr.heap.size + 1) [.string y1, .slice none 0 0, .slice none 0 0, .string ⟨#[]⟩] := by rw [hW11]; exact Box.new _ [.string y1, .slice none 0 0, .slice none 0 0, .string ⟨#[]⟩] _ _ (by simp)
     have hb11 : Below wr.heap.size wr W11 := by rw [hW11]; exact ((Below.refl _ _).alloc (Nat.le_refl _) _).alloc (by simp) _
     clear hW11 c0 c1
     have HX6 := Lib.hid x6
     have HX7 := Lib.hid x7
     have HB11 := Lib.hid hb11
     have HSW : Hid (wr.heap.size + 1 < W11.heap.size) := x7.lt
     have HXO : Hid (∀ g, (Value.slice eo XL.length ec).ownBlock = some g → g < wr.heap.size) := fun g hg => (HJJ.out.2.lt g hg).2
     have a0 := x6.cell 0 _ rfl
     have a1 := x6.cell 1 _ rfl
     have al := x6.lt
     obtain ⟨b0, b1, b2, b3⟩ := bxc4 x7
     have bf2 := x7.free 2
     have bl := x7.lt
     clear x6 x7 hb11
     obtain ⟨em, hem⟩ : ∃ em, em = y2.toList.isEmpty := ⟨_, rfl⟩
     have HPT : Hid (propT ⟨y1, y2⟩ = .mk y1.data.toList [] (if em then [] else [.mk [] [] [] y2.data.toList]) []) := by show _ = _; rw [hem]; rfl
     have hE : y2.toList.isEmpty = em := hem.symm
     have hE2 : (!y2.toList.isEmpty) = !em := by rw [hE]
     clear hem
     go_upto_if 52 with fail
     go_cut [] from 50 to 57 (fun wx => ∃ ko kn kc, Hid (Box wx (wr.heap.size + 1) [.string y1, .slice none 0 0, .slice ko kn kc, .string ⟨#[]⟩] ∧ Below wr.heap.size wr wx ∧ NodeX (fun j => j < wr.heap.size) wx (propT ⟨y1, y2⟩) (.slice none 0 0) (.slice ko kn kc)))
     case first =>
      cases em with
      | true =>
       have HPN : Hid (propT ⟨y1, y2⟩ = .mk y1.data.toList [] [] []) := HPT.out
       clear HPT
       go_wp2
       go_meet
       case rel => exact ⟨none, 0, 0, HX7.out, HB11.out, by rw [HPN.out]; exact .mk [] SliceX.nil rfl SliceX.nil (by simp)⟩
      | false =>
       have HPN : Hid (propT ⟨y1, y2⟩ = .mk y1.data.toList [] [.mk [] [] [] y2.data.toList] []) := HPT.out
       clear HPT
       go_wp2
       go_meet
       case rel =>
        refine ⟨some ⟨W11.heap.size, 0, none⟩, 1, 1, (HX7.out.set 2 _).alloc _, (HB11.out.setCell (p := ⟨wr.heap.size + 1, 2, none⟩) (by exact (by omega : wr.heap.size ≤ wr.heap.size + 1)) _).alloc (by simpa using HB11.out.size) _, ?_⟩
        rw [HPN.out]
        have h1 := leaf_node (fun j => j < wr.heap.size) y1.data.toList y2.data.toList (W11.setCell ⟨wr.heap.size + 1, 2, none⟩ (.slice (some ⟨W11.heap.size, 0, none⟩) 1 1)) W11.heap.size (by simp) (fun h => by have := HSW.out; omega)
        rw [data_bs] at h1
        exact h1
     case rest =>
      obtain ⟨ko, kn, kc, hcc⟩ := hcut
      have HX7c := Lib.hid hcc.out.1
      have HBc := Lib.hid hcc.out.2.1
      have HNc := Lib.hid hcc.out.2.2
      clear hcc a0 a1 al b0 b1 b2 b3 bf2 bl HX6 HX7 HB11 HPT hE hE2
      have HXG := Lib.hid (HJJ.out.2.below HBc.out)
      have hlt : SliceOf 4 trC (wc.alloc (.cells #[.string y1, .slice none 0 0, .slice ko kn kc, .string ⟨#[]⟩] 25)) (.slice (some ⟨wc.heap.size, 0, none⟩) 1 1) [((propT ⟨y1, y2⟩, .slice none 0 0, .slice ko kn kc) : TrV)] := by
       have h := tr_lit ((propT ⟨y1, y2⟩, .slice none 0 0, .slice ko kn kc) : TrV) wc wc.heap.size rfl
       rw [show (trC ((propT ⟨y1, y2⟩, .slice none 0 0, .slice ko kn kc) : TrV)).toArray = #[.string y1, .slice none 0 0, .slice ko kn kc, .string ⟨#[]⟩] from by show #[Value.string (bs y1.data.toList), _, _, Value.string (bs [])] = _; rw [data_bs]; rfl] at h
       exact h
      have HLT := Lib.hid hlt
      have hone : ∀ u ∈ trC ((propT ⟨y1, y2⟩, .slice none 0 0, .slice ko kn kc) : TrV), u.oneCell' = true := tr_one _ _ _ _ _ _ _ _ _ _
      have HONE := Lib.hid hone
      clear hlt hone
      obtain ⟨b0, b1, b2, b3⟩ := bxc4 HX7c.out
      have bl := HX7c.out.lt
      go_wp2_with (at_builtin; refine wpList_append_slice _ rfl _ _ 23 rfl w7.heap.size 25 Tryz.underlying23 info_node rfl (by decide) trC_len (.slice eo XL.length ec) XL rfl (HXG.out.own.alloc _) _ [((propT ⟨y1, y2⟩, .slice none 0 0, .slice ko kn kc) : TrV)] rfl HLT.out (fun y hy => by obtain rfl := List.mem_singleton.1 hy; exact HONE.out) (by have h1 := HXL.out; simp only [List.length_cons, List.length_nil]; omega) (by decide) (by have h1 := HJJ.out.1.size; have h2 := HBc.out.size; simp; omega) ?_; intro v9 w9 hown9 hgrow9 hloc9; have HO9 := Lib.hid hown9; have HG9 := Lib.hid hgrow9; have HL9 := Lib.hid hloc9; clear hown9 hgrow9 hloc9; obtain ⟨a9, c9, rfl⟩ := HO9.out.shape)
      go_roundw
      case rel =>
       have hal := (Below.refl wc.heap.size wc).alloc (Nat.le_refl _) (.cells #[.string y1, .slice none 0 0, .slice ko kn kc, .string ⟨#[]⟩] 25)
       have hw := HBc.out.alloc HBc.out.size (.cells #[.string y1, .slice none 0 0, .slice ko kn kc, .string ⟨#[]⟩] 25)
       have hgr := HJJ.out.2.snoc hw HO9.out HG9.out HL9.out ((HNc.out.keep (KeptX.refl _ _) (fun j _ hj => hj.elim (fun h => Nat.lt_of_lt_of_le h HJJ.out.1.size) (fun h => HXO.out j h.symm))).later hal)
       refine ⟨j + 1, a9, c9, XL ++ [((propT ⟨y1, y2⟩, .slice none 0 0, .slice ko kn kc) : TrV)], HJT.out, by go_num, by simp, HJJ.out.1.trans ((hw.mono HJJ.out.1.size).trans (below_own HG9.out (fun g hg => (HJJ.out.2.lt g hg).1) (Nat.le_trans HJJ.out.1.size hw.size))), ?_⟩
       rw [HTJ.out, List.map_append, List.map_cons, List.map_nil]
       exact hgr
      case measure => simp [intOf]; have := HJT.out; omega
   · obtain rfl : j = dp.length := by omega
     have hX := HJJ.out.2
     rw [List.take_length] at hX
     have HXX := Lib.hid hX
     have HKX := Lib.hid (HK.out.below HJJ.out.1)
     have HBX := Lib.hid (HBW.out.trans (HJJ.out.1.mono HBW.out.size))
     have HKO : Hid (∀ g, (Value.slice ko7 KL7.length kc7).ownBlock = some g → g < w7.heap.size) := fun g hg => (HK.out.lt g hg).2
     have HSW7 : Hid (W2.heap.size ≤ w7.heap.size) := HBW.out.size
     clear hX HK HBW HD hjl
     have HK := HKX
     have HBW := HBX
     have HD := Lib.hid (HP0.out.below HBX.out HP0.out.lt)
     clear HKX HBX
     obtain ⟨c0, c1, c2, c3, c4, c5, c6, c7, c8, c9, c10⟩ := bxc11 HD.out
     have cl := HD.out.lt
     go_wp2_with fail
     refine (branchQ_any W2.heap.size w7.heap.size _ _ _ _ KL7 XL bProperties _ HK.out HXX.out HSW7.out HKO.out HBW.out.size (Nat.le_trans HKL.out (by decide))).mono ?_
     intro e w7 hO
     obtain ⟨kv7, KL7, rfl, hk7, hg7, hl7⟩ := hO
     clear HKO HSW7
     have HB7 := Lib.hid (below_own hg7 (fun g hg => (HK.out.lt g hg).1) HBW.out.size)
     have HK7 := Lib.hid hk7
     have HBW7 := Lib.hid (HBW.out.trans HB7.out)
     have HD7 := Lib.hid (HP0.out.below HBW7.out HP0.out.lt)
     obtain ⟨ko7, kc7, rfl⟩ := hk7.own.shape
     have HKL7 := Lib.hid (br_len HKL.out bProperties (dp.map propT))
     clear c0 c1 c2 c3 c4 c5 c6 c7 c8 c9 c10 cl
     clear hk7 hg7 hl7 HB7 HK HBW HD HKL
     have HK := HK7
     have HBW := HBW7
     have HD := HD7
     have HKL := HKL7
     clear HK7 HBW7 HD7 HKL7
     obtain ⟨c0, c1, c2, c3, c4, c5, c6, c7, c8, c9, c10⟩ := bxc11 HD.out
     have cl := HD.out.lt
     go_wp2_with fail
     refine (writeDepsQ_any w7.heap.size _ _ [] [] dm w7 (Grow.nil _ _) (H2.out.below (HB2.out.trans (HBW.out.mono HB2.out.size))) (Nat.le_refl _) (by simp) HN2.out HX2.out).mono ?_
     intro e w8 hO
     obtain ⟨mv8, ML8, rfl, hm8, hg8, hl8⟩ := hO
     have hb8 : Below w7.heap.size w7 w8 := below_own hg8 (by simp [Value.ownBlock]) (Nat.le_refl _)
     have HM8 := Lib.hid hm8
     obtain ⟨mo8, mc8, rfl⟩ := hm8.own.shape
     have HK8 := Lib.hid (HK.out.below hb8)
     have HKO : Hid (∀ g, (Value.slice ko7 KL7.length kc7).ownBlock = some g → g < w7.heap.size) := fun g hg => (HK.out.lt g hg).2
     have HSW7 : Hid (W2.heap.size ≤ w7.heap.size) := HBW.out.size
     have HBW8 := Lib.hid (HBW.out.trans (hb8.mono HBW.out.size))
     clear c0 c1 c2 c3 c4 c5 c6 c7 c8 c9 c10 cl
     clear hm8 hg8 hl8 hb8 HK HBW HD
     have HK := HK8
     have HBW := HBW8
     have HD := Lib.hid (HP0.out.below HBW8.out HP0.out.lt)
     clear HK8 HBW8
     obtain ⟨c0, c1, c2, c3, c4, c5, c6, c7, c8, c9, c10⟩ := bxc11 HD.out
     have cl := HD.out.lt
     go_wp2_with fail
     refine (branchQ_any W2.heap.size w7.heap.size _ _ _ _ KL7 ML8 bManagement _ HK.out HM8.out HSW7.out HKO.out HBW.out.size (Nat.le_trans HKL.out (by decide))).mono ?_
     intro e w7 hO
     obtain ⟨kv7, KL7, rfl, hk7, hg7, hl7⟩ := hO
     clear HKO HSW7 HM8
     have HB7 := Lib.hid (below_own hg7 (fun g hg => (HK.out.lt g hg).1) HBW.out.size)
     have HK7 := Lib.hid hk7
     have HBW7 := Lib.hid (HBW.out.trans HB7.out)
     have HD7 := Lib.hid (HP0.out.below HBW7.out HP0.out.lt)
     obtain ⟨ko7, kc7, rfl⟩ := hk7.own.shape
     have HKL7 := Lib.hid (br_len HKL.out bManagement ([] ++ depsT dm))
     clear c0 c1 c2 c3 c4 c5 c6 c7 c8 c9 c10 cl
     clear hk7 hg7 hl7 HB7 HK HBW HD HKL
     have HK := HK7
     have HBW := HBW7
     have HD := HD7
     have HKL := HKL7
     clear HK7 HBW7 HD7 HKL7
     obtain ⟨c0, c1, c2, c3, c4, c5, c6, c7, c8, c9, c10⟩ := bxc11 HD.out
     have cl := HD.out.lt
     go_wp2_with fail
     refine (writeDepsQ_any W2.heap.size _ _ _ _ dd w7 HK.out (H3.out.below (HB2.out.trans (HBW.out.mono HB2.out.size))) HBW.out.size (Nat.le_trans HKL.out (by decide)) HN3.out HX3.out).mono ?_
     intro e w8 hO
     obtain ⟨kv7, KL7, rfl, hk7, hg7, hl7⟩ := hO
     have HB7 := Lib.hid (below_own hg7 (fun g hg => (HK.out.lt g hg).1) HBW.out.size)
     have HK7 := Lib.hid hk7
     have HBW7 := Lib.hid (HBW.out.trans HB7.out)
     obtain ⟨ko7, kc7, rfl⟩ := hk7.own.shape
     have HR8 := Lib.hid (HR0.out.below HBW7.out HR0.out.lt)
     clear c0 c1 c2 c3 c4 c5 c6 c7 c8 c9 c10 cl
     clear hk7 hg7 hl7 HB7 HK HBW HD HKL
     have HTT : Hid (T = .mk bProject [] (K4 ++ branchT bProperties (dp.map propT) ++ branchT bManagement ([] ++ depsT dm) ++ depsT dd) []) := by show _ = _; rw [HT.out, HK4.out]; rfl
     go_wp2_with ((with_reducible show wpList _ _ _ (Oper.mk none (Op.store 25 (.tmp 2) (.tmp 75)) _ _ _ _ :: _) _ _); refine wpList_store_box rfl 25 (.tmp 2) (.tmp 75) rfl (w.heap.size + 1) [.string ⟨#[]⟩, .slice none 0 0, .slice none 0 0, .string ⟨#[]⟩] [.string ⟨#[112, 114, 111, 106, 101, 99, 116]⟩, .slice none 0 0, .slice ko7 KL7.length kc7, .string ⟨#[]⟩] rfl rfl HR8.out rfl size_node (by simp [Value.oneCell']) ?_; intro W10 v10 hg10; have HV10 := Lib.hid v10; have HG10 := Lib.hid hg10; clear v10 hg10)
     refine bodyPost_ret (results_cell_box rfl _ _ (w.heap.size + 1) [.string ⟨#[112, 114, 111, 106, 101, 99, 116]⟩, .slice none 0 0, .slice ko7 KL7.length kc7, .string ⟨#[]⟩] rfl HV10.out Tryz.underlying25 rfl size_node) rfl ?_
     refine ⟨.slice ko7 KL7.length kc7, ?_, ?_, ?_⟩
     · rw [HTT.out]; rfl
     · rw [HTT.out]
       have h1 := HK7.out.node bProject (X := fun j => j < W2.heap.size) (fun j hj => hj)
       exact h1.keep (KeptX.grown HG10.out (fun g e => by cases e; exact HSR.out)) (fun _ _ h => Nat.lt_of_lt_of_le h HB2.out.size)
     · exact (HB2.out.trans (HBW7.out.mono HB2.out.size)).trans (below_row HG10.out (by omega) (Nat.le_trans HB2.out.size HBW7.out.size))

end Go.Proofs.YtbbbfjcikhpmbaaGreat

/- What a written project's tree says: plain laws on trees; no program in sight. -/

namespace Go.Proofs.YtbbbfjcikhpmbaaGreat
open Go Go.RowKit

theorem kidsF_app (m : Bs) (a b : List Tr) : kidsF m (a ++ b) = kidsF m a ++ kidsF m b := List.filter_append ..
theorem leafT_name {n : Bs} {s : S} {t : Tr} (h : t ∈ leafT n s) : t.name = n := by
 unfold leafT at h
 split at h
 · cases h
 · obtain rfl := List.mem_singleton.1 h; rfl
theorem branchT_name {n : Bs} {l : List Tr} {t : Tr} (h : t ∈ branchT n l) : t.name = n := by
 unfold branchT at h
 split at h
 · cases h
 · obtain rfl := List.mem_singleton.1 h; rfl
/-- All of a list have one name. -/
def Named (n : Bs) (l : List Tr) : Prop := ∀ t ∈ l, t.name = n
theorem named_leaf (n : Bs) (s : S) : Named n (leafT n s) := fun _ h => leafT_name h
theorem named_branch (n : Bs) (l : List Tr) : Named n (branchT n l) := fun _ h => branchT_name h
theorem Named.same {n : Bs} {l : List Tr} (h : Named n l) (hn : n ≠ []) : kidsF n l = l := by
 unfold kidsF
 rw [List.filter_eq_self]
 intro t ht
 have := h t ht
 unfold isKid
 rw [this]
 simp [hn]
theorem Named.other {n m : Bs} {l : List Tr} (h : Named n l) (hm : m ≠ []) (hnm : n ≠ m) : kidsF m l = [] := by
 unfold kidsF
 rw [List.filter_eq_nil_iff]
 intro t ht
 have := h t ht
 unfold isKid
 rw [this]
 simp [hm, hnm]
theorem bs_empty (s : S) : s.toList.isEmpty = s.data.toList.isEmpty := by
 have h := empty_data s
 rw [h, ← size_data]
 cases s.data.toList <;> simp
/-- What a text element says. -/
theorem leaf_text (n : Bs) (x : Bs) : textV (.mk n [] [.mk [] [] [] x] []) = trimB x ∧ kidsF [] [(.mk [] [] [] x : Tr)] = [] := by
 refine ⟨?_, rfl⟩
 unfold textV
 show trimB (x ++ []) = _
 rw [List.append_nil]
theorem word_leaf {t : Tr} {m : Bs} {s : S} (hk : kidsF m t.kids = leafT m s) (hs : okW s true = true) : wordV t m = s.data.toList ∧ ∀ wh must r, (must = true → s.toList.isEmpty = false) → (s.toList.isEmpty = false → r s.data.toList = true) → wordE t wh m must r = none := by
 unfold okW at hs
 simp only [Bool.and_eq_true, decide_eq_true_eq] at hs
 obtain ⟨-, h2, h3, -⟩ := hs
 have hone : oneV t m = (leafT m s).head? := by unfold oneV; rw [hk]
 have hmany : ∀ wh, manyE t wh m = none := fun wh => by
  unfold manyE
  rw [hk]
  have := leafT_len m s
  rw [if_neg (by omega)]
 cases he : s.toList.isEmpty with
 | true =>
  have ho : oneV t m = none := by rw [hone]; unfold leafT; rw [he]; rfl
  have hd : s.data.toList = [] := by
   rw [bs_empty] at he
   simpa using he
  refine ⟨by unfold wordV; rw [ho, hd], fun wh must r h _ => ?_⟩
  unfold wordE
  rw [hmany, ho]
  cases must with
  | true => cases h rfl
  | false => rfl
 | false =>
  have ho : oneV t m = some (.mk m [] [.mk [] [] [] s.data.toList] []) := by rw [hone]; unfold leafT; rw [he]; rfl
  obtain ⟨ht, hk0⟩ := leaf_text m s.data.toList
  refine ⟨by unfold wordV; rw [ho]; simp only [ht, h3], fun wh must r _ hr => ?_⟩
  unfold wordE
  rw [hmany, ho]
  simp only [ht, h3, hr rfl, Option.none_or, if_true]
  have hb : textBad (.mk m [] [.mk [] [] [] s.data.toList] []) false = false := by
   unfold textBad
   have h1 : trimB (textF [(.mk [] [] [] s.data.toList : Tr)]) = s.data.toList := by
    show trimB (s.data.toList ++ []) = _
    rw [List.append_nil, h3]
   show (!(kidsF [] [(.mk [] [] [] s.data.toList : Tr)]).isEmpty || decide (1024 < (trimB (textF [(.mk [] [] [] s.data.toList : Tr)])).length) || ((trimB (textF [(.mk [] [] [] s.data.toList : Tr)])).isEmpty && !false)) = false
   rw [h1, hk0]
   rw [bs_empty] at he
   rw [decide_eq_false (by rw [size_data]; omega)]
   simp [he]
  unfold textE
  rw [hb]
  rfl
theorem okW_of {s : S} {b : Bool} (h : okW s b = true) : okW s true = true := by
 unfold okW at h ⊢
 simp only [Bool.and_eq_true, decide_eq_true_eq, Bool.true_or, and_true] at h ⊢
 exact ⟨h.1, h.2.1, h.2.2.1⟩
theorem okW_ne {s : S} (h : okW s false = true) : s.toList.isEmpty = false := by
 unfold okW at h
 simp only [Bool.and_eq_true, Bool.false_or, Bool.not_eq_true'] at h
 exact h.2.2.2
theorem eachE_none {f : Tr → Bs → Option Er} : ∀ {l : List Tr} {w : Bs} {i : Nat}, (∀ t ∈ l, ∀ w, f t w = none) → eachE f w l i = none
 | [], _, _, _ => rfl
 | t :: l, w, i, h => by
  rw [eachE, h t (by simp), eachE_none (fun u hu => h u (by simp [hu]))]
  rfl
/-- Texts of one kind of bytes, of which none is blank, are as they were read. -/
theorem trim_id {p : UInt8 → Bool} (hp : ∀ c, p c = true → cBlank c = false) {l : Bs} (h : l.all p = true) : trimB l = l := by
 have h1 : ∀ (l : Bs), (∀ c ∈ l, cBlank c = false) → l.dropWhile cBlank = l := fun l hl => by
  cases l with
  | nil => rfl
  | cons c l => rw [List.dropWhile_cons, hl c (by simp)]; rfl
 rw [List.all_eq_true] at h
 unfold trimB
 rw [h1 l (fun c hc => hp c (h c hc)), h1 l.reverse (fun c hc => hp c (h c (by simpa using hc))), List.reverse_reverse]
theorem byte_ok {c : UInt8} (h : verByte c = true) : cText c = true ∧ cBlank c = false := by
 rw [verByte_iff] at h
 unfold cText cBlank
 refine ⟨?_, ?_⟩
 · simp; omega
 · simp; omega
theorem id_ver {c : UInt8} (h : idByte c = true) : verByte c = true := by unfold verByte; rw [h]; rfl
theorem okW_ver {s : S} (h : s.data.toList.all verByte = true) (h2 : s.size ≤ 64) : okW s true = true := by
 unfold okW
 rw [trim_id (fun c hc => (byte_ok hc).2) h]
 have h3 : okText s.data.toList = true := by
  unfold okText
  rw [List.all_eq_true] at h ⊢
  exact fun c hc => (byte_ok (h c hc)).1
 rw [h3, decide_eq_true (show s.size ≤ 1024 by omega)]
 simp
theorem isId_okW {s : S} (h : isIdB s = true) : okW s true = true ∧ s.toList.isEmpty = false := by
 unfold isIdB at h
 simp only [Bool.and_eq_true, decide_eq_true_eq] at h
 refine ⟨okW_ver ?_ h.2, ?_⟩
 · rw [List.all_eq_true]
   exact fun c hc => id_ver (List.all_eq_true.1 h.1.1 c hc)
 · rw [empty_data]; exact decide_eq_false (by omega)
theorem ver_okW {s : S} (h : verMay s = true) : okW s true = true ∧ s.toList.isEmpty = false := by
 unfold verMay at h
 simp only [Bool.and_eq_true, decide_eq_true_eq] at h
 exact ⟨okW_ver h.1.1 h.2, by rw [empty_data]; exact decide_eq_false (by omega)⟩
theorem part_okW {s : S} (h : isPartS s = true) : okW s true = true ∧ s.toList.isEmpty = false ∧ isPartQ s.data.toList = true := by
 have h3 : isPartQ s.data.toList = true := by rw [← isPart_bs, data_bs]; exact h
 unfold isPartS at h
 rw [Bool.or_eq_true] at h
 rcases h with h | h
 · have h4 := str_beq s ⟨#[42]⟩
   rw [show (⟨#[42]⟩ : S).toList = [42] from by decide +kernel, h] at h4
   have h5 : s = ⟨#[42]⟩ := of_decide_eq_true h4.symm
   subst h5
   exact ⟨by kernel_rfl, by decide +kernel, h3⟩
 · exact ⟨(isId_okW h).1, (isId_okW h).2, h3⟩
/-! The parts of a dependency. -/
theorem kids2 {n1 n2 m : Bs} {a b : List Tr} (h1 : Named n1 a) (h2 : Named n2 b) (hm : m ≠ []) : kidsF m (a ++ b) = (if n1 = m then a else []) ++ (if n2 = m then b else []) := by
 rw [kidsF_app]
 congr 1
 · by_cases h : n1 = m
   · subst h; rw [h1.same hm, if_pos rfl]
   · rw [h1.other hm h, if_neg h]
 · by_cases h : n2 = m
   · subst h; rw [h2.same hm, if_pos rfl]
   · rw [h2.other hm h, if_neg h]
theorem kids_one {n m : Bs} {a : List Tr} (h1 : Named n a) (hm : m ≠ []) : kidsF m a = if n = m then a else [] := by
 by_cases h : n = m
 · subst h; rw [h1.same hm, if_pos rfl]
 · rw [h1.other hm h, if_neg h]
theorem ex_read {x : Id} (h : patB x = true) : exclV (exT x) = x ∧ ∀ w, exclE (exT x) w = none := by
 obtain ⟨g, a⟩ := x
 unfold patB at h
 simp only [Bool.and_eq_true] at h
 obtain ⟨g1, g2, g3⟩ := part_okW h.1
 obtain ⟨a1, a2, a3⟩ := part_okW h.2
 have hg := word_leaf (t := exT ⟨g, a⟩) (m := bGroup) (s := g) (by show kidsF bGroup (leafT bGroup g ++ leafT bArtifact a) = _; rw [kids2 (named_leaf _ _) (named_leaf _ _) (by decide)]; simp [show bArtifact ≠ bGroup by decide]) g1
 have ha := word_leaf (t := exT ⟨g, a⟩) (m := bArtifact) (s := a) (by show kidsF bArtifact (leafT bGroup g ++ leafT bArtifact a) = _; rw [kids2 (named_leaf _ _) (named_leaf _ _) (by decide)]; simp [show bGroup ≠ bArtifact by decide]) a1
 refine ⟨?_, fun w => ?_⟩
 · unfold exclV
   rw [hg.1, ha.1, data_bs, data_bs]
 · unfold exclE
   rw [hg.2 w true isPartQ (fun _ => g2) (fun _ => g3), ha.2 w true isPartQ (fun _ => a2) (fun _ => a3)]
   rfl
/-- A branch, read. -/
theorem one_branch {t : Tr} {m : Bs} {l : List Tr} (hk : kidsF m t.kids = branchT m l) : (∀ w, manyE t w m = none) ∧ (l = [] → oneV t m = none) ∧ (l ≠ [] → oneV t m = some (.mk m [] l [])) := by
 refine ⟨fun w => ?_, fun h => ?_, fun h => ?_⟩
 · unfold manyE
   rw [hk, if_neg (by have := branchT_len m l; omega)]
 · unfold oneV; rw [hk, h]; rfl
 · unfold oneV; rw [hk]
   cases l with
   | nil => exact absurd rfl h
   | cons k r => rfl
theorem scope_text (n : Int) : okW (bs (wordB n)) true = true := by
 unfold wordB
 repeat' split
 all_goals kernel_rfl
theorem scope_back {n : Int} (h0 : 0 ≤ n) (h6 : n ≤ 6) : scopeW (wordB n) = n := by
 rcases (by omega : n = 0 ∨ n = 1 ∨ n = 2 ∨ n = 3 ∨ n = 4 ∨ n = 5 ∨ n = 6) with rfl | rfl | rfl | rfl | rfl | rfl | rfl <;> kernel_rfl
theorem opt_text (n : Int) : Named bOptional (optT n) := by
 unfold optT
 split
 · exact named_leaf _ _
 · split
   · exact named_leaf _ _
   · intro t h; cases h
/-- The kids of a dependency. -/
theorem dep_kids (d : Dep) (m : Bs) (hm : m ≠ []) : kidsF m (depT d).kids = (if bGroup = m then leafT bGroup d.group else []) ++ (if bArtifact = m then leafT bArtifact d.artifact else []) ++ (if bVersion = m then leafT bVersion d.version else []) ++ (if bType = m then leafT bType d.type else []) ++ (if bClassifier = m then leafT bClassifier d.classifier else []) ++
    (if bScope = m then leafT bScope (bs (wordB d.scope)) else []) ++ (if bOptional = m then optT d.opt else []) ++ (if bExclusions = m then branchT bExclusions (d.excl.map exT) else []) := by
 show kidsF m (_ ++ _ ++ _ ++ _ ++ _ ++ _ ++ _ ++ _ ++ _) = _
 simp only [kidsF_app, kids_one (named_leaf _ _) hm, kids_one (named_branch _ _) hm, kids_one (opt_text _) hm]
 rfl
/-- This tree has the fields of that dependency, whatever else it holds. -/
structure DepIs (d : Dep) (t : Tr) : Prop where
 g : kidsF bGroup t.kids = leafT bGroup d.group
 a : kidsF bArtifact t.kids = leafT bArtifact d.artifact
 v : kidsF bVersion t.kids = leafT bVersion d.version
 ty : kidsF bType t.kids = leafT bType d.type
 c : kidsF bClassifier t.kids = leafT bClassifier d.classifier
 s : kidsF bScope t.kids = leafT bScope (bs (wordB d.scope))
 o : kidsF bOptional t.kids = optT d.opt
 x : kidsF bExclusions t.kids = branchT bExclusions (d.excl.map exT)
theorem dep_is (d : Dep) : DepIs d (depT d) where
 g := by rw [dep_kids d _ (by decide)]; simp [show bArtifact ≠ bGroup by decide, show bVersion ≠ bGroup by decide, show bType ≠ bGroup by decide, show bClassifier ≠ bGroup by decide, show bScope ≠ bGroup by decide, show bOptional ≠ bGroup by decide, show bExclusions ≠ bGroup by decide]
 a := by rw [dep_kids d _ (by decide)]; simp [show bGroup ≠ bArtifact by decide, show bVersion ≠ bArtifact by decide, show bType ≠ bArtifact by decide, show bClassifier ≠ bArtifact by decide, show bScope ≠ bArtifact by decide, show bOptional ≠ bArtifact by decide, show bExclusions ≠ bArtifact by decide]
 v := by rw [dep_kids d _ (by decide)]; simp [show bGroup ≠ bVersion by decide, show bArtifact ≠ bVersion by decide, show bType ≠ bVersion by decide, show bClassifier ≠ bVersion by decide, show bScope ≠ bVersion by decide, show bOptional ≠ bVersion by decide, show bExclusions ≠ bVersion by decide]
 ty := by rw [dep_kids d _ (by decide)]; simp [show bGroup ≠ bType by decide, show bArtifact ≠ bType by decide, show bVersion ≠ bType by decide, show bClassifier ≠ bType by decide, show bScope ≠ bType by decide, show bOptional ≠ bType by decide, show bExclusions ≠ bType by decide]
 c := by rw [dep_kids d _ (by decide)]; simp [show bGroup ≠ bClassifier by decide, show bArtifact ≠ bClassifier by decide, show bVersion ≠ bClassifier by decide, show bType ≠ bClassifier by decide, show bScope ≠ bClassifier by decide, show bOptional ≠ bClassifier by decide, show bExclusions ≠ bClassifier by decide]
 s := by rw [dep_kids d _ (by decide)]; simp [show bGroup ≠ bScope by decide, show bArtifact ≠ bScope by decide, show bVersion ≠ bScope by decide, show bType ≠ bScope by decide, show bClassifier ≠ bScope by decide, show bOptional ≠ bScope by decide, show bExclusions ≠ bScope by decide]
 o := by rw [dep_kids d _ (by decide)]; simp [show bGroup ≠ bOptional by decide, show bArtifact ≠ bOptional by decide, show bVersion ≠ bOptional by decide, show bType ≠ bOptional by decide, show bClassifier ≠ bOptional by decide, show bScope ≠ bOptional by decide, show bExclusions ≠ bOptional by decide]
 x := by rw [dep_kids d _ (by decide)]; simp [show bGroup ≠ bExclusions by decide, show bArtifact ≠ bExclusions by decide, show bVersion ≠ bExclusions by decide, show bType ≠ bExclusions by decide, show bClassifier ≠ bExclusions by decide, show bScope ≠ bExclusions by decide, show bOptional ≠ bExclusions by decide]
theorem dep_read {m : Bool} {d : Dep} {t : Tr} (hi : DepIs d t) (h : mayD (if m then 6 else 5) d = true) : depV t = d ∧ ∀ w, depE m t w = none := by
 unfold mayD at h
 simp only [Bool.and_eq_true, decide_eq_true_eq] at h
 obtain ⟨hv, ht, hc, hx, hg, ha, hs0, hs1, ho0, ho1, hxl⟩ := h
 have hs6 : d.scope ≤ 6 := by cases m <;> simp at hs1 <;> omega
 have wg := word_leaf (t := t) (m := bGroup) (s := d.group) hi.g (okW_of hg)
 have wa := word_leaf (t := t) (m := bArtifact) (s := d.artifact) hi.a (okW_of ha)
 have wv := word_leaf (t := t) (m := bVersion) (s := d.version) hi.v hv
 have wt := word_leaf (t := t) (m := bType) (s := d.type) hi.ty ht
 have wc := word_leaf (t := t) (m := bClassifier) (s := d.classifier) hi.c hc
 have ws := word_leaf (t := t) (m := bScope) (s := bs (wordB d.scope)) hi.s (scope_text _)
 have ko : kidsF bOptional t.kids = optT d.opt := hi.o
 have kx : kidsF bExclusions t.kids = branchT bExclusions (d.excl.map exT) := hi.x
 have wo : optQ (wordV t bOptional) = d.opt ∧ ∀ w, wordE t w bOptional false isTruthB = none := by
  rcases (by omega : d.opt = 0 ∨ d.opt = 1 ∨ d.opt = 2) with e | e | e
  · rw [e] at ko
    have hn : kidsF bOptional t.kids = [] := ko
    have h1 : oneV t bOptional = none := by unfold oneV; rw [hn]; rfl
    refine ⟨by unfold wordV; rw [h1, e]; kernel_rfl, fun w => ?_⟩
    unfold wordE manyE
    rw [hn, h1]
    rfl
  · rw [e] at ko
    have hn : kidsF bOptional t.kids = leafT bOptional (bs bTrue) := ko
    have h1 := word_leaf hn (by kernel_rfl)
    exact ⟨by rw [h1.1, e]; kernel_rfl, fun w => h1.2 w false isTruthB (by simp) (fun _ => by kernel_rfl)⟩
  · rw [e] at ko
    have hn : kidsF bOptional t.kids = leafT bOptional (bs bFalse) := ko
    have h1 := word_leaf hn (by kernel_rfl)
    exact ⟨by rw [h1.1, e]; kernel_rfl, fun w => h1.2 w false isTruthB (by simp) (fun _ => by kernel_rfl)⟩
 obtain ⟨bx1, bx2, bx3⟩ := one_branch kx
 rw [List.all_eq_true] at hx
 have hnm : Named bExclusion (d.excl.map exT) := fun t h => by obtain ⟨y, -, rfl⟩ := List.mem_map.1 h; rfl
 have wx : exclsV t = d.excl ∧ ∀ w, exclsE t w = none := by
  by_cases he : d.excl = []
  · have h1 := bx2 (by rw [he]; rfl)
    exact ⟨by unfold exclsV; rw [h1, he], fun w => by unfold exclsE; rw [bx1, h1]; rfl⟩
  · have h1 := bx3 (by simpa using he)
    have h2 : kidsF bExclusion (d.excl.map exT) = d.excl.map exT := hnm.same (by decide)
    refine ⟨?_, fun w => ?_⟩
    · unfold exclsV
      rw [h1]
      show (kidsF bExclusion (d.excl.map exT)).map exclV = _
      rw [h2, List.map_map]
      conv => rhs; rw [← List.map_id d.excl]
      exact List.map_congr_left fun y hy => (ex_read (hx y hy)).1
    · unfold exclsE
      rw [bx1, h1]
      show Option.or none (listE exclE (.mk bExclusions [] (d.excl.map exT) []) (sl w bExclusions) bExclusion) = none
      unfold listE
      show Option.or none ((if 1024 < (kidsF bExclusion (d.excl.map exT)).length then some (2, sl w bExclusions) else none).or (eachE exclE (sl (sl w bExclusions) bExclusion) (kidsF bExclusion (d.excl.map exT)) 0)) = none
      rw [h2, if_neg (by rw [List.length_map]; omega), eachE_none (fun t ht w => by obtain ⟨y, hy, rfl⟩ := List.mem_map.1 ht; exact (ex_read (hx y hy)).2 w)]
      rfl
 refine ⟨?_, fun w => ?_⟩
 · unfold depV
   rw [wg.1, wa.1, wv.1, wt.1, wc.1, ws.1, wo.1, wx.1]
   simp only [data_bs, bs_data]
   rw [scope_back hs0 hs6]
 · unfold depE
   rw [wg.2 w true freeB (fun _ => okW_ne hg) (fun _ => rfl), wa.2 w true freeB (fun _ => okW_ne ha) (fun _ => rfl), wv.2 w false freeB (by simp) (fun _ => rfl), wt.2 w false freeB (by simp) (fun _ => rfl), wc.2 w false freeB (by simp) (fun _ => rfl),
    ws.2 w false (isScopeQ m) (by simp) (fun he => ?_), wo.2 w, wx.2 w]
   · rfl
   · rw [bs_data]
     unfold isScopeQ
     rw [scope_back hs0 hs6]
     have hs2 : d.scope ≠ 0 := fun e => by rw [e] at he; revert he; decide +kernel
     cases m with
     | true => simp [hs2]
     | false =>
      simp only [Bool.false_eq_true, if_false] at hs1
      have : d.scope ≠ 6 := by omega
      simp [hs2, this]

end Go.Proofs.YtbbbfjcikhpmbaaGreat

/- What a written project's tree says, whole, and of a tree like it; no program in sight. -/

namespace Go.Proofs.YtbbbfjcikhpmbaaGreat
open Go Go.RowKit

theorem one_none {t : Tr} {m : Bs} (hk : kidsF m t.kids = []) : (∀ w, manyE t w m = none) ∧ oneV t m = none :=
 ⟨fun w => by unfold manyE; rw [hk]; rfl, by unfold oneV; rw [hk]; rfl⟩
theorem one_some {t f : Tr} {m : Bs} (hk : kidsF m t.kids = [f]) : (∀ w, manyE t w m = none) ∧ oneV t m = some f :=
 ⟨fun w => by unfold manyE; rw [hk]; rfl, by unfold oneV; rw [hk]; rfl⟩
/-- This tree has those dependencies, whatever else it holds. -/
def DepsIs (ds : List Dep) (t : Tr) : Prop := (kidsF bDependencies t.kids = [] ∧ ds = []) ∨ ∃ f, ∃ L : List (Dep × Tr), kidsF bDependencies t.kids = [f] ∧ L.map (·.1) = ds ∧ kidsF bDependency f.kids = L.map (·.2) ∧ ∀ y ∈ L, DepIs y.1 y.2
theorem deps_read {m : Bool} {ds : List Dep} {t : Tr} (hi : DepsIs ds t) (h : ds.all (mayD (if m then 6 else 5)) = true) (hl : ds.length ≤ 1024) : depsV t = ds ∧ ∀ w, depsE m t w = none := by
 rcases hi with ⟨h1, rfl⟩ | ⟨f, L, h1, rfl, h2, h3⟩
 · obtain ⟨a, b⟩ := one_none h1
   exact ⟨by unfold depsV; rw [b], fun w => by unfold depsE; rw [a, b]; rfl⟩
 · obtain ⟨a, b⟩ := one_some h1
   rw [List.all_eq_true] at h
   have hd : ∀ y ∈ L, depV y.2 = y.1 ∧ ∀ w, depE m y.2 w = none := fun y hy => dep_read (h3 y hy) (h y.1 (List.mem_map.2 ⟨y, hy, rfl⟩))
   refine ⟨?_, fun w => ?_⟩
   · unfold depsV
     rw [b]
     show (kidsF bDependency f.kids).map depV = _
     rw [h2, List.map_map]
     exact List.map_congr_left fun y hy => (hd y hy).1
   · unfold depsE
     rw [a, b]
     show Option.or none ((if 1024 < (kidsF bDependency f.kids).length then some (2, sl w bDependencies) else none).or (eachE (depE m) (sl (sl w bDependencies) bDependency) (kidsF bDependency f.kids) 0)) = none
     rw [List.length_map] at hl
     rw [h2, if_neg (by rw [List.length_map]; omega), eachE_none (fun t ht w => by obtain ⟨y, hy, rfl⟩ := List.mem_map.1 ht; exact (hd y hy).2 w)]
     rfl
/-- A parent, read. -/
theorem parent_read {hp : Bool} {g : Gav} {t : Tr} (hk : kidsF bParent t.kids = parentL hp g) (h : parentB hp g = true) : parentV t = (hp, g) ∧ ∀ w, parentE t w = none := by
 cases hp with
 | false =>
  obtain ⟨a, b⟩ := one_none hk
  have hg : g = ⟨⟨#[]⟩, ⟨#[]⟩, ⟨#[]⟩⟩ := of_decide_eq_true h
  exact ⟨by unfold parentV; rw [b, hg], fun w => by unfold parentE; rw [a, b]; rfl⟩
 | true =>
  have h1 : gavMay g = true := h
  unfold gavMay at h1
  simp only [Bool.and_eq_true] at h1
  obtain ⟨⟨hg, ha⟩, hv⟩ := h1
  obtain ⟨g1, g2⟩ := isId_okW hg
  obtain ⟨a1, a2⟩ := isId_okW ha
  obtain ⟨v1, v2⟩ := ver_okW hv
  have hne : ([] ++ leafT bGroup g.group ++ leafT bArtifact g.artifact ++ leafT bVersion g.version) ≠ [] := by
   rw [show leafT bGroup g.group = [.mk bGroup [] [.mk [] [] [] g.group.data.toList] []] from by unfold leafT; rw [g2]; rfl]
   simp
  obtain ⟨a, -, b⟩ := one_branch (t := t) (m := bParent) (l := [] ++ leafT bGroup g.group ++ leafT bArtifact g.artifact ++ leafT bVersion g.version) hk
  have b := b hne
  obtain ⟨f, hf⟩ : ∃ f : Tr, f = .mk bParent [] ([] ++ leafT bGroup g.group ++ leafT bArtifact g.artifact ++ leafT bVersion g.version) [] := ⟨_, rfl⟩
  rw [← hf] at b
  have hfk : ∀ m, m ≠ [] → kidsF m f.kids = (if bGroup = m then leafT bGroup g.group else []) ++ (if bArtifact = m then leafT bArtifact g.artifact else []) ++ (if bVersion = m then leafT bVersion g.version else []) := fun m hm => by
   rw [hf]
   show kidsF m ([] ++ leafT bGroup g.group ++ leafT bArtifact g.artifact ++ leafT bVersion g.version) = _
   rw [List.nil_append]
   simp only [kidsF_app, kids_one (named_leaf _ _) hm]
  have wg := word_leaf (t := f) (m := bGroup) (s := g.group) (by rw [hfk _ (by decide)]; simp [show bArtifact ≠ bGroup by decide, show bVersion ≠ bGroup by decide]) g1
  have wa := word_leaf (t := f) (m := bArtifact) (s := g.artifact) (by rw [hfk _ (by decide)]; simp [show bGroup ≠ bArtifact by decide, show bVersion ≠ bArtifact by decide]) a1
  have wv := word_leaf (t := f) (m := bVersion) (s := g.version) (by rw [hfk _ (by decide)]; simp [show bGroup ≠ bVersion by decide, show bArtifact ≠ bVersion by decide]) v1
  refine ⟨?_, fun w => ?_⟩
  · unfold parentV
    rw [b]
    show (true, (⟨bs (wordV f bGroup), bs (wordV f bArtifact), bs (wordV f bVersion)⟩ : Gav)) = _
    rw [wg.1, wa.1, wv.1]
    simp only [data_bs]
  · unfold parentE
    rw [a, b]
    show Option.or none ((wordE f (sl w bParent) bGroup true isIdQ).or ((wordE f (sl w bParent) bArtifact true isIdQ).or (wordE f (sl w bParent) bVersion true verQ))) = none
    rw [wg.2 _ true isIdQ (fun _ => g2) (fun _ => by unfold isIdQ; rw [data_bs]; exact hg), wa.2 _ true isIdQ (fun _ => a2) (fun _ => by unfold isIdQ; rw [data_bs]; exact ha), wv.2 _ true verQ (fun _ => v2) (fun _ => by unfold verQ; rw [data_bs]; exact hv)]
    rfl
/-- A property, read. -/
theorem prop_text {x : Prp} (h : okW x.value true = true) : textV (propT x) = x.value.data.toList ∧ ∀ w, textE (propT x) w true = none := by
 unfold okW at h
 simp only [Bool.and_eq_true, decide_eq_true_eq] at h
 obtain ⟨-, h2, h3, -⟩ := h
 have h1 : trimB (textF (propT x).kids) = x.value.data.toList ∧ kidsF [] (propT x).kids = [] := by
  show trimB (textF (if x.value.toList.isEmpty then [] else [.mk [] [] [] x.value.data.toList])) = _ ∧ kidsF [] (if x.value.toList.isEmpty then [] else [.mk [] [] [] x.value.data.toList]) = _
  cases he : x.value.toList.isEmpty with
  | true =>
   rw [bs_empty] at he
   have : x.value.data.toList = [] := by simpa using he
   rw [this]; exact ⟨rfl, rfl⟩
  | false =>
   refine ⟨?_, rfl⟩
   show trimB (x.value.data.toList ++ []) = _
   rw [List.append_nil, h3]
 refine ⟨h1.1, fun w => ?_⟩
 have hb : textBad (propT x) true = false := by
  unfold textBad
  rw [h1.1, h1.2, decide_eq_false (by rw [size_data]; omega)]
  simp
 unfold textE
 rw [hb]
 rfl
theorem props_none {w : Bs} : ∀ {r d : List Prp}, propsGo r d = true → propsEgo w (r.map propT) (d.map propT) = none
 | [], _, _ => rfl
 | x :: r, d, h => by
  rw [propsGo] at h
  simp only [Bool.and_eq_true, Bool.not_eq_true'] at h
  obtain ⟨⟨h1, h2, h3⟩, h4⟩ := h
  show (if (d.map propT).any (fun y => decide (y.name = (propT x).name)) then some ((20 : Int), two (sl w (propT x).name)) else none).or ((textE (propT x) (sl w (propT x).name) true).or (propsEgo w (r.map propT) (d.map propT ++ [propT x]))) = none
  have h5 := props_none (w := w) h4
  rw [List.map_append] at h5
  have h6 : (d.map propT).any (fun y => decide (y.name = (propT x).name)) = false := by
   rw [List.any_map]
   unfold hasN at h1
   rw [← h1]
   congr 1
   funext y
   show decide (y.name.data.toList = x.name.data.toList) = (y.name.toList == x.name.toList)
   rw [str_beq]
   exact decide_eq_decide.2 (by rw [data_eq])
  rw [h6, (prop_text h3).2]
  exact h5
theorem props_ok {r : List Prp} : ∀ {d : List Prp}, propsGo r d = true → ∀ x ∈ r, okName x.name.data.toList = true ∧ okW x.value true = true := by
 induction r with
 | nil => intro d _ x hx; cases hx
 | cons y r ih =>
  intro d h x hx
  rw [propsGo] at h
  simp only [Bool.and_eq_true] at h
  rcases List.mem_cons.1 hx with rfl | hx
  · exact h.1.2
  · exact ih h.2 x hx
theorem props_read {ps : List Prp} {t : Tr} (hk : kidsF bProperties t.kids = branchT bProperties (ps.map propT)) (h : propsGo ps [] = true) (hl : ps.length ≤ 1024) : propsV t = ps ∧ ∀ w, propsE t w = none := by
 obtain ⟨a, b0, b⟩ := one_branch hk
 by_cases he : ps = []
 · subst he
   have b1 := b0 rfl
   exact ⟨by unfold propsV; rw [b1], fun w => by unfold propsE; rw [a, b1]; rfl⟩
 · have b1 := b (by simpa using he)
   have hok := props_ok h
   have hf : kidsF [] (ps.map propT) = ps.map propT := by
    unfold kidsF
    rw [List.filter_eq_self]
    intro t ht
    obtain ⟨x, hx, rfl⟩ := List.mem_map.1 ht
    have := (hok x hx).1
    unfold okName at this
    simp only [Bool.and_eq_true] at this
    unfold isKid
    show (!x.name.data.toList.isEmpty && (List.isEmpty ([] : Bs) || _)) = true
    rw [this.1]
    rfl
   refine ⟨?_, fun w => ?_⟩
   · unfold propsV
     rw [b1]
     show (kidsF [] (ps.map propT)).map prpV = _
     rw [hf, List.map_map]
     conv => rhs; rw [← List.map_id ps]
     refine List.map_congr_left fun x hx => ?_
     show (⟨bs x.name.data.toList, bs (textV (propT x))⟩ : Prp) = x
     rw [(prop_text (hok x hx).2).1]
     simp only [data_bs]
   · unfold propsE
     rw [a, b1]
     show Option.or none ((if 1024 < (kidsF [] (ps.map propT)).length then some (2, sl w bProperties) else none).or (propsEgo (sl w bProperties) (kidsF [] (ps.map propT)) [])) = none
     rw [hf, if_neg (by rw [List.length_map]; omega)]
     exact props_none h
/-- This tree has the fields of that project, whatever else it holds. -/
structure PomIs (p : Pom) (t : Tr) : Prop where
 name : t.name = bProject
 par : kidsF bParent t.kids = parentL p.hasParent p.parent
 g : kidsF bGroup t.kids = leafT bGroup p.group
 a : kidsF bArtifact t.kids = leafT bArtifact p.artifact
 v : kidsF bVersion t.kids = leafT bVersion p.version
 k : kidsF bPackaging t.kids = leafT bPackaging p.packaging
 props : kidsF bProperties t.kids = branchT bProperties (p.props.map propT)
 man : (kidsF bManagement t.kids = [] ∧ p.managed = []) ∨ ∃ f, kidsF bManagement t.kids = [f] ∧ DepsIs p.managed f
 deps : DepsIs p.deps t
theorem managed_read {ds : List Dep} {t : Tr} (hi : (kidsF bManagement t.kids = [] ∧ ds = []) ∨ ∃ f, kidsF bManagement t.kids = [f] ∧ DepsIs ds f) (h : ds.all (mayD 6) = true) (hl : ds.length ≤ 1024) : managedV t = ds ∧ ∀ w, managedE t w = none := by
 rcases hi with ⟨h1, rfl⟩ | ⟨f, h1, h2⟩
 · obtain ⟨a, b⟩ := one_none h1
   exact ⟨by unfold managedV; rw [b], fun w => by unfold managedE; rw [a, b]; rfl⟩
 · obtain ⟨a, b⟩ := one_some h1
   obtain ⟨c, d⟩ := deps_read (m := true) h2 h hl
   exact ⟨by unfold managedV; rw [b]; exact c, fun w => by unfold managedE; rw [a, b]; exact d _⟩
/-- What is read of a tree that has the fields of a project that may be. -/
theorem pom_read {p : Pom} {t : Tr} (hi : PomIs p t) (h : mayP p = true) : readV t = p ∧ readE t = none := by
 unfold mayP at h
 simp only [Bool.and_eq_true, decide_eq_true_eq] at h
 obtain ⟨hp, ⟨hg, ha, hv, hk⟩, hpl, hps, ⟨hm, hml⟩, hd, hdl⟩ := h
 have r1 := parent_read hi.par hp
 have r2 := word_leaf hi.g hg
 have r3 := word_leaf hi.a (okW_of ha)
 have r4 := word_leaf hi.v hv
 have r5 := word_leaf hi.k hk
 have r6 := props_read hi.props hps hpl
 have r7 := managed_read hi.man hm hml
 have r8 := deps_read (m := false) hi.deps hd hdl
 refine ⟨?_, ?_⟩
 · unfold readV
   rw [r1.1, r2.1, r3.1, r4.1, r5.1, r6.1, r7.1, r8.1]
   simp only [data_bs]
 · unfold readE
   rw [if_pos hi.name, r1.2, r2.2 _ false freeB (by simp) (fun _ => rfl), r3.2 _ true freeB (fun _ => okW_ne ha) (fun _ => rfl), r4.2 _ false freeB (by simp) (fun _ => rfl), r5.2 _ false freeB (by simp) (fun _ => rfl), r6.2, r7.2, r8.2]
   rfl
theorem deps_is {ds : List Dep} {t : Tr} (hk : kidsF bDependencies t.kids = depsT ds) : DepsIs ds t := by
 by_cases he : ds = []
 · subst he; exact .inl ⟨hk, rfl⟩
 · refine .inr ⟨.mk bDependencies [] (ds.map depT) [], ds.map fun d => (d, depT d), ?_, ?_, ?_, fun y hy => ?_⟩
   · rw [hk]; unfold depsT branchT
     cases ds with
     | nil => exact absurd rfl he
     | cons _ _ => rfl
   · rw [List.map_map]; exact List.map_id _
   · have : Named bDependency (ds.map depT) := fun t h => by obtain ⟨y, -, rfl⟩ := List.mem_map.1 h; rfl
     show kidsF bDependency (ds.map depT) = _
     rw [this.same (by decide), List.map_map]
     rfl
   · obtain ⟨d, -, rfl⟩ := List.mem_map.1 hy
     exact dep_is d
theorem par_named (hp : Bool) (g : Gav) : Named bParent (parentL hp g) := by
 unfold parentL
 split
 · exact named_branch _ _
 · intro t h; cases h
/-- The kids of a written project. -/
theorem write_kids (p : Pom) (m : Bs) (hm : m ≠ []) : kidsF m (writeT p).kids = (if bParent = m then parentL p.hasParent p.parent else []) ++ (if bGroup = m then leafT bGroup p.group else []) ++ (if bArtifact = m then leafT bArtifact p.artifact else []) ++ (if bVersion = m then leafT bVersion p.version else []) ++ (if bPackaging = m then leafT bPackaging p.packaging else []) ++
    (if bProperties = m then branchT bProperties (p.props.map propT) else []) ++ (if bManagement = m then branchT bManagement ([] ++ depsT p.managed) else []) ++ (if bDependencies = m then depsT p.deps else []) := by
 show kidsF m (_ ++ _ ++ _ ++ _ ++ _ ++ _ ++ _ ++ _) = _
 unfold depsT
 simp only [kidsF_app, kids_one (named_leaf _ _) hm, kids_one (named_branch _ _) hm, kids_one (par_named _ _) hm]
theorem write_is (p : Pom) : PomIs p (writeT p) where
 name := rfl
 par := by rw [write_kids p _ (by decide)]; simp [show bGroup ≠ bParent by decide, show bArtifact ≠ bParent by decide, show bVersion ≠ bParent by decide, show bPackaging ≠ bParent by decide, show bProperties ≠ bParent by decide, show bManagement ≠ bParent by decide, show bDependencies ≠ bParent by decide]
 g := by rw [write_kids p _ (by decide)]; simp [show bParent ≠ bGroup by decide, show bArtifact ≠ bGroup by decide, show bVersion ≠ bGroup by decide, show bPackaging ≠ bGroup by decide, show bProperties ≠ bGroup by decide, show bManagement ≠ bGroup by decide, show bDependencies ≠ bGroup by decide]
 a := by rw [write_kids p _ (by decide)]; simp [show bParent ≠ bArtifact by decide, show bGroup ≠ bArtifact by decide, show bVersion ≠ bArtifact by decide, show bPackaging ≠ bArtifact by decide, show bProperties ≠ bArtifact by decide, show bManagement ≠ bArtifact by decide, show bDependencies ≠ bArtifact by decide]
 v := by rw [write_kids p _ (by decide)]; simp [show bParent ≠ bVersion by decide, show bGroup ≠ bVersion by decide, show bArtifact ≠ bVersion by decide, show bPackaging ≠ bVersion by decide, show bProperties ≠ bVersion by decide, show bManagement ≠ bVersion by decide, show bDependencies ≠ bVersion by decide]
 k := by rw [write_kids p _ (by decide)]; simp [show bParent ≠ bPackaging by decide, show bGroup ≠ bPackaging by decide, show bArtifact ≠ bPackaging by decide, show bVersion ≠ bPackaging by decide, show bProperties ≠ bPackaging by decide, show bManagement ≠ bPackaging by decide, show bDependencies ≠ bPackaging by decide]
 props := by rw [write_kids p _ (by decide)]; simp [show bParent ≠ bProperties by decide, show bGroup ≠ bProperties by decide, show bArtifact ≠ bProperties by decide, show bVersion ≠ bProperties by decide, show bPackaging ≠ bProperties by decide, show bManagement ≠ bProperties by decide, show bDependencies ≠ bProperties by decide]
 man := by
  have hk : kidsF bManagement (writeT p).kids = branchT bManagement (depsT p.managed) := by rw [write_kids p _ (by decide)]; simp [show bParent ≠ bManagement by decide, show bGroup ≠ bManagement by decide, show bArtifact ≠ bManagement by decide, show bVersion ≠ bManagement by decide, show bPackaging ≠ bManagement by decide, show bProperties ≠ bManagement by decide, show bDependencies ≠ bManagement by decide]
  by_cases he : p.managed = []
  · exact .inl ⟨by rw [hk, he]; rfl, he⟩
  · refine .inr ⟨.mk bManagement [] (depsT p.managed) [], ?_, deps_is ?_⟩
    · rw [hk]
      unfold depsT branchT
      cases h : p.managed with
      | nil => exact absurd h he
      | cons _ _ => rfl
    · show kidsF bDependencies (depsT p.managed) = _
      exact (named_branch _ _).same (by decide)
 deps := deps_is (by rw [write_kids p _ (by decide)]; simp [show bParent ≠ bDependencies by decide, show bGroup ≠ bDependencies by decide, show bArtifact ≠ bDependencies by decide, show bVersion ≠ bDependencies by decide, show bPackaging ≠ bDependencies by decide, show bProperties ≠ bDependencies by decide, show bManagement ≠ bDependencies by decide])

end Go.Proofs.YtbbbfjcikhpmbaaGreat
