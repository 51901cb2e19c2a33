/- The walk of pom.Write; the conditions stand in the theorem. -/
import Derived.Test.YtbbbfjcikhpmbaaGreatJG13
import Derived.Test.YtbbbfjcikhpmbaaGreatJG11

namespace Go.Proofs.YtbbbfjcikhpmbaaGreat
open Go Go.RowKit

def propT (x : Prp) : Tr := .mk x.name.data.toList [] (if x.value.toList.isEmpty then [] else [.mk [] [] [] x.value.data.toList]) []
def parentL (hp : Bool) (g : Gav) : List Tr := if hp then [] ++ branchT bParent ([] ++ leafT bGroup g.group ++ leafT bArtifact g.artifact ++ leafT bVersion g.version) else []
/-- The tree of a project. -/
def writeT (p : Pom) : Tr := .mk bProject [] (parentL p.hasParent p.parent ++ leafT bGroup p.group ++ leafT bArtifact p.artifact ++ leafT bVersion p.version ++ leafT bPackaging p.packaging ++ branchT bProperties (p.props.map propT) ++ branchT bManagement ([] ++ depsT p.managed) ++ depsT p.deps) []
theorem branchT_len (n : Bs) (l : List Tr) : (branchT n l).length ≤ 1 := by unfold branchT; split <;> simp
theorem br_len {ts : List Tr} {m : Nat} (h : ts.length ≤ m) (n : Bs) (l : List Tr) : (ts ++ branchT n l).length ≤ m + 1 := by rw [List.length_append]; have := branchT_len n l; omega
theorem size_node : (Tryz.prog.info? 25).map (·.size) = some 4 := by kernel_rfl
theorem parentL_len (hp : Bool) (g : Gav) : (parentL hp g).length ≤ 1 := by
 unfold parentL
 split
 · rw [List.nil_append]; exact branchT_len _ _
 · simp
def WriteP (t : Tr) (w : World) (e : Ending) (w' : World) : Prop := ∃ kv, e = .returned (nodeV t (.slice none 0 0) kv) ∧ NodeOf w' t (.slice none 0 0) kv ∧ Below w.heap.size w w'
set_option maxRecDepth 100000 in
set_option maxHeartbeats 16000000 in
theorem writeQ_any (p : Pom) (pv mv dv : Value) (w : World) (hp : PomOf w (.agg (pomC p pv mv dv).toArray) p pv mv dv) (n1 : p.props.length ≤ 2000) (n2 : p.managed.length ≤ 2000) (n3 : p.deps.length ≤ 2000) (x2 : ∀ d ∈ p.managed, d.excl.length ≤ 2000) (x3 : ∀ d ∈ p.deps, d.excl.length ≤ 2000) :
    Calls Tryz.prog 18 #[.agg (pomC p pv mv dv).toArray] w (WriteP (writeT p) w) := by
 obtain ⟨-, p1, p2, p3⟩ := hp
 have HWT : Hid (∀ t, t = writeT p → WriteP t = WriteP (writeT p)) := fun t h => by rw [h]
 obtain ⟨T, hT⟩ : ∃ T, T = writeT p := ⟨_, rfl⟩
 have HT := Lib.hid hT
 rw [← hT]
 clear HWT hT
 obtain ⟨hp, ⟨px, py, pz⟩, dg, da, dv', dk, dp, dm, dd⟩ := p
 simp only [pomC]
 simp only at p1 p2 p3 n1 n2 n3 x2 x3
 obtain ⟨ao1, cap1, rfl⟩ := p1.shape
 obtain ⟨ao2, cap2, rfl⟩ := p2.shape
 obtain ⟨ao3, cap3, rfl⟩ := p3.shape
 have H1 := Lib.hid p1
 have H2 := Lib.hid p2
 have H3 := Lib.hid p3
 have HN1 := Lib.hid n1
 have HN2 := Lib.hid n2
 have HN3 := Lib.hid n3
 have HX2 := Lib.hid x2
 have HX3 := Lib.hid x3
 clear p1 p2 p3 n1 n2 n3 x2 x3
 go_enter Tryz.func18, Tryz.ntmps18
 go_upto_region 1 with fail
 refine wp_world ?_
 intro W2 hW2
 have x0 : Box W2 w.heap.size [.bool hp, .string px, .string py, .string pz, .string dg, .string da, .string dv', .string dk, .slice ao1 dp.length cap1, .slice ao2 dm.length cap2, .slice ao3 dd.length cap3] := by rw [hW2]; exact (Box.new w [.bool hp, .string px, .string py, .string pz, .string dg, .string da, .string dv', .string dk, .slice ao1 dp.length cap1, .slice ao2 dm.length cap2, .slice ao3 dd.length cap3] _ _ rfl).alloc _
 have x1 : Box W2 (w.heap.size + 1) [.string ⟨#[]⟩, .slice none 0 0, .slice none 0 0, .string ⟨#[]⟩] := by rw [hW2]; exact Box.new _ [.string ⟨#[]⟩, .slice none 0 0, .slice none 0 0, .string ⟨#[]⟩] _ _ (by simp)
 have hb2 : Below w.heap.size w W2 := by rw [hW2]; exact ((Below.refl _ w).alloc (Nat.le_refl _) _).alloc (by simp) _
 clear hW2
 have HP0 := Lib.hid x0
 have HR0 := Lib.hid x1
 have HB2 := Lib.hid hb2
 have HSR : Hid (w.heap.size + 1 < W2.heap.size) := x1.lt
 have HD := Lib.hid x0
 clear x0 x1 hb2
 obtain ⟨c0, c1, c2, c3, c4, c5, c6, c7, c8, c9, c10⟩ := bxc11 HD.out
 have cl := HD.out.lt
 go_upto_if 9 with fail
 go_cut [3] from 10 to 23 (fun lv wx => ∃ lo lc LL, lv = .slice lo (LL : List TrV).length lc ∧ Hid (Grow W2.heap.size wx (.slice lo LL.length lc) (parentL hp ⟨px, py, pz⟩) LL ∧ Below W2.heap.size W2 wx))
 case first =>
  cases hp with
  | false =>
   go_wp2
   go_meet
   case rel => exact ⟨none, 0, [], rfl, Grow.nil _ _, Below.refl _ _⟩
  | true =>
   have HC1 : Hid (∀ X, Below W2.heap.size W2 X → Calls Tryz.prog 54 #[.slice none 0 0, .string ⟨#[103, 114, 111, 117, 112, 73, 100]⟩, .string px] X fun e w' => ∃ v1o v1c L1, e = .returned (.slice v1o (L1 : List TrV).length v1c) ∧ Hid (Grow W2.heap.size w' (.slice v1o L1.length v1c) ([] ++ leafT bGroup px) L1 ∧ Below W2.heap.size W2 w')) := fun X h => (leafQ_any W2.heap.size _ [] [] bGroup px X (Grow.nil _ _) h.size (by simp)).mono fun e w' ⟨v', L', h1, h2, h3, h4⟩ => by
    obtain ⟨v1o, v1c, rfl⟩ := h2.own.shape
    exact ⟨v1o, v1c, L', h1, h2, h.trans (below_own h3 (by simp [Value.ownBlock]) h.size)⟩
   have HC2 : Hid (∀ X v1o v1c L1, Grow W2.heap.size X (.slice v1o (L1 : List TrV).length v1c) ([] ++ leafT bGroup px) L1 ∧ Below W2.heap.size W2 X → Calls Tryz.prog 54 #[.slice v1o L1.length v1c, .string ⟨#[97, 114, 116, 105, 102, 97, 99, 116, 73, 100]⟩, .string py] X fun e w' => ∃ v2o v2c L2, e = .returned (.slice v2o (L2 : List TrV).length v2c) ∧ Hid (Grow W2.heap.size w' (.slice v2o L2.length v2c) ([] ++ leafT bGroup px ++ leafT bArtifact py) L2 ∧ Below W2.heap.size W2 w')) := fun X v1o v1c L1 h => (leafQ_any W2.heap.size _ _ L1 bArtifact py X h.1 h.2.size (by have := leafT_len bGroup px; simp; omega)).mono fun e w' ⟨v', L', h1, h2, h3, h4⟩ => by
    obtain ⟨v2o, v2c, rfl⟩ := h2.own.shape
    exact ⟨v2o, v2c, L', h1, h2, h.2.trans (below_own h3 (fun g hg => (h.1.lt g hg).1) h.2.size)⟩
   have HC3 : Hid (∀ X v1o v1c L1, Grow W2.heap.size X (.slice v1o (L1 : List TrV).length v1c) ([] ++ leafT bGroup px ++ leafT bArtifact py) L1 ∧ Below W2.heap.size W2 X → Calls Tryz.prog 54 #[.slice v1o L1.length v1c, .string ⟨#[118, 101, 114, 115, 105, 111, 110]⟩, .string pz] X fun e w' => ∃ v3o v3c L3, e = .returned (.slice v3o (L3 : List TrV).length v3c) ∧ Hid (Grow W2.heap.size w' (.slice v3o L3.length v3c) ([] ++ leafT bGroup px ++ leafT bArtifact py ++ leafT bVersion pz) L3 ∧ Below W2.heap.size W2 w')) := fun X v1o v1c L1 h => (leafQ_any W2.heap.size _ _ L1 bVersion pz X h.1 h.2.size (by have h1 := leafT_len bGroup px; have h2 := leafT_len bArtifact py; simp; omega)).mono fun e w' ⟨v', L', h1, h2, h3, h4⟩ => by
    obtain ⟨v3o, v3c, rfl⟩ := h2.own.shape
    exact ⟨v3o, v3c, L', h1, h2, h.2.trans (below_own h3 (fun g hg => (h.1.lt g hg).1) h.2.size)⟩
   have HC4 : Hid (∀ X v1o v1c L1, Grow W2.heap.size X (.slice v1o (L1 : List TrV).length v1c) ([] ++ leafT bGroup px ++ leafT bArtifact py ++ leafT bVersion pz) L1 ∧ Below W2.heap.size W2 X → Calls Tryz.prog 53 #[.slice none 0 0, .string ⟨#[112, 97, 114, 101, 110, 116]⟩, .slice v1o L1.length v1c] X fun e w' => ∃ v4o v4c L4, e = .returned (.slice v4o (L4 : List TrV).length v4c) ∧ Hid (Grow W2.heap.size w' (.slice v4o L4.length v4c) (parentL true ⟨px, py, pz⟩) L4 ∧ Below W2.heap.size W2 w')) := fun X v1o v1c L1 h => (branchQ_any W2.heap.size W2.heap.size _ _ [] _ [] L1 bParent X (Grow.nil _ _) h.1 (Nat.le_refl _) (by simp [Value.ownBlock]) h.2.size (by simp)).mono fun e w' ⟨v', L', h1, h2, h3, h4⟩ => by
    obtain ⟨v4o, v4c, rfl⟩ := h2.own.shape
    exact ⟨v4o, v4c, L', h1, h2, h.2.trans (below_own h3 (by simp [Value.ownBlock]) h.2.size)⟩
   have HDR : Hid (Below W2.heap.size W2 W2.drew) := belowN (Below.refl _ _) 1
   have HPL : Hid (∀ X, Below W2.heap.size W2 X → Box X w.heap.size [.bool true, .string px, .string py, .string pz, .string dg, .string da, .string dv', .string dk, .slice ao1 dp.length cap1, .slice ao2 dm.length cap2, .slice ao3 dd.length cap3]) := fun X h => HP0.out.below h HP0.out.lt
   go_upto_region 3 with fail
   go_region_held3 (fun w' => w'.cell? ⟨w.heap.size, 1, none⟩ = some (.string px) ∧ w'.cell? ⟨w.heap.size, 2, none⟩ = some (.string py) ∧ w'.cell? ⟨w.heap.size, 3, none⟩ = some (.string pz)) (first | exact ⟨c1, c2, c3⟩ | exact ⟨y1.out.cell 1 _ rfl, y1.out.cell 2 _ rfl, y1.out.cell 3 _ rfl⟩ | exact ⟨y2.out.cell 1 _ rfl, y2.out.cell 2 _ rfl, y2.out.cell 3 _ rfl⟩ | exact ⟨y3.out.cell 1 _ rfl, y3.out.cell 2 _ rfl, y3.out.cell 3 _ rfl⟩ | exact ⟨y4.out.cell 1 _ rfl, y4.out.cell 2 _ rfl, y4.out.cell 3 _ rfl⟩ | (go_keep; done)) (first | (have _x := hG3; go_at_call 53; refine (HC4.out _ _ _ _ hG3.out).mono ?_; rintro e u4 ⟨v4o, v4c, L4, rfl, hG4⟩; have y4 := Lib.hid (HPL.out _ hG4.out.2)) | (have _x := hG2; go_at_call 54; refine (HC3.out _ _ _ _ hG2.out).mono ?_; rintro e u3 ⟨v3o, v3c, L3, rfl, hG3⟩; have y3 := Lib.hid (HPL.out _ hG3.out.2)) | (have _x := hG1; go_at_call 54; refine (HC2.out _ _ _ _ hG1.out).mono ?_; rintro e u2 ⟨v2o, v2c, L2, rfl, hG2⟩; have y2 := Lib.hid (HPL.out _ hG2.out.2)) | (go_at_call 54; refine (HC1.out _ HDR.out).mono ?_; rintro e u1 ⟨v1o, v1c, L1, rfl, hG1⟩; have y1 := Lib.hid (HPL.out _ hG1.out.2)))
   go_wp2
   go_meet
   case rel => exact ⟨_, _, L4, rfl, hG4.out⟩
 case rest =>
  obtain ⟨lo, lc, LL, rfl, hcc⟩ := hcut
  have HK := Lib.hid hcc.out.1
  have HBW := Lib.hid hcc.out.2
  have HKL : Hid ((parentL hp ⟨px, py, pz⟩).length ≤ 1000) := by show _ ≤ _; have := parentL_len hp ⟨px, py, pz⟩; omega
  clear c0 c1 c2 c3 c4 c5 c6 c7 c8 c9 c10 cl
  clear hcc HD
  have HD := Lib.hid (HP0.out.below HBW.out HP0.out.lt)
  obtain ⟨c0, c1, c2, c3, c4, c5, c6, c7, c8, c9, c10⟩ := bxc11 HD.out
  have cl := HD.out.lt
  go_wp2_with fail
  refine (leafQ_any W2.heap.size _ _ _ bGroup dg _ HK.out HBW.out.size (Nat.le_trans HKL.out (by decide))).mono ?_
  intro e w7 hO
  obtain ⟨kv7, KL7, rfl, hk7, hg7, hl7⟩ := hO
  have HB7 := Lib.hid (below_own hg7 (fun g hg => (HK.out.lt g hg).1) HBW.out.size)
  have HK7 := Lib.hid hk7
  have HBW7 := Lib.hid (HBW.out.trans HB7.out)
  have HD7 := Lib.hid (HP0.out.below HBW7.out HP0.out.lt)
  obtain ⟨ko7, kc7, rfl⟩ := hk7.own.shape
  have HKL7 := Lib.hid (leaf_len HKL.out bGroup dg)
  clear c0 c1 c2 c3 c4 c5 c6 c7 c8 c9 c10 cl
  clear hk7 hg7 hl7 HB7 HK HBW HD HKL
  have HK := HK7
  have HBW := HBW7
  have HD := HD7
  have HKL := HKL7
  clear HK7 HBW7 HD7 HKL7
  obtain ⟨c0, c1, c2, c3, c4, c5, c6, c7, c8, c9, c10⟩ := bxc11 HD.out
  have cl := HD.out.lt
  go_wp2_with fail
  refine (leafQ_any W2.heap.size _ _ _ bArtifact da _ HK.out HBW.out.size (Nat.le_trans HKL.out (by decide))).mono ?_
  intro e w7 hO
  obtain ⟨kv7, KL7, rfl, hk7, hg7, hl7⟩ := hO
  have HB7 := Lib.hid (below_own hg7 (fun g hg => (HK.out.lt g hg).1) HBW.out.size)
  have HK7 := Lib.hid hk7
  have HBW7 := Lib.hid (HBW.out.trans HB7.out)
  have HD7 := Lib.hid (HP0.out.below HBW7.out HP0.out.lt)
  obtain ⟨ko7, kc7, rfl⟩ := hk7.own.shape
  have HKL7 := Lib.hid (leaf_len HKL.out bArtifact da)
  clear c0 c1 c2 c3 c4 c5 c6 c7 c8 c9 c10 cl
  clear hk7 hg7 hl7 HB7 HK HBW HD HKL
  have HK := HK7
  have HBW := HBW7
  have HD := HD7
  have HKL := HKL7
  clear HK7 HBW7 HD7 HKL7
  obtain ⟨c0, c1, c2, c3, c4, c5, c6, c7, c8, c9, c10⟩ := bxc11 HD.out
  have cl := HD.out.lt
  go_wp2_with fail
  refine (leafQ_any W2.heap.size _ _ _ bVersion dv' _ HK.out HBW.out.size (Nat.le_trans HKL.out (by decide))).mono ?_
  intro e w7 hO
  obtain ⟨kv7, KL7, rfl, hk7, hg7, hl7⟩ := hO
  have HB7 := Lib.hid (below_own hg7 (fun g hg => (HK.out.lt g hg).1) HBW.out.size)
  have HK7 := Lib.hid hk7
  have HBW7 := Lib.hid (HBW.out.trans HB7.out)
  have HD7 := Lib.hid (HP0.out.below HBW7.out HP0.out.lt)
  obtain ⟨ko7, kc7, rfl⟩ := hk7.own.shape
  have HKL7 := Lib.hid (leaf_len HKL.out bVersion dv')
  clear c0 c1 c2 c3 c4 c5 c6 c7 c8 c9 c10 cl
  clear hk7 hg7 hl7 HB7 HK HBW HD HKL
  have HK := HK7
  have HBW := HBW7
  have HD := HD7
  have HKL := HKL7
  clear HK7 HBW7 HD7 HKL7
  obtain ⟨c0, c1, c2, c3, c4, c5, c6, c7, c8, c9, c10⟩ := bxc11 HD.out
  have cl := HD.out.lt
  go_wp2_with fail
  refine (leafQ_any W2.heap.size _ _ _ bPackaging dk _ HK.out HBW.out.size (Nat.le_trans HKL.out (by decide))).mono ?_
  intro e w7 hO
  obtain ⟨kv7, KL7, rfl, hk7, hg7, hl7⟩ := hO
  have HB7 := Lib.hid (below_own hg7 (fun g hg => (HK.out.lt g hg).1) HBW.out.size)
  have HK7 := Lib.hid hk7
  have HBW7 := Lib.hid (HBW.out.trans HB7.out)
  have HD7 := Lib.hid (HP0.out.below HBW7.out HP0.out.lt)
  obtain ⟨ko7, kc7, rfl⟩ := hk7.own.shape
  have HKL7 := Lib.hid (leaf_len HKL.out bPackaging dk)
  clear c0 c1 c2 c3 c4 c5 c6 c7 c8 c9 c10 cl
  clear hk7 hg7 hl7 HB7 HK HBW HD HKL
  have HK := HK7
  have HBW := HBW7
  have HD := HD7
  have HKL := HKL7
  clear HK7 HBW7 HD7 HKL7
  obtain ⟨K4, hK4⟩ : ∃ K4, K4 = parentL hp ⟨px, py, pz⟩ ++ leafT bGroup dg ++ leafT bArtifact da ++ leafT bVersion dv' ++ leafT bPackaging dk := ⟨_, rfl⟩
  rw [← hK4] at HK HKL
  have HK4 := Lib.hid hK4
  clear hK4
  obtain ⟨c0, c1, c2, c3, c4, c5, c6, c7, c8, c9, c10⟩ := bxc11 HD.out
  have cl := HD.out.lt
  go_upto_region 9 with fail
  refine wp_world ?_
  intro W8 hW8
  have hw8 : w7 = W8 := hW8.symm
  subst hw8
  clear c0 c1 c2 c3 c4 c5 c6 c7 c8 c9 c10 cl
  go_loopw [4, 43] (fun xv i wr => ∃ (j : Nat) (eo : Option Addr) (ec : Nat) (XL : List TrV), j ≤ dp.length ∧ i = .int .i64 j ∧ xv = .slice eo XL.length ec ∧ Hid (Below w7.heap.size w7 wr ∧ Grow w7.heap.size wr (.slice eo XL.length ec) ((dp.take j).map propT) XL)) (fun _ i _ => dp.length - (intOf i).toNat)
  case atStart => exact ⟨0, none, 0, [], Nat.zero_le _, rfl, rfl, Below.refl _ _, Grow.nil _ _⟩
  case round =>
   obtain ⟨j, eo, ec, XL, hj, rfl, rfl, HJJ⟩ := hrel
   by_cases hjl : j < dp.length
   · have HTJ := Lib.hid (List.take_succ_eq_append_getElem hjl)
     have hbwr := HB2.out.trans ((HBW.out.trans (HJJ.out.1.mono HBW.out.size)).mono HB2.out.size)
     obtain ⟨g2, o2, hgo, hg2, c0, c1⟩ := (H1.out.below hbwr).atPrp hjl
     have hsj := HJJ.out.1.size
     have HXL : Hid (XL.length ≤ 2000) := by
      show _ ≤ _
      have h1 := HJJ.out.2.len
      rw [List.length_map, List.length_take] at h1
      have := HN1.out
      omega
     have HJT : Hid (j < dp.length) := hjl
     have hj20 : j < 2000 := by have := HN1.out; omega
     have hjI : (j : Int) < (dp.length : Int) := by omega
     subst hgo
     clear hbwr
     generalize dp[j] = y at *
     obtain ⟨y1, y2⟩ := y
     simp only at c0 c1
     go_upto_region 12 with fail
     refine wp_world ?_
     intro W11 hW11
     have x6 : Box W11 wr.heap.size [.string y1, .string y2] := by rw [hW11]; exact (Box.new wr [.string y1, .string y2] _ _ rfl).alloc _
     have x7 : Box W11 (wr.heap.size + 1) [.string y1, .slice none 0 0, .slice none 0 0, .string ⟨#[]⟩] := by rw [hW11]; exact Box.new _ [.string y1, .slice none 0 0, .slice none 0 0, .string ⟨#[]⟩] _ _ (by simp)
     have hb11 : Below wr.heap.size wr W11 := by rw [hW11]; exact ((Below.refl _ _).alloc (Nat.le_refl _) _).alloc (by simp) _
     clear hW11 c0 c1
     have HX6 := Lib.hid x6
     have HX7 := Lib.hid x7
     have HB11 := Lib.hid hb11
     have HSW : Hid (wr.heap.size + 1 < W11.heap.size) := x7.lt
     have HXO : Hid (∀ g, (Value.slice eo XL.length ec).ownBlock = some g → g < wr.heap.size) := fun g hg => (HJJ.out.2.lt g hg).2
     have a0 := x6.cell 0 _ rfl
     have a1 := x6.cell 1 _ rfl
     have al := x6.lt
     obtain ⟨b0, b1, b2, b3⟩ := bxc4 x7
     have bf2 := x7.free 2
     have bl := x7.lt
     clear x6 x7 hb11
     obtain ⟨em, hem⟩ : ∃ em, em = y2.toList.isEmpty := ⟨_, rfl⟩
     have HPT : Hid (propT ⟨y1, y2⟩ = .mk y1.data.toList [] (if em then [] else [.mk [] [] [] y2.data.toList]) []) := by show _ = _; rw [hem]; rfl
     have hE : y2.toList.isEmpty = em := hem.symm
     have hE2 : (!y2.toList.isEmpty) = !em := by rw [hE]
     clear hem
     go_upto_if 52 with fail
     go_cut [] from 50 to 57 (fun wx => ∃ ko kn kc, Hid (Box wx (wr.heap.size + 1) [.string y1, .slice none 0 0, .slice ko kn kc, .string ⟨#[]⟩] ∧ Below wr.heap.size wr wx ∧ NodeX (fun j => j < wr.heap.size) wx (propT ⟨y1, y2⟩) (.slice none 0 0) (.slice ko kn kc)))
     case first =>
      cases em with
      | true =>
       have HPN : Hid (propT ⟨y1, y2⟩ = .mk y1.data.toList [] [] []) := HPT.out
       clear HPT
       go_wp2
       go_meet
       case rel => exact ⟨none, 0, 0, HX7.out, HB11.out, by rw [HPN.out]; exact .mk [] SliceX.nil rfl SliceX.nil (by simp)⟩
      | false =>
       have HPN : Hid (propT ⟨y1, y2⟩ = .mk y1.data.toList [] [.mk [] [] [] y2.data.toList] []) := HPT.out
       clear HPT
       go_wp2
       go_meet
       case rel =>
        refine ⟨some ⟨W11.heap.size, 0, none⟩, 1, 1, (HX7.out.set 2 _).alloc _, (HB11.out.setCell (p := ⟨wr.heap.size + 1, 2, none⟩) (by exact (by omega : wr.heap.size ≤ wr.heap.size + 1)) _).alloc (by simpa using HB11.out.size) _, ?_⟩
        rw [HPN.out]
        have h1 := leaf_node (fun j => j < wr.heap.size) y1.data.toList y2.data.toList (W11.setCell ⟨wr.heap.size + 1, 2, none⟩ (.slice (some ⟨W11.heap.size, 0, none⟩) 1 1)) W11.heap.size (by simp) (fun h => by have := HSW.out; omega)
        rw [data_bs] at h1
        exact h1
     case rest =>
      obtain ⟨ko, kn, kc, hcc⟩ := hcut
      have HX7c := Lib.hid hcc.out.1
      have HBc := Lib.hid hcc.out.2.1
      have HNc := Lib.hid hcc.out.2.2
      clear hcc a0 a1 al b0 b1 b2 b3 bf2 bl HX6 HX7 HB11 HPT hE hE2
      have HXG := Lib.hid (HJJ.out.2.below HBc.out)
      have hlt : SliceOf 4 trC (wc.alloc (.cells #[.string y1, .slice none 0 0, .slice ko kn kc, .string ⟨#[]⟩] 25)) (.slice (some ⟨wc.heap.size, 0, none⟩) 1 1) [((propT ⟨y1, y2⟩, .slice none 0 0, .slice ko kn kc) : TrV)] := by
       have h := tr_lit ((propT ⟨y1, y2⟩, .slice none 0 0, .slice ko kn kc) : TrV) wc wc.heap.size rfl
       rw [show (trC ((propT ⟨y1, y2⟩, .slice none 0 0, .slice ko kn kc) : TrV)).toArray = #[.string y1, .slice none 0 0, .slice ko kn kc, .string ⟨#[]⟩] from by show #[Value.string (bs y1.data.toList), _, _, Value.string (bs [])] = _; rw [data_bs]; rfl] at h
       exact h
      have HLT := Lib.hid hlt
      have hone : ∀ u ∈ trC ((propT ⟨y1, y2⟩, .slice none 0 0, .slice ko kn kc) : TrV), u.oneCell' = true := tr_one _ _ _ _ _ _ _ _ _ _
      have HONE := Lib.hid hone
      clear hlt hone
      obtain ⟨b0, b1, b2, b3⟩ := bxc4 HX7c.out
      have bl := HX7c.out.lt
      go_wp2_with (at_builtin; refine wpList_append_slice _ rfl _ _ 23 rfl w7.heap.size 25 Tryz.underlying23 info_node rfl (by decide) trC_len (.slice eo XL.length ec) XL rfl (HXG.out.own.alloc _) _ [((propT ⟨y1, y2⟩, .slice none 0 0, .slice ko kn kc) : TrV)] rfl HLT.out (fun y hy => by obtain rfl := List.mem_singleton.1 hy; exact HONE.out) (by have h1 := HXL.out; simp only [List.length_cons, List.length_nil]; omega) (by decide) (by have h1 := HJJ.out.1.size; have h2 := HBc.out.size; simp; omega) ?_; intro v9 w9 hown9 hgrow9 hloc9; have HO9 := Lib.hid hown9; have HG9 := Lib.hid hgrow9; have HL9 := Lib.hid hloc9; clear hown9 hgrow9 hloc9; obtain ⟨a9, c9, rfl⟩ := HO9.out.shape)
      go_roundw
      case rel =>
       have hal := (Below.refl wc.heap.size wc).alloc (Nat.le_refl _) (.cells #[.string y1, .slice none 0 0, .slice ko kn kc, .string ⟨#[]⟩] 25)
       have hw := HBc.out.alloc HBc.out.size (.cells #[.string y1, .slice none 0 0, .slice ko kn kc, .string ⟨#[]⟩] 25)
       have hgr := HJJ.out.2.snoc hw HO9.out HG9.out HL9.out ((HNc.out.keep (KeptX.refl _ _) (fun j _ hj => hj.elim (fun h => Nat.lt_of_lt_of_le h HJJ.out.1.size) (fun h => HXO.out j h.symm))).later hal)
       refine ⟨j + 1, a9, c9, XL ++ [((propT ⟨y1, y2⟩, .slice none 0 0, .slice ko kn kc) : TrV)], HJT.out, by go_num, by simp, HJJ.out.1.trans ((hw.mono HJJ.out.1.size).trans (below_own HG9.out (fun g hg => (HJJ.out.2.lt g hg).1) (Nat.le_trans HJJ.out.1.size hw.size))), ?_⟩
       rw [HTJ.out, List.map_append, List.map_cons, List.map_nil]
       exact hgr
      case measure => simp [intOf]; have := HJT.out; omega
   · obtain rfl : j = dp.length := by omega
     have hX := HJJ.out.2
     rw [List.take_length] at hX
     have HXX := Lib.hid hX
     have HKX := Lib.hid (HK.out.below HJJ.out.1)
     have HBX := Lib.hid (HBW.out.trans (HJJ.out.1.mono HBW.out.size))
     have HKO : Hid (∀ g, (Value.slice ko7 KL7.length kc7).ownBlock = some g → g < w7.heap.size) := fun g hg => (HK.out.lt g hg).2
     have HSW7 : Hid (W2.heap.size ≤ w7.heap.size) := HBW.out.size
     clear hX HK HBW HD hjl
     have HK := HKX
     have HBW := HBX
     have HD := Lib.hid (HP0.out.below HBX.out HP0.out.lt)
     clear HKX HBX
     obtain ⟨c0, c1, c2, c3, c4, c5, c6, c7, c8, c9, c10⟩ := bxc11 HD.out
     have cl := HD.out.lt
     go_wp2_with fail
     refine (branchQ_any W2.heap.size w7.heap.size _ _ _ _ KL7 XL bProperties _ HK.out HXX.out HSW7.out HKO.out HBW.out.size (Nat.le_trans HKL.out (by decide))).mono ?_
     intro e w7 hO
     obtain ⟨kv7, KL7, rfl, hk7, hg7, hl7⟩ := hO
     clear HKO HSW7
     have HB7 := Lib.hid (below_own hg7 (fun g hg => (HK.out.lt g hg).1) HBW.out.size)
     have HK7 := Lib.hid hk7
     have HBW7 := Lib.hid (HBW.out.trans HB7.out)
     have HD7 := Lib.hid (HP0.out.below HBW7.out HP0.out.lt)
     obtain ⟨ko7, kc7, rfl⟩ := hk7.own.shape
     have HKL7 := Lib.hid (br_len HKL.out bProperties (dp.map propT))
     clear c0 c1 c2 c3 c4 c5 c6 c7 c8 c9 c10 cl
     clear hk7 hg7 hl7 HB7 HK HBW HD HKL
     have HK := HK7
     have HBW := HBW7
     have HD := HD7
     have HKL := HKL7
     clear HK7 HBW7 HD7 HKL7
     obtain ⟨c0, c1, c2, c3, c4, c5, c6, c7, c8, c9, c10⟩ := bxc11 HD.out
     have cl := HD.out.lt
     go_wp2_with fail
     refine (writeDepsQ_any w7.heap.size _ _ [] [] dm w7 (Grow.nil _ _) (H2.out.below (HB2.out.trans (HBW.out.mono HB2.out.size))) (Nat.le_refl _) (by simp) HN2.out HX2.out).mono ?_
     intro e w8 hO
     obtain ⟨mv8, ML8, rfl, hm8, hg8, hl8⟩ := hO
     have hb8 : Below w7.heap.size w7 w8 := below_own hg8 (by simp [Value.ownBlock]) (Nat.le_refl _)
     have HM8 := Lib.hid hm8
     obtain ⟨mo8, mc8, rfl⟩ := hm8.own.shape
     have HK8 := Lib.hid (HK.out.below hb8)
     have HKO : Hid (∀ g, (Value.slice ko7 KL7.length kc7).ownBlock = some g → g < w7.heap.size) := fun g hg => (HK.out.lt g hg).2
     have HSW7 : Hid (W2.heap.size ≤ w7.heap.size) := HBW.out.size
     have HBW8 := Lib.hid (HBW.out.trans (hb8.mono HBW.out.size))
     clear c0 c1 c2 c3 c4 c5 c6 c7 c8 c9 c10 cl
     clear hm8 hg8 hl8 hb8 HK HBW HD
     have HK := HK8
     have HBW := HBW8
     have HD := Lib.hid (HP0.out.below HBW8.out HP0.out.lt)
     clear HK8 HBW8
     obtain ⟨c0, c1, c2, c3, c4, c5, c6, c7, c8, c9, c10⟩ := bxc11 HD.out
     have cl := HD.out.lt
     go_wp2_with fail
     refine (branchQ_any W2.heap.size w7.heap.size _ _ _ _ KL7 ML8 bManagement _ HK.out HM8.out HSW7.out HKO.out HBW.out.size (Nat.le_trans HKL.out (by decide))).mono ?_
     intro e w7 hO
     obtain ⟨kv7, KL7, rfl, hk7, hg7, hl7⟩ := hO
     clear HKO HSW7 HM8
     have HB7 := Lib.hid (below_own hg7 (fun g hg => (HK.out.lt g hg).1) HBW.out.size)
     have HK7 := Lib.hid hk7
     have HBW7 := Lib.hid (HBW.out.trans HB7.out)
     have HD7 := Lib.hid (HP0.out.below HBW7.out HP0.out.lt)
     obtain ⟨ko7, kc7, rfl⟩ := hk7.own.shape
     have HKL7 := Lib.hid (br_len HKL.out bManagement ([] ++ depsT dm))
     clear c0 c1 c2 c3 c4 c5 c6 c7 c8 c9 c10 cl
     clear hk7 hg7 hl7 HB7 HK HBW HD HKL
     have HK := HK7
     have HBW := HBW7
     have HD := HD7
     have HKL := HKL7
     clear HK7 HBW7 HD7 HKL7
     obtain ⟨c0, c1, c2, c3, c4, c5, c6, c7, c8, c9, c10⟩ := bxc11 HD.out
     have cl := HD.out.lt
     go_wp2_with fail
     refine (writeDepsQ_any W2.heap.size _ _ _ _ dd w7 HK.out (H3.out.below (HB2.out.trans (HBW.out.mono HB2.out.size))) HBW.out.size (Nat.le_trans HKL.out (by decide)) HN3.out HX3.out).mono ?_
     intro e w8 hO
     obtain ⟨kv7, KL7, rfl, hk7, hg7, hl7⟩ := hO
     have HB7 := Lib.hid (below_own hg7 (fun g hg => (HK.out.lt g hg).1) HBW.out.size)
     have HK7 := Lib.hid hk7
     have HBW7 := Lib.hid (HBW.out.trans HB7.out)
     obtain ⟨ko7, kc7, rfl⟩ := hk7.own.shape
     have HR8 := Lib.hid (HR0.out.below HBW7.out HR0.out.lt)
     clear c0 c1 c2 c3 c4 c5 c6 c7 c8 c9 c10 cl
     clear hk7 hg7 hl7 HB7 HK HBW HD HKL
     have HTT : Hid (T = .mk bProject [] (K4 ++ branchT bProperties (dp.map propT) ++ branchT bManagement ([] ++ depsT dm) ++ depsT dd) []) := by show _ = _; rw [HT.out, HK4.out]; rfl
     go_wp2_with ((with_reducible show wpList _ _ _ (Oper.mk none (Op.store 25 (.tmp 2) (.tmp 75)) _ _ _ _ :: _) _ _); refine wpList_store_box rfl 25 (.tmp 2) (.tmp 75) rfl (w.heap.size + 1) [.string ⟨#[]⟩, .slice none 0 0, .slice none 0 0, .string ⟨#[]⟩] [.string ⟨#[112, 114, 111, 106, 101, 99, 116]⟩, .slice none 0 0, .slice ko7 KL7.length kc7, .string ⟨#[]⟩] rfl rfl HR8.out rfl size_node (by simp [Value.oneCell']) ?_; intro W10 v10 hg10; have HV10 := Lib.hid v10; have HG10 := Lib.hid hg10; clear v10 hg10)
     refine bodyPost_ret (results_cell_box rfl _ _ (w.heap.size + 1) [.string ⟨#[112, 114, 111, 106, 101, 99, 116]⟩, .slice none 0 0, .slice ko7 KL7.length kc7, .string ⟨#[]⟩] rfl HV10.out Tryz.underlying25 rfl size_node) rfl ?_
     refine ⟨.slice ko7 KL7.length kc7, ?_, ?_, ?_⟩
     · rw [HTT.out]; rfl
     · rw [HTT.out]
       have h1 := HK7.out.node bProject (X := fun j => j < W2.heap.size) (fun j hj => hj)
       exact (h1.keep (KeptX.grown HG10.out (fun g e => by cases e; exact HSR.out)) (fun _ _ h => h)).node
     · exact (HB2.out.trans (HBW7.out.mono HB2.out.size)).trans (below_row HG10.out (by omega) (Nat.le_trans HB2.out.size HBW7.out.size))

end Go.Proofs.YtbbbfjcikhpmbaaGreat

/- The document's leaf, branch and all: rows of nodes; the conditions stand in the theorems. -/

namespace Go.Proofs.YtbbbfjcikhpmbaaGreat
open Go Go.RowKit

/-- A value that reads as a row of nodes, outside of the blocks X. -/
def RowX (X : Nat → Prop) (w : World) (v : Value) (ts : List Tr) : Prop := ∃ L : List TrV, L.map (·.1) = ts ∧ SliceX 4 trC X w v L ∧ ∀ y ∈ L, NodeX X w y.1 y.2.1 y.2.2
theorem RowX.later {X : Nat → Prop} {w w' : World} {v : Value} {ts : List Tr} (h : RowX X w v ts) (hb : Below w.heap.size w w') : RowX X w' v ts := by
 obtain ⟨L, h1, h2, h3⟩ := h
 exact ⟨L, h1, h2.below hb, fun y hy => (h3 y hy).later hb⟩
theorem RowX.shape {X : Nat → Prop} {w : World} {v : Value} {ts : List Tr} (h : RowX X w v ts) : ∃ o c, v = .slice o ts.length c := by
 obtain ⟨L, rfl, h2, -⟩ := h
 obtain ⟨o, c, e⟩ := h2.shape
 exact ⟨o, c, by rw [e, List.length_map]⟩
theorem RowX.nil (X : Nat → Prop) (w : World) : RowX X w (.slice none 0 0) [] := ⟨[], rfl, SliceX.nil, fun _ h => by cases h⟩
theorem RowX.node {X : Nat → Prop} {w : World} {v : Value} {ts : List Tr} (h : RowX X w v ts) (n : Bs) : NodeX X w (.mk n [] ts []) (.slice none 0 0) v := by
 obtain ⟨L, h1, h2, h3⟩ := h
 exact .mk L SliceX.nil h1 h2 h3
/-- What a function returns that makes a row. -/
def RowP (X : Nat → Prop) (ts : List Tr) (w : World) (e : Ending) (w' : World) : Prop := ∃ o n c, e = .returned (.slice o n c) ∧ RowX X w' (.slice o n c) ts ∧ Below w.heap.size w w'
theorem tr_one' {X : Nat → Prop} {y : TrV} {w : World} (h : NodeX X w y.1 y.2.1 y.2.2) : ∀ u ∈ trC y, u.oneCell' = true := by
 obtain ⟨⟨n, a, k, x⟩, v, u⟩ := y
 obtain ⟨q1, q2, q3, q4, f1, f2, -, -⟩ := h.shape
 have e1 : v = .slice q1 a.length q2 := f1
 have e2 : u = .slice q3 k.length q4 := f2
 clear f1 f2
 subst e1 e2
 exact fun u hu => tr_one _ _ _ _ _ _ _ _ _ _ u hu
/-- A row literal of one node. -/
theorem row_lit {X : Nat → Prop} (y : TrV) (W : World) (H : Nat) (hH : W.heap.size = H) (h : NodeX X W y.1 y.2.1 y.2.2) (hX : ∀ j, X j → j < H) : RowX X (W.alloc (.cells (trC y).toArray 25)) (.slice (some ⟨H, 0, none⟩) 1 1) [y.1] := by
 refine ⟨[y], rfl, ?_, fun z hz => by rw [List.mem_singleton.1 hz]; exact h.later ((Below.refl _ _).alloc (Nat.le_refl _) _)⟩
 obtain ⟨ao, cap, e, h1, h2, h3, h4⟩ := tr_lit y W H hH
 refine ⟨ao, cap, e, h1, h2, h3, fun i x hx => ?_⟩
 obtain ⟨b, o, e1, e2, e3⟩ := h4 i x hx
 subst e1
 simp only [Value.slice.injEq, Option.some.injEq, Addr.mk.injEq] at e
 exact ⟨b, o, rfl, e2, fun hx => by have := hX b hx; omega, e3⟩
set_option maxRecDepth 100000 in
set_option maxHeartbeats 4000000 in
theorem leafR_any (X : Nat → Prop) (n : Bs) (s : S) (w : World) (hX : ∀ j, X j → j < w.heap.size) : Calls Tryz.prog 58 #[.string (bs n), .string s] w (RowP X (leafT n s) w) := by
 have HX := Lib.hid hX
 obtain ⟨em, hem⟩ : ∃ em, em = s.toList.isEmpty := ⟨_, rfl⟩
 have HE : Hid (leafT n s = if em then [] else [.mk n [] [.mk [] [] [] s.data.toList] []]) := by show _ = _; rw [hem]; rfl
 have hE : s.toList.isEmpty = em := hem.symm
 have hE2 : decide (s.toList = []) = em := by rw [← hE]; cases s.toList <;> rfl
 clear hem
 cases em with
 | true =>
  have HT : Hid (leafT n s = []) := HE.out
  have hE3 : s.toList = [] := of_decide_eq_true hE2
  clear HE hE2 hX
  go_enter Tryz.func58, Tryz.ntmps58
  go_wp2
  go_ret
  refine ⟨none, 0, 0, rfl, ?_, Below.refl _ _⟩
  rw [HT.out]
  exact RowX.nil _ _
 | false =>
  have HT : Hid (leafT n s = [.mk n [] [.mk [] [] [] s.data.toList] []]) := HE.out
  have hE3 : ¬ s.toList = [] := of_decide_eq_false hE2
  clear HE hE2 hX
  have HL := Lib.hid (leaf_node X n s.data.toList w w.heap.size rfl (fun h => absurd (HX.out _ h) (Nat.lt_irrefl _)))
  go_enter Tryz.func58, Tryz.ntmps58
  go_wp2
  go_ret
  have hal : Below w.heap.size w ((w.alloc (.cells #[.string ⟨#[]⟩, .slice none 0 0, .slice none 0 0, .string s] 25)).alloc (.cells #[.string (bs n), .slice none 0 0, .slice (some ⟨w.heap.size, 0, none⟩) 1 1, .string ⟨#[]⟩] 25)) := ((Below.refl _ w).alloc (Nat.le_refl _) _).alloc (by simp) _
  refine ⟨_, _, _, rfl, ?_, hal⟩
  rw [HT.out]
  have h1 := HL.out
  rw [data_bs] at h1
  exact row_lit (.mk n [] [.mk [] [] [] s.data.toList] [], .slice none 0 0, .slice (some ⟨w.heap.size, 0, none⟩) 1 1) _ _ (by simp) h1 (fun j h => Nat.lt_succ_of_lt (HX.out j h))
set_option maxRecDepth 100000 in
set_option maxHeartbeats 4000000 in
theorem branchR_any (X : Nat → Prop) (n : Bs) (kv : Value) (ks : List Tr) (w : World) (h : RowX X w kv ks) (hX : ∀ j, X j → j < w.heap.size) : Calls Tryz.prog 56 #[.string (bs n), kv] w (RowP X (branchT n ks) w) := by
 obtain ⟨o, c, rfl⟩ := h.shape
 have HR := Lib.hid h
 have HX := Lib.hid hX
 clear h hX
 cases ks with
 | nil =>
  go_enter Tryz.func56, Tryz.ntmps56
  go_wp2
  go_ret
  exact ⟨none, 0, 0, rfl, RowX.nil _ _, Below.refl _ _⟩
 | cons k r =>
  obtain ⟨m, hm⟩ : ∃ m, m = (k :: r).length := ⟨_, rfl⟩
  have hm0 : 0 < m := by rw [hm]; simp
  rw [← hm] at HR ⊢
  clear hm
  have hz : ((m : Int) == 0) = false := by simp; omega
  have hz2 : ¬ ((m : Int) = 0) := by omega
  go_enter Tryz.func56, Tryz.ntmps56
  go_wp2
  go_ret
  have hal := fun o => (Below.refl _ w).alloc (Nat.le_refl w.heap.size) o
  exact ⟨_, _, _, rfl, row_lit (.mk n [] (k :: r) [], .slice none 0 0, .slice o m c) _ _ rfl (HR.out.node n) HX.out, hal _⟩
theorem flat_le {M : Nat} : ∀ {rows : List (List Tr)}, (∀ ts ∈ rows, ts.length ≤ M) → rows.flatten.length ≤ rows.length * M
 | [], _ => by simp
 | t :: r, h => by
  have h1 := flat_le (rows := r) (fun ts hs => h ts (by simp [hs]))
  have h2 := h t (by simp)
  rw [List.flatten_cons, List.length_append, List.length_cons, Nat.add_mul, Nat.one_mul]
  omega
/-- Rows one behind the other. -/
def RowsX (X : Nat → Prop) (w : World) (v : Value) (rows : List (List Tr)) : Prop := ∃ (V : List Value), V.length = rows.length ∧ SliceOf 1 (fun x => [x]) w v V ∧ ∀ (i : Nat) (x : Value) (ts : List Tr), V[i]? = some x → rows[i]? = some ts → RowX X w x ts
theorem RowsX.later {X : Nat → Prop} {w w' : World} {v : Value} {rows : List (List Tr)} (h : RowsX X w v rows) (hb : Below w.heap.size w w') : RowsX X w' v rows := by
 obtain ⟨V, h1, h2, h3⟩ := h
 exact ⟨V, h1, h2.below hb, fun i x ts hx ht => (h3 i x ts hx ht).later hb⟩
/-- A literal of rows. -/
theorem rows_lit {X : Nat → Prop} (V : List Value) (rows : List (List Tr)) (W : World) (T : TypeId) (H : Nat) (hH : W.heap.size = H) (hl : V.length = rows.length) (hm : V.length ≤ maxLen) (h : ∀ (i : Nat) (x : Value) (ts : List Tr), V[i]? = some x → rows[i]? = some ts → RowX X W x ts) : RowsX X (W.alloc (.cells V.toArray T)) (.slice (some ⟨H, 0, none⟩) V.length V.length) rows := by
 subst hH
 refine ⟨V, hl, ⟨_, _, rfl, Nat.le_refl _, hm, by simp, fun i x hx => ⟨_, _, rfl, by simp, fun j u hu => ?_⟩⟩, fun i x ts hx ht => (h i x ts hx ht).later ((Below.refl _ _).alloc (Nat.le_refl _) _)⟩
 cases j with
 | succ j => simp at hu
 | zero =>
  simp at hu
  subst hu
  simp only [Nat.zero_add, Nat.mul_one, Nat.add_zero]
  rw [cell_of_row (W.alloc (.cells V.toArray T)) W.heap.size i _ T (0, 0) (heap_alloc_new W _)]
  simpa using hx
set_option maxRecDepth 100000 in
set_option maxHeartbeats 8000000 in
theorem allR_any (X : Nat → Prop) (v : Value) (rows : List (List Tr)) (w : World) (h : RowsX X w v rows) (hX : ∀ j, X j → j < w.heap.size) (hn : rows.length ≤ 100) (hl : ∀ ts ∈ rows, ts.length ≤ 100000) : Calls Tryz.prog 57 #[v] w (RowP X rows.flatten w) := by
 obtain ⟨V, hV, hs, hr⟩ := h
 obtain ⟨ao, ac, rfl⟩ := hs.shape
 rw [hV]
 rw [hV] at hs
 obtain ⟨m, hm⟩ : ∃ m, m = rows.length := ⟨_, rfl⟩
 rw [← hm] at hs ⊢
 have HS := Lib.hid hs
 have HR := Lib.hid hr
 have HL := Lib.hid hl
 have HV := Lib.hid (hV.trans hm.symm)
 have HM := Lib.hid hm
 have HN := Lib.hid hn
 have HX := Lib.hid hX
 have hm100 : m ≤ 100 := by omega
 clear hV hs hr hl hn hm hX
 go_enter Tryz.func57, Tryz.ntmps57
 go_wp2
 go_loopw [3, 5, 8] (fun u u5 i wr => ∃ (k : Nat) (L : List TrV) (o : Option Addr) (c : Nat), k ≤ m ∧ i = .int .i64 k ∧ u = .slice o L.length c ∧ Hid (Owns w.heap.size 25 4 trC wr (.slice o L.length c) L ∧ L.map (·.1) = (rows.take k).flatten ∧ ∀ y ∈ L, NodeX X w y.1 y.2.1 y.2.2) ∧ Hid (Below w.heap.size w wr)) (fun _ _ i _ => m - (intOf i).toNat)
 case atStart => exact ⟨0, [], none, 0, Nat.zero_le _, rfl, rfl, Lib.hid ⟨Owns.nil, by simp, fun _ h => by cases h⟩, Lib.hid (Below.refl _ _)⟩
 case round =>
  obtain ⟨k, L, o, c, hk, rfl, rfl, HO, HB⟩ := hrel
  by_cases hlt : k < m
  · have hli : (k : Int) < (m : Int) := by omega
    have hrl : k < rows.length := by have := HM.out; omega
    have htk : rows[k]? = some rows[k] := List.getElem?_eq_getElem hrl
    have hvl : k < V.length := by have := HV.out; omega
    have hx : V[k]? = some V[k] := List.getElem?_eq_getElem hvl
    have hrk := HR.out k _ _ hx htk
    have HTL := Lib.hid (HL.out _ (List.getElem_mem hrl))
    generalize hts : rows[k] = tsk at *
    generalize V[k] = x at *
    obtain ⟨b, q, rfl, hbl, hc⟩ : ∃ b q, ao = some ⟨b, q, none⟩ ∧ b < w.heap.size ∧ w.cell? ⟨b, q + k, none⟩ = some x := by
     obtain ⟨ao', c', e, -, -, -, h4⟩ := HS.out
     simp only [Value.slice.injEq] at e
     obtain ⟨rfl, -, rfl⟩ := e
     obtain ⟨b, q, e1, e2, e3⟩ := h4 k x hx
     exact ⟨b, q, e1, e2, by simpa using e3 0 x rfl⟩
    obtain ⟨o1, c1, rfl⟩ := hrk.shape
    obtain ⟨L2, h21, h22, h23⟩ := hrk
    have hz2 : L2.length = tsk.length := by rw [← h21, List.length_map]
    have HTK := Lib.hid (show rows.take (k + 1) = rows.take k ++ [tsk] from by rw [List.take_succ_eq_append_getElem hrl, hts])
    have HBY : Hid ((L.length + L2.length) * 80 ≤ 140737488355328) := by
     have h1 := flat_le (rows := rows.take k) (M := 100000) (fun ts h => HL.out ts (List.mem_of_mem_take h))
     rw [← HO.out.2.1, List.length_map] at h1
     have h2 : (rows.take k).length ≤ 100 := by rw [List.length_take]; have := HN.out; omega
     have h3 := HTL.out
     have h4 := Nat.mul_le_mul_right 100000 h2
     show _ ≤ _
     omega
    have HS2 := Lib.hid (h22.below HB.out).slice
    have HL2 := Lib.hid h21
    have HN2 := Lib.hid h23
    have hc2 := (HB.out.cell (p := ⟨b, q + k, none⟩) (by exact hbl)).trans hc
    have hbw := Nat.lt_of_lt_of_le hbl HB.out.size
    clear hx htk hts h21 h22 h23 hz2 hc hbl hrl hvl
    generalize tsk.length = n1 at *
    go_wp2_with (at_builtin; refine wpList_append_slice _ rfl _ _ 23 rfl w.heap.size 25 Tryz.underlying23 info_node rfl (by decide) trC_len (.slice o L.length c) L rfl HO.out.1 _ L2 rfl HS2.out (fun y hy => tr_one' (HN2.out y hy)) HBY.out (by decide) HB.out.size ?_; intro v9 w9 hown9 hgr9 hloc9; obtain ⟨o9, c9, rfl⟩ := hown9.shape; have HO9 := Lib.hid hown9; have HG9 := Lib.hid (below_own hgr9 (fun g e => (HO.out.1.lt g e).1) HB.out.size); clear hown9 hgr9 hloc9)
    go_roundw
    case rel =>
     refine ⟨k + 1, L ++ L2, o9, c9, by omega, by go_num, by simp, Lib.hid ⟨HO9.out, ?_, fun y hy => (List.mem_append.1 hy).elim (HO.out.2.2 y) (HN2.out y)⟩, Lib.hid (HB.out.trans HG9.out)⟩
     rw [HTK.out, List.map_append, HO.out.2.1, HL2.out]
     simp
    case measure => simp [intOf]; omega
  · obtain rfl : k = m := by omega
    go_wp2
    go_ret
    refine ⟨_, _, _, rfl, ⟨L, ?_, HO.out.1.toX trC_len (fun g e hx => by have h1 := HX.out g hx; have h2 := (HO.out.1.lt g e).1; omega), fun y hy => (HO.out.2.2 y hy).later HB.out⟩, HB.out⟩
    rw [HO.out.2.1, HM.out, List.take_length]

end Go.Proofs.YtbbbfjcikhpmbaaGreat
