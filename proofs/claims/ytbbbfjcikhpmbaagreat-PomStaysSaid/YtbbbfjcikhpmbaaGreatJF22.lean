/- The walk of pom.writeDeps; the conditions stand in the theorem. -/
import Derived.Test.YtbbbfjcikhpmbaaGreatJF21
import Derived.Test.YtbbbfjcikhpmbaaGreatJF13
import Derived.Test.YtbbbfjcikhpmbaaGreatJF06
import Derived.Deep.RegionHeld3
import Derived.Deep.CutBlock
import Derived.Test.YtbbbfjcikhpmbaaGreatJF11
namespace Go.Proofs.YtbbbfjcikhpmbaaGreat
open Go Go.RowKit

def exT (x : Id) : Tr := .mk bExclusion [] (leafT bGroup x.group ++ leafT bArtifact x.artifact) []
def optT (n : Int) : List Tr := if n = 1 then leafT bOptional (bs bTrue) else if n = 2 then leafT bOptional (bs bFalse) else []
def depT (d : Dep) : Tr := .mk bDependency [] ((((((([] ++ leafT bGroup d.group) ++ leafT bArtifact d.artifact) ++ leafT bVersion d.version) ++ leafT bType d.type) ++ leafT bClassifier d.classifier) ++ leafT bScope (bs (wordB d.scope))) ++ optT d.opt ++ branchT bExclusions (d.excl.map exT)) []
def depsT (ds : List Dep) : List Tr := branchT bDependencies (ds.map depT)
theorem below_own {B : Nat} {w w' : World} {row : Option Nat} (hg : w.grownBy w' row) (hX : ∀ g, row = some g → B ≤ g) (hs : B ≤ w.heap.size) : Below B w w' :=
 ⟨hg.os, hg.tape, hg.output, hg.size, fun k hk => hg.block k (by omega) (fun e => by have := hX k e.symm; omega)⟩
theorem Grow.node {kb : Nat} {w : World} {kv : Value} {ks : List Tr} {KL : List TrV} (h : Grow kb w kv ks KL) (n : Bs) {X : Nat → Prop} (hX : ∀ j, X j → j < kb) : NodeX X w (.mk n [] ks []) (.slice none 0 0) kv :=
 .mk KL SliceX.nil h.are (h.sliceX (fun g hg hx => by have h1 := (h.lt g hg).1; have h2 := hX g hx; omega)) (fun y hy => (h.nodes y hy).keep (KeptX.refl _ _) (fun k _ hx => .inl (hX k hx)))
theorem leafT_len (n : Bs) (s : S) : (leafT n s).length ≤ 1 := by unfold leafT; split <;> simp
theorem optT_len (n : Int) : (optT n).length ≤ 1 := by
 unfold optT
 split
 · exact leafT_len _ _
 · split
   · exact leafT_len _ _
   · simp
theorem leaf_len {ts : List Tr} {m : Nat} (h : ts.length ≤ m) (n : Bs) (s : S) : (ts ++ leafT n s).length ≤ m + 1 := by rw [List.length_append]; have := leafT_len n s; omega
set_option maxRecDepth 100000 in
set_option maxHeartbeats 16000000 in
theorem writeDepsQ_any (b : Nat) (v dv : Value) (ts : List Tr) (L : List TrV) (ds : List Dep) (w : World) (h : Grow b w v ts L) (hd : DepsOf w dv ds) (hb : b ≤ w.heap.size) (hl : ts.length ≤ 10000) (hn : ds.length ≤ 2000) (hx : ∀ d ∈ ds, d.excl.length ≤ 2000) :
    Calls Tryz.prog 55 #[v, dv] w (GrowP b w v (ts ++ depsT ds)) := by
 have hLl := h.len
 obtain ⟨ao, ac, rfl⟩ := h.own.shape
 obtain ⟨l, hel, hdl, hdo⟩ := hd
 have hlen : l.length = ds.length := by rw [← hel, List.length_map]
 obtain ⟨lo, lc, rfl⟩ := hdl.shape
 have HG := Lib.hid h
 have HDL := Lib.hid hdl
 have HDO := Lib.hid hdo
 have HEL := Lib.hid hel
 have HXN : Hid (∀ q ∈ l, q.1.excl.length ≤ 2000) := fun q hq => hx _ (by rw [← hel]; exact List.mem_map.2 ⟨q, hq, rfl⟩)
 have HTS : Hid (ts.length ≤ 100000) := by show _ ≤ _; omega
 have HLN : Hid (l.length ≤ 2000) := by show _ ≤ _; omega
 have HBW0 : Hid (b ≤ w.heap.size) := hb
 clear h hel hdl hdo hx hlen hl hn hb hLl
 go_enter Tryz.func55, Tryz.ntmps55
 go_wp2
 go_loopw [5, 14] (fun av i wr => ∃ (k : Nat) (oa : Option Addr) (oc : Nat) (AL : List TrV), k ≤ l.length ∧ i = .int .i64 k ∧ av = .slice oa AL.length oc ∧ Hid (Below w.heap.size w wr ∧ Grow w.heap.size wr (.slice oa AL.length oc) ((l.take k).map (fun q => depT q.1)) AL)) (fun _ i _ => l.length - (intOf i).toNat)
 case atStart => exact ⟨0, none, 0, [], Nat.zero_le _, rfl, rfl, Below.refl _ _, Grow.nil _ _⟩
 case round =>
  obtain ⟨k, oa, oc, AL, hk, rfl, rfl, HRR⟩ := hrel
  by_cases hlt : k < l.length
  · have HTK := Lib.hid (List.take_succ_eq_append_getElem hlt)
    have HXK := Lib.hid (HXN.out l[k] (List.getElem_mem hlt))
    have hok := (HDO.out l[k] (List.getElem_mem hlt)).below HRR.out.1
    obtain ⟨g, o, rfl, hg, c0, c1, c2, c3, c4, c5, c6, c7⟩ := (HDL.out.below HRR.out.1).atDep hlt
    have hsr := HRR.out.1.size
    have HLT : Hid (k < l.length) := hlt
    have hkI : (k : Int) < (l.length : Int) := by omega
    have hk20 : k < 2000 := by have := HLN.out; omega
    generalize l[k] = q at *
    obtain ⟨d, dx⟩ := q
    obtain ⟨xo, xc, rfl⟩ := hok.shape
    simp only at c0 c1 c2 c3 c4 c5 c6 c7
    have HOK : Hid (SliceOf 2 idC wr (.slice xo d.excl.length xc) d.excl) := hok
    clear hok
    go_upto_region 5 with fail
    refine wp_world ?_
    intro W4 hW4
    have x4 : Box W4 wr.heap.size [.string d.group, .string d.artifact, .string d.version, .string d.type, .string d.classifier, .int .i64 d.scope, .int .i64 d.opt, .slice xo d.excl.length xc] := by rw [hW4]; exact Box.new wr [.string d.group, .string d.artifact, .string d.version, .string d.type, .string d.classifier, .int .i64 d.scope, .int .i64 d.opt, .slice xo d.excl.length xc] _ _ rfl
    have hb4 : Below wr.heap.size wr W4 := by rw [hW4]; exact (Below.refl _ _).alloc (Nat.le_refl _) _
    clear hW4 c0 c1 c2 c3 c4 c5 c6 c7
    have HD4 := Lib.hid x4
    have HD := Lib.hid x4
    have HB4 := Lib.hid hb4
    have HAL4 := Lib.hid (HRR.out.2.below hb4)
    have HOK4 := Lib.hid (HOK.out.below hb4)
    have HSW : Hid (w.heap.size ≤ W4.heap.size) := by show _ ≤ _; have := hb4.size; omega
    have HK := Lib.hid (Grow.nil W4.heap.size W4)
    have HBW := Lib.hid (Below.refl W4.heap.size W4)
    have HKL : Hid (([] : List Tr).length ≤ 1000) := by show _ ≤ _; simp
    clear x4 hb4 HOK
    obtain ⟨d0, d1, d2, d3, d4, d5, d6, d7⟩ := bxc8 HD.out
    have dl := HD.out.lt
    go_wp2_with fail
    refine (leafQ_any W4.heap.size _ _ _ bGroup d.group _ HK.out HBW.out.size (Nat.le_trans HKL.out (by decide))).mono ?_
    intro e w7 hO
    obtain ⟨kv7, KL7, rfl, hk7, hg7, hl7⟩ := hO
    have HB7 := Lib.hid (below_own hg7 (fun g hg => (HK.out.lt g hg).1) HBW.out.size)
    have HK7 := Lib.hid hk7
    have HBW7 := Lib.hid (HBW.out.trans HB7.out)
    have HD7 := Lib.hid (HD4.out.below HBW7.out HD4.out.lt)
    obtain ⟨ko7, kc7, rfl⟩ := hk7.own.shape
    have HKL7 := Lib.hid (leaf_len HKL.out bGroup d.group)
    clear d0 d1 d2 d3 d4 d5 d6 d7 dl
    clear hk7 hg7 hl7 HB7 HK HBW HD HKL
    have HK := HK7
    have HBW := HBW7
    have HD := HD7
    have HKL := HKL7
    clear HK7 HBW7 HD7 HKL7
    obtain ⟨d0, d1, d2, d3, d4, d5, d6, d7⟩ := bxc8 HD.out
    have dl := HD.out.lt
    go_wp2_with fail
    refine (leafQ_any W4.heap.size _ _ _ bArtifact d.artifact _ HK.out HBW.out.size (Nat.le_trans HKL.out (by decide))).mono ?_
    intro e w7 hO
    obtain ⟨kv7, KL7, rfl, hk7, hg7, hl7⟩ := hO
    have HB7 := Lib.hid (below_own hg7 (fun g hg => (HK.out.lt g hg).1) HBW.out.size)
    have HK7 := Lib.hid hk7
    have HBW7 := Lib.hid (HBW.out.trans HB7.out)
    have HD7 := Lib.hid (HD4.out.below HBW7.out HD4.out.lt)
    obtain ⟨ko7, kc7, rfl⟩ := hk7.own.shape
    have HKL7 := Lib.hid (leaf_len HKL.out bArtifact d.artifact)
    clear d0 d1 d2 d3 d4 d5 d6 d7 dl
    clear hk7 hg7 hl7 HB7 HK HBW HD HKL
    have HK := HK7
    have HBW := HBW7
    have HD := HD7
    have HKL := HKL7
    clear HK7 HBW7 HD7 HKL7
    obtain ⟨d0, d1, d2, d3, d4, d5, d6, d7⟩ := bxc8 HD.out
    have dl := HD.out.lt
    go_wp2_with fail
    refine (leafQ_any W4.heap.size _ _ _ bVersion d.version _ HK.out HBW.out.size (Nat.le_trans HKL.out (by decide))).mono ?_
    intro e w7 hO
    obtain ⟨kv7, KL7, rfl, hk7, hg7, hl7⟩ := hO
    have HB7 := Lib.hid (below_own hg7 (fun g hg => (HK.out.lt g hg).1) HBW.out.size)
    have HK7 := Lib.hid hk7
    have HBW7 := Lib.hid (HBW.out.trans HB7.out)
    have HD7 := Lib.hid (HD4.out.below HBW7.out HD4.out.lt)
    obtain ⟨ko7, kc7, rfl⟩ := hk7.own.shape
    have HKL7 := Lib.hid (leaf_len HKL.out bVersion d.version)
    clear d0 d1 d2 d3 d4 d5 d6 d7 dl
    clear hk7 hg7 hl7 HB7 HK HBW HD HKL
    have HK := HK7
    have HBW := HBW7
    have HD := HD7
    have HKL := HKL7
    clear HK7 HBW7 HD7 HKL7
    obtain ⟨d0, d1, d2, d3, d4, d5, d6, d7⟩ := bxc8 HD.out
    have dl := HD.out.lt
    go_wp2_with fail
    refine (leafQ_any W4.heap.size _ _ _ bType d.type _ HK.out HBW.out.size (Nat.le_trans HKL.out (by decide))).mono ?_
    intro e w7 hO
    obtain ⟨kv7, KL7, rfl, hk7, hg7, hl7⟩ := hO
    have HB7 := Lib.hid (below_own hg7 (fun g hg => (HK.out.lt g hg).1) HBW.out.size)
    have HK7 := Lib.hid hk7
    have HBW7 := Lib.hid (HBW.out.trans HB7.out)
    have HD7 := Lib.hid (HD4.out.below HBW7.out HD4.out.lt)
    obtain ⟨ko7, kc7, rfl⟩ := hk7.own.shape
    have HKL7 := Lib.hid (leaf_len HKL.out bType d.type)
    clear d0 d1 d2 d3 d4 d5 d6 d7 dl
    clear hk7 hg7 hl7 HB7 HK HBW HD HKL
    have HK := HK7
    have HBW := HBW7
    have HD := HD7
    have HKL := HKL7
    clear HK7 HBW7 HD7 HKL7
    obtain ⟨d0, d1, d2, d3, d4, d5, d6, d7⟩ := bxc8 HD.out
    have dl := HD.out.lt
    go_wp2_with fail
    refine (leafQ_any W4.heap.size _ _ _ bClassifier d.classifier _ HK.out HBW.out.size (Nat.le_trans HKL.out (by decide))).mono ?_
    intro e w7 hO
    obtain ⟨kv7, KL7, rfl, hk7, hg7, hl7⟩ := hO
    have HB7 := Lib.hid (below_own hg7 (fun g hg => (HK.out.lt g hg).1) HBW.out.size)
    have HK7 := Lib.hid hk7
    have HBW7 := Lib.hid (HBW.out.trans HB7.out)
    have HD7 := Lib.hid (HD4.out.below HBW7.out HD4.out.lt)
    obtain ⟨ko7, kc7, rfl⟩ := hk7.own.shape
    have HKL7 := Lib.hid (leaf_len HKL.out bClassifier d.classifier)
    clear d0 d1 d2 d3 d4 d5 d6 d7 dl
    clear hk7 hg7 hl7 HB7 HK HBW HD HKL
    have HK := HK7
    have HBW := HBW7
    have HD := HD7
    have HKL := HKL7
    clear HK7 HBW7 HD7 HKL7
    obtain ⟨d0, d1, d2, d3, d4, d5, d6, d7⟩ := bxc8 HD.out
    have dl := HD.out.lt
    go_wp2_with fail
    refine (word_any d.scope _).mono ?_
    rintro e w6 ⟨rfl, hw6⟩
    obtain rfl := hw6
    go_wp2_with fail
    refine (leafQ_any W4.heap.size _ _ _ bScope (bs (wordB d.scope)) _ HK.out HBW.out.size (Nat.le_trans HKL.out (by decide))).mono ?_
    intro e w7 hO
    obtain ⟨kv7, KL7, rfl, hk7, hg7, hl7⟩ := hO
    have HB7 := Lib.hid (below_own hg7 (fun g hg => (HK.out.lt g hg).1) HBW.out.size)
    have HK7 := Lib.hid hk7
    have HBW7 := Lib.hid (HBW.out.trans HB7.out)
    have HD7 := Lib.hid (HD4.out.below HBW7.out HD4.out.lt)
    obtain ⟨ko7, kc7, rfl⟩ := hk7.own.shape
    have HKL7 := Lib.hid (leaf_len HKL.out bScope (bs (wordB d.scope)))
    clear d0 d1 d2 d3 d4 d5 d6 d7 dl
    clear hk7 hg7 hl7 HB7 HK HBW HD HKL
    have HK := HK7
    have HBW := HBW7
    have HD := HD7
    have HKL := HKL7
    clear HK7 HBW7 HD7 HKL7
    obtain ⟨K6, hK6⟩ : ∃ X, X = ([] ++ leafT bGroup d.group ++ leafT bArtifact d.artifact ++ leafT bVersion d.version ++ leafT bType d.type ++ leafT bClassifier d.classifier ++ leafT bScope (bs (wordB d.scope))) := ⟨_, rfl⟩
    rw [← hK6] at HK HKL
    have HK6 := Lib.hid hK6
    clear hK6
    obtain ⟨d0, d1, d2, d3, d4, d5, d6, d7⟩ := bxc8 HD.out
    have dl := HD.out.lt
    go_upto_block 2 with fail
    clear d0 d1 d2 d3 d4 d5 d6 d7 dl
    go_cut [8] from 45 to 52 (fun kvx wx => ∃ ko kc KL, kvx = .slice ko (KL : List TrV).length kc ∧ Hid (Grow W4.heap.size wx (.slice ko KL.length kc) (K6 ++ optT d.opt) KL ∧ Below W4.heap.size W4 wx))
    case first =>
     by_cases h1 : d.opt = 1
     · have HOP : Hid (optT d.opt = leafT bOptional (bs bTrue)) := by show _ = _; unfold optT; rw [if_pos h1]
       have k1 : (d.opt == 1) = true := by rw [h1]; rfl
       clear h1
       obtain ⟨d0, d1, d2, d3, d4, d5, d6, d7⟩ := bxc8 HD.out
       have dl := HD.out.lt
       go_wp2_with fail
       refine (leafQ_any W4.heap.size _ _ _ bOptional (bs bTrue) _ HK.out HBW.out.size (Nat.le_trans HKL.out (by decide))).mono ?_
       intro e w7 hO
       obtain ⟨kv7, KL7, rfl, hk7, hg7, hl7⟩ := hO
       have HB7 := Lib.hid (below_own hg7 (fun g hg => (HK.out.lt g hg).1) HBW.out.size)
       have HK7 := Lib.hid hk7
       have HBW7 := Lib.hid (HBW.out.trans HB7.out)
       obtain ⟨ko7, kc7, rfl⟩ := hk7.own.shape
       clear d0 d1 d2 d3 d4 d5 d6 d7 dl
       clear hk7 hg7 hl7 HB7
       go_wp2
       go_meet
       case rel => exact ⟨_, _, _, rfl, by rw [HOP.out]; exact HK7.out, HBW7.out⟩
     · by_cases h2 : d.opt = 2
       · have HOP : Hid (optT d.opt = leafT bOptional (bs bFalse)) := by show _ = _; unfold optT; rw [if_neg h1, if_pos h2]
         have k1 : (d.opt == 1) = false := beq_eq_false_iff_ne.2 h1
         have k2 : (d.opt == 2) = true := by rw [h2]; rfl
         clear h1 h2
         obtain ⟨d0, d1, d2, d3, d4, d5, d6, d7⟩ := bxc8 HD.out
         have dl := HD.out.lt
         go_wp2_with fail
         refine (leafQ_any W4.heap.size _ _ _ bOptional (bs bFalse) _ HK.out HBW.out.size (Nat.le_trans HKL.out (by decide))).mono ?_
         intro e w7 hO
         obtain ⟨kv7, KL7, rfl, hk7, hg7, hl7⟩ := hO
         have HB7 := Lib.hid (below_own hg7 (fun g hg => (HK.out.lt g hg).1) HBW.out.size)
         have HK7 := Lib.hid hk7
         have HBW7 := Lib.hid (HBW.out.trans HB7.out)
         obtain ⟨ko7, kc7, rfl⟩ := hk7.own.shape
         clear d0 d1 d2 d3 d4 d5 d6 d7 dl
         clear hk7 hg7 hl7 HB7
         go_wp2
         go_meet
         case rel => exact ⟨_, _, _, rfl, by rw [HOP.out]; exact HK7.out, HBW7.out⟩
       · have HOP : Hid (optT d.opt = []) := by show _ = _; unfold optT; rw [if_neg h1, if_neg h2]
         have k1 : (d.opt == 1) = false := beq_eq_false_iff_ne.2 h1
         have k2 : (d.opt == 2) = false := beq_eq_false_iff_ne.2 h2
         have HKK := Lib.hid HK.out.own.shape
         clear h1 h2
         obtain ⟨ko7, kc7, hkv⟩ := HKK.out
         go_wp2
         go_meet
         case rel => exact ⟨_, _, _, rfl, by rw [HOP.out, List.append_nil]; exact HK.out, HBW.out⟩
    case rest =>
     obtain ⟨ko, kc, KL, rfl, hcc⟩ := hcut
     have HKQ := Lib.hid hcc.out.1
     have HBQ := Lib.hid hcc.out.2
     clear hcc HK HBW HD
     have HD := Lib.hid (HD4.out.below HBQ.out HD4.out.lt)
     have HOKC := Lib.hid (HOK4.out.below HBQ.out)
     have HSC : Hid (W4.heap.size ≤ wc.heap.size) := HBQ.out.size
     obtain ⟨d0, d1, d2, d3, d4, d5, d6, d7⟩ := bxc8 HD.out
     have dl := HD.out.lt
     go_wp2
     clear d0 d1 d2 d3 d4 d5 d6 d7 dl
     obtain ⟨wo, rfl⟩ : ∃ wo : World, wo = wr := ⟨_, rfl⟩
     go_loopw [9, 56] (fun xv i wr => ∃ (j : Nat) (eo : Option Addr) (ec : Nat) (XL : List TrV), j ≤ d.excl.length ∧ i = .int .i64 j ∧ xv = .slice eo XL.length ec ∧ Hid (Below wc.heap.size wc wr ∧ Grow wc.heap.size wr (.slice eo XL.length ec) ((d.excl.take j).map exT) XL)) (fun _ i _ => d.excl.length - (intOf i).toNat)
     case atStart => exact ⟨0, none, 0, [], Nat.zero_le _, rfl, rfl, Below.refl _ _, Grow.nil _ _⟩
     case round =>
      obtain ⟨j, eo, ec, XL, hj, rfl, rfl, HJJ⟩ := hrel
      by_cases hjl : j < d.excl.length
      · have HTJ := Lib.hid (List.take_succ_eq_append_getElem hjl)
        obtain ⟨g2, o2, hgo, hg2, c0, c1⟩ := (HOKC.out.below HJJ.out.1).atId hjl
        have hsj := HJJ.out.1.size
        have HXL : Hid (XL.length ≤ 2000) := by
         show _ ≤ _
         have h1 := HJJ.out.2.len
         rw [List.length_map, List.length_take] at h1
         have := HXK.out
         omega
        have HJT : Hid (j < d.excl.length) := hjl
        have hj20 : j < 2000 := by have h9 : d.excl.length ≤ 2000 := HXK.out; omega
        have hjI : (j : Int) < (d.excl.length : Int) := by omega
        subst hgo
        generalize d.excl[j] = y at *
        obtain ⟨y1, y2⟩ := y
        simp only at c0 c1
        go_upto_region 20 with fail
        refine wp_world ?_
        intro W19 hW19
        have x9 : Box W19 wr.heap.size [.string y1, .string y2] := by rw [hW19]; exact Box.new wr [.string y1, .string y2] _ _ rfl
        have hb9 : Below wr.heap.size wr W19 := by rw [hW19]; exact (Below.refl _ _).alloc (Nat.le_refl _) _
        clear hW19 c0 c1
        have HX9 := Lib.hid x9
        have HB9 := Lib.hid hb9
        have HXG := Lib.hid (HJJ.out.2.below hb9)
        have HXO : Hid (∀ g, (Value.slice eo XL.length ec).ownBlock = some g → g < wr.heap.size) := fun g hg => (HJJ.out.2.lt g hg).2
        have HSW9 : Hid (wr.heap.size < W19.heap.size) := x9.lt
        have a0 := x9.cell 0 _ rfl
        have a1 := x9.cell 1 _ rfl
        have al := x9.lt
        clear x9 hb9
        have HC1 : Hid (∀ X, Below W19.heap.size W19 X → Calls Tryz.prog 54 #[.slice none 0 0, .string ⟨#[103, 114, 111, 117, 112, 73, 100]⟩, .string y1] X fun e w' => ∃ v1o v1c L1, e = .returned (.slice v1o (L1 : List TrV).length v1c) ∧ Hid (Grow W19.heap.size w' (.slice v1o L1.length v1c) ([] ++ leafT bGroup y1) L1 ∧ Below W19.heap.size W19 w')) := fun X h => (leafQ_any W19.heap.size _ [] [] bGroup y1 X (Grow.nil _ _) h.size (by simp)).mono fun e w' ⟨v', L', h1, h2, h3, h4⟩ => by
         obtain ⟨v1o, v1c, rfl⟩ := h2.own.shape
         exact ⟨v1o, v1c, L', h1, h2, h.trans (below_own h3 (by simp [Value.ownBlock]) h.size)⟩
        have HC2 : Hid (∀ X v1o v1c L1, Grow W19.heap.size X (.slice v1o (L1 : List TrV).length v1c) ([] ++ leafT bGroup y1) L1 ∧ Below W19.heap.size W19 X → Calls Tryz.prog 54 #[.slice v1o L1.length v1c, .string ⟨#[97, 114, 116, 105, 102, 97, 99, 116, 73, 100]⟩, .string y2] X fun e w' => ∃ v2o v2c L2, e = .returned (.slice v2o (L2 : List TrV).length v2c) ∧ Hid (Grow W19.heap.size w' (.slice v2o L2.length v2c) ([] ++ leafT bGroup y1 ++ leafT bArtifact y2) L2 ∧ Below W19.heap.size W19 w')) := fun X v1o v1c L1 h => (leafQ_any W19.heap.size _ _ L1 bArtifact y2 X h.1 h.2.size (by have := leafT_len bGroup y1; simp; omega)).mono fun e w' ⟨v', L', h1, h2, h3, h4⟩ => by
         obtain ⟨v2o, v2c, rfl⟩ := h2.own.shape
         exact ⟨v2o, v2c, L', h1, h2, h.2.trans (below_own h3 (fun g hg => (h.1.lt g hg).1) h.2.size)⟩
        have HDR : Hid (Below W19.heap.size W19 W19.drew) := belowN (Below.refl _ _) 1
        have HBY : Hid ((XL.length + 1) * 80 ≤ 140737488355328) := by show _ ≤ _; have := HXL.out; omega
        have HNW : Hid (∀ (V : World) (y : TrV) j u, (trC y)[j]? = some u → (V.alloc (.cells (trC y).toArray 25)).cell? ⟨V.heap.size, j, none⟩ = some u) := fun V y j u hu => (Box.new V (trC y) _ _ rfl).cell j u hu
        have HBS : Hid (∀ (V : World) (o : Obj), W19.heap.size ≤ V.heap.size → wc.heap.size ≤ (V.alloc o).heap.size) := fun V o h => by have h2 := HB9.out.size; have h3 := HJJ.out.1.size; show _ ≤ (V.heap.push o).size; simp only [Array.size_push]; omega
        have HNE : Hid (some wr.heap.size ≠ (Value.slice eo XL.length ec).ownBlock) := fun h => by have := HXO.out _ h.symm; omega
        go_region_held3 (fun w' => w'.cell? ⟨wr.heap.size, 0, none⟩ = some (.string y1) ∧ w'.cell? ⟨wr.heap.size, 1, none⟩ = some (.string y2)) (first | exact ⟨a0, a1⟩ | exact ⟨b0, b1⟩ | exact ⟨f0, f1⟩ | exact ⟨z9.out.cell 0 _ rfl, z9.out.cell 1 _ rfl⟩ | (go_keep; done)) (first | (have _x := hG1; go_at_call 54; refine (HC2.out _ _ _ _ hG1.out).mono ?_; rintro e u2 ⟨v2o, v2c, L2, rfl, hG2⟩; have y9 := Lib.hid (HX9.out.below hG2.out.2 HSW9.out); have f0 := y9.out.cell 0 _ rfl; have f1 := y9.out.cell 1 _ rfl) | (go_at_call 54; refine (HC1.out _ HDR.out).mono ?_; rintro e u1 ⟨v1o, v1c, L1, rfl, hG1⟩; have y8 := Lib.hid (HX9.out.below hG1.out.2 HSW9.out); have b0 := y8.out.cell 0 _ rfl; have b1 := y8.out.cell 1 _ rfl) | (refine step_append_one rfl (.tmp 60) (.tmp 68) 23 rfl wc.heap.size 25 Tryz.underlying23 info_node rfl (by decide) trC_len (.slice eo XL.length ec) XL (by simp [Act.eval]) (Owns.alloc (HXG.out.own.below hG2.out.2) _) u2.heap.size ((.mk bExclusion [] ([] ++ leafT bGroup y1 ++ leafT bArtifact y2) [], .slice none 0 0, .slice v2o L2.length v2c) : TrV) (by simp [Act.eval]) (HNW.out u2 _) (tr_one _ _ _ _ _ _ _ _ _ _) HBY.out (by decide) (HBS.out _ _ hG2.out.2.size) (u2.heap.size + 1) (by simp) ?_; intro g9 c9 w9 hown9 hgrow9 hloc9 hlt9; have z9 := Lib.hid ((Box.alloc y9.out _).grown hgrow9 HNE.out); have HO9 := Lib.hid hown9; have HG9 := Lib.hid hgrow9; have HL9 := Lib.hid hloc9; clear hown9 hgrow9 hloc9 hlt9))
        go_wp2
        go_roundw
        case rel =>
         have hw1 : Below wr.heap.size wr (u2.alloc (.cells (trC ((.mk bExclusion [] ([] ++ leafT bGroup y1 ++ leafT bArtifact y2) [], .slice none 0 0, .slice v2o L2.length v2c) : TrV)).toArray 25)) := (HB9.out.trans (hG2.out.2.mono HB9.out.size)).alloc (Nat.le_trans HB9.out.size hG2.out.2.size) _
         have hnd := (hG2.out.1.node bExclusion (X := fun j => j < wc.heap.size ∨ some j = (Value.slice eo XL.length ec).ownBlock) (fun j hj => hj.elim (fun h => by have h1 := HSW9.out; have h2 := HJJ.out.1.size; omega) (fun h => by have h1 := HXO.out j h.symm; have h2 := HSW9.out; omega))).later ((Below.refl u2.heap.size u2).alloc (Nat.le_refl _) (.cells (trC ((.mk bExclusion [] ([] ++ leafT bGroup y1 ++ leafT bArtifact y2) [], .slice none 0 0, .slice v2o L2.length v2c) : TrV)).toArray 25))
         have hgr := HJJ.out.2.snoc hw1 HO9.out HG9.out (HL9.out.elim (fun h => .inl h.symm) (fun h => .inr (by rw [h]; simp [Value.ownBlock]))) hnd
         have hll : (XL ++ [((.mk bExclusion [] ([] ++ leafT bGroup y1 ++ leafT bArtifact y2) [], .slice none 0 0, .slice v2o L2.length v2c) : TrV)]).length = XL.length + 1 := by simp
         refine ⟨j + 1, some ⟨g9, 0, none⟩, c9, XL ++ [((.mk bExclusion [] ([] ++ leafT bGroup y1 ++ leafT bArtifact y2) [], .slice none 0 0, .slice v2o L2.length v2c) : TrV)], HJT.out, by go_num, by rw [hll], ?_⟩
         rw [hll]
         refine ⟨HJJ.out.1.trans ((hw1.mono HJJ.out.1.size).trans (below_own HG9.out (fun g hg => (HJJ.out.2.lt g hg).1) (Nat.le_trans HJJ.out.1.size hw1.size))), ?_⟩
         rw [HTJ.out, List.map_append]
         exact hgr
        case measure => simp [intOf]; have := HJT.out; omega
      · obtain rfl : j = d.excl.length := by omega
        have hX := HJJ.out.2
        rw [List.take_length] at hX
        have HXX := Lib.hid hX
        have HKX := Lib.hid (HKQ.out.below HJJ.out.1)
        have HBX := Lib.hid (HBQ.out.trans (HJJ.out.1.mono HSC.out))
        have HKO : Hid (∀ g, (Value.slice ko KL.length kc).ownBlock = some g → g < wc.heap.size) := fun g hg => (HKQ.out.lt g hg).2
        have HKN : Hid ((K6 ++ optT d.opt).length ≤ 100000) := by
         show _ ≤ _
         rw [List.length_append]
         have h1 := HKL.out
         have h2 := optT_len d.opt
         omega
        clear hX HKQ
        go_wp2_with fail
        refine (branchQ_any W4.heap.size wc.heap.size _ _ _ _ KL XL bExclusions _ HKX.out HXX.out HSC.out HKO.out HBX.out.size HKN.out).mono ?_
        intro e w8 hO
        obtain ⟨kv8, KL8, rfl, hk8, hg8, hl8⟩ := hO
        have HB8 := Lib.hid (HBX.out.trans (below_own hg8 (fun g hg => (HKX.out.lt g hg).1) HBX.out.size))
        have HK8 := Lib.hid hk8
        have HA8 := Lib.hid (HAL4.out.below HB8.out)
        have HAO : Hid (∀ g, (Value.slice oa AL.length oc).ownBlock = some g → g < W4.heap.size) := fun g hg => (HAL4.out.lt g hg).2
        obtain ⟨ko8, kc8, rfl⟩ := hk8.own.shape
        have HAL : Hid (AL.length ≤ 2000) := by
         show _ ≤ _
         have h1 := HRR.out.2.len
         rw [List.length_map, List.length_take] at h1
         have := HLN.out
         omega
        have HDT : Hid (Tr.mk bDependency [] (K6 ++ optT d.opt ++ branchT bExclusions (d.excl.map exT)) [] = depT d) := by show _ = _; rw [HK6.out]; rfl
        clear hk8 hg8 hl8 HXX HKX HKL HKO HKN HK6
        obtain ⟨KK, hKK⟩ : ∃ KK, KK = K6 ++ optT d.opt ++ branchT bExclusions (d.excl.map exT) := ⟨_, rfl⟩
        rw [← hKK] at HK8 HDT
        clear hKK
        have HLT8 : Hid (SliceOf 4 trC (w8.alloc (.cells #[.string (bs bDependency), .slice none 0 0, .slice ko8 KL8.length kc8, .string ⟨#[]⟩] 25)) (.slice (some ⟨w8.heap.size, 0, none⟩) 1 1) [((.mk bDependency [] KK [], .slice none 0 0, .slice ko8 KL8.length kc8) : TrV)]) := tr_lit (.mk bDependency [] KK [], .slice none 0 0, .slice ko8 KL8.length kc8) w8 w8.heap.size rfl
        have HND : Hid (NodeX (fun j => j < w.heap.size ∨ some j = (Value.slice oa AL.length oc).ownBlock) w8 (.mk bDependency [] KK []) (.slice none 0 0) (.slice ko8 KL8.length kc8)) := HK8.out.node bDependency (fun j hj => hj.elim (fun h => by have := HSW.out; omega) (fun h => HAO.out j h.symm))
        go_wp2_with (at_builtin; refine wpList_append_slice _ rfl _ _ 23 rfl w.heap.size 25 Tryz.underlying23 info_node rfl (by decide) trC_len (.slice oa AL.length oc) AL rfl (HA8.out.own.alloc _) _ [((.mk bDependency [] KK [], .slice none 0 0, .slice ko8 KL8.length kc8) : TrV)] rfl HLT8.out (fun y hy => by obtain rfl := List.mem_singleton.1 hy; exact tr_one _ _ _ _ _ _ _ _ _ _) (by have h1 := HAL.out; simp only [List.length_cons, List.length_nil]; omega) (by decide) (by have h1 := HSW.out; have h2 := HB8.out.size; simp; omega) ?_; intro v9 w9 hown9 hgrow9 hloc9; have HO9 := Lib.hid hown9; have HG9 := Lib.hid hgrow9; have HL9 := Lib.hid hloc9; clear hown9 hgrow9 hloc9; obtain ⟨a9, c9, rfl⟩ := HO9.out.shape)
        go_roundw
        case rel =>
         have hal := (Below.refl w8.heap.size w8).alloc (Nat.le_refl _) (.cells #[.string (bs bDependency), .slice none 0 0, .slice ko8 KL8.length kc8, .string ⟨#[]⟩] 25)
         have hw : Below wo.heap.size wo (w8.alloc (.cells #[.string (bs bDependency), .slice none 0 0, .slice ko8 KL8.length kc8, .string ⟨#[]⟩] 25)) := (HB4.out.trans (HB8.out.mono HB4.out.size)).alloc (Nat.le_trans HB4.out.size HB8.out.size) _
         have hgr := HRR.out.2.snoc hw HO9.out HG9.out HL9.out (HND.out.later hal)
         refine ⟨k + 1, a9, c9, AL ++ [((.mk bDependency [] KK [], .slice none 0 0, .slice ko8 KL8.length kc8) : TrV)], HLT.out, by go_num, by simp, HRR.out.1.trans ((hw.mono HRR.out.1.size).trans (below_own HG9.out (fun g hg => (HRR.out.2.lt g hg).1) (Nat.le_trans HRR.out.1.size hw.size))), ?_⟩
         rw [HTK.out, List.map_append, List.map_cons, List.map_nil, ← HDT.out]
         exact hgr
        case measure => simp [intOf]; have := HLT.out; omega
  · obtain rfl : k = l.length := by omega
    have hA := HRR.out.2
    rw [List.take_length, show l.map (fun q => depT q.1) = ds.map depT by rw [← HEL.out, List.map_map]; rfl] at hA
    have HAA := Lib.hid hA
    have HGG := Lib.hid (HG.out.below HRR.out.1)
    have HVO : Hid (∀ g, (Value.slice ao L.length ac).ownBlock = some g → g < w.heap.size) := fun g hg => (HG.out.lt g hg).2
    have HBB := Lib.hid HRR.out.1
    clear hA hlt
    go_wp2_with fail
    refine (branchQ_any b w.heap.size _ _ _ _ L AL bDependencies _ HGG.out HAA.out HBW0.out HVO.out (Nat.le_trans HBW0.out HBB.out.size) HTS.out).mono ?_
    intro e w8 hO
    obtain ⟨kv8, KL8, rfl, hk8, hg8, hl8⟩ := hO
    have HK8 := Lib.hid hk8
    have HG8 := Lib.hid hg8
    have HL8 := Lib.hid hl8
    clear hk8 hg8 hl8
    go_wp2
    go_ret
    exact ⟨_, _, rfl, HK8.out, grown_after HBB.out HG8.out, HL8.out.imp id (fun ⟨g, h1, h2⟩ => ⟨g, h1, Nat.le_trans HBB.out.size h2⟩)⟩

end Go.Proofs.YtbbbfjcikhpmbaaGreat

/- The walk of pom.Write; the conditions stand in the theorem. -/

namespace Go.Proofs.YtbbbfjcikhpmbaaGreat
open Go Go.RowKit

def propT (x : Prp) : Tr := .mk x.name.data.toList [] (if x.value.toList.isEmpty then [] else [.mk [] [] [] x.value.data.toList]) []
def parentL (hp : Bool) (g : Gav) : List Tr := if hp then [] ++ branchT bParent ([] ++ leafT bGroup g.group ++ leafT bArtifact g.artifact ++ leafT bVersion g.version) else []
/-- The tree of a project. -/
def writeT (p : Pom) : Tr := .mk bProject [] (parentL p.hasParent p.parent ++ leafT bGroup p.group ++ leafT bArtifact p.artifact ++ leafT bVersion p.version ++ leafT bPackaging p.packaging ++ branchT bProperties (p.props.map propT) ++ branchT bManagement ([] ++ depsT p.managed) ++ depsT p.deps) []
theorem branchT_len (n : Bs) (l : List Tr) : (branchT n l).length ≤ 1 := by unfold branchT; split <;> simp
theorem br_len {ts : List Tr} {m : Nat} (h : ts.length ≤ m) (n : Bs) (l : List Tr) : (ts ++ branchT n l).length ≤ m + 1 := by rw [List.length_append]; have := branchT_len n l; omega
theorem size_node : (Tryz.prog.info? 25).map (·.size) = some 4 := by kernel_rfl
theorem parentL_len (hp : Bool) (g : Gav) : (parentL hp g).length ≤ 1 := by
 unfold parentL
 split
 · rw [List.nil_append]; exact branchT_len _ _
 · simp
def WriteP (t : Tr) (w : World) (e : Ending) (w' : World) : Prop := ∃ kv, e = .returned (nodeV t (.slice none 0 0) kv) ∧ NodeOf w' t (.slice none 0 0) kv ∧ Below w.heap.size w w'
set_option maxRecDepth 100000 in
set_option maxHeartbeats 16000000 in
theorem writeQ_any (p : Pom) (pv mv dv : Value) (w : World) (hp : PomOf w (.agg (pomC p pv mv dv).toArray) p pv mv dv) (n1 : p.props.length ≤ 2000) (n2 : p.managed.length ≤ 2000) (n3 : p.deps.length ≤ 2000) (x2 : ∀ d ∈ p.managed, d.excl.length ≤ 2000) (x3 : ∀ d ∈ p.deps, d.excl.length ≤ 2000) :
    Calls Tryz.prog 18 #[.agg (pomC p pv mv dv).toArray] w (WriteP (writeT p) w) := by
 obtain ⟨-, p1, p2, p3⟩ := hp
 have HWT : Hid (∀ t, t = writeT p → WriteP t = WriteP (writeT p)) := fun t h => by rw [h]
 obtain ⟨T, hT⟩ : ∃ T, T = writeT p := ⟨_, rfl⟩
 have HT := Lib.hid hT
 rw [← hT]
 clear HWT hT
 obtain ⟨hp, ⟨px, py, pz⟩, dg, da, dv', dk, dp, dm, dd⟩ := p
 simp only [pomC]
 simp only at p1 p2 p3 n1 n2 n3 x2 x3
 obtain ⟨ao1, cap1, rfl⟩ := p1.shape
 obtain ⟨ao2, cap2, rfl⟩ := p2.shape
 obtain ⟨ao3, cap3, rfl⟩ := p3.shape
 have H1 := Lib.hid p1
 have H2 := Lib.hid p2
 have H3 := Lib.hid p3
 have HN1 := Lib.hid n1
 have HN2 := Lib.hid n2
 have HN3 := Lib.hid n3
 have HX2 := Lib.hid x2
 have HX3 := Lib.hid x3
 clear p1 p2 p3 n1 n2 n3 x2 x3
 go_enter Tryz.func18, Tryz.ntmps18
 go_upto_region 1 with fail
 refine wp_world ?_
 intro W2 hW2
 have x0 : Box W2 w.heap.size [.bool hp, .string px, .string py, .string pz, .string dg, .string da, .string dv', .string dk, .slice ao1 dp.length cap1, .slice ao2 dm.length cap2, .slice ao3 dd.length cap3] := by rw [hW2]; exact (Box.new w [.bool hp, .string px, .string py, .string pz, .string dg, .string da, .string dv', .string dk, .slice ao1 dp.length cap1, .slice ao2 dm.length cap2, .slice ao3 dd.length cap3] _ _ rfl).alloc _
 have x1 : Box W2 (w.heap.size + 1) [.string ⟨#[]⟩, .slice none 0 0, .slice none 0 0, .string ⟨#[]⟩] := by rw [hW2]; exact Box.new _ [.string ⟨#[]⟩, .slice none 0 0, .slice none 0 0, .string ⟨#[]⟩] _ _ (by simp)
 have hb2 : Below w.heap.size w W2 := by rw [hW2]; exact ((Below.refl _ w).alloc (Nat.le_refl _) _).alloc (by simp) _
 clear hW2
 have HP0 := Lib.hid x0
 have HR0 := Lib.hid x1
 have HB2 := Lib.hid hb2
 have HSR : Hid (w.heap.size + 1 < W2.heap.size) := x1.lt
 have HD := Lib.hid x0
 clear x0 x1 hb2
 obtain ⟨c0, c1, c2, c3, c4, c5, c6, c7, c8, c9, c10⟩ := bxc11 HD.out
 have cl := HD.out.lt
 go_upto_if 9 with fail
 go_cut [3] from 10 to 23 (fun lv wx => ∃ lo lc LL, lv = .slice lo (LL : List TrV).length lc ∧ Hid (Grow W2.heap.size wx (.slice lo LL.length lc) (parentL hp ⟨px, py, pz⟩) LL ∧ Below W2.heap.size W2 wx))
 case first =>
  cases hp with
  | false =>
   go_wp2
   go_meet
   case rel => exact ⟨none, 0, [], rfl, Grow.nil _ _, Below.refl _ _⟩
  | true =>
   have HC1 : Hid (∀ X, Below W2.heap.size W2 X → Calls Tryz.prog 54 #[.slice none 0 0, .string ⟨#[103, 114, 111, 117, 112, 73, 100]⟩, .string px] X fun e w' => ∃ v1o v1c L1, e = .returned (.slice v1o (L1 : List TrV).length v1c) ∧ Hid (Grow W2.heap.size w' (.slice v1o L1.length v1c) ([] ++ leafT bGroup px) L1 ∧ Below W2.heap.size W2 w')) := fun X h => (leafQ_any W2.heap.size _ [] [] bGroup px X (Grow.nil _ _) h.size (by simp)).mono fun e w' ⟨v', L', h1, h2, h3, h4⟩ => by
    obtain ⟨v1o, v1c, rfl⟩ := h2.own.shape
    exact ⟨v1o, v1c, L', h1, h2, h.trans (below_own h3 (by simp [Value.ownBlock]) h.size)⟩
   have HC2 : Hid (∀ X v1o v1c L1, Grow W2.heap.size X (.slice v1o (L1 : List TrV).length v1c) ([] ++ leafT bGroup px) L1 ∧ Below W2.heap.size W2 X → Calls Tryz.prog 54 #[.slice v1o L1.length v1c, .string ⟨#[97, 114, 116, 105, 102, 97, 99, 116, 73, 100]⟩, .string py] X fun e w' => ∃ v2o v2c L2, e = .returned (.slice v2o (L2 : List TrV).length v2c) ∧ Hid (Grow W2.heap.size w' (.slice v2o L2.length v2c) ([] ++ leafT bGroup px ++ leafT bArtifact py) L2 ∧ Below W2.heap.size W2 w')) := fun X v1o v1c L1 h => (leafQ_any W2.heap.size _ _ L1 bArtifact py X h.1 h.2.size (by have := leafT_len bGroup px; simp; omega)).mono fun e w' ⟨v', L', h1, h2, h3, h4⟩ => by
    obtain ⟨v2o, v2c, rfl⟩ := h2.own.shape
    exact ⟨v2o, v2c, L', h1, h2, h.2.trans (below_own h3 (fun g hg => (h.1.lt g hg).1) h.2.size)⟩
   have HC3 : Hid (∀ X v1o v1c L1, Grow W2.heap.size X (.slice v1o (L1 : List TrV).length v1c) ([] ++ leafT bGroup px ++ leafT bArtifact py) L1 ∧ Below W2.heap.size W2 X → Calls Tryz.prog 54 #[.slice v1o L1.length v1c, .string ⟨#[118, 101, 114, 115, 105, 111, 110]⟩, .string pz] X fun e w' => ∃ v3o v3c L3, e = .returned (.slice v3o (L3 : List TrV).length v3c) ∧ Hid (Grow W2.heap.size w' (.slice v3o L3.length v3c) ([] ++ leafT bGroup px ++ leafT bArtifact py ++ leafT bVersion pz) L3 ∧ Below W2.heap.size W2 w')) := fun X v1o v1c L1 h => (leafQ_any W2.heap.size _ _ L1 bVersion pz X h.1 h.2.size (by have h1 := leafT_len bGroup px; have h2 := leafT_len bArtifact py; simp; omega)).mono fun e w' ⟨v', L', h1, h2, h3, h4⟩ => by
    obtain ⟨v3o, v3c, rfl⟩ := h2.own.shape
    exact ⟨v3o, v3c, L', h1, h2, h.2.trans (below_own h3 (fun g hg => (h.1.lt g hg).1) h.2.size)⟩
   have HC4 : Hid (∀ X v1o v1c L1, Grow W2.heap.size X (.slice v1o (L1 : List TrV).length v1c) ([] ++ leafT bGroup px ++ leafT bArtifact py ++ leafT bVersion pz) L1 ∧ Below W2.heap.size W2 X → Calls Tryz.prog 53 #[.slice none 0 0, .string ⟨#[112, 97, 114, 101, 110, 116]⟩, .slice v1o L1.length v1c] X fun e w' => ∃ v4o v4c L4, e = .returned (.slice v4o (L4 : List TrV).length v4c) ∧ Hid (Grow W2.heap.size w' (.slice v4o L4.length v4c) (parentL true ⟨px, py, pz⟩) L4 ∧ Below W2.heap.size W2 w')) := fun X v1o v1c L1 h => (branchQ_any W2.heap.size W2.heap.size _ _ [] _ [] L1 bParent X (Grow.nil _ _) h.1 (Nat.le_refl _) (by simp [Value.ownBlock]) h.2.size (by simp)).mono fun e w' ⟨v', L', h1, h2, h3, h4⟩ => by
    obtain ⟨v4o, v4c, rfl⟩ := h2.own.shape
    exact ⟨v4o, v4c, L', h1, h2, h.2.trans (below_own h3 (by simp [Value.ownBlock]) h.2.size)⟩
   have HDR : Hid (Below W2.heap.size W2 W2.drew) := belowN (Below.refl _ _) 1
   have HPL : Hid (∀ X, Below W2.heap.size W2 X → Box X w.heap.size [.bool true, .string px, .string py, .string pz, .string dg, .string da, .string dv', .string dk, .slice ao1 dp.length cap1, .slice ao2 dm.length cap2, .slice ao3 dd.length cap3]) := fun X h => HP0.out.below h HP0.out.lt
   go_upto_region 3 with fail
   go_region_held3 (fun w' => w'.cell? ⟨w.heap.size, 1, none⟩ = some (.string px) ∧ w'.cell? ⟨w.heap.size, 2, none⟩ = some (.string py) ∧ w'.cell? ⟨w.heap.size, 3, none⟩ = some (.string pz)) (first | exact ⟨c1, c2, c3⟩ | exact ⟨y1.out.cell 1 _ rfl, y1.out.cell 2 _ rfl, y1.out.cell 3 _ rfl⟩ | exact ⟨y2.out.cell 1 _ rfl, y2.out.cell 2 _ rfl, y2.out.cell 3 _ rfl⟩ | exact ⟨y3.out.cell 1 _ rfl, y3.out.cell 2 _ rfl, y3.out.cell 3 _ rfl⟩ | exact ⟨y4.out.cell 1 _ rfl, y4.out.cell 2 _ rfl, y4.out.cell 3 _ rfl⟩ | (go_keep; done)) (first | (have _x := hG3; go_at_call 53; refine (HC4.out _ _ _ _ hG3.out).mono ?_; rintro e u4 ⟨v4o, v4c, L4, rfl, hG4⟩; have y4 := Lib.hid (HPL.out _ hG4.out.2)) | (have _x := hG2; go_at_call 54; refine (HC3.out _ _ _ _ hG2.out).mono ?_; rintro e u3 ⟨v3o, v3c, L3, rfl, hG3⟩; have y3 := Lib.hid (HPL.out _ hG3.out.2)) | (have _x := hG1; go_at_call 54; refine (HC2.out _ _ _ _ hG1.out).mono ?_; rintro e u2 ⟨v2o, v2c, L2, rfl, hG2⟩; have y2 := Lib.hid (HPL.out _ hG2.out.2)) | (go_at_call 54; refine (HC1.out _ HDR.out).mono ?_; rintro e u1 ⟨v1o, v1c, L1, rfl, hG1⟩; have y1 := Lib.hid (HPL.out _ hG1.out.2)))
   go_wp2
   go_meet
   case rel => exact ⟨_, _, L4, rfl, hG4.out⟩
 case rest =>
  obtain ⟨lo, lc, LL, rfl, hcc⟩ := hcut
  have HK := Lib.hid hcc.out.1
  have HBW := Lib.hid hcc.out.2
  have HKL : Hid ((parentL hp ⟨px, py, pz⟩).length ≤ 1000) := by show _ ≤ _; have := parentL_len hp ⟨px, py, pz⟩; omega
  clear c0 c1 c2 c3 c4 c5 c6 c7 c8 c9 c10 cl
  clear hcc HD
  have HD := Lib.hid (HP0.out.below HBW.out HP0.out.lt)
  obtain ⟨c0, c1, c2, c3, c4, c5, c6, c7, c8, c9, c10⟩ := bxc11 HD.out
  have cl := HD.out.lt
  go_wp2_with fail
  refine (leafQ_any W2.heap.size _ _ _ bGroup dg _ HK.out HBW.out.size (Nat.le_trans HKL.out (by decide))).mono ?_
  intro e w7 hO
  obtain ⟨kv7, KL7, rfl, hk7, hg7, hl7⟩ := hO
  have HB7 := Lib.hid (below_own hg7 (fun g hg => (HK.out.lt g hg).1) HBW.out.size)
  have HK7 := Lib.hid hk7
  have HBW7 := Lib.hid (HBW.out.trans HB7.out)
  have HD7 := Lib.hid (HP0.out.below HBW7.out HP0.out.lt)
  obtain ⟨ko7, kc7, rfl⟩ := hk7.own.shape
  have HKL7 := Lib.hid (leaf_len HKL.out bGroup dg)
  clear c0 c1 c2 c3 c4 c5 c6 c7 c8 c9 c10 cl
  clear hk7 hg7 hl7 HB7 HK HBW HD HKL
  have HK := HK7
  have HBW := HBW7
  have HD := HD7
  have HKL := HKL7
  clear HK7 HBW7 HD7 HKL7
  obtain ⟨c0, c1, c2, c3, c4, c5, c6, c7, c8, c9, c10⟩ := bxc11 HD.out
  have cl := HD.out.lt
  go_wp2_with fail
  refine (leafQ_any W2.heap.size _ _ _ bArtifact da _ HK.out HBW.out.size (Nat.le_trans HKL.out (by decide))).mono ?_
  intro e w7 hO
  obtain ⟨kv7, KL7, rfl, hk7, hg7, hl7⟩ := hO
  have HB7 := Lib.hid (below_own hg7 (fun g hg => (HK.out.lt g hg).1) HBW.out.size)
  have HK7 := Lib.hid hk7
  have HBW7 := Lib.hid (HBW.out.trans HB7.out)
  have HD7 := Lib.hid (HP0.out.below HBW7.out HP0.out.lt)
  obtain ⟨ko7, kc7, rfl⟩ := hk7.own.shape
  have HKL7 := Lib.hid (leaf_len HKL.out bArtifact da)
  clear c0 c1 c2 c3 c4 c5 c6 c7 c8 c9 c10 cl
  clear hk7 hg7 hl7 HB7 HK HBW HD HKL
  have HK := HK7
  have HBW := HBW7
  have HD := HD7
  have HKL := HKL7
  clear HK7 HBW7 HD7 HKL7
  obtain ⟨c0, c1, c2, c3, c4, c5, c6, c7, c8, c9, c10⟩ := bxc11 HD.out
  have cl := HD.out.lt
  go_wp2_with fail
  refine (leafQ_any W2.heap.size _ _ _ bVersion dv' _ HK.out HBW.out.size (Nat.le_trans HKL.out (by decide))).mono ?_
  intro e w7 hO
  obtain ⟨kv7, KL7, rfl, hk7, hg7, hl7⟩ := hO
  have HB7 := Lib.hid (below_own hg7 (fun g hg => (HK.out.lt g hg).1) HBW.out.size)
  have HK7 := Lib.hid hk7
  have HBW7 := Lib.hid (HBW.out.trans HB7.out)
  have HD7 := Lib.hid (HP0.out.below HBW7.out HP0.out.lt)
  obtain ⟨ko7, kc7, rfl⟩ := hk7.own.shape
  have HKL7 := Lib.hid (leaf_len HKL.out bVersion dv')
  clear c0 c1 c2 c3 c4 c5 c6 c7 c8 c9 c10 cl
  clear hk7 hg7 hl7 HB7 HK HBW HD HKL
  have HK := HK7
  have HBW := HBW7
  have HD := HD7
  have HKL := HKL7
  clear HK7 HBW7 HD7 HKL7
  obtain ⟨c0, c1, c2, c3, c4, c5, c6, c7, c8, c9, c10⟩ := bxc11 HD.out
  have cl := HD.out.lt
  go_wp2_with fail
  refine (leafQ_any W2.heap.size _ _ _ bPackaging dk _ HK.out HBW.out.size (Nat.le_trans HKL.out (by decide))).mono ?_
  intro e w7 hO
  obtain ⟨kv7, KL7, rfl, hk7, hg7, hl7⟩ := hO
  have HB7 := Lib.hid (below_own hg7 (fun g hg => (HK.out.lt g hg).1) HBW.out.size)
  have HK7 := Lib.hid hk7
  have HBW7 := Lib.hid (HBW.out.trans HB7.out)
  have HD7 := Lib.hid (HP0.out.below HBW7.out HP0.out.lt)
  obtain ⟨ko7, kc7, rfl⟩ := hk7.own.shape
  have HKL7 := Lib.hid (leaf_len HKL.out bPackaging dk)
  clear c0 c1 c2 c3 c4 c5 c6 c7 c8 c9 c10 cl
  clear hk7 hg7 hl7 HB7 HK HBW HD HKL
  have HK := HK7
  have HBW := HBW7
  have HD := HD7
  have HKL := HKL7
  clear HK7 HBW7 HD7 HKL7
  obtain ⟨K4, hK4⟩ : ∃ K4, K4 = parentL hp ⟨px, py, pz⟩ ++ leafT bGroup dg ++ leafT bArtifact da ++ leafT bVersion dv' ++ leafT bPackaging dk := ⟨_, rfl⟩
  rw [← hK4] at HK HKL
  have HK4 := Lib.hid hK4
  clear hK4
  obtain ⟨c0, c1, c2, c3, c4, c5, c6, c7, c8, c9, c10⟩ := bxc11 HD.out
  have cl := HD.out.lt
  go_upto_region 9 with fail
  refine wp_world ?_
  intro W8 hW8
  have hw8 : w7 = W8 := hW8.symm
  subst hw8
  clear c0 c1 c2 c3 c4 c5 c6 c7 c8 c9 c10 cl
  go_loopw [4, 43] (fun xv i wr => ∃ (j : Nat) (eo : Option Addr) (ec : Nat) (XL : List TrV), j ≤ dp.length ∧ i = .int .i64 j ∧ xv = .slice eo XL.length ec ∧ Hid (Below w7.heap.size w7 wr ∧ Grow w7.heap.size wr (.slice eo XL.length ec) ((dp.take j).map propT) XL)) (fun _ i _ => dp.length - (intOf i).toNat)
  case atStart => exact ⟨0, none, 0, [], Nat.zero_le _, rfl, rfl, Below.refl _ _, Grow.nil _ _⟩
  case round =>
   obtain ⟨j, eo, ec, XL, hj, rfl, rfl, HJJ⟩ := hrel
   by_cases hjl : j < dp.length
   · have HTJ := Lib.hid (List.take_succ_eq_append_getElem hjl)
     have hbwr := HB2.out.trans ((HBW.out.trans (HJJ.out.1.mono HBW.out.size)).mono HB2.out.size)
     obtain ⟨g2, o2, hgo, hg2, c0, c1⟩ := (H1.out.below hbwr).atPrp hjl
     have hsj := HJJ.out.1.size
     have HXL : Hid (XL.length ≤ 2000) := by
      show _ ≤ _
      have h1 := HJJ.out.2.len
      rw [List.length_map, List.length_take] at h1
      have := HN1.out
      omega
     have HJT : Hid (j < dp.length) := hjl
     have hj20 : j < 2000 := by have := HN1.out; omega
     have hjI : (j : Int) < (dp.length : Int) := by omega
     subst hgo
     clear hbwr
     generalize dp[j] = y at *
     obtain ⟨y1, y2⟩ := y
     simp only at c0 c1
     go_upto_region 12 with fail
     refine wp_world ?_
     intro W11 hW11
     have x6 : Box W11 wr.heap.size [.string y1, .string y2] := by rw [hW11]; exact (Box.new wr [.string y1, .string y2] _ _ rfl).alloc _
     have x7 : Box W11 (wr.heap.size + 1) [.string y1, .slice none 0 0, .slice none 0 0, .string ⟨#[]⟩] := by rw [hW11]; exact Box.new _ [.string y1, .slice none 0 0, .slice none 0 0, .string ⟨#[]⟩] _ _ (by simp)
     have hb11 : Below wr.heap.size wr W11 := by rw [hW11]; exact ((Below.refl _ _).alloc (Nat.le_refl _) _).alloc (by simp) _
     clear hW11 c0 c1
     have HX6 := Lib.hid x6
     have HX7 := Lib.hid x7
     have HB11 := Lib.hid hb11
     have HSW : Hid (wr.heap.size + 1 < W11.heap.size) := x7.lt
     have HXO : Hid (∀ g, (Value.slice eo XL.length ec).ownBlock = some g → g < wr.heap.size) := fun g hg => (HJJ.out.2.lt g hg).2
     have a0 := x6.cell 0 _ rfl
     have a1 := x6.cell 1 _ rfl
     have al := x6.lt
     obtain ⟨b0, b1, b2, b3⟩ := bxc4 x7
     have bf2 := x7.free 2
     have bl := x7.lt
     clear x6 x7 hb11
     obtain ⟨em, hem⟩ : ∃ em, em = y2.toList.isEmpty := ⟨_, rfl⟩
     have HPT : Hid (propT ⟨y1, y2⟩ = .mk y1.data.toList [] (if em then [] else [.mk [] [] [] y2.data.toList]) []) := by show _ = _; rw [hem]; rfl
     have hE : y2.toList.isEmpty = em := hem.symm
     have hE2 : (!y2.toList.isEmpty) = !em := by rw [hE]
     clear hem
     go_upto_if 52 with fail
     go_cut [] from 50 to 57 (fun wx => ∃ ko kn kc, Hid (Box wx (wr.heap.size + 1) [.string y1, .slice none 0 0, .slice ko kn kc, .string ⟨#[]⟩] ∧ Below wr.heap.size wr wx ∧ NodeX (fun j => j < wr.heap.size) wx (propT ⟨y1, y2⟩) (.slice none 0 0) (.slice ko kn kc)))
     case first =>
      cases em with
      | true =>
       have HPN : Hid (propT ⟨y1, y2⟩ = .mk y1.data.toList [] [] []) := HPT.out
       clear HPT
       go_wp2
       go_meet
       case rel => exact ⟨none, 0, 0, HX7.out, HB11.out, by rw [HPN.out]; exact .mk [] SliceX.nil rfl SliceX.nil (by simp)⟩
      | false =>
       have HPN : Hid (propT ⟨y1, y2⟩ = .mk y1.data.toList [] [.mk [] [] [] y2.data.toList] []) := HPT.out
       clear HPT
       go_wp2
       go_meet
       case rel =>
        refine ⟨some ⟨W11.heap.size, 0, none⟩, 1, 1, (HX7.out.set 2 _).alloc _, (HB11.out.setCell (p := ⟨wr.heap.size + 1, 2, none⟩) (by exact (by omega : wr.heap.size ≤ wr.heap.size + 1)) _).alloc (by simpa using HB11.out.size) _, ?_⟩
        rw [HPN.out]
        have h1 := leaf_node (fun j => j < wr.heap.size) y1.data.toList y2.data.toList (W11.setCell ⟨wr.heap.size + 1, 2, none⟩ (.slice (some ⟨W11.heap.size, 0, none⟩) 1 1)) W11.heap.size (by simp) (fun h => by have := HSW.out; omega)
        rw [data_bs] at h1
        exact h1
     case rest =>
      obtain ⟨ko, kn, kc, hcc⟩ := hcut
      have HX7c := Lib.hid hcc.out.1
      have HBc := Lib.hid hcc.out.2.1
      have HNc := Lib.hid hcc.out.2.2
      clear hcc a0 a1 al b0 b1 b2 b3 bf2 bl HX6 HX7 HB11 HPT hE hE2
      have HXG := Lib.hid (HJJ.out.2.below HBc.out)
      have hlt : SliceOf 4 trC (wc.alloc (.cells #[.string y1, .slice none 0 0, .slice ko kn kc, .string ⟨#[]⟩] 25)) (.slice (some ⟨wc.heap.size, 0, none⟩) 1 1) [((propT ⟨y1, y2⟩, .slice none 0 0, .slice ko kn kc) : TrV)] := by
       have h := tr_lit ((propT ⟨y1, y2⟩, .slice none 0 0, .slice ko kn kc) : TrV) wc wc.heap.size rfl
       rw [show (trC ((propT ⟨y1, y2⟩, .slice none 0 0, .slice ko kn kc) : TrV)).toArray = #[.string y1, .slice none 0 0, .slice ko kn kc, .string ⟨#[]⟩] from by show #[Value.string (bs y1.data.toList), _, _, Value.string (bs [])] = _; rw [data_bs]; rfl] at h
       exact h
      have HLT := Lib.hid hlt
      have hone : ∀ u ∈ trC ((propT ⟨y1, y2⟩, .slice none 0 0, .slice ko kn kc) : TrV), u.oneCell' = true := tr_one _ _ _ _ _ _ _ _ _ _
      have HONE := Lib.hid hone
      clear hlt hone
      obtain ⟨b0, b1, b2, b3⟩ := bxc4 HX7c.out
      have bl := HX7c.out.lt
      go_wp2_with (at_builtin; refine wpList_append_slice _ rfl _ _ 23 rfl w7.heap.size 25 Tryz.underlying23 info_node rfl (by decide) trC_len (.slice eo XL.length ec) XL rfl (HXG.out.own.alloc _) _ [((propT ⟨y1, y2⟩, .slice none 0 0, .slice ko kn kc) : TrV)] rfl HLT.out (fun y hy => by obtain rfl := List.mem_singleton.1 hy; exact HONE.out) (by have h1 := HXL.out; simp only [List.length_cons, List.length_nil]; omega) (by decide) (by have h1 := HJJ.out.1.size; have h2 := HBc.out.size; simp; omega) ?_; intro v9 w9 hown9 hgrow9 hloc9; have HO9 := Lib.hid hown9; have HG9 := Lib.hid hgrow9; have HL9 := Lib.hid hloc9; clear hown9 hgrow9 hloc9; obtain ⟨a9, c9, rfl⟩ := HO9.out.shape)
      go_roundw
      case rel =>
       have hal := (Below.refl wc.heap.size wc).alloc (Nat.le_refl _) (.cells #[.string y1, .slice none 0 0, .slice ko kn kc, .string ⟨#[]⟩] 25)
       have hw := HBc.out.alloc HBc.out.size (.cells #[.string y1, .slice none 0 0, .slice ko kn kc, .string ⟨#[]⟩] 25)
       have hgr := HJJ.out.2.snoc hw HO9.out HG9.out HL9.out ((HNc.out.keep (KeptX.refl _ _) (fun j _ hj => hj.elim (fun h => Nat.lt_of_lt_of_le h HJJ.out.1.size) (fun h => HXO.out j h.symm))).later hal)
       refine ⟨j + 1, a9, c9, XL ++ [((propT ⟨y1, y2⟩, .slice none 0 0, .slice ko kn kc) : TrV)], HJT.out, by go_num, by simp, HJJ.out.1.trans ((hw.mono HJJ.out.1.size).trans (below_own HG9.out (fun g hg => (HJJ.out.2.lt g hg).1) (Nat.le_trans HJJ.out.1.size hw.size))), ?_⟩
       rw [HTJ.out, List.map_append, List.map_cons, List.map_nil]
       exact hgr
      case measure => simp [intOf]; have := HJT.out; omega
   · obtain rfl : j = dp.length := by omega
     have hX := HJJ.out.2
     rw [List.take_length] at hX
     have HXX := Lib.hid hX
     have HKX := Lib.hid (HK.out.below HJJ.out.1)
     have HBX := Lib.hid (HBW.out.trans (HJJ.out.1.mono HBW.out.size))
     have HKO : Hid (∀ g, (Value.slice ko7 KL7.length kc7).ownBlock = some g → g < w7.heap.size) := fun g hg => (HK.out.lt g hg).2
     have HSW7 : Hid (W2.heap.size ≤ w7.heap.size) := HBW.out.size
     clear hX HK HBW HD hjl
     have HK := HKX
     have HBW := HBX
     have HD := Lib.hid (HP0.out.below HBX.out HP0.out.lt)
     clear HKX HBX
     obtain ⟨c0, c1, c2, c3, c4, c5, c6, c7, c8, c9, c10⟩ := bxc11 HD.out
     have cl := HD.out.lt
     go_wp2_with fail
     refine (branchQ_any W2.heap.size w7.heap.size _ _ _ _ KL7 XL bProperties _ HK.out HXX.out HSW7.out HKO.out HBW.out.size (Nat.le_trans HKL.out (by decide))).mono ?_
     intro e w7 hO
     obtain ⟨kv7, KL7, rfl, hk7, hg7, hl7⟩ := hO
     clear HKO HSW7
     have HB7 := Lib.hid (below_own hg7 (fun g hg => (HK.out.lt g hg).1) HBW.out.size)
     have HK7 := Lib.hid hk7
     have HBW7 := Lib.hid (HBW.out.trans HB7.out)
     have HD7 := Lib.hid (HP0.out.below HBW7.out HP0.out.lt)
     obtain ⟨ko7, kc7, rfl⟩ := hk7.own.shape
     have HKL7 := Lib.hid (br_len HKL.out bProperties (dp.map propT))
     clear c0 c1 c2 c3 c4 c5 c6 c7 c8 c9 c10 cl
     clear hk7 hg7 hl7 HB7 HK HBW HD HKL
     have HK := HK7
     have HBW := HBW7
     have HD := HD7
     have HKL := HKL7
     clear HK7 HBW7 HD7 HKL7
     obtain ⟨c0, c1, c2, c3, c4, c5, c6, c7, c8, c9, c10⟩ := bxc11 HD.out
     have cl := HD.out.lt
     go_wp2_with fail
     refine (writeDepsQ_any w7.heap.size _ _ [] [] dm w7 (Grow.nil _ _) (H2.out.below (HB2.out.trans (HBW.out.mono HB2.out.size))) (Nat.le_refl _) (by simp) HN2.out HX2.out).mono ?_
     intro e w8 hO
     obtain ⟨mv8, ML8, rfl, hm8, hg8, hl8⟩ := hO
     have hb8 : Below w7.heap.size w7 w8 := below_own hg8 (by simp [Value.ownBlock]) (Nat.le_refl _)
     have HM8 := Lib.hid hm8
     obtain ⟨mo8, mc8, rfl⟩ := hm8.own.shape
     have HK8 := Lib.hid (HK.out.below hb8)
     have HKO : Hid (∀ g, (Value.slice ko7 KL7.length kc7).ownBlock = some g → g < w7.heap.size) := fun g hg => (HK.out.lt g hg).2
     have HSW7 : Hid (W2.heap.size ≤ w7.heap.size) := HBW.out.size
     have HBW8 := Lib.hid (HBW.out.trans (hb8.mono HBW.out.size))
     clear c0 c1 c2 c3 c4 c5 c6 c7 c8 c9 c10 cl
     clear hm8 hg8 hl8 hb8 HK HBW HD
     have HK := HK8
     have HBW := HBW8
     have HD := Lib.hid (HP0.out.below HBW8.out HP0.out.lt)
     clear HK8 HBW8
     obtain ⟨c0, c1, c2, c3, c4, c5, c6, c7, c8, c9, c10⟩ := bxc11 HD.out
     have cl := HD.out.lt
     go_wp2_with fail
     refine (branchQ_any W2.heap.size w7.heap.size _ _ _ _ KL7 ML8 bManagement _ HK.out HM8.out HSW7.out HKO.out HBW.out.size (Nat.le_trans HKL.out (by decide))).mono ?_
     intro e w7 hO
     obtain ⟨kv7, KL7, rfl, hk7, hg7, hl7⟩ := hO
     clear HKO HSW7 HM8
     have HB7 := Lib.hid (below_own hg7 (fun g hg => (HK.out.lt g hg).1) HBW.out.size)
     have HK7 := Lib.hid hk7
     have HBW7 := Lib.hid (HBW.out.trans HB7.out)
     have HD7 := Lib.hid (HP0.out.below HBW7.out HP0.out.lt)
     obtain ⟨ko7, kc7, rfl⟩ := hk7.own.shape
     have HKL7 := Lib.hid (br_len HKL.out bManagement ([] ++ depsT dm))
     clear c0 c1 c2 c3 c4 c5 c6 c7 c8 c9 c10 cl
     clear hk7 hg7 hl7 HB7 HK HBW HD HKL
     have HK := HK7
     have HBW := HBW7
     have HD := HD7
     have HKL := HKL7
     clear HK7 HBW7 HD7 HKL7
     obtain ⟨c0, c1, c2, c3, c4, c5, c6, c7, c8, c9, c10⟩ := bxc11 HD.out
     have cl := HD.out.lt
     go_wp2_with fail
     refine (writeDepsQ_any W2.heap.size _ _ _ _ dd w7 HK.out (H3.out.below (HB2.out.trans (HBW.out.mono HB2.out.size))) HBW.out.size (Nat.le_trans HKL.out (by decide)) HN3.out HX3.out).mono ?_
     intro e w8 hO
     obtain ⟨kv7, KL7, rfl, hk7, hg7, hl7⟩ := hO
     have HB7 := Lib.hid (below_own hg7 (fun g hg => (HK.out.lt g hg).1) HBW.out.size)
     have HK7 := Lib.hid hk7
     have HBW7 := Lib.hid (HBW.out.trans HB7.out)
     obtain ⟨ko7, kc7, rfl⟩ := hk7.own.shape
     have HR8 := Lib.hid (HR0.out.below HBW7.out HR0.out.lt)
     clear c0 c1 c2 c3 c4 c5 c6 c7 c8 c9 c10 cl
     clear hk7 hg7 hl7 HB7 HK HBW HD HKL
     have HTT : Hid (T = .mk bProject [] (K4 ++ branchT bProperties (dp.map propT) ++ branchT bManagement ([] ++ depsT dm) ++ depsT dd) []) := by show _ = _; rw [HT.out, HK4.out]; rfl
     go_wp2_with ((with_reducible show wpList _ _ _ (Oper.mk none (Op.store 25 (.tmp 2) (.tmp 75)) _ _ _ _ :: _) _ _); refine wpList_store_box rfl 25 (.tmp 2) (.tmp 75) rfl (w.heap.size + 1) [.string ⟨#[]⟩, .slice none 0 0, .slice none 0 0, .string ⟨#[]⟩] [.string ⟨#[112, 114, 111, 106, 101, 99, 116]⟩, .slice none 0 0, .slice ko7 KL7.length kc7, .string ⟨#[]⟩] rfl rfl HR8.out rfl size_node (by simp [Value.oneCell']) ?_; intro W10 v10 hg10; have HV10 := Lib.hid v10; have HG10 := Lib.hid hg10; clear v10 hg10)
     refine bodyPost_ret (results_cell_box rfl _ _ (w.heap.size + 1) [.string ⟨#[112, 114, 111, 106, 101, 99, 116]⟩, .slice none 0 0, .slice ko7 KL7.length kc7, .string ⟨#[]⟩] rfl HV10.out Tryz.underlying25 rfl size_node) rfl ?_
     refine ⟨.slice ko7 KL7.length kc7, ?_, ?_, ?_⟩
     · rw [HTT.out]; rfl
     · rw [HTT.out]
       have h1 := HK7.out.node bProject (X := fun j => j < W2.heap.size) (fun j hj => hj)
       exact (h1.keep (KeptX.grown HG10.out (fun g e => by cases e; exact HSR.out)) (fun _ _ h => h)).node
     · exact (HB2.out.trans (HBW7.out.mono HB2.out.size)).trans (below_row HG10.out (by omega) (Nat.le_trans HB2.out.size HBW7.out.size))

end Go.Proofs.YtbbbfjcikhpmbaaGreat
