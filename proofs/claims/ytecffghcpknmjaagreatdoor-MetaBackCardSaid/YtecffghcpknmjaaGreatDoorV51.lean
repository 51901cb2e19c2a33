/- The walk of meta.Write; the conditions stand in the theorem. -/
import Derived.Test.YtecffghcpknmjaaGreatDoorV50
import Derived.Test.YtecffghcpknmjaaGreatDoorJK02
import Derived.Test.YtecffghcpknmjaaGreatDoorJK11
namespace Go.Proofs.YtecffghcpknmjaaGreatDoor
open Go Go.RowKit

theorem box4W {w : World} {b : Nat} {p0 p1 p2 p3 v0 v1 v2 v3 : Value} (h : Box w b [p0, p1, p2, p3]) : Box ((((w.setCell ⟨b, 0, none⟩ v0).setCell ⟨b, 1, none⟩ v1).setCell ⟨b, 2, none⟩ v2).setCell ⟨b, 3, none⟩ v3) b [v0, v1, v2, v3] ∧ w.grownBy ((((w.setCell ⟨b, 0, none⟩ v0).setCell ⟨b, 1, none⟩ v1).setCell ⟨b, 2, none⟩ v2).setCell ⟨b, 3, none⟩ v3) (some b) :=
  ⟨(((h.set 0 v0).set 1 v1).set 2 v2).set 3 v3, (((setCell_grown _ _ _ _).trans (setCell_grown _ _ _ _)).trans (setCell_grown _ _ _ _)).trans (setCell_grown _ _ _ _)⟩
theorem sliceX_of {α : Type} {n : Nat} {C : α → List Value} {w : World} {ao : Option Addr} {len cap : Nat} {l : List α} (h : SliceOf n C w (.slice ao len cap) l) {X : Nat → Prop} (hX : ∀ b o, ao = some ⟨b, o, none⟩ → ¬ X b) : SliceX n C X w (.slice ao len cap) l := by
  obtain ⟨ao', cap', e, h1, h2, h3, h4⟩ := h
  cases e
  exact ⟨ao, cap, rfl, h1, h2, h3, fun i y hy => by
    obtain ⟨b, o, e1, e2, e3⟩ := h4 i y hy
    exact ⟨b, o, e1, e2, hX b o e1, e3⟩⟩
def WriteMP (t : Tr) (w : World) (e : Ending) (w' : World) : Prop := ∃ kv, e = .returned (nodeV t (.slice none 0 0) kv) ∧ NodeOf w' t (.slice none 0 0) kv ∧ Below w.heap.size w w'
set_option maxRecDepth 100000 in
set_option maxHeartbeats 32000000 in
theorem writeM_any (m : MetaD) (v : Value) (w : World) (h : SliceOf 1 strC w v m.vers) (hl : m.vers.length ≤ 1000000) : Calls Tryz.prog 7 #[metaAg m v] w (WriteMP (writeM m) w) := by
  have HS0 := Lib.hid h
  have HLN := Lib.hid hl
  obtain ⟨xo, xc, rfl⟩ := h.shape
  clear h hl
  obtain ⟨⟨mg, ma⟩, l, la, re⟩ := m
  simp only at HS0 HLN
  unfold metaAg metaC
  go_enter Tryz.func7, Tryz.ntmps7
  go_upto_region 2 with fail
  refine wp_world ?_
  intro W hW
  have x1 : Box W w.heap.size [.string mg, .string ma, .slice xo l.length xc, .string la, .string re] := by rw [hW]; exact ((Box.new w [.string mg, .string ma, .slice xo l.length xc, .string la, .string re] _ _ rfl).alloc _).alloc _
  have y1 : Box W (w.heap.size + 1) [.string ⟨#[]⟩, .slice none 0 0, .slice none 0 0, .string ⟨#[]⟩] := by rw [hW]; exact (Box.new _ [.string ⟨#[]⟩, .slice none 0 0, .slice none 0 0, .string ⟨#[]⟩] _ _ (by simp)).alloc _
  have y2 : Box W (w.heap.size + 2) [.string ⟨#[118, 101, 114, 115, 105, 111, 110, 115]⟩, .slice none 0 0, .slice none 0 0, .string ⟨#[]⟩] := by rw [hW]; exact Box.new _ [.string ⟨#[118, 101, 114, 115, 105, 111, 110, 115]⟩, .slice none 0 0, .slice none 0 0, .string ⟨#[]⟩] _ _ (by simp)
  have hb : Below w.heap.size w W := by rw [hW]; exact (((Below.refl _ w).alloc (Nat.le_refl _) _).alloc (by simp) _).alloc (by simp; omega) _
  clear hW
  have HM := Lib.hid x1
  have HZ := Lib.hid y1
  have HV := Lib.hid y2
  have HB := Lib.hid hb
  have HS : Hid (w.heap.size + 3 ≤ W.heap.size) := by have := y2.lt; show _ ≤ _; omega
  have HSL : Hid (SliceOf 1 strC w (.slice xo l.length xc) l) := HS0.out
  clear x1 y1 y2 hb HS0
  have x0 := HM.out.cell 0 _ rfl
  have x1 := HM.out.cell 1 _ rfl
  have x2 := HM.out.cell 2 _ rfl
  have x3 := HM.out.cell 3 _ rfl
  have x4 := HM.out.cell 4 _ rfl
  have xl := HM.out.lt
  go_wp2
  clear x0 x1 x2 x3 x4 xl
  go_loopw [11] (fun i wx => ∃ (k n : Nat) (vo : Option Addr) (vc : Nat) (L : List TrV), i = .int .i64 k ∧ k ≤ l.length ∧ Hid (n = k) ∧ Hid (Box wx w.heap.size [.string mg, .string ma, .slice xo l.length xc, .string la, .string re]) ∧ Hid (Box wx (w.heap.size + 1) [.string ⟨#[]⟩, .slice none 0 0, .slice none 0 0, .string ⟨#[]⟩]) ∧ Hid (Box wx (w.heap.size + 2) [.string ⟨#[118, 101, 114, 115, 105, 111, 110, 115]⟩, .slice none 0 0, .slice vo n vc, .string ⟨#[]⟩]) ∧ Hid (Grow (w.heap.size + 3) wx (.slice vo n vc) ((l.take k).map (leafM nmVer)) L) ∧ Hid (w.heap.size + 3 ≤ wx.heap.size) ∧ Hid (Below w.heap.size w wx)) (fun i _ => l.length - (intOf i).toNat)
  case atStart => exact ⟨0, 0, none, 0, [], rfl, Nat.zero_le _, rfl, HM, HZ, HV, Grow.nil _ _, HS, HB⟩
  case round =>
    clear HM HZ HV HS HB
    obtain ⟨k, n, vo, vc, L, rfl, hk, HNK, HM, HZ, HV, HG, HS, HB⟩ := hrel
    by_cases hlt : k < l.length
    · obtain ⟨b, o, hao, hbl, hc⟩ := (HSL.out.below HB.out).at1 hlt
      cases hao
      have d1 : (k : Int) < (l.length : Int) := by omega
      have wk : IntKind.i64.wrap ((k : Int) + 1) = (k : Int) + 1 := IntWalk.i64_in _ (by have := HLN.out; omega)
      have HTK : Hid ((l.take (k + 1)).map (leafM nmVer) = (l.take k).map (leafM nmVer) ++ [leafM nmVer l[k]]) := by show _ = _; rw [take_snocR hlt, List.map_append]; rfl
      have HKL : Hid (k + 1 ≤ l.length) := hlt
      have HLL : Hid (L.length = k) := by
        have h := HG.out.len
        rw [List.length_map, List.length_take] at h
        show _ = _; omega
      generalize l[k] = x at *
      clear hlt
      have HLF : Hid (Calls Tryz.prog 20 #[.string ⟨#[118, 101, 114, 115, 105, 111, 110]⟩, .string x] wr.drew (LeafP nmVer ⟨#[118, 101, 114, 115, 105, 111, 110]⟩ x wr.drew)) := leafM_any nmVer ⟨#[118, 101, 114, 115, 105, 111, 110]⟩ x wr.drew
      have m2 := HV.out.cell 2 _ rfl
      have ml := HV.out.lt
      have mf := HV.out.free 2
      go_upto_region 5 with fail
      clear hc hbl d1
      go_region_law (first | (go_simp; go_at_call 20; refine HLF.out.mono ?_; rintro e w5 ⟨H, rfl, hn5, hb5⟩; have HB5 : Hid (Below wr.heap.size wr w5) := ⟨hb5.os, hb5.tape, hb5.output, hb5.size, hb5.block⟩; have HN5 : Hid (NodeX (fun j => j < wr.heap.size) w5 (leafM nmVer x) (.slice none 0 0) (.slice (some ⟨H, 0, none⟩) 1 1)) := hn5; have HV5 := Lib.hid (HV.out.below HB5.out HV.out.lt); have HOA : Hid (Owns (w.heap.size + 3) 32 4 trC (w5.alloc (.cells #[.string ⟨#[118, 101, 114, 115, 105, 111, 110]⟩, .slice none 0 0, .slice (some ⟨H, 0, none⟩) 1 1, .string ⟨#[]⟩] 32)) (.slice vo n vc) L) := (HG.out.own.below HB5.out).alloc _; have HNA : Hid (SliceOf 4 trC (w5.alloc (.cells #[.string ⟨#[118, 101, 114, 115, 105, 111, 110]⟩, .slice none 0 0, .slice (some ⟨H, 0, none⟩) 1 1, .string ⟨#[]⟩] 32)) (.slice (some ⟨w5.heap.size, 0, none⟩) 1 1) [((leafM nmVer x, .slice none 0 0, .slice (some ⟨H, 0, none⟩) 1 1) : TrV)]) := tr_lit ((leafM nmVer x, .slice none 0 0, .slice (some ⟨H, 0, none⟩) 1 1) : TrV) w5 w5.heap.size rfl; have k2 : w5.cell? ⟨w.heap.size + 2, 2, none⟩ = _ := HV5.out.cell 2 _ rfl; have kl := HV5.out.lt; have kf : w5.frozen? ⟨w.heap.size + 2, 2, none⟩ = false := HV5.out.free 2; clear hb5 hn5) | (refine step_append_sliceN _ rfl (.tmp 16) (.tmp 19) 30 rfl (w.heap.size + 3) 32 Tryz.underlying30 info_node rfl (by decide) trC_lenN (.slice vo n vc) L (by simp [Act.eval]) HOA.out (.slice (some ⟨w5.heap.size, 0, none⟩) 1 1) [((leafM nmVer x, .slice none 0 0, .slice (some ⟨H, 0, none⟩) 1 1) : TrV)] (by simp [Act.eval]) HNA.out (fun y hy => by obtain rfl := List.mem_singleton.1 hy; exact tr_one _ _ _ _ _ _ _ _ _ _) (by have h1 := HLL.out; have h2 := HLN.out; have h3 := HKL.out; simp only [List.length_singleton]; omega) (by decide) (by have h1 := HB5.out.size; have h2 := HS.out; simp; omega) ?_; intro a8 n8 c8 w8 ho8 hg8 hl8; have HO8 := Lib.hid ho8; have HG8 := Lib.hid hg8; have HL8 := Lib.hid hl8; have HV8 := Lib.hid ((HV5.out.alloc _).grown hg8 (fun e => by have h1 := HOA.out.lt _ e.symm; omega)); have j2 : w8.cell? ⟨w.heap.size + 2, 2, none⟩ = _ := HV8.out.cell 2 _ rfl; have jl := HV8.out.lt; have jf : w8.frozen? ⟨w.heap.size + 2, 2, none⟩ = false := HV8.out.free 2; clear ho8 hg8 hl8) | fail)
      all_goals
        obtain ⟨W3, hW⟩ : ∃ W, w8.setCell ⟨w.heap.size + 2, 2, none⟩ (.slice a8 n8 c8) = W := ⟨_, rfl⟩
        rw [hW]
        have hg : w8.grownBy W3 (some (w.heap.size + 2)) := by rw [← hW]; exact setCell_grown _ _ _ _
        have HV3 : Hid (Box W3 (w.heap.size + 2) [.string ⟨#[118, 101, 114, 115, 105, 111, 110, 115]⟩, .slice none 0 0, .slice a8 n8 c8, .string ⟨#[]⟩]) := by show Box _ _ _; rw [← hW]; exact HV8.out.set 2 _
        have hba : Below wr.heap.size wr (w5.alloc (.cells #[.string ⟨#[118, 101, 114, 115, 105, 111, 110]⟩, .slice none 0 0, .slice (some ⟨H, 0, none⟩) 1 1, .string ⟨#[]⟩] 32)) := HB5.out.alloc HB5.out.size _
        have hown : ∀ g, (Value.slice vo n vc).ownBlock = some g → w.heap.size + 3 ≤ g ∧ g < wr.heap.size := fun g e => HG.out.lt g e
        have hbox : ∀ (b : Nat) (cs : List Value), Box wr b cs → b < w.heap.size + 2 → Box W3 b cs := fun b cs h hle => ((h.below hba h.lt).grown HG8.out (fun e => by have h1 := hown b e.symm; omega)).grown hg (by simp; omega)
        have HM3 := Lib.hid (hbox _ _ HM.out (by omega))
        have HZ3 := Lib.hid (hbox _ _ HZ.out (by omega))
        have hn1 : NodeX (fun j => j < w.heap.size + 3 ∨ some j = (Value.slice vo n vc).ownBlock) (w5.alloc (.cells #[.string ⟨#[118, 101, 114, 115, 105, 111, 110]⟩, .slice none 0 0, .slice (some ⟨H, 0, none⟩) 1 1, .string ⟨#[]⟩] 32)) (leafM nmVer x) (.slice none 0 0) (.slice (some ⟨H, 0, none⟩) 1 1) := HN5.out.keep (KeptX.below ((Below.refl _ _).alloc (Nat.le_refl _) _)) fun k _ h => by
          have h2 := HS.out
          rcases h with h | h
          · omega
          · exact (hown k h.symm).2
        have HG3 := Lib.hid ((HG.out.snoc hba HO8.out HG8.out HL8.out hn1).keptR hg (by omega))
        have hn8 : n8 = k + 1 := by obtain ⟨_, _, e⟩ := HO8.out.shape; have h := HLL.out; cases e; simp; exact h
        have HN8 := Lib.hid hn8
        have HS3 : Hid (w.heap.size + 3 ≤ W3.heap.size) := by have h1 := HS.out; have h2 := hba.size; have h3 := HG8.out.size; have h4 := hg.size; show _ ≤ _; omega
        have HB3 : Hid (Below w.heap.size w W3) := (((HB.out.trans (hba.mono HB.out.size)).grown HG8.out (by have h1 := hba.size; have h2 := HB.out.size; omega) (fun j hj => by have h1 := hown j hj; omega))).grown hg (by have h1 := hba.size; have h2 := HB.out.size; have h3 := HG8.out.size; omega) (fun j hj => by cases hj; omega)
        rw [← show List.map _ _ = _ from HTK.out] at HG3
        clear hW hg hba hbox hown hn1 hn8 HV5 HOA HNA HB5 HN5 HG8 HL8 HV8 HO8 j2 jl jf k2 kl kf HG HM HZ HV HB HS m2 ml mf HLF
        go_wp2
        go_roundw
        case rel => exact ⟨k + 1, n8, a8, c8, _, by first | rfl | go_num, HKL.out, HN8, HM3, HZ3, HV3, HG3, HS3, HB3⟩
        case measure => simp [intOf]; have := HKL.out; omega
    · obtain rfl : k = l.length := by omega
      have d1 : ¬ (l.length : Int) < (l.length : Int) := by omega
      have HG1 := HG.out
      rw [List.take_length] at HG1
      replace HG := Lib.hid HG1
      clear HG1
      have HVT : Hid (NodeX (fun j => j < w.heap.size + 3 ∨ wr.heap.size ≤ j) wr (versM' l) (.slice none 0 0) (.slice vo n vc)) := NodeX.of L HG.out.are SliceX.nil (HG.out.sliceX (fun g e h => by have := HG.out.lt g e; omega)) (fun y hy => (HG.out.nodes y hy).keep (KeptX.refl _ _) (fun k hk h => by
        rcases h with h | h
        · exact .inl h
        · omega))
      have HWB : Hid (wr.heap.size ≤ wr.heap.size) := Nat.le_refl _
      have HLF : Hid (Calls Tryz.prog 20 #[.string ⟨#[108, 97, 116, 101, 115, 116]⟩, .string la] wr (LeafP nmL ⟨#[108, 97, 116, 101, 115, 116]⟩ la wr)) := leafM_any nmL ⟨#[108, 97, 116, 101, 115, 116]⟩ la wr
      have x0 := HM.out.cell 0 _ rfl
      have x1 := HM.out.cell 1 _ rfl
      have x2 := HM.out.cell 2 _ rfl
      have x3 := HM.out.cell 3 _ rfl
      have x4 := HM.out.cell 4 _ rfl
      have xl := HM.out.lt
      go_wp2_with fail
      refine HLF.out.mono ?_
      rintro e w6 ⟨HnmL, rfl, hn, hb⟩
      have HN6 : Hid (NodeX (fun j => j < w.heap.size + 3) w6 (leafM nmL la) (.slice none 0 0) (.slice (some ⟨HnmL, 0, none⟩) 1 1)) := hn.keep (KeptX.refl _ _) (fun k _ h => by have := HS.out; omega)
      replace HWB : Hid (wr.heap.size ≤ w6.heap.size) := hb.size
      replace HM := Lib.hid (HM.out.below hb HM.out.lt)
      replace HZ := Lib.hid (HZ.out.below hb HZ.out.lt)
      replace HV := Lib.hid (HV.out.below hb HV.out.lt)
      replace HVT := Lib.hid (HVT.out.later hb)
      replace HS : Hid (w.heap.size + 3 ≤ w6.heap.size) := by have h1 := HS.out; have h2 := hb.size; show _ ≤ _; omega
      replace HB := Lib.hid (HB.out.trans (hb.mono HB.out.size))
      clear hn hb HLF x0 x1 x2 x3 x4 xl HG
      generalize wr.heap.size = B7 at *
      go_upto_region 8 with fail
      refine wp_world ?_
      intro W6 hW
      have hg1 : Grow (w.heap.size + 3) W6 (.slice (some ⟨w6.heap.size, 0, none⟩) 1 1) [leafM nmL la] [((leafM nmL la, .slice none 0 0, .slice (some ⟨HnmL, 0, none⟩) 1 1) : TrV)] := by rw [hW]; exact Grow.one rfl HS.out HN6.out
      have hb : Below w6.heap.size w6 W6 := by rw [hW]; exact (Below.refl _ _).alloc (Nat.le_refl _) _
      have HI := Lib.hid hg1
      have HIB : Hid (∀ g, (Value.slice (some ⟨w6.heap.size, 0, none⟩) 1 1).ownBlock = some g → B7 ≤ g) := fun g e => by simp only [Value.ownBlock, Option.some.injEq] at e; have := HWB.out; omega
      replace HWB : Hid (B7 ≤ W6.heap.size) := by have h1 := HWB.out; have h2 := hb.size; show _ ≤ _; omega
      replace HM := Lib.hid (HM.out.below hb HM.out.lt)
      replace HZ := Lib.hid (HZ.out.below hb HZ.out.lt)
      replace HV := Lib.hid (HV.out.below hb HV.out.lt)
      replace HVT := Lib.hid (HVT.out.later hb)
      replace HS : Hid (w.heap.size + 3 ≤ W6.heap.size) := by have h1 := HS.out; have h2 := hb.size; show _ ≤ _; omega
      replace HB := Lib.hid (HB.out.trans (hb.mono HB.out.size))
      clear hW hb hg1 HN6
      have x0 := HM.out.cell 0 _ rfl
      have x1 := HM.out.cell 1 _ rfl
      have x2 := HM.out.cell 2 _ rfl
      have x3 := HM.out.cell 3 _ rfl
      have x4 := HM.out.cell 4 _ rfl
      have xl := HM.out.lt
      by_cases hre : re = ⟨#[]⟩
      · subst hre
        have HRL : Hid (relM ⟨#[]⟩ = []) := rfl
        go_upto_region 10 with fail
        clear x0 x1 x2 x3 x4 xl
        have HNV : Hid (NodeX (fun j => j < w.heap.size + 3 ∨ some j = Value.ownBlock (.slice (some ⟨w6.heap.size, 0, none⟩) 1 1)) W6 (versM' l) (.slice none 0 0) (.slice vo n vc)) := HVT.out.keep (KeptX.refl _ _) (fun k _ h => by
          rcases h with h | h
          · exact .inl h
          · exact .inr (HIB.out k h.symm))
        have x0 := HV.out.cell 0 _ rfl
        have x1 := HV.out.cell 1 _ rfl
        have x2 := HV.out.cell 2 _ rfl
        have x3 := HV.out.cell 3 _ rfl
        have xl := HV.out.lt
        have HNA : Hid (SliceOf 4 trC (W6.alloc (.cells #[.string ⟨#[118, 101, 114, 115, 105, 111, 110, 115]⟩, .slice none 0 0, .slice vo n vc, .string ⟨#[]⟩] 32)) (.slice (some ⟨W6.heap.size, 0, none⟩) 1 1) [((versM' l, .slice none 0 0, .slice vo n vc) : TrV)]) := tr_lit ((versM' l, .slice none 0 0, .slice vo n vc) : TrV) W6 W6.heap.size rfl
        have HBA : Hid (Below W6.heap.size W6 (W6.alloc (.cells #[.string ⟨#[118, 101, 114, 115, 105, 111, 110, 115]⟩, .slice none 0 0, .slice vo n vc, .string ⟨#[]⟩] 32))) := (Below.refl _ _).alloc (Nat.le_refl _) _
        have HIA := Lib.hid (HI.out.below HBA.out)
        have HNX := Lib.hid (HNV.out.later HBA.out)
        go_upto_region 11 with (at_builtin; go_loud (refine wpList_append_slice _ rfl _ _ 30 rfl (w.heap.size + 3) 32 Tryz.underlying30 info_node rfl (by decide) trC_lenN (.slice (some ⟨w6.heap.size, 0, none⟩) 1 1) [((leafM nmL la, .slice none 0 0, .slice (some ⟨HnmL, 0, none⟩) 1 1) : TrV)] rfl HIA.out.own _ [((versM' l, .slice none 0 0, .slice vo n vc) : TrV)] rfl HNA.out (fun y hy => by obtain rfl := List.mem_singleton.1 hy; exact tr_one _ _ _ _ _ _ _ _ _ _) (by simp) (by decide) (by have h1 := HS.out; have h2 := HBA.out.size; omega) ?_; intro v8 w9 ho8 hg8 hl8; obtain ⟨ia, ic, hv8⟩ := ho8.shape; subst hv8; simp only [List.length_append, List.length_cons, List.length_nil, Nat.zero_add, Nat.reduceAdd] at ho8 hl8; have HO8 := Lib.hid ho8; have HG8 := Lib.hid hg8; have HL8 := Lib.hid hl8; clear ho8 hg8 hl8))
        have hi8 := HI.out.snoc HBA.out HO8.out HG8.out HL8.out HNX.out
        have hown : ∀ g, (Value.ownBlock (.slice (some ⟨w6.heap.size, 0, none⟩) 1 1)) = some g → w.heap.size + 3 ≤ g ∧ g < W6.heap.size ∧ B7 ≤ g := fun g e => ⟨(HI.out.lt g e).1, (HI.out.lt g e).2, HIB.out g e⟩
        have hbox : ∀ (b : Nat) (cs : List Value), Box W6 b cs → b < w.heap.size + 3 → Box w9 b cs := fun b cs h hle => (h.below HBA.out h.lt).grown HG8.out (fun e => by have h1 := hown b e.symm; omega)
        replace HM := Lib.hid (hbox _ _ HM.out (by omega))
        replace HZ := Lib.hid (hbox _ _ HZ.out (by omega))
        replace HV := Lib.hid (hbox _ _ HV.out (by omega))
        replace HVT := Lib.hid ((HVT.out.later HBA.out).keep (KeptX.grown HG8.out fun g e => .inr (hown g e).2.2) (fun _ _ h => h))
        have hsz : W6.heap.size ≤ w9.heap.size := by have h1 := HBA.out.size; have h2 := HG8.out.size; omega
        replace HIB : Hid (∀ g, (Value.slice ia 2 ic).ownBlock = some g → B7 ≤ g) := fun g e => by
          rcases HL8.out with h | h
          · rw [h] at e; exact (hown g e).2.2
          · rw [h] at e
            have h1 := HWB.out
            have h2 := HBA.out.size
            simp only [Option.some.injEq] at e
            omega
        replace HWB : Hid (B7 ≤ w9.heap.size) := by have h1 := HWB.out; show _ ≤ _; omega
        replace HS : Hid (w.heap.size + 3 ≤ w9.heap.size) := by have h1 := HS.out; show _ ≤ _; omega
        replace HB : Hid (Below w.heap.size w w9) := (HB.out.trans (HBA.out.mono HB.out.size)).grown HG8.out (by have h1 := HBA.out.size; have h2 := HB.out.size; omega) (fun j hj => by have h1 := hown j hj; omega)
        have HI8 := Lib.hid hi8
        clear hown hbox hsz hi8 HNA HBA HIA HNX HO8 HG8 HL8 HI
        have HI := HI8
        clear HI8
        clear x0 x1 x2 x3 xl HNV
        have HIT : Hid (NodeX (fun j => j = w.heap.size + 1) w9 (.mk nmV [] ([leafM nmL la] ++ [versM' l]) []) (.slice none 0 0) (.slice ia 2 ic)) := NodeX.of _ HI.out.are SliceX.nil (HI.out.sliceX (fun g e h => by have := HI.out.lt g e; omega)) (fun y hy => (HI.out.nodes y hy).keep (KeptX.refl _ _) (fun k hk h => .inl (by omega)))
        have HINN : Hid (Tr.mk nmV [] ([leafM nmL la] ++ [versM' l]) [] = innerM ⟨⟨mg, ma⟩, l, la, ⟨#[]⟩⟩) := by show _ = _; unfold innerM; rw [show relM ⟨#[]⟩ = _ from HRL.out]; try rfl
        rw [show Tr.mk _ _ _ _ = _ from HINN.out] at HIT
        clear HINN HRL HI HIB HVT HWB HV
        have HXB : Hid (Below w9.heap.size w9 w9.drew) := ⟨rfl, rfl, rfl, Nat.le_refl _, fun _ _ => rfl⟩
        have HLG : Hid (∀ W, Calls Tryz.prog 20 #[.string ⟨#[103, 114, 111, 117, 112, 73, 100]⟩, .string mg] W (LeafP nmG ⟨#[103, 114, 111, 117, 112, 73, 100]⟩ mg W)) := leafM_any nmG ⟨#[103, 114, 111, 117, 112, 73, 100]⟩ mg
        have HLA : Hid (∀ W, Calls Tryz.prog 20 #[.string ⟨#[97, 114, 116, 105, 102, 97, 99, 116, 73, 100]⟩, .string ma] W (LeafP nmA ⟨#[97, 114, 116, 105, 102, 97, 99, 116, 73, 100]⟩ ma W)) := leafM_any nmA ⟨#[97, 114, 116, 105, 102, 97, 99, 116, 73, 100]⟩ ma
        have x0 := HM.out.cell 0 _ rfl
        have x1 := HM.out.cell 1 _ rfl
        have x2 := HM.out.cell 2 _ rfl
        have x3 := HM.out.cell 3 _ rfl
        have x4 := HM.out.cell 4 _ rfl
        have xl := HM.out.lt
        go_upto_region 11 with fail
        go_region_law (first | (go_simp; go_at_call 20; refine (HLG.out _).mono ?_; rintro e w5 ⟨HG, rfl, hn5, hb5⟩; have HX5 := Lib.hid (HXB.out.trans (hb5.mono HXB.out.size)); have HPG : Hid (NodeX (fun j => j = w.heap.size + 1) w5 (leafM nmG mg) (.slice none 0 0) (.slice (some ⟨HG, 0, none⟩) 1 1)) := hn5.keep (KeptX.refl _ _) (fun k _ h => (by have h1 := HS.out; have h2 := HXB.out.size; omega)); (try replace HPA := Lib.hid (HPA.out.later hb5)); clear HXB; have HXB := HX5; clear HX5; have q0 : w5.cell? ⟨w.heap.size, 0, none⟩ = _ := (HM.out.below HXB.out HM.out.lt).cell 0 _ rfl; have q1 : w5.cell? ⟨w.heap.size, 1, none⟩ = _ := (HM.out.below HXB.out HM.out.lt).cell 1 _ rfl; have ql := (HM.out.below HXB.out HM.out.lt).lt; have HZ5 := Lib.hid (HZ.out.below HXB.out HZ.out.lt); have z0 : w5.cell? ⟨w.heap.size + 1, 0, none⟩ = _ := HZ5.out.cell 0 _ rfl; have z1 : w5.cell? ⟨w.heap.size + 1, 1, none⟩ = _ := HZ5.out.cell 1 _ rfl; have z2 : w5.cell? ⟨w.heap.size + 1, 2, none⟩ = _ := HZ5.out.cell 2 _ rfl; have z3 : w5.cell? ⟨w.heap.size + 1, 3, none⟩ = _ := HZ5.out.cell 3 _ rfl; have zl := HZ5.out.lt; have f0 : w5.frozen? ⟨w.heap.size + 1, 0, none⟩ = _ := HZ5.out.free 0; have f1 : w5.frozen? ⟨w.heap.size + 1, 1, none⟩ = _ := HZ5.out.free 1; have f2 : w5.frozen? ⟨w.heap.size + 1, 2, none⟩ = _ := HZ5.out.free 2; have f3 : w5.frozen? ⟨w.heap.size + 1, 3, none⟩ = _ := HZ5.out.free 3; clear hb5 hn5) | (go_simp; go_at_call 20; refine (HLA.out _).mono ?_; rintro e w5 ⟨HA, rfl, hn5, hb5⟩; have HX5 := Lib.hid (HXB.out.trans (hb5.mono HXB.out.size)); have HPA : Hid (NodeX (fun j => j = w.heap.size + 1) w5 (leafM nmA ma) (.slice none 0 0) (.slice (some ⟨HA, 0, none⟩) 1 1)) := hn5.keep (KeptX.refl _ _) (fun k _ h => (by have h1 := HS.out; have h2 := HXB.out.size; omega)); (try replace HPG := Lib.hid (HPG.out.later hb5)); clear HXB; have HXB := HX5; clear HX5; have q0 : w5.cell? ⟨w.heap.size, 0, none⟩ = _ := (HM.out.below HXB.out HM.out.lt).cell 0 _ rfl; have q1 : w5.cell? ⟨w.heap.size, 1, none⟩ = _ := (HM.out.below HXB.out HM.out.lt).cell 1 _ rfl; have ql := (HM.out.below HXB.out HM.out.lt).lt; have HZ5 := Lib.hid (HZ.out.below HXB.out HZ.out.lt); have z0 : w5.cell? ⟨w.heap.size + 1, 0, none⟩ = _ := HZ5.out.cell 0 _ rfl; have z1 : w5.cell? ⟨w.heap.size + 1, 1, none⟩ = _ := HZ5.out.cell 1 _ rfl; have z2 : w5.cell? ⟨w.heap.size + 1, 2, none⟩ = _ := HZ5.out.cell 2 _ rfl; have z3 : w5.cell? ⟨w.heap.size + 1, 3, none⟩ = _ := HZ5.out.cell 3 _ rfl; have zl := HZ5.out.lt; have f0 : w5.frozen? ⟨w.heap.size + 1, 0, none⟩ = _ := HZ5.out.free 0; have f1 : w5.frozen? ⟨w.heap.size + 1, 1, none⟩ = _ := HZ5.out.free 1; have f2 : w5.frozen? ⟨w.heap.size + 1, 2, none⟩ = _ := HZ5.out.free 2; have f3 : w5.frozen? ⟨w.heap.size + 1, 3, none⟩ = _ := HZ5.out.free 3; clear hb5 hn5) | fail)
        all_goals
          obtain ⟨W4, hS⟩ : ∃ W, (((w5.setCell ⟨w.heap.size + 1, 0, none⟩ (.string ⟨#[109, 101, 116, 97, 100, 97, 116, 97]⟩)).setCell ⟨w.heap.size + 1, 1, none⟩ (.slice none 0 0)).setCell ⟨w.heap.size + 1, 2, none⟩ (.slice (some ⟨w5.heap.size, 0, none⟩) 3 3)).setCell ⟨w.heap.size + 1, 3, none⟩ (.string ⟨#[]⟩) = W := ⟨_, rfl⟩
          rw [hS]
          have hz : Box W4 (w.heap.size + 1) [.string ⟨#[109, 101, 116, 97, 100, 97, 116, 97]⟩, .slice none 0 0, .slice (some ⟨w5.heap.size, 0, none⟩) 3 3, .string ⟨#[]⟩] ∧ w5.grownBy W4 (some (w.heap.size + 1)) := by rw [← hS]; exact box4W (HZ.out.below HXB.out HZ.out.lt)
          have hsz : W4.heap.size = w5.heap.size := by rw [← hS]; simp
          obtain ⟨hz0, hg⟩ := hz
          clear hS
          obtain ⟨W3, hW⟩ : ∃ W, W4.alloc (.cells #[.string ⟨#[103, 114, 111, 117, 112, 73, 100]⟩, .slice none 0 0, .slice (some ⟨HG, 0, none⟩) 1 1, .string ⟨#[]⟩, .string ⟨#[97, 114, 116, 105, 102, 97, 99, 116, 73, 100]⟩, .slice none 0 0, .slice (some ⟨HA, 0, none⟩) 1 1, .string ⟨#[]⟩, .string ⟨#[118, 101, 114, 115, 105, 111, 110, 105, 110, 103]⟩, .slice none 0 0, .slice ia 2 ic, .string ⟨#[]⟩] 32) = W := ⟨_, rfl⟩
          rw [hW]
          have hba : Below W4.heap.size W4 W3 := by rw [← hW]; exact (Below.refl _ _).alloc (Nat.le_refl _) _
          have hz1 := hz0.below hba hz0.lt
          have hk := KeptX.grown (X := fun j => j = w.heap.size + 1) hg (fun g e => by cases e; rfl)
          have n1 := (HPG.out.keep hk (fun _ _ h => h)).later hba
          have n2 := (HPA.out.keep hk (fun _ _ h => h)).later hba
          have n3 := ((HIT.out.later HXB.out).keep hk (fun _ _ h => h)).later hba
          have hs : SliceOf 4 trC W3 (.slice (some ⟨w5.heap.size, 0, none⟩) 3 3) [((leafM nmG mg, .slice none 0 0, .slice (some ⟨HG, 0, none⟩) 1 1) : TrV), (leafM nmA ma, .slice none 0 0, .slice (some ⟨HA, 0, none⟩) 1 1), (innerM ⟨⟨mg, ma⟩, l, la, ⟨#[]⟩⟩, .slice none 0 0, .slice ia 2 ic)] := by rw [← hW]; exact sliceLit trC_len W4 [((leafM nmG mg, .slice none 0 0, .slice (some ⟨HG, 0, none⟩) 1 1) : TrV), (leafM nmA ma, .slice none 0 0, .slice (some ⟨HA, 0, none⟩) 1 1), (innerM ⟨⟨mg, ma⟩, l, la, ⟨#[]⟩⟩, .slice none 0 0, .slice ia 2 ic)] 32 w5.heap.size 3 hsz rfl (by simp [maxLen])
          have hsx : SliceX 4 trC (fun j => j = w.heap.size + 1) W3 (.slice (some ⟨w5.heap.size, 0, none⟩) 3 3) [((leafM nmG mg, .slice none 0 0, .slice (some ⟨HG, 0, none⟩) 1 1) : TrV), (leafM nmA ma, .slice none 0 0, .slice (some ⟨HA, 0, none⟩) 1 1), (innerM ⟨⟨mg, ma⟩, l, la, ⟨#[]⟩⟩, .slice none 0 0, .slice ia 2 ic)] := sliceX_of hs (fun b o e => by cases e; have h1 := HXB.out.size; have h2 := HS.out; omega)
          have HND : Hid (NodeX (fun j => j = w.heap.size + 1) W3 (writeM ⟨⟨mg, ma⟩, l, la, ⟨#[]⟩⟩) (.slice none 0 0) (.slice (some ⟨w5.heap.size, 0, none⟩) 3 3)) := NodeX.of [((leafM nmG mg, .slice none 0 0, .slice (some ⟨HG, 0, none⟩) 1 1) : TrV), (leafM nmA ma, .slice none 0 0, .slice (some ⟨HA, 0, none⟩) 1 1), (innerM ⟨⟨mg, ma⟩, l, la, ⟨#[]⟩⟩, .slice none 0 0, .slice ia 2 ic)] rfl SliceX.nil hsx (fun y hy => by
            rcases List.mem_cons.1 hy with rfl | hy
            · exact n1
            · rcases List.mem_cons.1 hy with rfl | hy
              · exact n2
              · rcases List.mem_cons.1 hy with rfl | hy
                · exact n3
                · cases hy)
          have HB9 : Hid (Below w.heap.size w W3) := (grN (HB.out.trans (HXB.out.mono HB.out.size)) hg (by omega) (Nat.le_refl _)).trans (hba.mono (by have h1 := HB.out.size; have h2 := HXB.out.size; omega))
          have HZ9 := Lib.hid hz1
          clear hW hz0 hz1 hsz hg hba hk n1 n2 n3 hs hsx q0 q1 ql z0 z1 z2 z3 zl f0 f1 f2 f3 x0 x1 x2 x3 x4 xl HPG HPA HIT HXB HM HZ HB HZ5
          have z0 := HZ9.out.cell 0 _ rfl
          have z1 := HZ9.out.cell 1 _ rfl
          have z2 := HZ9.out.cell 2 _ rfl
          have z3 := HZ9.out.cell 3 _ rfl
          have zl := HZ9.out.lt
          go_wp2
          refine bodyPost_ret (v := .agg #[.string ⟨#[109, 101, 116, 97, 100, 97, 116, 97]⟩, .slice none 0 0, .slice (some ⟨w5.heap.size, 0, none⟩) 3 3, .string ⟨#[]⟩]) (by simp [results, Tryz.results7, go_sem, z0, z1, z2, z3]) rfl ?_
          exact ⟨_, rfl, HND.out.node, HB9.out⟩
      · have HRL : Hid (relM re = [leafM nmR re]) := by show _ = _; unfold relM; rw [if_neg hre]
        have e1 : (re.toList == []) = false := by
          rw [ByteArray.toList_eq, beq_eq_false_iff_ne]
          intro e
          apply hre
          rw [← data_bs re, e]
          rfl
        have e2 : re.toList.isEmpty = false := by
          cases h : re.toList with
          | nil => rw [h] at e1; cases e1
          | cons a b => rfl
        clear hre
        go_upto_region 9 with fail
        clear x0 x1 x2 x3 x4 xl e1 e2
        have HLF : Hid (Calls Tryz.prog 20 #[.string ⟨#[114, 101, 108, 101, 97, 115, 101]⟩, .string re] W6 (LeafP nmR ⟨#[114, 101, 108, 101, 97, 115, 101]⟩ re W6)) := leafM_any nmR ⟨#[114, 101, 108, 101, 97, 115, 101]⟩ re W6
        have x0 := HM.out.cell 0 _ rfl
        have x1 := HM.out.cell 1 _ rfl
        have x2 := HM.out.cell 2 _ rfl
        have x3 := HM.out.cell 3 _ rfl
        have x4 := HM.out.cell 4 _ rfl
        have xl := HM.out.lt
        go_wp2_with fail
        refine HLF.out.mono ?_
        rintro e w7 ⟨HnmR, rfl, hn, hb⟩
        have HN7 : Hid (NodeX (fun j => j < w.heap.size + 3 ∨ some j = (Value.slice (some ⟨w6.heap.size, 0, none⟩) 1 1).ownBlock) w7 (leafM nmR re) (.slice none 0 0) (.slice (some ⟨HnmR, 0, none⟩) 1 1)) := hn.keep (KeptX.refl _ _) (fun k _ h => by
          have h1 := HS.out
          rcases h with h | h
          · omega
          · exact (HI.out.lt k h.symm).2)
        replace HWB : Hid (B7 ≤ w7.heap.size) := by have h1 := HWB.out; have h2 := hb.size; show _ ≤ _; omega
        replace HM := Lib.hid (HM.out.below hb HM.out.lt)
        replace HZ := Lib.hid (HZ.out.below hb HZ.out.lt)
        replace HV := Lib.hid (HV.out.below hb HV.out.lt)
        replace HVT := Lib.hid (HVT.out.later hb)
        replace HI := Lib.hid (HI.out.below hb)
        replace HS : Hid (w.heap.size + 3 ≤ w7.heap.size) := by have h1 := HS.out; have h2 := hb.size; show _ ≤ _; omega
        replace HB := Lib.hid (HB.out.trans (hb.mono HB.out.size))
        clear hn hb HLF x0 x1 x2 x3 x4 xl
        have HNA : Hid (SliceOf 4 trC (w7.alloc (.cells #[.string ⟨#[114, 101, 108, 101, 97, 115, 101]⟩, .slice none 0 0, .slice (some ⟨HnmR, 0, none⟩) 1 1, .string ⟨#[]⟩] 32)) (.slice (some ⟨w7.heap.size, 0, none⟩) 1 1) [((leafM nmR re, .slice none 0 0, .slice (some ⟨HnmR, 0, none⟩) 1 1) : TrV)]) := tr_lit ((leafM nmR re, .slice none 0 0, .slice (some ⟨HnmR, 0, none⟩) 1 1) : TrV) w7 w7.heap.size rfl
        have HBA : Hid (Below w7.heap.size w7 (w7.alloc (.cells #[.string ⟨#[114, 101, 108, 101, 97, 115, 101]⟩, .slice none 0 0, .slice (some ⟨HnmR, 0, none⟩) 1 1, .string ⟨#[]⟩] 32))) := (Below.refl _ _).alloc (Nat.le_refl _) _
        have HIA := Lib.hid (HI.out.below HBA.out)
        have HNX := Lib.hid (HN7.out.later HBA.out)
        go_upto_region 10 with (at_builtin; go_loud (refine wpList_append_slice _ rfl _ _ 30 rfl (w.heap.size + 3) 32 Tryz.underlying30 info_node rfl (by decide) trC_lenN (.slice (some ⟨w6.heap.size, 0, none⟩) 1 1) [((leafM nmL la, .slice none 0 0, .slice (some ⟨HnmL, 0, none⟩) 1 1) : TrV)] rfl HIA.out.own _ [((leafM nmR re, .slice none 0 0, .slice (some ⟨HnmR, 0, none⟩) 1 1) : TrV)] rfl HNA.out (fun y hy => by obtain rfl := List.mem_singleton.1 hy; exact tr_one _ _ _ _ _ _ _ _ _ _) (by simp) (by decide) (by have h1 := HS.out; have h2 := HBA.out.size; omega) ?_; intro v8 w8 ho8 hg8 hl8; obtain ⟨ia, ic, hv8⟩ := ho8.shape; subst hv8; simp only [List.length_append, List.length_cons, List.length_nil, Nat.zero_add, Nat.reduceAdd] at ho8 hl8; have HO8 := Lib.hid ho8; have HG8 := Lib.hid hg8; have HL8 := Lib.hid hl8; clear ho8 hg8 hl8))
        have hi8 := HI.out.snoc HBA.out HO8.out HG8.out HL8.out HNX.out
        have hown : ∀ g, (Value.ownBlock (.slice (some ⟨w6.heap.size, 0, none⟩) 1 1)) = some g → w.heap.size + 3 ≤ g ∧ g < w7.heap.size ∧ B7 ≤ g := fun g e => ⟨(HI.out.lt g e).1, (HI.out.lt g e).2, HIB.out g e⟩
        have hbox : ∀ (b : Nat) (cs : List Value), Box w7 b cs → b < w.heap.size + 3 → Box w8 b cs := fun b cs h hle => (h.below HBA.out h.lt).grown HG8.out (fun e => by have h1 := hown b e.symm; omega)
        replace HM := Lib.hid (hbox _ _ HM.out (by omega))
        replace HZ := Lib.hid (hbox _ _ HZ.out (by omega))
        replace HV := Lib.hid (hbox _ _ HV.out (by omega))
        replace HVT := Lib.hid ((HVT.out.later HBA.out).keep (KeptX.grown HG8.out fun g e => .inr (hown g e).2.2) (fun _ _ h => h))
        have hsz : w7.heap.size ≤ w8.heap.size := by have h1 := HBA.out.size; have h2 := HG8.out.size; omega
        replace HIB : Hid (∀ g, (Value.slice ia 2 ic).ownBlock = some g → B7 ≤ g) := fun g e => by
          rcases HL8.out with h | h
          · rw [h] at e; exact (hown g e).2.2
          · rw [h] at e
            have h1 := HWB.out
            have h2 := HBA.out.size
            simp only [Option.some.injEq] at e
            omega
        replace HWB : Hid (B7 ≤ w8.heap.size) := by have h1 := HWB.out; show _ ≤ _; omega
        replace HS : Hid (w.heap.size + 3 ≤ w8.heap.size) := by have h1 := HS.out; show _ ≤ _; omega
        replace HB : Hid (Below w.heap.size w w8) := (HB.out.trans (HBA.out.mono HB.out.size)).grown HG8.out (by have h1 := HBA.out.size; have h2 := HB.out.size; omega) (fun j hj => by have h1 := hown j hj; omega)
        have HI8 := Lib.hid hi8
        clear hown hbox hsz hi8 HNA HBA HIA HNX HO8 HG8 HL8 HI
        have HI := HI8
        clear HI8
        clear HN7
        have HNV : Hid (NodeX (fun j => j < w.heap.size + 3 ∨ some j = Value.ownBlock (.slice ia 2 ic)) w8 (versM' l) (.slice none 0 0) (.slice vo n vc)) := HVT.out.keep (KeptX.refl _ _) (fun k _ h => by
          rcases h with h | h
          · exact .inl h
          · exact .inr (HIB.out k h.symm))
        have x0 := HV.out.cell 0 _ rfl
        have x1 := HV.out.cell 1 _ rfl
        have x2 := HV.out.cell 2 _ rfl
        have x3 := HV.out.cell 3 _ rfl
        have xl := HV.out.lt
        have HNA : Hid (SliceOf 4 trC (w8.alloc (.cells #[.string ⟨#[118, 101, 114, 115, 105, 111, 110, 115]⟩, .slice none 0 0, .slice vo n vc, .string ⟨#[]⟩] 32)) (.slice (some ⟨w8.heap.size, 0, none⟩) 1 1) [((versM' l, .slice none 0 0, .slice vo n vc) : TrV)]) := tr_lit ((versM' l, .slice none 0 0, .slice vo n vc) : TrV) w8 w8.heap.size rfl
        have HBA : Hid (Below w8.heap.size w8 (w8.alloc (.cells #[.string ⟨#[118, 101, 114, 115, 105, 111, 110, 115]⟩, .slice none 0 0, .slice vo n vc, .string ⟨#[]⟩] 32))) := (Below.refl _ _).alloc (Nat.le_refl _) _
        have HIA := Lib.hid (HI.out.below HBA.out)
        have HNX := Lib.hid (HNV.out.later HBA.out)
        go_upto_region 11 with (at_builtin; go_loud (refine wpList_append_slice _ rfl _ _ 30 rfl (w.heap.size + 3) 32 Tryz.underlying30 info_node rfl (by decide) trC_lenN (.slice ia 2 ic) ([((leafM nmL la, .slice none 0 0, .slice (some ⟨HnmL, 0, none⟩) 1 1) : TrV)] ++ [((leafM nmR re, .slice none 0 0, .slice (some ⟨HnmR, 0, none⟩) 1 1) : TrV)]) rfl HIA.out.own _ [((versM' l, .slice none 0 0, .slice vo n vc) : TrV)] rfl HNA.out (fun y hy => by obtain rfl := List.mem_singleton.1 hy; exact tr_one _ _ _ _ _ _ _ _ _ _) (by simp) (by decide) (by have h1 := HS.out; have h2 := HBA.out.size; omega) ?_; intro v8 w9 ho8 hg8 hl8; obtain ⟨ja, jc, hv8⟩ := ho8.shape; subst hv8; simp only [List.length_append, List.length_cons, List.length_nil, Nat.zero_add, Nat.reduceAdd] at ho8 hl8; have HO8 := Lib.hid ho8; have HG8 := Lib.hid hg8; have HL8 := Lib.hid hl8; clear ho8 hg8 hl8))
        have hi8 := HI.out.snoc HBA.out HO8.out HG8.out HL8.out HNX.out
        have hown : ∀ g, (Value.ownBlock (.slice ia 2 ic)) = some g → w.heap.size + 3 ≤ g ∧ g < w8.heap.size ∧ B7 ≤ g := fun g e => ⟨(HI.out.lt g e).1, (HI.out.lt g e).2, HIB.out g e⟩
        have hbox : ∀ (b : Nat) (cs : List Value), Box w8 b cs → b < w.heap.size + 3 → Box w9 b cs := fun b cs h hle => (h.below HBA.out h.lt).grown HG8.out (fun e => by have h1 := hown b e.symm; omega)
        replace HM := Lib.hid (hbox _ _ HM.out (by omega))
        replace HZ := Lib.hid (hbox _ _ HZ.out (by omega))
        replace HV := Lib.hid (hbox _ _ HV.out (by omega))
        replace HVT := Lib.hid ((HVT.out.later HBA.out).keep (KeptX.grown HG8.out fun g e => .inr (hown g e).2.2) (fun _ _ h => h))
        have hsz : w8.heap.size ≤ w9.heap.size := by have h1 := HBA.out.size; have h2 := HG8.out.size; omega
        replace HIB : Hid (∀ g, (Value.slice ja 3 jc).ownBlock = some g → B7 ≤ g) := fun g e => by
          rcases HL8.out with h | h
          · rw [h] at e; exact (hown g e).2.2
          · rw [h] at e
            have h1 := HWB.out
            have h2 := HBA.out.size
            simp only [Option.some.injEq] at e
            omega
        replace HWB : Hid (B7 ≤ w9.heap.size) := by have h1 := HWB.out; show _ ≤ _; omega
        replace HS : Hid (w.heap.size + 3 ≤ w9.heap.size) := by have h1 := HS.out; show _ ≤ _; omega
        replace HB : Hid (Below w.heap.size w w9) := (HB.out.trans (HBA.out.mono HB.out.size)).grown HG8.out (by have h1 := HBA.out.size; have h2 := HB.out.size; omega) (fun j hj => by have h1 := hown j hj; omega)
        have HI8 := Lib.hid hi8
        clear hown hbox hsz hi8 HNA HBA HIA HNX HO8 HG8 HL8 HI
        have HI := HI8
        clear HI8
        clear x0 x1 x2 x3 xl HNV
        have HIT : Hid (NodeX (fun j => j = w.heap.size + 1) w9 (.mk nmV [] (([leafM nmL la] ++ [leafM nmR re]) ++ [versM' l]) []) (.slice none 0 0) (.slice ja 3 jc)) := NodeX.of _ HI.out.are SliceX.nil (HI.out.sliceX (fun g e h => by have := HI.out.lt g e; omega)) (fun y hy => (HI.out.nodes y hy).keep (KeptX.refl _ _) (fun k hk h => .inl (by omega)))
        have HINN : Hid (Tr.mk nmV [] (([leafM nmL la] ++ [leafM nmR re]) ++ [versM' l]) [] = innerM ⟨⟨mg, ma⟩, l, la, re⟩) := by show _ = _; unfold innerM; rw [show relM re = _ from HRL.out]; try rfl
        rw [show Tr.mk _ _ _ _ = _ from HINN.out] at HIT
        clear HINN HRL HI HIB HVT HWB HV
        have HXB : Hid (Below w9.heap.size w9 w9.drew) := ⟨rfl, rfl, rfl, Nat.le_refl _, fun _ _ => rfl⟩
        have HLG : Hid (∀ W, Calls Tryz.prog 20 #[.string ⟨#[103, 114, 111, 117, 112, 73, 100]⟩, .string mg] W (LeafP nmG ⟨#[103, 114, 111, 117, 112, 73, 100]⟩ mg W)) := leafM_any nmG ⟨#[103, 114, 111, 117, 112, 73, 100]⟩ mg
        have HLA : Hid (∀ W, Calls Tryz.prog 20 #[.string ⟨#[97, 114, 116, 105, 102, 97, 99, 116, 73, 100]⟩, .string ma] W (LeafP nmA ⟨#[97, 114, 116, 105, 102, 97, 99, 116, 73, 100]⟩ ma W)) := leafM_any nmA ⟨#[97, 114, 116, 105, 102, 97, 99, 116, 73, 100]⟩ ma
        have x0 := HM.out.cell 0 _ rfl
        have x1 := HM.out.cell 1 _ rfl
        have x2 := HM.out.cell 2 _ rfl
        have x3 := HM.out.cell 3 _ rfl
        have x4 := HM.out.cell 4 _ rfl
        have xl := HM.out.lt
        go_upto_region 11 with fail
        go_region_law (first | (go_simp; go_at_call 20; refine (HLG.out _).mono ?_; rintro e w5 ⟨HG, rfl, hn5, hb5⟩; have HX5 := Lib.hid (HXB.out.trans (hb5.mono HXB.out.size)); have HPG : Hid (NodeX (fun j => j = w.heap.size + 1) w5 (leafM nmG mg) (.slice none 0 0) (.slice (some ⟨HG, 0, none⟩) 1 1)) := hn5.keep (KeptX.refl _ _) (fun k _ h => (by have h1 := HS.out; have h2 := HXB.out.size; omega)); (try replace HPA := Lib.hid (HPA.out.later hb5)); clear HXB; have HXB := HX5; clear HX5; have q0 : w5.cell? ⟨w.heap.size, 0, none⟩ = _ := (HM.out.below HXB.out HM.out.lt).cell 0 _ rfl; have q1 : w5.cell? ⟨w.heap.size, 1, none⟩ = _ := (HM.out.below HXB.out HM.out.lt).cell 1 _ rfl; have ql := (HM.out.below HXB.out HM.out.lt).lt; have HZ5 := Lib.hid (HZ.out.below HXB.out HZ.out.lt); have z0 : w5.cell? ⟨w.heap.size + 1, 0, none⟩ = _ := HZ5.out.cell 0 _ rfl; have z1 : w5.cell? ⟨w.heap.size + 1, 1, none⟩ = _ := HZ5.out.cell 1 _ rfl; have z2 : w5.cell? ⟨w.heap.size + 1, 2, none⟩ = _ := HZ5.out.cell 2 _ rfl; have z3 : w5.cell? ⟨w.heap.size + 1, 3, none⟩ = _ := HZ5.out.cell 3 _ rfl; have zl := HZ5.out.lt; have f0 : w5.frozen? ⟨w.heap.size + 1, 0, none⟩ = _ := HZ5.out.free 0; have f1 : w5.frozen? ⟨w.heap.size + 1, 1, none⟩ = _ := HZ5.out.free 1; have f2 : w5.frozen? ⟨w.heap.size + 1, 2, none⟩ = _ := HZ5.out.free 2; have f3 : w5.frozen? ⟨w.heap.size + 1, 3, none⟩ = _ := HZ5.out.free 3; clear hb5 hn5) | (go_simp; go_at_call 20; refine (HLA.out _).mono ?_; rintro e w5 ⟨HA, rfl, hn5, hb5⟩; have HX5 := Lib.hid (HXB.out.trans (hb5.mono HXB.out.size)); have HPA : Hid (NodeX (fun j => j = w.heap.size + 1) w5 (leafM nmA ma) (.slice none 0 0) (.slice (some ⟨HA, 0, none⟩) 1 1)) := hn5.keep (KeptX.refl _ _) (fun k _ h => (by have h1 := HS.out; have h2 := HXB.out.size; omega)); (try replace HPG := Lib.hid (HPG.out.later hb5)); clear HXB; have HXB := HX5; clear HX5; have q0 : w5.cell? ⟨w.heap.size, 0, none⟩ = _ := (HM.out.below HXB.out HM.out.lt).cell 0 _ rfl; have q1 : w5.cell? ⟨w.heap.size, 1, none⟩ = _ := (HM.out.below HXB.out HM.out.lt).cell 1 _ rfl; have ql := (HM.out.below HXB.out HM.out.lt).lt; have HZ5 := Lib.hid (HZ.out.below HXB.out HZ.out.lt); have z0 : w5.cell? ⟨w.heap.size + 1, 0, none⟩ = _ := HZ5.out.cell 0 _ rfl; have z1 : w5.cell? ⟨w.heap.size + 1, 1, none⟩ = _ := HZ5.out.cell 1 _ rfl; have z2 : w5.cell? ⟨w.heap.size + 1, 2, none⟩ = _ := HZ5.out.cell 2 _ rfl; have z3 : w5.cell? ⟨w.heap.size + 1, 3, none⟩ = _ := HZ5.out.cell 3 _ rfl; have zl := HZ5.out.lt; have f0 : w5.frozen? ⟨w.heap.size + 1, 0, none⟩ = _ := HZ5.out.free 0; have f1 : w5.frozen? ⟨w.heap.size + 1, 1, none⟩ = _ := HZ5.out.free 1; have f2 : w5.frozen? ⟨w.heap.size + 1, 2, none⟩ = _ := HZ5.out.free 2; have f3 : w5.frozen? ⟨w.heap.size + 1, 3, none⟩ = _ := HZ5.out.free 3; clear hb5 hn5) | fail)
        all_goals
          obtain ⟨W4, hS⟩ : ∃ W, (((w5.setCell ⟨w.heap.size + 1, 0, none⟩ (.string ⟨#[109, 101, 116, 97, 100, 97, 116, 97]⟩)).setCell ⟨w.heap.size + 1, 1, none⟩ (.slice none 0 0)).setCell ⟨w.heap.size + 1, 2, none⟩ (.slice (some ⟨w5.heap.size, 0, none⟩) 3 3)).setCell ⟨w.heap.size + 1, 3, none⟩ (.string ⟨#[]⟩) = W := ⟨_, rfl⟩
          rw [hS]
          have hz : Box W4 (w.heap.size + 1) [.string ⟨#[109, 101, 116, 97, 100, 97, 116, 97]⟩, .slice none 0 0, .slice (some ⟨w5.heap.size, 0, none⟩) 3 3, .string ⟨#[]⟩] ∧ w5.grownBy W4 (some (w.heap.size + 1)) := by rw [← hS]; exact box4W (HZ.out.below HXB.out HZ.out.lt)
          have hsz : W4.heap.size = w5.heap.size := by rw [← hS]; simp
          obtain ⟨hz0, hg⟩ := hz
          clear hS
          obtain ⟨W3, hW⟩ : ∃ W, W4.alloc (.cells #[.string ⟨#[103, 114, 111, 117, 112, 73, 100]⟩, .slice none 0 0, .slice (some ⟨HG, 0, none⟩) 1 1, .string ⟨#[]⟩, .string ⟨#[97, 114, 116, 105, 102, 97, 99, 116, 73, 100]⟩, .slice none 0 0, .slice (some ⟨HA, 0, none⟩) 1 1, .string ⟨#[]⟩, .string ⟨#[118, 101, 114, 115, 105, 111, 110, 105, 110, 103]⟩, .slice none 0 0, .slice ja 3 jc, .string ⟨#[]⟩] 32) = W := ⟨_, rfl⟩
          rw [hW]
          have hba : Below W4.heap.size W4 W3 := by rw [← hW]; exact (Below.refl _ _).alloc (Nat.le_refl _) _
          have hz1 := hz0.below hba hz0.lt
          have hk := KeptX.grown (X := fun j => j = w.heap.size + 1) hg (fun g e => by cases e; rfl)
          have n1 := (HPG.out.keep hk (fun _ _ h => h)).later hba
          have n2 := (HPA.out.keep hk (fun _ _ h => h)).later hba
          have n3 := ((HIT.out.later HXB.out).keep hk (fun _ _ h => h)).later hba
          have hs : SliceOf 4 trC W3 (.slice (some ⟨w5.heap.size, 0, none⟩) 3 3) [((leafM nmG mg, .slice none 0 0, .slice (some ⟨HG, 0, none⟩) 1 1) : TrV), (leafM nmA ma, .slice none 0 0, .slice (some ⟨HA, 0, none⟩) 1 1), (innerM ⟨⟨mg, ma⟩, l, la, re⟩, .slice none 0 0, .slice ja 3 jc)] := by rw [← hW]; exact sliceLit trC_len W4 [((leafM nmG mg, .slice none 0 0, .slice (some ⟨HG, 0, none⟩) 1 1) : TrV), (leafM nmA ma, .slice none 0 0, .slice (some ⟨HA, 0, none⟩) 1 1), (innerM ⟨⟨mg, ma⟩, l, la, re⟩, .slice none 0 0, .slice ja 3 jc)] 32 w5.heap.size 3 hsz rfl (by simp [maxLen])
          have hsx : SliceX 4 trC (fun j => j = w.heap.size + 1) W3 (.slice (some ⟨w5.heap.size, 0, none⟩) 3 3) [((leafM nmG mg, .slice none 0 0, .slice (some ⟨HG, 0, none⟩) 1 1) : TrV), (leafM nmA ma, .slice none 0 0, .slice (some ⟨HA, 0, none⟩) 1 1), (innerM ⟨⟨mg, ma⟩, l, la, re⟩, .slice none 0 0, .slice ja 3 jc)] := sliceX_of hs (fun b o e => by cases e; have h1 := HXB.out.size; have h2 := HS.out; omega)
          have HND : Hid (NodeX (fun j => j = w.heap.size + 1) W3 (writeM ⟨⟨mg, ma⟩, l, la, re⟩) (.slice none 0 0) (.slice (some ⟨w5.heap.size, 0, none⟩) 3 3)) := NodeX.of [((leafM nmG mg, .slice none 0 0, .slice (some ⟨HG, 0, none⟩) 1 1) : TrV), (leafM nmA ma, .slice none 0 0, .slice (some ⟨HA, 0, none⟩) 1 1), (innerM ⟨⟨mg, ma⟩, l, la, re⟩, .slice none 0 0, .slice ja 3 jc)] rfl SliceX.nil hsx (fun y hy => by
            rcases List.mem_cons.1 hy with rfl | hy
            · exact n1
            · rcases List.mem_cons.1 hy with rfl | hy
              · exact n2
              · rcases List.mem_cons.1 hy with rfl | hy
                · exact n3
                · cases hy)
          have HB9 : Hid (Below w.heap.size w W3) := (grN (HB.out.trans (HXB.out.mono HB.out.size)) hg (by omega) (Nat.le_refl _)).trans (hba.mono (by have h1 := HB.out.size; have h2 := HXB.out.size; omega))
          have HZ9 := Lib.hid hz1
          clear hW hz0 hz1 hsz hg hba hk n1 n2 n3 hs hsx q0 q1 ql z0 z1 z2 z3 zl f0 f1 f2 f3 x0 x1 x2 x3 x4 xl HPG HPA HIT HXB HM HZ HB HZ5
          have z0 := HZ9.out.cell 0 _ rfl
          have z1 := HZ9.out.cell 1 _ rfl
          have z2 := HZ9.out.cell 2 _ rfl
          have z3 := HZ9.out.cell 3 _ rfl
          have zl := HZ9.out.lt
          go_wp2
          refine bodyPost_ret (v := .agg #[.string ⟨#[109, 101, 116, 97, 100, 97, 116, 97]⟩, .slice none 0 0, .slice (some ⟨w5.heap.size, 0, none⟩) 3 3, .string ⟨#[]⟩]) (by simp [results, Tryz.results7, go_sem, z0, z1, z2, z3]) rfl ?_
          exact ⟨_, rfl, HND.out.node, HB9.out⟩

end Go.Proofs.YtecffghcpknmjaaGreatDoor
