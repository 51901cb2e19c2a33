/- The document's reader of projects: a dependency; the conditions stand in the theorem. -/
import Derived.Test.YtbbbfjcikhpmbaaGreatJA20
import Derived.Test.YtbbbfjcikhpmbaaGreatJA16
import Derived.Test.YtbbbfjcikhpmbaaGreatJA12
import Derived.Test.YtbbbfjcikhpmbaaGreatJA14
import Derived.Test.YtbbbfjcikhpmbaaGreatJA18

namespace Go.Proofs.YtbbbfjcikhpmbaaGreat
open Go Go.RowKit

/-- Three own boxes and the reader's, and all else as it was. -/
structure Frm3 (R : Nat) (s : St) (w : World) (bn : Nat) (NC : List Value) (bz : Nat) (ZC : List Value) (bd : Nat) (DC : List Value) (wx : World) : Prop where
 n : Box wx bn NC
 z : Box wx bz ZC
 d : Box wx bd DC
 r : Box wx R [.int .i64 s.1, .string s.2]
 g : w.grownBy wx (some R)
 ne : bn ≠ R ∧ bz ≠ R ∧ bd ≠ R ∧ bn ≠ bd ∧ bz ≠ bd ∧ w.heap.size ≤ bd
theorem Frm3.call {R : Nat} {s s' : St} {w wx wy : World} {bn bz bd : Nat} {NC ZC DC : List Value} (h : Frm3 R s w bn NC bz ZC bd DC wx) (hr : Box wy R [.int .i64 s'.1, .string s'.2]) (hg : wx.grownBy wy (some R)) : Frm3 R s' w bn NC bz ZC bd DC wy :=
 ⟨h.n.gr hg h.ne.1, h.z.gr hg h.ne.2.1, h.d.gr hg h.ne.2.2.1, hr, h.g.trans hg, h.ne⟩
theorem Frm3.below {R : Nat} {s : St} {w wx wy : World} {bn bz bd : Nat} {NC ZC DC : List Value} (h : Frm3 R s w bn NC bz ZC bd DC wx) (hb : Below wx.heap.size wx wy) : Frm3 R s w bn NC bz ZC bd DC wy :=
 ⟨h.n.below hb h.n.lt, h.z.below hb h.z.lt, h.d.below hb h.d.lt, h.r.below hb h.r.lt, h.g.trans (below_gr hb), h.ne⟩
theorem Frm3.set {R : Nat} {s : St} {w wx : World} {bn bz bd : Nat} {NC ZC DC : List Value} (h : Frm3 R s w bn NC bz ZC bd DC wx) (j : Nat) (v : Value) : Frm3 R s w bn NC bz ZC bd (DC.set j v) (wx.setCell ⟨bd, j, none⟩ v) :=
 ⟨h.n.gr (setCell_grown _ _ _ _) h.ne.2.2.2.1, h.z.gr (setCell_grown _ _ _ _) h.ne.2.2.2.2.1, h.d.set j v, h.r.gr (setCell_grown _ _ _ _) (Ne.symm h.ne.2.2.1), h.g.andThen (setCell_grown _ _ _ _) (fun j e => by cases e; exact .inl h.ne.2.2.2.2.2), h.ne⟩
/-- Another row has grown. -/
theorem Frm3.row {R : Nat} {s : St} {w wx wy : World} {bn bz bd : Nat} {NC ZC DC : List Value} {b : Option Nat} (h : Frm3 R s w bn NC bz ZC bd DC wx) (hg : wx.grownBy wy b) (h1 : ∀ g, b = some g → g ≠ bn ∧ g ≠ bz ∧ g ≠ bd ∧ g ≠ R ∧ w.heap.size ≤ g) : Frm3 R s w bn NC bz ZC bd DC wy :=
 ⟨h.n.grown hg (fun e => (h1 _ e.symm).1 rfl), h.z.grown hg (fun e => (h1 _ e.symm).2.1 rfl), h.d.grown hg (fun e => (h1 _ e.symm).2.2.1 rfl), h.r.grown hg (fun e => (h1 _ e.symm).2.2.2.1 rfl), h.g.andThen hg (fun j e => .inl (h1 j e).2.2.2.2), h.ne⟩
def DepR (R : Nat) (s : St) (d : Dep) (w : World) (e : Ending) (w' : World) : Prop := ∃ v, e = .returned (.agg (depC (d, v)).toArray) ∧ Owns w.heap.size 52 2 idC w' v d.excl ∧ Box w' R [.int .i64 s.1, .string s.2] ∧ w.grownBy w' (some R)
/-- The scope's number, as far as the words are gone through. -/
def scU (s : Bs) (k : Nat) : Int := if scopeW s < k then scopeW s else 0
theorem scopeW_range (s : Bs) : 0 ≤ scopeW s ∧ scopeW s ≤ 6 := by
 unfold scopeW scopeN
 repeat' split
 all_goals omega
theorem word_scope (s : Bs) (h : scopeW s ≠ 0) : wordB (scopeW s) = s := by
 by_cases h0 : s = [99, 111, 109, 112, 105, 108, 101]
 · subst h0; decide
 by_cases h1 : s = [114, 117, 110, 116, 105, 109, 101]
 · subst h1; decide
 by_cases h2 : s = [112, 114, 111, 118, 105, 100, 101, 100]
 · subst h2; decide
 by_cases h3 : s = [115, 121, 115, 116, 101, 109]
 · subst h3; decide
 by_cases h4 : s = [116, 101, 115, 116]
 · subst h4; decide
 by_cases h5 : s = [105, 109, 112, 111, 114, 116]
 · subst h5; decide
 refine absurd ?_ h
 have hn : scopeN s = 0 := by unfold scopeN; rw [if_neg h0, if_neg h1, if_neg h2, if_neg h3, if_neg h4]
 unfold scopeW; rw [hn, if_neg (by simp), if_neg h5]
theorem scope_word (s : Bs) (k : Nat) (h1 : 1 ≤ k) (h6 : k ≤ 6) : wordB k = s ↔ scopeW s = k := by
 constructor
 · rintro rfl
   rcases (by omega : k = 1 ∨ k = 2 ∨ k = 3 ∨ k = 4 ∨ k = 5 ∨ k = 6) with rfl | rfl | rfl | rfl | rfl | rfl <;> decide
 · intro h
   have := word_scope s (by omega)
   rwa [h] at this
theorem scU_one (s : Bs) : scU s 1 = 0 := by unfold scU; have := scopeW_range s; split <;> omega
theorem scU_end (s : Bs) : scU s 7 = scopeW s := by unfold scU; have := scopeW_range s; rw [if_pos (by omega)]
theorem scU_yes (s : Bs) (k : Nat) (h1 : 1 ≤ k) (h6 : k ≤ 6) (h : wordB k = s) : scU s (k + 1) = k := by
 have := (scope_word s k h1 h6).1 h
 unfold scU; rw [this, if_pos (by omega)]
theorem scU_no (s : Bs) (k : Nat) (h1 : 1 ≤ k) (h6 : k ≤ 6) (h : wordB k ≠ s) : scU s (k + 1) = scU s k := by
 have h2 : scopeW s ≠ k := fun e => h ((scope_word s k h1 h6).2 e)
 unfold scU
 by_cases h3 : scopeW s < k
 · rw [if_pos h3, if_pos (by omega)]
 · rw [if_neg h3, if_neg (by omega)]
def optA (s : Bs) : Int := if s = bTrue then 1 else 0
theorem exclE_nz (t : Tr) (w : Bs) : Nz (exclE t w) := (wordE_nz _ _ _ _ _).or (wordE_nz _ _ _ _ _)
theorem big_nz (n : Nat) (w : Bs) : Nz (bigE n w) := Nz.ite (.some (by show (2 : Int) ≠ 0; decide)) .none
theorem eachE_nz {f : Tr → Bs → Option Er} (h : ∀ t w, Nz (f t w)) (w : Bs) : ∀ (l : List Tr) (i : Nat), Nz (eachE f w l i)
 | [], _ => .none
 | _ :: r, i => (h _ _).or (eachE_nz h w r (i + 1))
theorem KeptX.then_ {X : Nat → Prop} {w wx wy : World} {b : Option Nat} (h : KeptX X w wx) (hg : wx.grownBy wy b) (h1 : ∀ g, b = some g → X g ∨ w.heap.size ≤ g) : KeptX X w wy :=
 ⟨Nat.le_trans h.size hg.size, fun k j hk hx => (World.cell?_of_block (by exact hg.block k (Nat.lt_of_lt_of_le hk h.size) (fun e => (h1 k e.symm).elim hx (fun h => by omega)))).trans (h.cell k j hk hx)⟩
set_option maxRecDepth 100000 in
set_option maxHeartbeats 32000000 in
theorem depR_any (R : Nat) (s0 : St) (X : Nat → Prop) (m : Bool) (c : Int) (hc : KindIs c (isScopeQ m)) (t : Tr) (wh : Bs) (w : World) (av kv : Value) (ht : NodeX X w t av kv) (hm : MildW t) (hR : X R) (hB : Box w R [.int .i64 s0.1, .string s0.2]) (hl : wh.length ≤ 10000000000) :
    Calls Tryz.prog 95 #[.pointer (some ⟨R, 0, none⟩), nodeV t av kv, .string (bs wh), .int .i64 c] w (DepR R (stp s0 (depE m t wh)) (depV t) w) := by
 obtain ⟨ao, ac, ko, kc, rfl, rfl, hal, -⟩ := ht.shape
 obtain ⟨T, hT⟩ : ∃ T, T = stp s0 (depE m t wh) := ⟨_, rfl⟩
 have HS0 : Hid (T = stp s0 ((wordE t wh bGroup true freeB).or ((wordE t wh bArtifact true freeB).or ((wordE t wh bVersion false freeB).or ((wordE t wh bType false freeB).or ((wordE t wh bClassifier false freeB).or ((wordE t wh bScope false (isScopeQ m)).or ((wordE t wh bOptional false isTruthB).or (exclsE t wh))))))))) := hT
 rw [← hT]
 have HT := Lib.hid ht.freshX
 have HM := Lib.hid hm
 have HRX : Hid (X R ∨ w.heap.size ≤ R) := .inl hR
 have HWL : Hid (wh.length ≤ 10000000000) := hl
 have HKC := Lib.hid hc
 have HRL : Hid (R < w.heap.size) := hB.lt
 have HB := Lib.hid hB
 obtain ⟨U, hU⟩ : ∃ U : S, U = bs wh := ⟨_, rfl⟩
 have HU := Lib.hid hU
 have hzU : U.size = wh.length := by rw [hU, bs_size]
 have hs1 : ¬ 9223372036854775807 < U.size + 11 := by omega
 have hs2 : ¬ 9223372036854775807 < U.size + 22 := by omega
 rw [← hU]
 unfold nodeV
 clear ht hm hR hl hc hB hT hU hzU
 go_enter Tryz.func95, Tryz.ntmps95
 go_upto_region 2 with fail
 refine wp_world ?_
 intro W hW
 have hF : Frm3 R s0 w w.heap.size [.string (bs t.name), .slice ao t.attrs.length ac, .slice ko t.kids.length kc, .string (bs t.text)] (w.heap.size + 1) [.string ⟨#[]⟩, .string ⟨#[]⟩, .string ⟨#[]⟩, .string ⟨#[]⟩, .string ⟨#[]⟩, .int .i64 0, .int .i64 0, .slice none 0 0] (w.heap.size + 2) [.string ⟨#[]⟩, .string ⟨#[]⟩, .string ⟨#[]⟩, .string ⟨#[]⟩, .string ⟨#[]⟩, .int .i64 0, .int .i64 0, .slice none 0 0] W := by
  have hb : Below w.heap.size w W := by rw [hW]; exact (((Below.refl _ w).alloc (Nat.le_refl _) _).alloc (by simp) _).alloc (by simp; omega) _
  refine ⟨?_, ?_, ?_, HB.out.below hb HRL.out, below_gr hb, ?_⟩
  · rw [hW]; exact ((Box.new w [.string (bs t.name), .slice ao t.attrs.length ac, .slice ko t.kids.length kc, .string (bs t.text)] _ _ rfl).alloc _).alloc _
  · rw [hW]; exact (Box.new _ [.string ⟨#[]⟩, .string ⟨#[]⟩, .string ⟨#[]⟩, .string ⟨#[]⟩, .string ⟨#[]⟩, .int .i64 0, .int .i64 0, .slice none 0 0] _ _ (by simp)).alloc _
  · rw [hW]; exact Box.new _ [.string ⟨#[]⟩, .string ⟨#[]⟩, .string ⟨#[]⟩, .string ⟨#[]⟩, .string ⟨#[]⟩, .int .i64 0, .int .i64 0, .slice none 0 0] _ _ (by simp)
  · have := HRL.out; omega
 clear hW HB
 have HF0 := Lib.hid hF
 clear hF
 obtain ⟨a0, a1, a2, a3⟩ := bxc4 HF0.out.n
 have al := HF0.out.n.lt
 go_wp2_with fail
 have hwc := wordR_any R s0 (fun j => X j ∨ w.heap.size ≤ j) 0 _ .k0 t wh bGroup true _ _ _ (HT.out.gr HF0.out.g HRX.out) HM.out HRX.out HF0.out.r (by have h1 : bGroup.length ≤ 20 := (by decide); have := HWL.out; omega)
 unfold nodeV at hwc
 rw [← HU.out] at hwc
 refine hwc.mono ?_
 clear hwc
 rintro e w8 ⟨rfl, hr8, hg8⟩
 have HF8 := Lib.hid (HF0.out.call hr8 hg8)
 obtain ⟨s1, hs⟩ : ∃ q, q = stp s0 (wordE t wh bGroup true freeB) := ⟨_, rfl⟩
 rw [← hs] at HF8
 have HS1 : Hid (T = stp s1 ((wordE t wh bArtifact true freeB).or ((wordE t wh bVersion false freeB).or ((wordE t wh bType false freeB).or ((wordE t wh bClassifier false freeB).or ((wordE t wh bScope false (isScopeQ m)).or ((wordE t wh bOptional false isTruthB).or (exclsE t wh)))))))) := by show _ = _; rw [HS0.out, ← stp_or (wordE_nz _ _ _ _ _), ← hs]
 clear hs hr8 hg8 HF0 HS0 a0 a1 a2 a3 al
 have d0 := HF8.out.d.cell 0 _ rfl
 have df0 := HF8.out.d.free 0
 have d1 := HF8.out.d.cell 1 _ rfl
 have df1 := HF8.out.d.free 1
 have d2 := HF8.out.d.cell 2 _ rfl
 have df2 := HF8.out.d.free 2
 have d3 := HF8.out.d.cell 3 _ rfl
 have df3 := HF8.out.d.free 3
 have d4 := HF8.out.d.cell 4 _ rfl
 have df4 := HF8.out.d.free 4
 have d5 := HF8.out.d.cell 5 _ rfl
 have df5 := HF8.out.d.free 5
 have d6 := HF8.out.d.cell 6 _ rfl
 have df6 := HF8.out.d.free 6
 have d7 := HF8.out.d.cell 7 _ rfl
 have df7 := HF8.out.d.free 7
 have dl := HF8.out.d.lt
 go_upto_region 3 with fail
 refine wp_world ?_
 intro W9 hW9
 have HF1 : Hid (Frm3 R s1 w w.heap.size [.string (bs t.name), .slice ao t.attrs.length ac, .slice ko t.kids.length kc, .string (bs t.text)] (w.heap.size + 1) [.string ⟨#[]⟩, .string ⟨#[]⟩, .string ⟨#[]⟩, .string ⟨#[]⟩, .string ⟨#[]⟩, .int .i64 0, .int .i64 0, .slice none 0 0] (w.heap.size + 2) [.string (bs (wordV t bGroup)), .string ⟨#[]⟩, .string ⟨#[]⟩, .string ⟨#[]⟩, .string ⟨#[]⟩, .int .i64 0, .int .i64 0, .slice none 0 0] W9) := by rw [hW9]; exact HF8.out.set 0 _
 clear hW9 HF8 d0 df0 d1 df1 d2 df2 d3 df3 d4 df4 d5 df5 d6 df6 d7 df7 dl
 obtain ⟨a0, a1, a2, a3⟩ := bxc4 HF1.out.n
 have al := HF1.out.n.lt
 go_wp2_with fail
 have hwc := wordR_any R s1 (fun j => X j ∨ w.heap.size ≤ j) 0 _ .k0 t wh bArtifact true _ _ _ (HT.out.gr HF1.out.g HRX.out) HM.out HRX.out HF1.out.r (by have h1 : bArtifact.length ≤ 20 := (by decide); have := HWL.out; omega)
 unfold nodeV at hwc
 rw [← HU.out] at hwc
 refine hwc.mono ?_
 clear hwc
 rintro e w8 ⟨rfl, hr8, hg8⟩
 have HF8 := Lib.hid (HF1.out.call hr8 hg8)
 obtain ⟨s2, hs⟩ : ∃ q, q = stp s1 (wordE t wh bArtifact true freeB) := ⟨_, rfl⟩
 rw [← hs] at HF8
 have HS2 : Hid (T = stp s2 ((wordE t wh bVersion false freeB).or ((wordE t wh bType false freeB).or ((wordE t wh bClassifier false freeB).or ((wordE t wh bScope false (isScopeQ m)).or ((wordE t wh bOptional false isTruthB).or (exclsE t wh))))))) := by show _ = _; rw [HS1.out, ← stp_or (wordE_nz _ _ _ _ _), ← hs]
 clear hs hr8 hg8 HF1 HS1 a0 a1 a2 a3 al
 have d0 := HF8.out.d.cell 0 _ rfl
 have df0 := HF8.out.d.free 0
 have d1 := HF8.out.d.cell 1 _ rfl
 have df1 := HF8.out.d.free 1
 have d2 := HF8.out.d.cell 2 _ rfl
 have df2 := HF8.out.d.free 2
 have d3 := HF8.out.d.cell 3 _ rfl
 have df3 := HF8.out.d.free 3
 have d4 := HF8.out.d.cell 4 _ rfl
 have df4 := HF8.out.d.free 4
 have d5 := HF8.out.d.cell 5 _ rfl
 have df5 := HF8.out.d.free 5
 have d6 := HF8.out.d.cell 6 _ rfl
 have df6 := HF8.out.d.free 6
 have d7 := HF8.out.d.cell 7 _ rfl
 have df7 := HF8.out.d.free 7
 have dl := HF8.out.d.lt
 go_upto_region 4 with fail
 refine wp_world ?_
 intro W9 hW9
 have HF2 : Hid (Frm3 R s2 w w.heap.size [.string (bs t.name), .slice ao t.attrs.length ac, .slice ko t.kids.length kc, .string (bs t.text)] (w.heap.size + 1) [.string ⟨#[]⟩, .string ⟨#[]⟩, .string ⟨#[]⟩, .string ⟨#[]⟩, .string ⟨#[]⟩, .int .i64 0, .int .i64 0, .slice none 0 0] (w.heap.size + 2) [.string (bs (wordV t bGroup)), .string (bs (wordV t bArtifact)), .string ⟨#[]⟩, .string ⟨#[]⟩, .string ⟨#[]⟩, .int .i64 0, .int .i64 0, .slice none 0 0] W9) := by rw [hW9]; exact HF8.out.set 1 _
 clear hW9 HF8 d0 df0 d1 df1 d2 df2 d3 df3 d4 df4 d5 df5 d6 df6 d7 df7 dl
 obtain ⟨a0, a1, a2, a3⟩ := bxc4 HF2.out.n
 have al := HF2.out.n.lt
 go_wp2_with fail
 have hwc := wordR_any R s2 (fun j => X j ∨ w.heap.size ≤ j) 0 _ .k0 t wh bVersion false _ _ _ (HT.out.gr HF2.out.g HRX.out) HM.out HRX.out HF2.out.r (by have h1 : bVersion.length ≤ 20 := (by decide); have := HWL.out; omega)
 unfold nodeV at hwc
 rw [← HU.out] at hwc
 refine hwc.mono ?_
 clear hwc
 rintro e w8 ⟨rfl, hr8, hg8⟩
 have HF8 := Lib.hid (HF2.out.call hr8 hg8)
 obtain ⟨s3, hs⟩ : ∃ q, q = stp s2 (wordE t wh bVersion false freeB) := ⟨_, rfl⟩
 rw [← hs] at HF8
 have HS3 : Hid (T = stp s3 ((wordE t wh bType false freeB).or ((wordE t wh bClassifier false freeB).or ((wordE t wh bScope false (isScopeQ m)).or ((wordE t wh bOptional false isTruthB).or (exclsE t wh)))))) := by show _ = _; rw [HS2.out, ← stp_or (wordE_nz _ _ _ _ _), ← hs]
 clear hs hr8 hg8 HF2 HS2 a0 a1 a2 a3 al
 have d0 := HF8.out.d.cell 0 _ rfl
 have df0 := HF8.out.d.free 0
 have d1 := HF8.out.d.cell 1 _ rfl
 have df1 := HF8.out.d.free 1
 have d2 := HF8.out.d.cell 2 _ rfl
 have df2 := HF8.out.d.free 2
 have d3 := HF8.out.d.cell 3 _ rfl
 have df3 := HF8.out.d.free 3
 have d4 := HF8.out.d.cell 4 _ rfl
 have df4 := HF8.out.d.free 4
 have d5 := HF8.out.d.cell 5 _ rfl
 have df5 := HF8.out.d.free 5
 have d6 := HF8.out.d.cell 6 _ rfl
 have df6 := HF8.out.d.free 6
 have d7 := HF8.out.d.cell 7 _ rfl
 have df7 := HF8.out.d.free 7
 have dl := HF8.out.d.lt
 go_upto_region 5 with fail
 refine wp_world ?_
 intro W9 hW9
 have HF3 : Hid (Frm3 R s3 w w.heap.size [.string (bs t.name), .slice ao t.attrs.length ac, .slice ko t.kids.length kc, .string (bs t.text)] (w.heap.size + 1) [.string ⟨#[]⟩, .string ⟨#[]⟩, .string ⟨#[]⟩, .string ⟨#[]⟩, .string ⟨#[]⟩, .int .i64 0, .int .i64 0, .slice none 0 0] (w.heap.size + 2) [.string (bs (wordV t bGroup)), .string (bs (wordV t bArtifact)), .string (bs (wordV t bVersion)), .string ⟨#[]⟩, .string ⟨#[]⟩, .int .i64 0, .int .i64 0, .slice none 0 0] W9) := by rw [hW9]; exact HF8.out.set 2 _
 clear hW9 HF8 d0 df0 d1 df1 d2 df2 d3 df3 d4 df4 d5 df5 d6 df6 d7 df7 dl
 obtain ⟨a0, a1, a2, a3⟩ := bxc4 HF3.out.n
 have al := HF3.out.n.lt
 go_wp2_with fail
 have hwc := wordR_any R s3 (fun j => X j ∨ w.heap.size ≤ j) 0 _ .k0 t wh bType false _ _ _ (HT.out.gr HF3.out.g HRX.out) HM.out HRX.out HF3.out.r (by have h1 : bType.length ≤ 20 := (by decide); have := HWL.out; omega)
 unfold nodeV at hwc
 rw [← HU.out] at hwc
 refine hwc.mono ?_
 clear hwc
 rintro e w8 ⟨rfl, hr8, hg8⟩
 have HF8 := Lib.hid (HF3.out.call hr8 hg8)
 obtain ⟨s4, hs⟩ : ∃ q, q = stp s3 (wordE t wh bType false freeB) := ⟨_, rfl⟩
 rw [← hs] at HF8
 have HS4 : Hid (T = stp s4 ((wordE t wh bClassifier false freeB).or ((wordE t wh bScope false (isScopeQ m)).or ((wordE t wh bOptional false isTruthB).or (exclsE t wh))))) := by show _ = _; rw [HS3.out, ← stp_or (wordE_nz _ _ _ _ _), ← hs]
 clear hs hr8 hg8 HF3 HS3 a0 a1 a2 a3 al
 have d0 := HF8.out.d.cell 0 _ rfl
 have df0 := HF8.out.d.free 0
 have d1 := HF8.out.d.cell 1 _ rfl
 have df1 := HF8.out.d.free 1
 have d2 := HF8.out.d.cell 2 _ rfl
 have df2 := HF8.out.d.free 2
 have d3 := HF8.out.d.cell 3 _ rfl
 have df3 := HF8.out.d.free 3
 have d4 := HF8.out.d.cell 4 _ rfl
 have df4 := HF8.out.d.free 4
 have d5 := HF8.out.d.cell 5 _ rfl
 have df5 := HF8.out.d.free 5
 have d6 := HF8.out.d.cell 6 _ rfl
 have df6 := HF8.out.d.free 6
 have d7 := HF8.out.d.cell 7 _ rfl
 have df7 := HF8.out.d.free 7
 have dl := HF8.out.d.lt
 go_upto_region 6 with fail
 refine wp_world ?_
 intro W9 hW9
 have HF4 : Hid (Frm3 R s4 w w.heap.size [.string (bs t.name), .slice ao t.attrs.length ac, .slice ko t.kids.length kc, .string (bs t.text)] (w.heap.size + 1) [.string ⟨#[]⟩, .string ⟨#[]⟩, .string ⟨#[]⟩, .string ⟨#[]⟩, .string ⟨#[]⟩, .int .i64 0, .int .i64 0, .slice none 0 0] (w.heap.size + 2) [.string (bs (wordV t bGroup)), .string (bs (wordV t bArtifact)), .string (bs (wordV t bVersion)), .string (bs (wordV t bType)), .string ⟨#[]⟩, .int .i64 0, .int .i64 0, .slice none 0 0] W9) := by rw [hW9]; exact HF8.out.set 3 _
 clear hW9 HF8 d0 df0 d1 df1 d2 df2 d3 df3 d4 df4 d5 df5 d6 df6 d7 df7 dl
 obtain ⟨a0, a1, a2, a3⟩ := bxc4 HF4.out.n
 have al := HF4.out.n.lt
 go_wp2_with fail
 have hwc := wordR_any R s4 (fun j => X j ∨ w.heap.size ≤ j) 0 _ .k0 t wh bClassifier false _ _ _ (HT.out.gr HF4.out.g HRX.out) HM.out HRX.out HF4.out.r (by have h1 : bClassifier.length ≤ 20 := (by decide); have := HWL.out; omega)
 unfold nodeV at hwc
 rw [← HU.out] at hwc
 refine hwc.mono ?_
 clear hwc
 rintro e w8 ⟨rfl, hr8, hg8⟩
 have HF8 := Lib.hid (HF4.out.call hr8 hg8)
 obtain ⟨s5, hs⟩ : ∃ q, q = stp s4 (wordE t wh bClassifier false freeB) := ⟨_, rfl⟩
 rw [← hs] at HF8
 have HS5 : Hid (T = stp s5 ((wordE t wh bScope false (isScopeQ m)).or ((wordE t wh bOptional false isTruthB).or (exclsE t wh)))) := by show _ = _; rw [HS4.out, ← stp_or (wordE_nz _ _ _ _ _), ← hs]
 clear hs hr8 hg8 HF4 HS4 a0 a1 a2 a3 al
 have d0 := HF8.out.d.cell 0 _ rfl
 have df0 := HF8.out.d.free 0
 have d1 := HF8.out.d.cell 1 _ rfl
 have df1 := HF8.out.d.free 1
 have d2 := HF8.out.d.cell 2 _ rfl
 have df2 := HF8.out.d.free 2
 have d3 := HF8.out.d.cell 3 _ rfl
 have df3 := HF8.out.d.free 3
 have d4 := HF8.out.d.cell 4 _ rfl
 have df4 := HF8.out.d.free 4
 have d5 := HF8.out.d.cell 5 _ rfl
 have df5 := HF8.out.d.free 5
 have d6 := HF8.out.d.cell 6 _ rfl
 have df6 := HF8.out.d.free 6
 have d7 := HF8.out.d.cell 7 _ rfl
 have df7 := HF8.out.d.free 7
 have dl := HF8.out.d.lt
 go_upto_region 7 with fail
 refine wp_world ?_
 intro W9 hW9
 have HF5 : Hid (Frm3 R s5 w w.heap.size [.string (bs t.name), .slice ao t.attrs.length ac, .slice ko t.kids.length kc, .string (bs t.text)] (w.heap.size + 1) [.string ⟨#[]⟩, .string ⟨#[]⟩, .string ⟨#[]⟩, .string ⟨#[]⟩, .string ⟨#[]⟩, .int .i64 0, .int .i64 0, .slice none 0 0] (w.heap.size + 2) [.string (bs (wordV t bGroup)), .string (bs (wordV t bArtifact)), .string (bs (wordV t bVersion)), .string (bs (wordV t bType)), .string (bs (wordV t bClassifier)), .int .i64 0, .int .i64 0, .slice none 0 0] W9) := by rw [hW9]; exact HF8.out.set 4 _
 clear hW9 HF8 d0 df0 d1 df1 d2 df2 d3 df3 d4 df4 d5 df5 d6 df6 d7 df7 dl
 obtain ⟨a0, a1, a2, a3⟩ := bxc4 HF5.out.n
 have al := HF5.out.n.lt
 go_wp2_with fail
 have hwc := wordR_any R s5 (fun j => X j ∨ w.heap.size ≤ j) c _ HKC.out t wh bScope false _ _ _ (HT.out.gr HF5.out.g HRX.out) HM.out HRX.out HF5.out.r (by have h1 : bScope.length ≤ 20 := (by decide); have := HWL.out; omega)
 unfold nodeV at hwc
 rw [← HU.out] at hwc
 refine hwc.mono ?_
 clear hwc
 rintro e w8 ⟨rfl, hr8, hg8⟩
 have HF8 := Lib.hid (HF5.out.call hr8 hg8)
 obtain ⟨s6, hs⟩ : ∃ q, q = stp s5 (wordE t wh bScope false (isScopeQ m)) := ⟨_, rfl⟩
 rw [← hs] at HF8
 have HS6 : Hid (T = stp s6 ((wordE t wh bOptional false isTruthB).or (exclsE t wh))) := by show _ = _; rw [HS5.out, ← stp_or (wordE_nz _ _ _ _ _), ← hs]
 clear hs hr8 hg8 HF5 HS5 a0 a1 a2 a3 al
 have HF6 := HF8
 clear HF8
 obtain ⟨sw, hsw⟩ : ∃ sw, sw = wordV t bScope := ⟨_, rfl⟩
 have HSW := Lib.hid hsw
 rw [← hsw]
 clear hsw
 go_wp2
 go_loopw [11] (fun i wr => ∃ k : Nat, 1 ≤ k ∧ k ≤ 7 ∧ i = .int .i64 k ∧ Hid (Frm3 R s6 w w.heap.size [.string (bs t.name), .slice ao t.attrs.length ac, .slice ko t.kids.length kc, .string (bs t.text)] (w.heap.size + 1) [.string ⟨#[]⟩, .string ⟨#[]⟩, .string ⟨#[]⟩, .string ⟨#[]⟩, .string ⟨#[]⟩, .int .i64 0, .int .i64 0, .slice none 0 0] (w.heap.size + 2) [.string (bs (wordV t bGroup)), .string (bs (wordV t bArtifact)), .string (bs (wordV t bVersion)), .string (bs (wordV t bType)), .string (bs (wordV t bClassifier)), .int .i64 (scU sw k), .int .i64 0, .slice none 0 0] wr)) (fun i _ => 7 - (intOf i).toNat)
 case atStart => exact ⟨1, Nat.le_refl _, by decide, rfl, by show Frm3 _ _ _ _ _ _ _ _ _ _; rw [scU_one]; exact HF6.out⟩
 case round =>
  obtain ⟨k, hk1, hk7, rfl, HFR⟩ := hrel
  clear HF6
  by_cases hlt : k ≤ 6
  · have hkI : (k : Int) ≤ 6 := by omega
    go_wp2_with fail
    refine (refWord_any (k : Int) _).mono ?_
    rintro e w4 ⟨rfl, hb4⟩
    have HF4 := Lib.hid (HFR.out.below hb4)
    have hq := bs_eqb (wordB k) sw
    clear hb4 HFR
    by_cases hw : wordB k = sw
    · rw [decide_eq_true hw] at hq
      have HSU := Lib.hid (scU_yes sw k hk1 hlt hw)
      clear hw
      have d0 := HF4.out.d.cell 0 _ rfl
      have df0 := HF4.out.d.free 0
      have d1 := HF4.out.d.cell 1 _ rfl
      have df1 := HF4.out.d.free 1
      have d2 := HF4.out.d.cell 2 _ rfl
      have df2 := HF4.out.d.free 2
      have d3 := HF4.out.d.cell 3 _ rfl
      have df3 := HF4.out.d.free 3
      have d4 := HF4.out.d.cell 4 _ rfl
      have df4 := HF4.out.d.free 4
      have d5 := HF4.out.d.cell 5 _ rfl
      have df5 := HF4.out.d.free 5
      have d6 := HF4.out.d.cell 6 _ rfl
      have df6 := HF4.out.d.free 6
      have d7 := HF4.out.d.cell 7 _ rfl
      have df7 := HF4.out.d.free 7
      have dl := HF4.out.d.lt
      go_wp2
      go_roundw
      case rel => exact ⟨k + 1, by omega, by omega, by go_num, by show Frm3 _ _ _ _ _ _ _ _ _ _; rw [HSU.out]; exact HF4.out.set 5 _⟩
      case measure => simp [intOf]; omega
    · rw [decide_eq_false hw] at hq
      have HSU := Lib.hid (scU_no sw k hk1 hlt hw)
      clear hw
      go_wp2
      go_roundw
      case rel => exact ⟨k + 1, by omega, by omega, by go_num, by show Frm3 _ _ _ _ _ _ _ _ _ _; rw [HSU.out]; exact HF4.out⟩
      case measure => simp [intOf]; omega
  · obtain rfl : k = 7 := by omega
    have HF6 : Hid (Frm3 R s6 w w.heap.size [.string (bs t.name), .slice ao t.attrs.length ac, .slice ko t.kids.length kc, .string (bs t.text)] (w.heap.size + 1) [.string ⟨#[]⟩, .string ⟨#[]⟩, .string ⟨#[]⟩, .string ⟨#[]⟩, .string ⟨#[]⟩, .int .i64 0, .int .i64 0, .slice none 0 0] (w.heap.size + 2) [.string (bs (wordV t bGroup)), .string (bs (wordV t bArtifact)), .string (bs (wordV t bVersion)), .string (bs (wordV t bType)), .string (bs (wordV t bClassifier)), .int .i64 (scopeW sw), .int .i64 0, .slice none 0 0] wr) := by have h1 := HFR.out; rw [scU_end] at h1; exact h1
    clear HFR hlt hk1 hk7
    obtain ⟨w6, rfl⟩ : ∃ w6 : World, w6 = wr := ⟨_, rfl⟩
    obtain ⟨a0, a1, a2, a3⟩ := bxc4 HF6.out.n
    have al := HF6.out.n.lt
    go_wp2_with fail
    have hwc := wordR_any R s6 (fun j => X j ∨ w.heap.size ≤ j) 5 _ .k5 t wh bOptional false _ _ _ (HT.out.gr HF6.out.g HRX.out) HM.out HRX.out HF6.out.r (by have h1 : bOptional.length ≤ 20 := (by decide); have := HWL.out; omega)
    unfold nodeV at hwc
    rw [← HU.out] at hwc
    refine hwc.mono ?_
    clear hwc
    rintro e w8 ⟨rfl, hr8, hg8⟩
    have HF8 := Lib.hid (HF6.out.call hr8 hg8)
    obtain ⟨s7, hs⟩ : ∃ q, q = stp s6 (wordE t wh bOptional false isTruthB) := ⟨_, rfl⟩
    rw [← hs] at HF8
    have HS7 : Hid (T = stp s7 (exclsE t wh)) := by show _ = _; rw [HS6.out, ← stp_or (wordE_nz _ _ _ _ _), ← hs]
    clear hs hr8 hg8 HF6 HS6 a0 a1 a2 a3 al
    obtain ⟨ow, how⟩ : ∃ ow, ow = wordV t bOptional := ⟨_, rfl⟩
    have HOW := Lib.hid how
    rw [← how]
    clear how
    obtain ⟨q1, hq1⟩ : ∃ q, q = decide (ow = [116, 114, 117, 101]) := ⟨_, rfl⟩
    obtain ⟨q2, hq2⟩ : ∃ q, q = decide (ow = [102, 97, 108, 115, 101]) := ⟨_, rfl⟩
    have h1 := bs_lit ow [116, 114, 117, 101]
    have h2 := bs_lit ow [102, 97, 108, 115, 101]
    rw [← hq1] at h1
    rw [← hq2] at h2
    have HQ1 : Hid ((q1 = true → ow = bTrue) ∧ (q1 = false → ow ≠ bTrue)) := ⟨fun h => by rw [h] at hq1; exact of_decide_eq_true hq1.symm, fun h => by rw [h] at hq1; exact of_decide_eq_false hq1.symm⟩
    have HQ2 : Hid ((q2 = true → ow = bFalse) ∧ (q2 = false → ow ≠ bFalse)) := ⟨fun h => by rw [h] at hq2; exact of_decide_eq_true hq2.symm, fun h => by rw [h] at hq2; exact of_decide_eq_false hq2.symm⟩
    clear hq1 hq2
    have HOQ : Hid ((ow = bTrue → optQ ow = 1) ∧ (ow ≠ bTrue → ow = bFalse → optQ ow = 2) ∧ (ow ≠ bTrue → ow ≠ bFalse → optQ ow = 0)) := ⟨fun h => by unfold optQ; rw [if_pos h], fun h h' => by unfold optQ; rw [if_neg h, if_pos h'], fun h h' => by unfold optQ; rw [if_neg h, if_neg h']⟩
    have d0 := HF8.out.d.cell 0 _ rfl
    have df0 := HF8.out.d.free 0
    have d1 := HF8.out.d.cell 1 _ rfl
    have df1 := HF8.out.d.free 1
    have d2 := HF8.out.d.cell 2 _ rfl
    have df2 := HF8.out.d.free 2
    have d3 := HF8.out.d.cell 3 _ rfl
    have df3 := HF8.out.d.free 3
    have d4 := HF8.out.d.cell 4 _ rfl
    have df4 := HF8.out.d.free 4
    have d5 := HF8.out.d.cell 5 _ rfl
    have df5 := HF8.out.d.free 5
    have d6 := HF8.out.d.cell 6 _ rfl
    have df6 := HF8.out.d.free 6
    have d7 := HF8.out.d.cell 7 _ rfl
    have df7 := HF8.out.d.free 7
    have dl := HF8.out.d.lt
    go_upto_if 65 with fail
    go_cut [] from 64 to 66 (fun wx => Hid (Frm3 R s7 w w.heap.size [.string (bs t.name), .slice ao t.attrs.length ac, .slice ko t.kids.length kc, .string (bs t.text)] (w.heap.size + 1) [.string ⟨#[]⟩, .string ⟨#[]⟩, .string ⟨#[]⟩, .string ⟨#[]⟩, .string ⟨#[]⟩, .int .i64 0, .int .i64 0, .slice none 0 0] (w.heap.size + 2) [.string (bs (wordV t bGroup)), .string (bs (wordV t bArtifact)), .string (bs (wordV t bVersion)), .string (bs (wordV t bType)), .string (bs (wordV t bClassifier)), .int .i64 (scopeW sw), .int .i64 (optA ow), .slice none 0 0] wx))
    case first =>
     cases q1 with
     | true =>
      have HQ : Hid (optA ow = 1) := if_pos (HQ1.out.1 rfl)
      clear h2
      go_wp2
      go_meet
      case rel => show Frm3 _ _ _ _ _ _ _ _ _ _; rw [HQ.out]; exact HF8.out.set 6 _
     | false =>
      have HQ : Hid (optA ow = 0) := if_neg (HQ1.out.2 rfl)
      clear h2
      go_wp2
      go_meet
      case rel => show Frm3 _ _ _ _ _ _ _ _ _ _; rw [HQ.out]; exact HF8.out
    case rest =>
     have HFA := Lib.hid hcut
     clear hcut h1 HF8 d0 df0 d1 df1 d2 df2 d3 df3 d4 df4 d5 df5 d6 df6 d7 df7 dl
     have d0 := HFA.out.d.cell 0 _ rfl
     have df0 := HFA.out.d.free 0
     have d1 := HFA.out.d.cell 1 _ rfl
     have df1 := HFA.out.d.free 1
     have d2 := HFA.out.d.cell 2 _ rfl
     have df2 := HFA.out.d.free 2
     have d3 := HFA.out.d.cell 3 _ rfl
     have df3 := HFA.out.d.free 3
     have d4 := HFA.out.d.cell 4 _ rfl
     have df4 := HFA.out.d.free 4
     have d5 := HFA.out.d.cell 5 _ rfl
     have df5 := HFA.out.d.free 5
     have d6 := HFA.out.d.cell 6 _ rfl
     have df6 := HFA.out.d.free 6
     have d7 := HFA.out.d.cell 7 _ rfl
     have df7 := HFA.out.d.free 7
     have dl := HFA.out.d.lt
     go_upto_if 68 with fail
     go_cut [] from 67 to 69 (fun wx => Hid (Frm3 R s7 w w.heap.size [.string (bs t.name), .slice ao t.attrs.length ac, .slice ko t.kids.length kc, .string (bs t.text)] (w.heap.size + 1) [.string ⟨#[]⟩, .string ⟨#[]⟩, .string ⟨#[]⟩, .string ⟨#[]⟩, .string ⟨#[]⟩, .int .i64 0, .int .i64 0, .slice none 0 0] (w.heap.size + 2) [.string (bs (wordV t bGroup)), .string (bs (wordV t bArtifact)), .string (bs (wordV t bVersion)), .string (bs (wordV t bType)), .string (bs (wordV t bClassifier)), .int .i64 (scopeW sw), .int .i64 (optQ ow), .slice none 0 0] wx))
     case first =>
      cases q2 with
      | true =>
       have HQ : Hid (optQ ow = 2) := by show _ = _; rw [HQ2.out.1 rfl]; rfl
       go_wp2
       go_meet
       case rel => show Frm3 _ _ _ _ _ _ _ _ _ _; rw [HQ.out]; exact HFA.out.set 6 _
      | false =>
       have HQ : Hid (optQ ow = optA ow) := by
        show _ = _
        by_cases ht : ow = bTrue
        · rw [show optA ow = 1 from if_pos ht]; exact HOQ.out.1 ht
        · rw [show optA ow = 0 from if_neg ht]; exact HOQ.out.2.2 ht (HQ2.out.2 rfl)
       go_wp2
       go_meet
       case rel => show Frm3 _ _ _ _ _ _ _ _ _ _; rw [HQ.out]; exact HFA.out
     case rest =>
      have HF7 := Lib.hid hcut
      clear hcut h2 HFA d0 df0 d1 df1 d2 df2 d3 df3 d4 df4 d5 df5 d6 df6 d7 df7 dl HOQ HQ1 HQ2
      have HDV : Hid (∀ l : List Id, exclsV t = l → depV t = ⟨bs (wordV t bGroup), bs (wordV t bArtifact), bs (wordV t bVersion), bs (wordV t bType), bs (wordV t bClassifier), scopeW sw, optQ ow, l⟩) := fun l h => by unfold depV; rw [h, HSW.out, HOW.out]
      clear HSW HOW
      obtain ⟨a0, a1, a2, a3⟩ := bxc4 HF7.out.n
      have al := HF7.out.n.lt
      have hon := oneR_any R s7 (fun j => X j ∨ w.heap.size ≤ j) t wh bExclusions wc _ _ (HT.out.gr HF7.out.g HRX.out) HRX.out HF7.out.r HM.out.kl (by have h1 : bExclusions.length ≤ 20 := (by decide); have := HWL.out; omega)
      unfold nodeV at hon
      rw [← HU.out] at hon
      go_wp2_with fail
      refine hon.mono ?_
      clear hon
      intro e w8 hO
      obtain ⟨v8, rfl, hv8, hr8, hg8⟩ := hO
      have HF8 := Lib.hid (HF7.out.call hr8 hg8)
      obtain ⟨s8, hs⟩ : ∃ q, q = stp s7 (manyE t wh bExclusions) := ⟨_, rfl⟩
      rw [← hs] at HF8
      have HS8 : Hid (T = stp s8 (match oneV t bExclusions with
       | none => none
       | some f => listE exclE f (sl wh bExclusions) bExclusion)) := by show _ = _; rw [HS7.out, show exclsE t wh = (manyE t wh bExclusions).or (match oneV t bExclusions with
       | none => none
       | some f => listE exclE f (sl wh bExclusions) bExclusion) from rfl, ← stp_or (manyE_nz _ _ _), ← hs]
      have HVX : Hid (exclsV t = match oneV t bExclusions with
       | none => []
       | some f => (kidsF bExclusion f.kids).map exclV) := rfl
      have HMX : Hid (∀ k, oneV t bExclusions = some k → MildW k) := fun k h => HM.out.one h
      clear hs hr8 hg8 HF7 HS7 a0 a1 a2 a3 al
      cases hO : oneV t bExclusions with
      | none =>
       rw [hO] at hv8 HS8 HVX
       simp only [OneP] at hv8
       subst hv8
       have HDE := Lib.hid (HDV.out [] HVX.out)
       have HSE : Hid (T = s8) := HS8.out
       clear hO HMX HVX HDV HS8
       go_upto_region 20 with fail
       refine wp_world ?_
       intro W9 hW9
       have HF9 : Hid (Frm3 R s8 w w.heap.size [.string (bs t.name), .slice ao t.attrs.length ac, .slice ko t.kids.length kc, .string (bs t.text)] (w.heap.size + 1) [.string ⟨#[]⟩, .string ⟨#[]⟩, .string ⟨#[]⟩, .string ⟨#[]⟩, .string ⟨#[]⟩, .int .i64 0, .int .i64 0, .slice none 0 0] (w.heap.size + 2) [.string (bs (wordV t bGroup)), .string (bs (wordV t bArtifact)), .string (bs (wordV t bVersion)), .string (bs (wordV t bType)), .string (bs (wordV t bClassifier)), .int .i64 (scopeW sw), .int .i64 (optQ ow), .slice none 0 0] W9) := by rw [hW9]; exact HF8.out.below ((Below.refl _ _).alloc (Nat.le_refl _) _)
       clear hW9 HF8
       go_wp2_with (first | ((with_reducible show wpList _ _ _ (Oper.mk _ (Op.load 48 (.tmp 9)) _ _ _ _ :: _) _ _); refine wpList_load_box rfl 48 (.tmp 9) rfl (w.heap.size + 2) [.string (bs (wordV t bGroup)), .string (bs (wordV t bArtifact)), .string (bs (wordV t bVersion)), .string (bs (wordV t bType)), .string (bs (wordV t bClassifier)), .int .i64 (scopeW sw), .int .i64 (optQ ow), .slice none 0 0] rfl HF9.out.d Tryz.underlying48 rfl size_dep ?_) | ((with_reducible show wpList _ _ _ (Oper.mk none (Op.store 48 (.tmp 8) (.tmp 79)) _ _ _ _ :: _) _ _); refine wpList_store_box rfl 48 (.tmp 8) (.tmp 79) rfl (w.heap.size + 1) [.string ⟨#[]⟩, .string ⟨#[]⟩, .string ⟨#[]⟩, .string ⟨#[]⟩, .string ⟨#[]⟩, .int .i64 0, .int .i64 0, .slice none 0 0] [.string (bs (wordV t bGroup)), .string (bs (wordV t bArtifact)), .string (bs (wordV t bVersion)), .string (bs (wordV t bType)), .string (bs (wordV t bClassifier)), .int .i64 (scopeW sw), .int .i64 (optQ ow), .slice none 0 0] rfl rfl HF9.out.z rfl size_dep (by simp [Value.oneCell']) ?_; intro W10 v10 hg10; have HV10 := Lib.hid v10; have HG10 := Lib.hid hg10; clear v10 hg10))
       refine bodyPost_ret (results_cell_box rfl _ _ (w.heap.size + 1) [.string (bs (wordV t bGroup)), .string (bs (wordV t bArtifact)), .string (bs (wordV t bVersion)), .string (bs (wordV t bType)), .string (bs (wordV t bClassifier)), .int .i64 (scopeW sw), .int .i64 (optQ ow), .slice none 0 0] rfl HV10.out Tryz.underlying48 rfl size_dep) rfl ?_
       rw [HDE.out, HSE.out]
       exact ⟨_, rfl, Owns.nil, HF9.out.r.gr HG10.out (fun e => HF9.out.ne.2.1 e.symm), HF9.out.g.andThen HG10.out (fun j e => by cases e; exact .inl (by omega))⟩
      | some k =>
       rw [hO] at hv8 HS8 HVX
       have HMK := Lib.hid (HMX.out k hO)
       obtain ⟨kav, kkv, rfl, hnk⟩ := hv8
       obtain ⟨p1, p2, p3, p4, rfl, rfl, -, -⟩ := hnk.shape
       have HNK := Lib.hid hnk
       clear hO HMX hnk
       unfold nodeV
       go_upto_region 21 with fail
       refine wp_world ?_
       intro W9 hW9
       have x9 : Box W9 w8.heap.size [.string (bs k.name), .slice p1 k.attrs.length p2, .slice p3 k.kids.length p4, .string (bs k.text)] := by rw [hW9]; exact Box.new w8 [.string (bs k.name), .slice p1 k.attrs.length p2, .slice p3 k.kids.length p4, .string (bs k.text)] _ _ rfl
       have hb9 : Below w8.heap.size w8 W9 := by rw [hW9]; exact (Below.refl _ _).alloc (Nat.le_refl _) _
       clear hW9
       have HF9 := Lib.hid (HF8.out.below hb9)
       have HNK9 := Lib.hid (HNK.out.later hb9)
       have HS9 : Hid (w.heap.size + 2 < W9.heap.size ∧ R < W9.heap.size) := ⟨HF9.out.d.lt, HF9.out.r.lt⟩
       obtain ⟨k0, k1, k2, k3⟩ := bxc4 x9
       have kl := x9.lt
       clear x9 hb9 HF8 HNK
       obtain ⟨K, hK⟩ : ∃ K, K = kidsF bExclusion k.kids := ⟨_, rfl⟩
       have HKM : Hid (∀ y ∈ K, MildW y) := fun y hy => HMK.out.kids y (kidsF_sub (by rw [← hK]; exact hy))
       have HSL : Hid (T = stp s8 ((bigE K.length (sl wh bExclusions)).or (eachE exclE (sl (sl wh bExclusions) bExclusion) K 0))) := by show _ = _; rw [hK]; exact HS8.out
       have HVL : Hid (exclsV t = K.map exclV) := by show _ = _; rw [hK]; exact HVX.out
       have HKL : Hid (K.length ≤ 100000) := by show _ ≤ _; rw [hK]; exact Nat.le_trans (List.length_filter_le _ _) HMK.out.kl
       have hkc := refKids_x (X := fun j => X j ∨ w.heap.size ≤ j) k bExclusion W9 _ _ HNK9.out HMK.out.kl
       unfold nodeV at hkc
       rw [← hK] at hkc
       clear hK HS8 HVX HMK HNK9
       go_wp2_with fail
       refine hkc.mono ?_
       clear hkc
       rintro e w10 ⟨v, L, rfl, hL, hco⟩
       obtain ⟨la, lc, rfl⟩ := hco.own.shape
       have HFA := Lib.hid (HF9.out.below hco.below)
       have HOW := Lib.hid hco.own
       have HND := Lib.hid hco.nodes
       have hLK : L.length = K.length := by rw [← hL]; simp
       have HLK := Lib.hid hL
       rw [hLK] at HOW ⊢
       have HLN := Lib.hid hLK
       clear hL hco hLK HF9 k0 k1 k2 k3 kl
       have hkl : K.length ≤ 100000 := HKL.out
       obtain ⟨n, hn⟩ : ∃ n, n = K.length := ⟨_, rfl⟩
       have HNK := Lib.hid hn
       rw [← hn] at HOW ⊢ hkl HLN HSL
       clear hn
       go_upto_if 84 with fail
       go_cut [] from 82 to 88 (fun wx => Hid (Frm3 R (stp s8 (bigE n (sl wh bExclusions))) w w.heap.size [.string (bs t.name), .slice ao t.attrs.length ac, .slice ko t.kids.length kc, .string (bs t.text)] (w.heap.size + 1) [.string ⟨#[]⟩, .string ⟨#[]⟩, .string ⟨#[]⟩, .string ⟨#[]⟩, .string ⟨#[]⟩, .int .i64 0, .int .i64 0, .slice none 0 0] (w.heap.size + 2) [.string (bs (wordV t bGroup)), .string (bs (wordV t bArtifact)), .string (bs (wordV t bVersion)), .string (bs (wordV t bType)), .string (bs (wordV t bClassifier)), .int .i64 (scopeW sw), .int .i64 (optQ ow), .slice none 0 0] wx ∧ w10.grownBy wx (some R)))
       case first =>
        by_cases hb : 1024 < n
        · have hbI : (1024 : Int) < (n : Int) := by omega
          have HE : Hid (bigE n (sl wh bExclusions) = some (2, sl wh bExclusions)) := if_pos hb
          have HYE : Hid (U ++ ⟨#[47, 101, 120, 99, 108, 117, 115, 105, 111, 110, 115]⟩ = bs (sl wh bExclusions)) := by
           show _ = _; rw [HU.out]; show bs wh ++ bs (47 :: bExclusions) = _; rw [bs_append]; rfl
          clear hb
          go_wp2_with fail
          refine (failR_some R s8 (2, sl wh bExclusions) _ w10 HFA.out.r HYE.out).mono ?_
          rintro e w11 ⟨rfl, hr, hg⟩
          have HF11 := Lib.hid (HFA.out.call hr hg)
          have HG11 := Lib.hid hg
          clear hr hg
          go_wp2
          go_meet
          case rel => exact ⟨by rw [HE.out]; exact HF11.out, HG11.out⟩
        · have hbI : ¬ (1024 : Int) < (n : Int) := by omega
          have HE : Hid (bigE n (sl wh bExclusions) = none) := if_neg hb
          clear hb
          go_wp2
          go_meet
          case rel => exact ⟨by rw [HE.out]; exact HFA.out, World.grownBy.refl _ _⟩
       case rest =>
        obtain ⟨wq, rfl⟩ : ∃ wq : World, wq = wc := ⟨_, rfl⟩
        obtain ⟨s9, hs9⟩ : ∃ q, q = stp s8 (bigE n (sl wh bExclusions)) := ⟨_, rfl⟩
        rw [← hs9] at hcut
        have HS9L : Hid (T = stp s9 (eachE exclE (sl (sl wh bExclusions) bExclusion) K 0)) := by show _ = _; rw [HSL.out, ← stp_or (big_nz _ _), ← hs9]
        have HFQ := Lib.hid hcut.out.1
        have HKS : Hid (SliceX 4 trC (fun j => j = R ∨ j = w.heap.size + 2) wq (.slice la n lc) L) := ((HOW.out.keptR hcut.out.2 (by exact HS9.out.2)).toX trC_len (fun g hg hx => by have := (HOW.out.lt g hg).1; have := HS9.out; omega))
        have HKN : Hid (∀ y ∈ L, NodeX (fun j => j = R ∨ j = w.heap.size + 2) wq y.1 y.2.1 y.2.2) := fun y hy => ((HND.out y hy).gr hcut.out.2 (.inl HRX.out)).keep (KeptX.refl _ _) (fun j _ h => h.elim (fun e => by rw [e]; exact .inl HRX.out) (fun e => .inl (.inr (by omega))))
        have HQ9 : Hid (w.heap.size + 2 < wq.heap.size ∧ R < wq.heap.size) := ⟨HFQ.out.d.lt, HFQ.out.r.lt⟩
        have HWP := Lib.hid hcut.out.2.size
        clear hcut HOW HND HFA HSL hs9 HS9
        go_wp2
        go_loopw [91] (fun iv wr => ∃ (i : Nat) (st : St) (oa : Option Addr) (oc : Nat), i ≤ n ∧ iv = .int .i64 i ∧ Hid (Frm3 R st w w.heap.size [.string (bs t.name), .slice ao t.attrs.length ac, .slice ko t.kids.length kc, .string (bs t.text)] (w.heap.size + 1) [.string ⟨#[]⟩, .string ⟨#[]⟩, .string ⟨#[]⟩, .string ⟨#[]⟩, .string ⟨#[]⟩, .int .i64 0, .int .i64 0, .slice none 0 0] (w.heap.size + 2) [.string (bs (wordV t bGroup)), .string (bs (wordV t bArtifact)), .string (bs (wordV t bVersion)), .string (bs (wordV t bType)), .string (bs (wordV t bClassifier)), .int .i64 (scopeW sw), .int .i64 (optQ ow), .slice oa i oc] wr ∧ Owns wq.heap.size 52 2 idC wr (.slice oa i oc) ((K.take i).map exclV) ∧ KeptX (fun j => j = R ∨ j = w.heap.size + 2) wq wr ∧ T = stp st (eachE exclE (sl (sl wh bExclusions) bExclusion) (K.drop i) i))) (fun iv _ => n - (intOf iv).toNat)
        case atStart => exact ⟨0, s9, none, 0, Nat.zero_le _, rfl, HFQ.out, Owns.nil, KeptX.refl _ _, HS9L.out⟩
        case round =>
         obtain ⟨i, st, oa, oc, hi, rfl, HR⟩ := hrel
         clear HFQ HS9L
         by_cases hlt : i < n
         · have hlI : (i : Int) < (n : Int) := by omega
           have hiL : i < L.length := by have := HLN.out; omega
           have hiK : i < K.length := by have := HNK.out; omega
           have hyk : K[i]'hiK = (L[i]'hiL).1 := by simp only [← HLK.out, List.getElem_map]
           have HTK : Hid (K.take (i + 1) = K.take i ++ [(L[i]'hiL).1]) := by show _ = _; rw [List.take_succ_eq_append_getElem hiK, hyk]
           have HEK : Hid (T = stp st ((exclE (L[i]'hiL).1 (atI (sl (sl wh bExclusions) bExclusion) (i + 1))).or (eachE exclE (sl (sl wh bExclusions) bExclusion) (K.drop (i + 1)) (i + 1)))) := by show _ = _; rw [HR.out.2.2.2, eachE_at hiK, hyk]
           have HMY := Lib.hid (HKM.out (L[i]'hiL).1 (by rw [← hyk]; exact List.getElem_mem hiK))
           have HLT := Lib.hid hlt
           have HIB : Hid (i ≤ 100000) := by show _ ≤ _; omega
           obtain ⟨g, o, q1, q2, q3, q4, hla, hg, c0, c1, c2, c3, hn⟩ := nodesQ (X := fun j => j = R ∨ j = w.heap.size + 2) ((HKS.out.keep HR.out.2.2.1 (fun _ _ h => h)).slice) (fun y hy => (HKN.out y hy).keep HR.out.2.2.1 (fun _ _ h => h)) i hiL
           subst hla
           have HNN := Lib.hid hn
           clear hn hyk hiK
           generalize L[i] = y at *
           clear hiL
           obtain ⟨t1, ya, yk⟩ := y
           simp only at c0 c1 c2 c3 HNN HTK HEK HMY
           go_upto_region 27 with fail
           refine wp_world ?_
           intro W1 hW1
           have x1 : Box W1 wr.heap.size [.string (bs t1.name), .slice q1 t1.attrs.length q2, .slice q3 t1.kids.length q4, .string (bs t1.text)] := by rw [hW1]; exact Box.new wr [.string (bs t1.name), .slice q1 t1.attrs.length q2, .slice q3 t1.kids.length q4, .string (bs t1.text)] _ _ rfl
           have hb1 : Below wr.heap.size wr W1 := by rw [hW1]; exact (Below.refl _ _).alloc (Nat.le_refl _) _
           clear hW1 c0 c1 c2 c3 hg
           have HX1 := Lib.hid x1
           have HF1 := Lib.hid (HR.out.1.below hb1)
           have HO1 := Lib.hid (HR.out.2.1.below hb1)
           have HK1 := Lib.hid (HR.out.2.2.1.trans (KeptX.below hb1))
           have HN1 := Lib.hid (HNN.out.later hb1)
           have HB1 : Hid (wr.heap.size ≠ R ∧ wr.heap.size ≠ w.heap.size + 2 ∧ wr.heap.size < W1.heap.size ∧ wq.heap.size ≤ wr.heap.size) := ⟨by have := HR.out.1.r.lt; omega, by have := HR.out.1.d.lt; omega, x1.lt, HR.out.2.2.1.size⟩
           clear x1 hb1 HR HNN
           obtain ⟨NB, hNB⟩ : ∃ NB : S, NB = bs (numP (i + 1)) := ⟨_, rfl⟩
           have hnz : NB.size ≤ 100002 := by rw [hNB, bs_size]; have h1 := numP_len (i + 1); have h2 := HIB.out; omega
           have hnum := refNumber_any (i + 1) (by omega) W1
           rw [show (((i + 1 : Nat)) : Int) = (i : Int) + 1 from by omega, ← hNB] at hnum
           have hzU : U.size = wh.length := by rw [HU.out, bs_size]
           have hs3 : ¬ 9223372036854775807 < U.size + 22 + NB.size := by have h1 := HWL.out; omega
           have hs4 : ¬ 9223372036854775807 < U.size + 22 + NB.size + 1 := by have h1 := HWL.out; omega
           clear hzU
           have HYA : Hid (U ++ ⟨#[47, 101, 120, 99, 108, 117, 115, 105, 111, 110, 115, 47, 101, 120, 99, 108, 117, 115, 105, 111, 110, 91]⟩ ++ NB ++ ⟨#[93]⟩ = bs (atI (sl (sl wh bExclusions) bExclusion) (i + 1))) := by
            show _ = _
            rw [HU.out, hNB]
            show bs wh ++ bs ([47] ++ bExclusions ++ [47] ++ bExclusion ++ [91]) ++ bs (numP (i + 1)) ++ bs [93] = _
            rw [bs_append, bs_append, bs_append]
            unfold atI sl
            simp
           clear hNB
           go_wp2_with fail
           refine hnum.mono ?_
           clear hnum
           rintro e w2 ⟨rfl, hb2⟩
           have HX2 := Lib.hid (HX1.out.below hb2 HX1.out.lt)
           have HF2 := Lib.hid (HF1.out.below hb2)
           have HO2 := Lib.hid (HO1.out.below hb2)
           have HK2 := Lib.hid (HK1.out.trans (KeptX.below hb2))
           have HN2 := Lib.hid (HN1.out.later hb2)
           have HB2 : Hid (wr.heap.size < w2.heap.size) := HX2.out.lt
           obtain ⟨k0, k1, k2, k3⟩ := bxc4 HX2.out
           have kl := HX2.out.lt
           clear hb2 HX1 HF1 HO1 HK1 HN1
           have hwc := wordR_any R st (fun j => j = R ∨ j = w.heap.size + 2) 6 _ .k6 t1 (atI (sl (sl wh bExclusions) bExclusion) (i + 1)) bGroup true w2 _ _ HN2.out HMY.out (.inl rfl) HF2.out.r (by have h1 := numP_len (i + 1); have h2 := HWL.out; have h3 := HIB.out; have h4 : bExclusions.length = 10 := rfl; have h5 : bExclusion.length = 9 := rfl; have h6 : bGroup.length = 7 := rfl; unfold atI sl; simp only [List.length_append, List.length_cons, List.length_nil]; omega)
           unfold nodeV at hwc
           rw [← HYA.out] at hwc
           obtain ⟨s2, hs⟩ : ∃ q, q = stp st (wordE t1 (atI (sl (sl wh bExclusions) bExclusion) (i + 1)) bGroup true isPartQ) := ⟨_, rfl⟩
           rw [← hs] at hwc
           have HEK2 : Hid (T = stp s2 ((wordE t1 (atI (sl (sl wh bExclusions) bExclusion) (i + 1)) bArtifact true isPartQ).or (eachE exclE (sl (sl wh bExclusions) bExclusion) (K.drop (i + 1)) (i + 1)))) := by
            show _ = _
            rw [HEK.out, hs, stp_or (wordE_nz _ _ _ _ _)]
            unfold exclE
            rw [Option.or_assoc]
           clear hs HEK
           go_wp2_with fail
           refine hwc.mono ?_
           clear hwc
           rintro e w3 ⟨rfl, hr3, hg3⟩
           have HF3 := Lib.hid (HF2.out.call hr3 hg3)
           have HX3 := Lib.hid (HX2.out.gr hg3 HB1.out.1)
           have HO3 := Lib.hid (HO2.out.keptR hg3 HQ9.out.2)
           have HK3 := Lib.hid (HK2.out.then_ hg3 (fun g e => by cases e; exact .inl (.inl rfl)))
           have HN3 := Lib.hid (HN2.out.gr hg3 (.inl rfl))
           clear hr3 hg3 HF2 HX2 HO2 HK2 HN2 k0 k1 k2 k3 kl
           obtain ⟨G, hG⟩ : ∃ G : S, G = bs (wordV t1 bGroup) := ⟨_, rfl⟩
           have HGG := Lib.hid hG
           rw [← hG]
           clear hG
           go_upto_region 29 with fail
           refine wp_world ?_
           intro W4 hW4
           have x4 : Box W4 w3.heap.size [.string G, .string ⟨#[]⟩] := by rw [hW4]; exact Box.new w3 [.string G, .string ⟨#[]⟩] _ _ rfl
           have hb4 : Below w3.heap.size w3 W4 := by rw [hW4]; exact (Below.refl _ _).alloc (Nat.le_refl _) _
           clear hW4
           have HI4 := Lib.hid x4
           have HF4 := Lib.hid (HF3.out.below hb4)
           have HX4 := Lib.hid (HX3.out.below hb4 HX3.out.lt)
           have HO4 := Lib.hid (HO3.out.below hb4)
           have HK4 := Lib.hid (HK3.out.trans (KeptX.below hb4))
           have HN4 := Lib.hid (HN3.out.later hb4)
           have HB4 : Hid (w3.heap.size ≠ R ∧ w3.heap.size ≠ w.heap.size + 2 ∧ w3.heap.size < W4.heap.size ∧ wq.heap.size ≤ w3.heap.size ∧ (∀ g, (Value.slice oa i oc).ownBlock = some g → g < w3.heap.size) ∧ w.heap.size + 2 < w3.heap.size) := ⟨by have := HF3.out.r.lt; omega, by have := HF3.out.d.lt; omega, x4.lt, HK3.out.size, fun g e => (HO3.out.lt g e).2, HF3.out.d.lt⟩
           clear x4 hb4 HF3 HX3 HO3 HK3 HN3
           obtain ⟨k0, k1, k2, k3⟩ := bxc4 HX4.out
           have kl := HX4.out.lt
           have hwc := wordR_any R s2 (fun j => j = R ∨ j = w.heap.size + 2) 6 _ .k6 t1 (atI (sl (sl wh bExclusions) bExclusion) (i + 1)) bArtifact true W4 _ _ HN4.out HMY.out (.inl rfl) HF4.out.r (by have h1 := numP_len (i + 1); have h2 := HWL.out; have h3 := HIB.out; have h4 : bExclusions.length = 10 := rfl; have h5 : bExclusion.length = 9 := rfl; have h6 : bArtifact.length = 10 := rfl; unfold atI sl; simp only [List.length_append, List.length_cons, List.length_nil]; omega)
           unfold nodeV at hwc
           rw [← HYA.out] at hwc
           obtain ⟨s3, hs⟩ : ∃ q, q = stp s2 (wordE t1 (atI (sl (sl wh bExclusions) bExclusion) (i + 1)) bArtifact true isPartQ) := ⟨_, rfl⟩
           rw [← hs] at hwc
           have HEK3 : Hid (T = stp s3 (eachE exclE (sl (sl wh bExclusions) bExclusion) (K.drop (i + 1)) (i + 1))) := by
            show _ = _
            rw [HEK2.out, hs, stp_or (wordE_nz _ _ _ _ _)]
           clear hs HEK2
           go_wp2_with fail
           refine hwc.mono ?_
           clear hwc
           rintro e w5 ⟨rfl, hr5, hg5⟩
           have HF5 := Lib.hid (HF4.out.call hr5 hg5)
           have HI5 := Lib.hid (HI4.out.gr hg5 HB4.out.1)
           have HO5 := Lib.hid (HO4.out.keptR hg5 HQ9.out.2)
           have HK5 := Lib.hid (HK4.out.then_ hg5 (fun g e => by cases e; exact .inl (.inl rfl)))
           clear hr5 hg5 HF4 HX4 HO4 HK4 HN4 HI4 k0 k1 k2 k3 kl HYA
           obtain ⟨A, hA⟩ : ∃ A : S, A = bs (wordV t1 bArtifact) := ⟨_, rfl⟩
           have HAA := Lib.hid hA
           rw [← hA]
           clear hA
           have i0 := HI5.out.cell 0 _ rfl
           have i1 := HI5.out.cell 1 _ rfl
           have if1 := HI5.out.free 1
           have il := HI5.out.lt
           go_upto_region 30 with fail
           refine wp_world ?_
           intro W6 hW6
           have g6 : w5.grownBy W6 (some w3.heap.size) := by rw [hW6]; exact setCell_grown _ _ _ _
           have HI6 : Hid (Box W6 w3.heap.size [.string G, .string A]) := by rw [hW6]; exact HI5.out.set 1 _
           have HF6 := Lib.hid (HF5.out.row g6 (fun g e => by cases e; have := HB4.out; have := HF5.out.ne; exact ⟨by omega, by omega, by omega, HB4.out.1, by omega⟩))
           have HO6 := Lib.hid (HO5.out.kept g6 (by
            cases h : (Value.slice oa i oc).ownBlock with
            | none => exact .inl rfl
            | some g => exact .inr (fun e => by cases e; exact absurd (HB4.out.2.2.2.2.1 _ h) (Nat.lt_irrefl _))))
           have HK6 := Lib.hid (HK5.out.then_ g6 (fun g e => by cases e; exact .inr HB4.out.2.2.2.1))
           clear hW6 g6 HI5 HF5 HO5 HK5 i0 i1 if1 il
           have i0 := HI6.out.cell 0 _ rfl
           have i1 := HI6.out.cell 1 _ rfl
           have il := HI6.out.lt
           have d7 := HF6.out.d.cell 7 _ rfl
           have dl := HF6.out.d.lt
           have hln : ((K.take i).map exclV).length = i := by have := HNK.out; rw [List.length_map, List.length_take]; omega
           have HLI := Lib.hid hln
           clear hln
           have HB6 : Hid (wq.heap.size ≤ W6.heap.size ∧ w3.heap.size < W6.heap.size) := ⟨HK6.out.size, il⟩
           have HAL := fun o => (Below.refl W6.heap.size W6).alloc (Nat.le_refl _) o
           have HAL := Lib.hid HAL
           have HOA : Hid (Owns wq.heap.size 52 2 idC (W6.alloc (.cells #[.string G, .string A] 52)) (.slice oa i oc) ((K.take i).map exclV)) := HO6.out.alloc _
           have HLT9 : Hid (SliceOf 2 idC (W6.alloc (.cells #[.string G, .string A] 52)) (.slice (some ⟨W6.heap.size, 0, none⟩) 1 1) [(⟨G, A⟩ : Id)]) := sliceLit idC_len2 W6 [(⟨G, A⟩ : Id)] 52 W6.heap.size 1 rfl rfl (by unfold maxLen; simp)
           have HFD : Hid (∀ w8 : World, (W6.alloc (.cells #[.string G, .string A] 52)).grownBy w8 (Value.slice oa i oc).ownBlock → Frm3 R s3 w w.heap.size [.string (bs t.name), .slice ao t.attrs.length ac, .slice ko t.kids.length kc, .string (bs t.text)] (w.heap.size + 1) [.string ⟨#[]⟩, .string ⟨#[]⟩, .string ⟨#[]⟩, .string ⟨#[]⟩, .string ⟨#[]⟩, .int .i64 0, .int .i64 0, .slice none 0 0] (w.heap.size + 2) [.string (bs (wordV t bGroup)), .string (bs (wordV t bArtifact)), .string (bs (wordV t bVersion)), .string (bs (wordV t bType)), .string (bs (wordV t bClassifier)), .int .i64 (scopeW sw), .int .i64 (optQ ow), .slice oa i oc] w8) := fun w8 hg => (HF6.out.below (HAL.out _)).row hg (fun g e => by
            have h1 := (HO6.out.lt g e).1
            have h2 := HQ9.out
            exact ⟨by omega, by omega, by omega, by omega, by omega⟩)
           go_upto_region 31 with (at_builtin; go_loud (refine wpList_append_slice _ rfl _ _ 46 rfl wq.heap.size 52 Tryz.underlying46 info_idQ rfl (by decide) idC_len2 (.slice oa i oc) ((K.take i).map exclV) rfl HOA.out _ [(⟨G, A⟩ : Id)] rfl HLT9.out (fun y hy => by rw [List.mem_singleton.1 hy]; exact idC_one2 _) (by rw [HLI.out]; have := HIB.out; simp only [List.length_cons, List.length_nil]; omega) (by decide) (by have := HB6.out.1; show _ ≤ (W6.heap.push _).size; rw [Array.size_push]; omega) ?_; intro v8 w8 hown8 hgrow8 hloc8; obtain ⟨a8, c8, hv8⟩ := hown8.shape; rw [show ((K.take i).map exclV ++ [(⟨G, A⟩ : Id)]).length = i + 1 from by rw [List.length_append, HLI.out]; rfl] at hv8; subst hv8; have hf8 := HFD.out w8 hgrow8; have z7 := hf8.d.cell 7 _ rfl; have zf7 := hf8.d.free 7; have zl := hf8.d.lt; have HF8 := Lib.hid hf8; have HO8 := Lib.hid hown8; have HG8 := Lib.hid hgrow8; clear hown8 hgrow8 hloc8 hf8))
           refine wp_world ?_
           intro W9 hW9
           have HF9 : Hid (Frm3 R s3 w w.heap.size [.string (bs t.name), .slice ao t.attrs.length ac, .slice ko t.kids.length kc, .string (bs t.text)] (w.heap.size + 1) [.string ⟨#[]⟩, .string ⟨#[]⟩, .string ⟨#[]⟩, .string ⟨#[]⟩, .string ⟨#[]⟩, .int .i64 0, .int .i64 0, .slice none 0 0] (w.heap.size + 2) [.string (bs (wordV t bGroup)), .string (bs (wordV t bArtifact)), .string (bs (wordV t bVersion)), .string (bs (wordV t bType)), .string (bs (wordV t bClassifier)), .int .i64 (scopeW sw), .int .i64 (optQ ow), .slice a8 (i + 1) c8] W9) := by rw [hW9]; exact HF8.out.set 7 _
           have HO9 : Hid (Owns wq.heap.size 52 2 idC W9 (.slice a8 (i + 1) c8) ((K.take (i + 1)).map exclV)) := by
            rw [hW9, HTK.out, List.map_append, show [t1].map exclV = [(⟨G, A⟩ : Id)] from by rw [HGG.out, HAA.out]; rfl]
            exact HO8.out.keptR (setCell_grown _ _ _ _) (by have := HQ9.out; omega)
           have HK9 : Hid (KeptX (fun j => j = R ∨ j = w.heap.size + 2) wq W9) := by
            rw [hW9]
            exact ((HK6.out.trans (KeptX.below (HAL.out _))).then_ HG8.out (fun g e => .inr (HO6.out.lt g e).1)).then_ (setCell_grown _ _ _ _) (fun g e => by cases e; exact .inl (.inr rfl))
           clear hW9 z7 zf7 zl i0 i1 il d7 dl HF8 HO8 HG8 HFD HLT9 HOA HAL HF6 HO6 HK6 HI6
           go_wp2
           go_roundw
           case rel => exact ⟨i + 1, s3, a8, c8, HLT.out, by go_num, HF9.out, HO9.out, HK9.out, HEK3.out⟩
           case measure => simp [intOf]; have := HLT.out; omega
         · obtain rfl : i = n := by omega
           have HSE : Hid (T = st) := by show _ = _; rw [HR.out.2.2.2, HNK.out, List.drop_length]; rfl
           have HVE : Hid (exclsV t = (K.take i).map exclV) := by show _ = _; rw [HVL.out, HNK.out, List.take_length]
           have HDE := Lib.hid (HDV.out _ HVE.out)
           have HF9 := Lib.hid HR.out.1
           have HO9 := Lib.hid HR.out.2.1
           clear HR HVE HDV
           go_wp2_with (first | ((with_reducible show wpList _ _ _ (Oper.mk _ (Op.load 48 (.tmp 9)) _ _ _ _ :: _) _ _); refine wpList_load_box rfl 48 (.tmp 9) rfl (w.heap.size + 2) [.string (bs (wordV t bGroup)), .string (bs (wordV t bArtifact)), .string (bs (wordV t bVersion)), .string (bs (wordV t bType)), .string (bs (wordV t bClassifier)), .int .i64 (scopeW sw), .int .i64 (optQ ow), .slice oa i oc] rfl HF9.out.d Tryz.underlying48 rfl size_dep ?_) | ((with_reducible show wpList _ _ _ (Oper.mk none (Op.store 48 (.tmp 8) (.tmp 120)) _ _ _ _ :: _) _ _); refine wpList_store_box rfl 48 (.tmp 8) (.tmp 120) rfl (w.heap.size + 1) [.string ⟨#[]⟩, .string ⟨#[]⟩, .string ⟨#[]⟩, .string ⟨#[]⟩, .string ⟨#[]⟩, .int .i64 0, .int .i64 0, .slice none 0 0] [.string (bs (wordV t bGroup)), .string (bs (wordV t bArtifact)), .string (bs (wordV t bVersion)), .string (bs (wordV t bType)), .string (bs (wordV t bClassifier)), .int .i64 (scopeW sw), .int .i64 (optQ ow), .slice oa i oc] rfl rfl HF9.out.z rfl size_dep (by simp [Value.oneCell']) ?_; intro W10 v10 hg10; have HV10 := Lib.hid v10; have HG10 := Lib.hid hg10; clear v10 hg10))
           refine bodyPost_ret (results_cell_box rfl _ _ (w.heap.size + 1) [.string (bs (wordV t bGroup)), .string (bs (wordV t bArtifact)), .string (bs (wordV t bVersion)), .string (bs (wordV t bType)), .string (bs (wordV t bClassifier)), .int .i64 (scopeW sw), .int .i64 (optQ ow), .slice oa i oc] rfl HV10.out Tryz.underlying48 rfl size_dep) rfl ?_
           rw [HDE.out, HSE.out]
           exact ⟨_, rfl, (HO9.out.keptR HG10.out (by have := HQ9.out; omega)).base_mono (by have := HQ9.out; omega), HF9.out.r.gr HG10.out (fun e => HF9.out.ne.2.1 e.symm), HF9.out.g.andThen HG10.out (fun j e => by cases e; exact .inl (by omega))⟩

end Go.Proofs.YtbbbfjcikhpmbaaGreat
