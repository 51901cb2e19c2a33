/- The document's reader of projects: the dependencies of an element; the conditions stand in the theorem. -/
import Derived.Test.YtbbbfjcikhpmbaaGreatJA21
import Derived.IntWalk
namespace Go.Proofs.YtbbbfjcikhpmbaaGreat
open Go Go.RowKit

def DepsR (R : Nat) (s : St) (ds : List Dep) (w : World) (e : Ending) (w' : World) : Prop := ∃ v L, e = .returned v ∧ DepsOwn w.heap.size w' v ds L ∧ Box w' R [.int .i64 s.1, .string s.2] ∧ w.grownBy w' (some R)
/-- A dependency has been read; its row is not grown yet. -/
structure DepsRd (R : Nat) (s : St) (wq w : World) (rv : Value) (ds : List Dep) (L : List (Dep × Value)) (dv : Value) (D : Dep) (w' : World) : Prop where
 ex : Owns wq.heap.size 52 2 idC w' dv D.excl
 r : Box w' R [.int .i64 s.1, .string s.2]
 row : DepsOwn wq.heap.size w' rv ds L
 kq : KeptX (fun j => j = R) wq w'
 g : w.grownBy w' (some R)
theorem DepsRd.later {R : Nat} {s : St} {wq w w' w1 : World} {rv dv : Value} {ds : List Dep} {L : List (Dep × Value)} {D : Dep} (h : DepsRd R s wq w rv ds L dv D w') (hb : Below w'.heap.size w' w1) : DepsRd R s wq w rv ds L dv D w1 :=
 ⟨h.ex.below hb, h.r.below hb h.r.lt, h.row.below hb, h.kq.trans (KeptX.below hb), h.g.trans (below_gr hb)⟩
structure DepsFi (R : Nat) (s : St) (wq w : World) (rv : Value) (ds : List Dep) (L : List (Dep × Value)) (w' : World) : Prop where
 r : Box w' R [.int .i64 s.1, .string s.2]
 row : DepsOwn wq.heap.size w' rv ds L
 kq : KeptX (fun j => j = R) wq w'
 g : w.grownBy w' (some R)
theorem DepsRd.fi {R : Nat} {s : St} {wq w w' w1 : World} {rv v' dv : Value} {ds : List Dep} {L : List (Dep × Value)} {D : Dep} (h : DepsRd R s wq w rv ds L dv D w') (hq : R < wq.heap.size ∧ w.heap.size ≤ wq.heap.size) (hown : Owns wq.heap.size 48 8 depC w1 v' (L ++ [(D, dv)])) (hg : w'.grownBy w1 rv.ownBlock) : DepsFi R s wq w v' (ds ++ [D]) (L ++ [(D, dv)]) w1 := by
 have hlt : ∀ g, rv.ownBlock = some g → wq.heap.size ≤ g := fun g e => (h.row.row.lt g e).1
 refine ⟨h.r.grown hg (fun e => by have := hlt _ e.symm; omega), ⟨hown, by rw [List.map_append, h.row.are]; rfl, fun p hp => ?_⟩, h.kq.then_ hg (fun g e => .inr (hlt g e)), h.g.andThen hg (fun j e => .inl (by have := hlt j e; omega))⟩
 rcases List.mem_append.1 hp with hp | hp
 · exact (h.row.excl p hp).kept hg (own_kinds (h.row.excl p hp) h.row.row (by decide))
 · rw [List.mem_singleton.1 hp]
   exact h.ex.kept hg (own_kinds h.ex h.row.row (by decide))
theorem depE_nz (m : Bool) (t : Tr) (w : Bs) : Nz (depE m t w) := by
 have hx : Nz (exclsE t w) := by
  unfold exclsE
  refine (manyE_nz _ _ _).or ?_
  cases oneV t bExclusions with
  | none => exact .none
  | some f => exact (big_nz _ _).or (eachE_nz exclE_nz _ _ _)
 exact (wordE_nz _ _ _ _ _).or ((wordE_nz _ _ _ _ _).or ((wordE_nz _ _ _ _ _).or ((wordE_nz _ _ _ _ _).or ((wordE_nz _ _ _ _ _).or ((wordE_nz _ _ _ _ _).or ((wordE_nz _ _ _ _ _).or hx))))))
def dpUpd (R : Nat) (kn kx Y NB : S) (q1 q3 : Option Addr) (l1 q2 l3 q4 : Nat) (c : Int) (oa : Option Addr) (i oc : Nat) (D : Dep) (x0 x1 x2 x3 x4 x5 x6 x7 x8 x9 x10 x11 y12 x13 x14 x15 x16 x17 x18 x19 x20 x21 x22 x23 x24 x25 x26 x27 x28 x29 x30 x31 x32 x33 x34 x35 x36 x37 x38 x39 x40 y41 y42 y43 y44 y45 y46 y47 y48 y49 y50 y51 y52 y53 y54 x55 x56 : Value) (f0 f1 f2 f3 f4 f5 f6 f7 f8 f9 f10 f11 f12 f13 f14 : Bool) (e1 : Option Addr) (e2 : Nat) (H53 : Nat) (a8 : Option Addr) (c8 : Nat) : Act :=
 ⟨#[x0, x1, x2, x3, x4, x5, x6, x7, x8, x9, x10, x11, cond f14 (.slice a8 (i + 1) c8) y12, x13, x14, x15, x16, x17, x18, x19, x20, x21, x22, x23, x24, x25, x26, x27, x28, x29, x30, x31, x32, x33, x34, x35, x36, x37, x38, x39, x40, cond f0 (.slice oa i oc) y41, cond f1 (.pointer (some ⟨R, 0, none⟩)) y42, cond f2 (.agg #[.string kn, .slice q1 l1 q2, .slice q3 l3 q4, .string kx]) y43, cond f3 (.string Y) y44, cond f4 (.string (Y ++ ⟨#[47, 100, 101, 112, 101, 110, 100, 101, 110, 99, 121, 91]⟩)) y45, cond f5 (.int .i64 i) y46, cond f6 (.int .i64 ((i : Int) + 1)) y47, cond f7 (.string NB) y48, cond f8 (.string (Y ++ ⟨#[47, 100, 101, 112, 101, 110, 100, 101, 110, 99, 121, 91]⟩ ++ NB)) y49, cond f9 (.string (Y ++ ⟨#[47, 100, 101, 112, 101, 110, 100, 101, 110, 99, 121, 91]⟩ ++ NB ++ ⟨#[93]⟩)) y50, cond f10 (.int .i64 c) y51, cond f11 (.agg #[.string D.group, .string D.artifact, .string D.version, .string D.type, .string D.classifier, .int .i64 D.scope, .int .i64 D.opt, .slice e1 D.excl.length e2]) y52, cond f12 (.slice (some ⟨H53, 0, none⟩) 1 1) y53, cond f13 (.slice a8 (i + 1) c8) y54, x55, x56], []⟩
inductive dpJ (R : Nat) (s2 : St) (wq w : World) (kn kx Y NB : S) (q1 q3 : Option Addr) (l1 q2 l3 q4 : Nat) (c : Int) (oa : Option Addr) (i oc : Nat) (ds : List Dep) (OL : List (Dep × Value)) (D : Dep) (V : World) (x0 x1 x2 x3 x4 x5 x6 x7 x8 x9 x10 x11 y12 x13 x14 x15 x16 x17 x18 x19 x20 x21 x22 x23 x24 x25 x26 x27 x28 x29 x30 x31 x32 x33 x34 x35 x36 x37 x38 x39 x40 y41 y42 y43 y44 y45 y46 y47 y48 y49 y50 y51 y52 y53 y54 x55 x56 : Value) : Array Bool → Act → World → Prop where
 | mk (f0 f1 f2 f3 f4 f5 f6 f7 f8 f9 f10 f11 f12 f13 f14 : Bool) (e1 : Option Addr) (e2 : Nat) (H53 : Nat) (a8 : Option Addr) (c8 : Nat) (w' : World) (ch4 : Hid (f4 = true → f3 = true)) (ch6 : Hid (f6 = true → f5 = true)) (ch7 : Hid (f7 = true → f6 = true)) (ch8 : Hid (f8 = true → f4 = true ∧ f7 = true)) (ch9 : Hid (f9 = true → f8 = true)) (ch11 : Hid (f11 = true → f1 = true ∧ f2 = true ∧ f9 = true ∧ f10 = true)) (ch12 : Hid (f12 = true → f11 = true)) (ch13 : Hid (f13 = true → f0 = true ∧ f12 = true)) (ch14 : Hid (f14 = true → f13 = true)) (hB : (f11 = false → Below V.heap.size V w')) (rd : (f11 = true → f13 = false → DepsRd R s2 wq w (.slice oa i oc) ds OL (.slice e1 D.excl.length e2) D w')) (r53 : (f12 = true → f13 = false → SliceOf 8 depC w' (.slice (some ⟨H53, 0, none⟩) 1 1) [((D, .slice e1 D.excl.length e2) : Dep × Value)])) (rf : (f13 = true → DepsFi R s2 wq w (.slice a8 (i + 1) c8) (ds ++ [D]) (OL ++ [((D, .slice e1 D.excl.length e2) : Dep × Value)]) w')) : dpJ R s2 wq w kn kx Y NB q1 q3 l1 q2 l3 q4 c oa i oc ds OL D V x0 x1 x2 x3 x4 x5 x6 x7 x8 x9 x10 x11 y12 x13 x14 x15 x16 x17 x18 x19 x20 x21 x22 x23 x24 x25 x26 x27 x28 x29 x30 x31 x32 x33 x34 x35 x36 x37 x38 x39 x40 y41 y42 y43 y44 y45 y46 y47 y48 y49 y50 y51 y52 y53 y54 x55 x56 #[f0, f1, f2, f3, f4, f5, f6, f7, f8, f9, f10, f11, f12, f13, f14] (dpUpd R kn kx Y NB q1 q3 l1 q2 l3 q4 c oa i oc D x0 x1 x2 x3 x4 x5 x6 x7 x8 x9 x10 x11 y12 x13 x14 x15 x16 x17 x18 x19 x20 x21 x22 x23 x24 x25 x26 x27 x28 x29 x30 x31 x32 x33 x34 x35 x36 x37 x38 x39 x40 y41 y42 y43 y44 y45 y46 y47 y48 y49 y50 y51 y52 y53 y54 x55 x56 f0 f1 f2 f3 f4 f5 f6 f7 f8 f9 f10 f11 f12 f13 f14 e1 e2 H53 a8 c8) w'
theorem dpJ.at {R : Nat} {s2 : St} {wq w : World} {kn kx Y NB : S} {q1 q3 : Option Addr} {l1 q2 l3 q4 : Nat} {c : Int} {oa : Option Addr} {i oc : Nat} {ds : List Dep} {OL : List (Dep × Value)} {D : Dep} {V : World} {x0 x1 x2 x3 x4 x5 x6 x7 x8 x9 x10 x11 y12 x13 x14 x15 x16 x17 x18 x19 x20 x21 x22 x23 x24 x25 x26 x27 x28 x29 x30 x31 x32 x33 x34 x35 x36 x37 x38 x39 x40 y41 y42 y43 y44 y45 y46 y47 y48 y49 y50 y51 y52 y53 y54 x55 x56 : Value} {listed : Array Bool} {atx : Act} {w' : World} (f0 f1 f2 f3 f4 f5 f6 f7 f8 f9 f10 f11 f12 f13 f14 : Bool) (e1 : Option Addr) (e2 : Nat) (H53 : Nat) (a8 : Option Addr) (c8 : Nat) (hl : listed = #[f0, f1, f2, f3, f4, f5, f6, f7, f8, f9, f10, f11, f12, f13, f14]) (ha : atx = dpUpd R kn kx Y NB q1 q3 l1 q2 l3 q4 c oa i oc D x0 x1 x2 x3 x4 x5 x6 x7 x8 x9 x10 x11 y12 x13 x14 x15 x16 x17 x18 x19 x20 x21 x22 x23 x24 x25 x26 x27 x28 x29 x30 x31 x32 x33 x34 x35 x36 x37 x38 x39 x40 y41 y42 y43 y44 y45 y46 y47 y48 y49 y50 y51 y52 y53 y54 x55 x56 f0 f1 f2 f3 f4 f5 f6 f7 f8 f9 f10 f11 f12 f13 f14 e1 e2 H53 a8 c8) (ch4 : Hid (f4 = true → f3 = true)) (ch6 : Hid (f6 = true → f5 = true)) (ch7 : Hid (f7 = true → f6 = true)) (ch8 : Hid (f8 = true → f4 = true ∧ f7 = true)) (ch9 : Hid (f9 = true → f8 = true)) (ch11 : Hid (f11 = true → f1 = true ∧ f2 = true ∧ f9 = true ∧ f10 = true)) (ch12 : Hid (f12 = true → f11 = true)) (ch13 : Hid (f13 = true → f0 = true ∧ f12 = true)) (ch14 : Hid (f14 = true → f13 = true)) (hB : (f11 = false → Below V.heap.size V w')) (rd : (f11 = true → f13 = false → DepsRd R s2 wq w (.slice oa i oc) ds OL (.slice e1 D.excl.length e2) D w')) (r53 : (f12 = true → f13 = false → SliceOf 8 depC w' (.slice (some ⟨H53, 0, none⟩) 1 1) [((D, .slice e1 D.excl.length e2) : Dep × Value)])) (rf : (f13 = true → DepsFi R s2 wq w (.slice a8 (i + 1) c8) (ds ++ [D]) (OL ++ [((D, .slice e1 D.excl.length e2) : Dep × Value)]) w')) : dpJ R s2 wq w kn kx Y NB q1 q3 l1 q2 l3 q4 c oa i oc ds OL D V x0 x1 x2 x3 x4 x5 x6 x7 x8 x9 x10 x11 y12 x13 x14 x15 x16 x17 x18 x19 x20 x21 x22 x23 x24 x25 x26 x27 x28 x29 x30 x31 x32 x33 x34 x35 x36 x37 x38 x39 x40 y41 y42 y43 y44 y45 y46 y47 y48 y49 y50 y51 y52 y53 y54 x55 x56 listed atx w' := by
 subst hl ha
 exact .mk f0 f1 f2 f3 f4 f5 f6 f7 f8 f9 f10 f11 f12 f13 f14 e1 e2 H53 a8 c8 w' ch4 ch6 ch7 ch8 ch9 ch11 ch12 ch13 ch14 hB rd r53 rf
set_option maxRecDepth 100000 in
set_option maxHeartbeats 32000000 in
theorem depsR_any (R : Nat) (s0 : St) (X : Nat → Prop) (m : Bool) (c : Int) (hc : KindIs c (isScopeQ m)) (t : Tr) (wh : Bs) (w : World) (av kv : Value) (ht : NodeX X w t av kv) (hm : MildW t) (hR : X R) (hB : Box w R [.int .i64 s0.1, .string s0.2]) (hl : wh.length ≤ 1000000000) :
    Calls Tryz.prog 47 #[.pointer (some ⟨R, 0, none⟩), nodeV t av kv, .string (bs wh), .int .i64 c] w (DepsR R (stp s0 (depsE m t wh)) (depsV t) w) := by
 obtain ⟨ao, ac, ko, kc, rfl, rfl, hal, -⟩ := ht.shape
 obtain ⟨T, hT⟩ : ∃ T, T = stp s0 (depsE m t wh) := ⟨_, rfl⟩
 have HS0 : Hid (T = stp s0 ((manyE t wh bDependencies).or (match oneV t bDependencies with
  | none => none
  | some f => listE (depE m) f (sl wh bDependencies) bDependency))) := hT
 have HVX : Hid (depsV t = match oneV t bDependencies with
  | none => []
  | some f => (kidsF bDependency f.kids).map depV) := rfl
 rw [← hT]
 obtain ⟨DV, hDV⟩ : ∃ DV, DV = depsV t := ⟨_, rfl⟩
 rw [← hDV] at HVX ⊢
 have HT := Lib.hid ht.freshX
 have HM := Lib.hid hm
 have HRX : Hid (X R ∨ w.heap.size ≤ R) := .inl hR
 have HWL : Hid (wh.length ≤ 1000000000) := hl
 have HKC := Lib.hid hc
 have HRL : Hid (R < w.heap.size) := hB.lt
 have HB := Lib.hid hB
 obtain ⟨U, hU⟩ : ∃ U : S, U = bs wh := ⟨_, rfl⟩
 have HU := Lib.hid hU
 have hzU : U.size = wh.length := by rw [hU, bs_size]
 have hs1 : ¬ 9223372036854775807 < U.size + 13 := by omega
 obtain ⟨Y, hY⟩ : ∃ Y : S, Y = bs (sl wh bDependencies) := ⟨_, rfl⟩
 have HY := Lib.hid hY
 have hUY : U ++ ⟨#[47, 100, 101, 112, 101, 110, 100, 101, 110, 99, 105, 101, 115]⟩ = Y := by rw [hU, hY]; show bs wh ++ bs (47 :: bDependencies) = _; rw [bs_append]; rfl
 rw [← hU]
 unfold nodeV
 clear ht hm hR hl hc hB hT hU hzU hDV hY
 go_enter Tryz.func47, Tryz.ntmps47
 go_upto_region 1 with fail
 refine wp_world ?_
 intro W hW
 have x1 : Box W w.heap.size [.string (bs t.name), .slice ao t.attrs.length ac, .slice ko t.kids.length kc, .string (bs t.text)] := by rw [hW]; exact Box.new w [.string (bs t.name), .slice ao t.attrs.length ac, .slice ko t.kids.length kc, .string (bs t.text)] _ _ rfl
 have hb : Below w.heap.size w W := by rw [hW]; exact (Below.refl _ w).alloc (Nat.le_refl _) _
 clear hW
 have HR0 := Lib.hid (HB.out.below hb HRL.out)
 have HTW := Lib.hid (HT.out.later hb)
 have HG0 : Hid (w.grownBy W (some R)) := below_gr hb
 obtain ⟨a0, a1, a2, a3⟩ := bxc4 x1
 have al := x1.lt
 clear x1 hb HB HT
 have hon := oneR_any R s0 (fun j => X j ∨ w.heap.size ≤ j) t wh bDependencies W _ _ HTW.out HRX.out HR0.out HM.out.kl (by have h1 : bDependencies.length = 12 := rfl; have := HWL.out; omega)
 unfold nodeV at hon
 rw [← HU.out] at hon
 go_wp2_with fail
 refine hon.mono ?_
 clear hon
 intro e w8 hO
 obtain ⟨v8, rfl, hv8, hr8, hg8⟩ := hO
 obtain ⟨s8, hs⟩ : ∃ q, q = stp s0 (manyE t wh bDependencies) := ⟨_, rfl⟩
 rw [← hs] at hr8
 have HR8 := Lib.hid hr8
 have HG8 := Lib.hid (HG0.out.trans hg8)
 have HS8 : Hid (T = stp s8 (match oneV t bDependencies with
  | none => none
  | some f => listE (depE m) f (sl wh bDependencies) bDependency)) := by show _ = _; rw [HS0.out, ← stp_or (manyE_nz _ _ _), ← hs]
 have HMX : Hid (∀ k, oneV t bDependencies = some k → MildW k) := fun k h => HM.out.one h
 clear hs hr8 hg8 HG0 HS0 a0 a1 a2 a3 al HTW HR0
 cases hO : oneV t bDependencies with
 | none =>
  rw [hO] at hv8 HS8 HVX
  simp only [OneP] at hv8
  subst hv8
  have HDE : Hid (DV = []) := HVX.out
  have HSE : Hid (T = s8) := HS8.out
  clear hO HMX HVX HS8
  have HBX : Hid (∀ o, Box (w8.alloc o) R [.int .i64 s8.1, .string s8.2] ∧ w.grownBy (w8.alloc o) (some R)) := fun o => ⟨HR8.out.alloc o, HG8.out.trans (below_gr ((Below.refl _ _).alloc (Nat.le_refl _) _))⟩
  go_wp2
  go_ret
  refine ⟨_, [], rfl, ?_, ?_, (HBX.out _).2⟩
  · rw [HDE.out]; exact DepsOwn.nil _ _
  · rw [HSE.out]; exact (HBX.out _).1
 | some k =>
  rw [hO] at hv8 HS8 HVX
  have HMK := Lib.hid (HMX.out k hO)
  obtain ⟨kav, kkv, rfl, hnk⟩ := hv8
  obtain ⟨p1, p2, p3, p4, rfl, rfl, -, -⟩ := hnk.shape
  have HNK := Lib.hid hnk
  clear hO HMX hnk
  unfold nodeV
  go_upto_region 5 with fail
  refine wp_world ?_
  intro W9 hW9
  have x9 : Box W9 w8.heap.size [.string (bs k.name), .slice p1 k.attrs.length p2, .slice p3 k.kids.length p4, .string (bs k.text)] := by rw [hW9]; exact Box.new w8 [.string (bs k.name), .slice p1 k.attrs.length p2, .slice p3 k.kids.length p4, .string (bs k.text)] _ _ rfl
  have hb9 : Below w8.heap.size w8 W9 := by rw [hW9]; exact (Below.refl _ _).alloc (Nat.le_refl _) _
  clear hW9
  have HR9 := Lib.hid (HR8.out.below hb9 HR8.out.lt)
  have HG9 := Lib.hid (HG8.out.trans (below_gr hb9))
  have HNK9 := Lib.hid (HNK.out.later hb9)
  have HS9 : Hid (w.heap.size ≤ W9.heap.size ∧ R < W9.heap.size) := ⟨HG9.out.size, HR9.out.lt⟩
  obtain ⟨k0, k1, k2, k3⟩ := bxc4 x9
  have kl := x9.lt
  clear x9 hb9 HR8 HG8 HNK
  obtain ⟨K, hK⟩ : ∃ K, K = kidsF bDependency k.kids := ⟨_, rfl⟩
  have HKM : Hid (∀ y ∈ K, MildW y) := fun y hy => HMK.out.kids y (kidsF_sub (by rw [← hK]; exact hy))
  have HSL : Hid (T = stp s8 ((bigE K.length (sl wh bDependencies)).or (eachE (depE m) (sl (sl wh bDependencies) bDependency) K 0))) := by show _ = _; rw [hK]; exact HS8.out
  have HVL : Hid (DV = K.map depV) := by show _ = _; rw [hK]; exact HVX.out
  have HKL : Hid (K.length ≤ 100000) := by show _ ≤ _; rw [hK]; exact Nat.le_trans (List.length_filter_le _ _) HMK.out.kl
  have hkc := refKids_x (X := fun j => X j ∨ w.heap.size ≤ j) k bDependency W9 _ _ HNK9.out HMK.out.kl
  unfold nodeV at hkc
  rw [← hK] at hkc
  clear hK HS8 HVX HMK HNK9
  go_wp2_with fail
  refine hkc.mono ?_
  clear hkc
  rintro e w10 ⟨v, L, rfl, hL, hco⟩
  obtain ⟨la, lc, rfl⟩ := hco.own.shape
  have HRA := Lib.hid (HR9.out.below hco.below HS9.out.2)
  have HGA := Lib.hid (HG9.out.trans (below_gr hco.below))
  have HOW := Lib.hid hco.own
  have HND := Lib.hid hco.nodes
  have hLK : L.length = K.length := by rw [← hL]; simp
  have HLK := Lib.hid hL
  rw [hLK] at HOW ⊢
  have HLN := Lib.hid hLK
  clear hL hco hLK HR9 HG9 k0 k1 k2 k3 kl
  have hkl : K.length ≤ 100000 := HKL.out
  obtain ⟨n, hn⟩ : ∃ n, n = K.length := ⟨_, rfl⟩
  have HNK := Lib.hid hn
  rw [← hn] at HOW ⊢ hkl HLN HSL
  clear hn
  go_upto_if 30 with fail
  go_cut [] from 28 to 33 (fun wx => Hid (Box wx R [.int .i64 (stp s8 (bigE n (sl wh bDependencies))).1, .string (stp s8 (bigE n (sl wh bDependencies))).2] ∧ w10.grownBy wx (some R)))
  case first =>
   by_cases hb : 1024 < n
   · have hbI : (1024 : Int) < (n : Int) := by omega
     have HE : Hid (bigE n (sl wh bDependencies) = some (2, sl wh bDependencies)) := if_pos hb
     clear hb
     go_wp2_with fail
     refine (failR_some R s8 (2, sl wh bDependencies) _ w10 HRA.out HY.out).mono ?_
     rintro e w11 ⟨rfl, hr, hg⟩
     have HR11 := Lib.hid hr
     have HG11 := Lib.hid hg
     clear hr hg
     go_wp2
     go_meet
     case rel => exact ⟨by rw [HE.out]; exact HR11.out, HG11.out⟩
   · have hbI : ¬ (1024 : Int) < (n : Int) := by omega
     have HE : Hid (bigE n (sl wh bDependencies) = none) := if_neg hb
     clear hb
     go_wp2
     go_meet
     case rel => exact ⟨by rw [HE.out]; exact HRA.out, World.grownBy.refl _ _⟩
  case rest =>
   obtain ⟨wq, rfl⟩ : ∃ wq : World, wq = wc := ⟨_, rfl⟩
   obtain ⟨s9, hs9⟩ : ∃ q, q = stp s8 (bigE n (sl wh bDependencies)) := ⟨_, rfl⟩
   rw [← hs9] at hcut
   have HS9L : Hid (T = stp s9 (eachE (depE m) (sl (sl wh bDependencies) bDependency) K 0)) := by show _ = _; rw [HSL.out, ← stp_or (big_nz _ _), ← hs9]
   have HRQ := Lib.hid hcut.out.1
   have HGQ := Lib.hid (HGA.out.trans hcut.out.2)
   have HKS : Hid (SliceX 4 trC (fun j => j = R) wq (.slice la n lc) L) := ((HOW.out.keptR hcut.out.2 (by exact HS9.out.2)).toX trC_len (fun g hg hx => by have := (HOW.out.lt g hg).1; have := HS9.out; omega))
   have HKN : Hid (∀ y ∈ L, NodeX (fun j => j = R) wq y.1 y.2.1 y.2.2) := fun y hy => ((HND.out y hy).gr hcut.out.2 (.inl HRX.out)).keep (KeptX.refl _ _) (fun j _ e => by rw [e]; exact .inl HRX.out)
   have HQ9 : Hid (R < wq.heap.size ∧ w.heap.size ≤ wq.heap.size) := ⟨HRQ.out.lt, HGQ.out.size⟩
   clear hcut HOW HND HRA HGA HSL hs9 HS9
   go_wp2
   go_loopw [12, 36] (fun ov iv wr => ∃ (i : Nat) (st : St) (oa : Option Addr) (oc : Nat) (OL : List (Dep × Value)), i ≤ n ∧ iv = .int .i64 i ∧ ov = .slice oa i oc ∧ Hid (DepsFi R st wq w (.slice oa i oc) ((K.take i).map depV) OL wr ∧ T = stp st (eachE (depE m) (sl (sl wh bDependencies) bDependency) (K.drop i) i))) (fun _ iv _ => n - (intOf iv).toNat)
   case atStart => exact ⟨0, s9, none, 0, [], Nat.zero_le _, rfl, rfl, ⟨HRQ.out, DepsOwn.nil _ _, KeptX.refl _ _, HGQ.out⟩, HS9L.out⟩
   case round =>
    obtain ⟨i, st, oa, oc, OL, hi, rfl, rfl, HR⟩ := hrel
    clear HRQ HGQ HS9L
    by_cases hlt : i < n
    rotate_left
    · obtain rfl : i = n := by omega
      have HSE : Hid (T = st) := by show _ = _; rw [HR.out.2, HNK.out, List.drop_length]; rfl
      have HVE : Hid (DV = (K.take i).map depV) := by show _ = _; rw [HVL.out, HNK.out, List.take_length]
      go_wp2
      go_ret
      refine ⟨_, OL, rfl, ?_, ?_, HR.out.1.g⟩
      · rw [HVE.out]; exact HR.out.1.row.base_mono HQ9.out.2
      · rw [HSE.out]; exact HR.out.1.r
    · have hlI : (i : Int) < (n : Int) := by omega
      have hiL : i < L.length := by have := HLN.out; omega
      have hiK : i < K.length := by have := HNK.out; omega
      have hyk : K[i]'hiK = (L[i]'hiL).1 := by simp only [← HLK.out, List.getElem_map]
      have HTK : Hid (K.take (i + 1) = K.take i ++ [(L[i]'hiL).1]) := by show _ = _; rw [List.take_succ_eq_append_getElem hiK, hyk]
      have HEK : Hid (T = stp st ((depE m (L[i]'hiL).1 (atI (sl (sl wh bDependencies) bDependency) (i + 1))).or (eachE (depE m) (sl (sl wh bDependencies) bDependency) (K.drop (i + 1)) (i + 1)))) := by show _ = _; rw [HR.out.2, eachE_at hiK, hyk]
      have HMY := Lib.hid (HKM.out (L[i]'hiL).1 (by rw [← hyk]; exact List.getElem_mem hiK))
      have HLT := Lib.hid hlt
      have HIB : Hid (i ≤ 100000) := by show _ ≤ _; omega
      have HLL : Hid (OL.length = i) := by show _ = _; have h1 := congrArg List.length HR.out.1.row.are; have := HNK.out; rw [List.length_map, List.length_map, List.length_take] at h1; omega
      obtain ⟨g, o, q1, q2, q3, q4, hla, hg, c0, c1, c2, c3, hn⟩ := nodesQ (X := fun j => j = R) ((HKS.out.keep HR.out.1.kq (fun _ _ h => h)).slice) (fun y hy => (HKN.out y hy).keep HR.out.1.kq (fun _ _ h => h)) i hiL
      subst hla
      have HNN := Lib.hid hn
      clear hn hyk hiK
      generalize L[i] = y at *
      clear hiL
      obtain ⟨t1, ya, yk⟩ := y
      simp only at c0 c1 c2 c3 HNN HTK HEK HMY
      obtain ⟨kn, hkn⟩ : ∃ x, x = bs t1.name := ⟨_, rfl⟩
      obtain ⟨kx, hkx⟩ : ∃ x, x = bs t1.text := ⟨_, rfl⟩
      have HKE : Hid (kn = bs t1.name ∧ kx = bs t1.text) := ⟨hkn, hkx⟩
      rw [← hkn] at c0
      rw [← hkx] at c3
      clear hkn hkx
      generalize t1.attrs.length = l1 at *
      generalize t1.kids.length = l3 at *
      go_upto_region 12 with fail
      refine wp_world ?_
      intro V hV
      have x1 : Box V wr.heap.size [.string kn, .slice q1 l1 q2, .slice q3 l3 q4, .string kx] := by rw [hV]; exact Box.new wr [.string kn, .slice q1 l1 q2, .slice q3 l3 q4, .string kx] _ _ rfl
      have hb1 : Below wr.heap.size wr V := by rw [hV]; exact (Below.refl _ _).alloc (Nat.le_refl _) _
      clear hV c0 c1 c2 c3 hg
      have HK1 := Lib.hid x1
      have HF1 : Hid (DepsFi R st wq w (.slice oa i oc) ((K.take i).map depV) OL V) := ⟨HR.out.1.r.below hb1 HR.out.1.r.lt, HR.out.1.row.below hb1, HR.out.1.kq.trans (KeptX.below hb1), HR.out.1.g.trans (below_gr hb1)⟩
      have HN1 := Lib.hid (HNN.out.later hb1)
      clear x1 hb1 HR HNN
      obtain ⟨NB, hNB⟩ : ∃ NB : S, NB = bs (numP (i + 1)) := ⟨_, rfl⟩
      have HNZ : Hid (NB.size ≤ 100002) := by show _ ≤ _; rw [hNB, bs_size]; have h1 := numP_len (i + 1); have h2 := HIB.out; omega
      have HNU : Hid (∀ W, Calls Tryz.prog 28 #[.int .i64 ((i : Int) + 1)] W fun e w' => e = .returned (.string NB) ∧ Below W.heap.size W w') := fun W => by
       have hnum := refNumber_any (i + 1) (by have := HIB.out; omega) W
       rwa [show (((i + 1 : Nat)) : Int) = (i : Int) + 1 from by omega, ← hNB] at hnum
      have HYS : Hid (Y.size ≤ 2000000000) := by show _ ≤ _; rw [HY.out, bs_size]; have := HWL.out; unfold sl; simp only [List.length_append, List.length_cons]; have h1 : bDependencies.length = 12 := rfl; omega
      have HZ1 : Hid (¬ 9223372036854775807 < Y.size + 12) := by show ¬ _; have := HYS.out; omega
      have HZ2 : Hid (¬ 9223372036854775807 < Y.size + 12 + NB.size) := by show ¬ _; have := HYS.out; have := HNZ.out; omega
      have HZ3 : Hid (¬ 9223372036854775807 < Y.size + 12 + NB.size + 1) := by show ¬ _; have := HYS.out; have := HNZ.out; omega
      have HYA : Hid (Y ++ ⟨#[47, 100, 101, 112, 101, 110, 100, 101, 110, 99, 121, 91]⟩ ++ NB ++ ⟨#[93]⟩ = bs (atI (sl (sl wh bDependencies) bDependency) (i + 1))) := by
       show _ = _
       rw [HY.out, hNB]
       show bs (sl wh bDependencies) ++ bs ([47] ++ bDependency ++ [91]) ++ bs (numP (i + 1)) ++ bs [93] = _
       rw [bs_append, bs_append, bs_append]
       unfold atI sl
       simp
      clear hNB
      obtain ⟨s2, hs2⟩ : ∃ q, q = stp st (depE m t1 (atI (sl (sl wh bDependencies) bDependency) (i + 1))) := ⟨_, rfl⟩
      have HEK2 : Hid (T = stp s2 (eachE (depE m) (sl (sl wh bDependencies) bDependency) (K.drop (i + 1)) (i + 1))) := by show _ = _; rw [HEK.out, hs2, stp_or (depE_nz _ _ _)]
      obtain ⟨D, hD⟩ : ∃ D, D = depV t1 := ⟨_, rfl⟩
      obtain ⟨ds, hds⟩ : ∃ ds, ds = (K.take i).map depV := ⟨_, rfl⟩
      have HDS : Hid ((K.take (i + 1)).map depV = ds ++ [D]) := by show _ = _; rw [HTK.out, List.map_append, hds, hD]; rfl
      rw [← hds] at HF1
      have HDP : Hid (∀ W, Below V.heap.size V W → Calls Tryz.prog 95 #[.pointer (some ⟨R, 0, none⟩), .agg #[.string kn, .slice q1 l1 q2, .slice q3 l3 q4, .string kx], .string (Y ++ ⟨#[47, 100, 101, 112, 101, 110, 100, 101, 110, 99, 121, 91]⟩ ++ NB ++ ⟨#[93]⟩), .int .i64 c] W fun e w1 => ∃ e1 e2, e = .returned (.agg #[.string D.group, .string D.artifact, .string D.version, .string D.type, .string D.classifier, .int .i64 D.scope, .int .i64 D.opt, .slice e1 D.excl.length e2]) ∧ DepsRd R s2 wq w (.slice oa i oc) ds OL (.slice e1 D.excl.length e2) D w1) := fun W hW => by
       have h1 := depR_any R st (fun j => j = R) m c HKC.out t1 (atI (sl (sl wh bDependencies) bDependency) (i + 1)) W _ _ (HN1.out.later hW) HMY.out rfl (HF1.out.r.below hW HF1.out.r.lt) (by have h1 := numP_len (i + 1); have h2 := HWL.out; have h3 := HIB.out; have h4 : bDependencies.length = 12 := rfl; have h5 : bDependency.length = 10 := rfl; unfold atI sl; simp only [List.length_append, List.length_cons, List.length_nil]; omega)
       unfold nodeV at h1
       rw [← HYA.out, ← HKE.out.1, ← HKE.out.2] at h1
       refine h1.mono fun e w1 hO => ?_
       obtain ⟨v, rfl, hx, hr, hg⟩ := hO
       obtain ⟨e1, e2, rfl⟩ := hx.shape
       refine ⟨e1, e2, by rw [hD]; rfl, ?_⟩
       rw [hD]
       exact ⟨hx.base_mono (Nat.le_trans HF1.out.kq.size hW.size), by rw [hs2]; exact hr, (HF1.out.row.below hW).keptR hg HQ9.out.1, (HF1.out.kq.trans (KeptX.below hW)).then_ hg (fun g e => by cases e; exact .inl rfl), (HF1.out.g.trans (below_gr hW)).trans hg⟩
      clear hs2 HEK hD hds
      refine wp_region_flags0 (dpJ R s2 wq w kn kx Y NB q1 q3 l1 q2 l3 q4 c oa i oc ds OL D V _ _ _ _ _ _ _ _ _ _ _ _ _ _ _ _ _ _ _ _ _ _ _ _ _ _ _ _ _ _ _ _ _ _ _ _ _ _ _ _ _ _ _ _ _ _ _ _ _ _ _ _ _ _ _ _ _) (by kernel_rfl) 15 rfl (by kernel_rfl) (dpJ.at false false false false false false false false false false false false false false false (none) (0) (0) (none) (0) rfl (by unfold dpUpd; rfl) ?i0 ?i1 ?i2 ?i3 ?i4 ?i5 ?i6 ?i7 ?i8 ?i9 ?i10 ?i11 ?i12) ?fin ?step
      case i0 => exact Lib.hid (by simp)
      case i1 => exact Lib.hid (by simp)
      case i2 => exact Lib.hid (by simp)
      case i3 => exact Lib.hid (by simp)
      case i4 => exact Lib.hid (by simp)
      case i5 => exact Lib.hid (by simp)
      case i6 => exact Lib.hid (by simp)
      case i7 => exact Lib.hid (by simp)
      case i8 => exact Lib.hid (by simp)
      case i9 => exact fun h0 => belowN (Below.refl _ _) 1
      case i10 => exact by simp
      case i11 => exact by simp
      case i12 => exact by simp
      case fin =>
       intro a' w' hJ
       generalize hl : Array.replicate 15 true = Lz at hJ
       cases hJ with
       | mk f0 f1 f2 f3 f4 f5 f6 f7 f8 f9 f10 f11 f12 f13 f14 e1 e2 H53 a8 c8 _ ch4 ch6 ch7 ch8 ch9 ch11 ch12 ch13 ch14 hB rd r53 rf =>
        have hl' : [true, true, true, true, true, true, true, true, true, true, true, true, true, true, true] = [f0, f1, f2, f3, f4, f5, f6, f7, f8, f9, f10, f11, f12, f13, f14] := congrArg Array.toList hl
        simp only [List.cons.injEq, and_true] at hl'
        obtain ⟨rfl, rfl, rfl, rfl, rfl, rfl, rfl, rfl, rfl, rfl, rfl, rfl, rfl, rfl, rfl⟩ := hl'
        clear hl
        unfold dpUpd
        simp only [cond_true]
        have HFN := Lib.hid (rf rfl)
        clear ch4 ch6 ch7 ch8 ch9 ch11 ch12 ch13 ch14 hB rd r53 rf
        go_wp2
        go_roundw
        case rel => exact ⟨i + 1, s2, a8, c8, OL ++ [((D, .slice e1 D.excl.length e2) : Dep × Value)], HLT.out, by go_num, rfl, by rw [HDS.out]; exact HFN.out, HEK2.out⟩
        case measure => simp [intOf]; have := HLT.out; omega
      case step =>
       intro listed a' w' hJ i hi
       cases hJ with
       | mk f0 f1 f2 f3 f4 f5 f6 f7 f8 f9 f10 f11 f12 f13 f14 e1 e2 H53 a8 c8 _ ch4 ch6 ch7 ch8 ch9 ch11 ch12 ch13 ch14 hB rd r53 rf =>
        rw [mem_ready] at hi
        obtain ⟨hu, o, ho, ha⟩ := hi
        have hi8 : i < 15 := (Array.getElem?_eq_some_iff.1 ho).1
        rcases (by omega : i = 0 ∨ i = 1 ∨ i = 2 ∨ i = 3 ∨ i = 4 ∨ i = 5 ∨ i = 6 ∨ i = 7 ∨ i = 8 ∨ i = 9 ∨ i = 10 ∨ i = 11 ∨ i = 12 ∨ i = 13 ∨ i = 14) with rfl | rfl | rfl | rfl | rfl | rfl | rfl | rfl | rfl | rfl | rfl | rfl | rfl | rfl | rfl
        · have ho' := ho
          simp at hu ho
          subst hu ho
          clear ha
          have e13 : f13 = false := Bool.eq_false_iff.2 fun h => Bool.false_ne_true ((ch13.out h).1)
          have e14 : f14 = false := Bool.eq_false_iff.2 fun h => Bool.false_ne_true ((ch13.out (ch14.out h)).1)
          subst e13 e14
          refine .inl ?_
          unfold dpUpd Oper.wp
          go_simp
          exact dpJ.at true f1 f2 f3 f4 f5 f6 f7 f8 f9 f10 f11 f12 false false (e1) (e2) (H53) (a8) (c8) rfl rfl (ch4) (ch6) (ch7) (ch8) (ch9) (ch11) (ch12) (Lib.hid (by simp)) (Lib.hid (by simp)) (hB) (rd) (r53) (by simp)
        · have ho' := ho
          simp at hu ho
          subst hu ho
          clear ha
          have e11 : f11 = false := Bool.eq_false_iff.2 fun h => Bool.false_ne_true ((ch11.out h).1)
          have e12 : f12 = false := Bool.eq_false_iff.2 fun h => Bool.false_ne_true ((ch11.out (ch12.out h)).1)
          have e13 : f13 = false := Bool.eq_false_iff.2 fun h => Bool.false_ne_true ((ch11.out (ch12.out (ch13.out h).2)).1)
          have e14 : f14 = false := Bool.eq_false_iff.2 fun h => Bool.false_ne_true ((ch11.out (ch12.out (ch13.out (ch14.out h)).2)).1)
          subst e11 e12 e13 e14
          refine .inl ?_
          unfold dpUpd Oper.wp
          go_simp
          exact dpJ.at f0 true f2 f3 f4 f5 f6 f7 f8 f9 f10 false false false false (e1) (e2) (H53) (a8) (c8) rfl rfl (ch4) (ch6) (ch7) (ch8) (ch9) (Lib.hid (by simp)) (Lib.hid (by simp)) (Lib.hid (by simp)) (Lib.hid (by simp)) (hB) (by simp) (by simp) (by simp)
        · have ho' := ho
          simp at hu ho
          subst hu ho
          clear ha
          have e11 : f11 = false := Bool.eq_false_iff.2 fun h => Bool.false_ne_true ((ch11.out h).2.1)
          have e12 : f12 = false := Bool.eq_false_iff.2 fun h => Bool.false_ne_true ((ch11.out (ch12.out h)).2.1)
          have e13 : f13 = false := Bool.eq_false_iff.2 fun h => Bool.false_ne_true ((ch11.out (ch12.out (ch13.out h).2)).2.1)
          have e14 : f14 = false := Bool.eq_false_iff.2 fun h => Bool.false_ne_true ((ch11.out (ch12.out (ch13.out (ch14.out h)).2)).2.1)
          subst e11 e12 e13 e14
          have hB1 := hB rfl
          have z0 := (hB1.cell (p := ⟨wr.heap.size, 0, none⟩) (by exact HK1.out.lt)).trans (HK1.out.cell 0 _ rfl)
          have z1 := (hB1.cell (p := ⟨wr.heap.size, 1, none⟩) (by exact HK1.out.lt)).trans (HK1.out.cell 1 _ rfl)
          have z2 := (hB1.cell (p := ⟨wr.heap.size, 2, none⟩) (by exact HK1.out.lt)).trans (HK1.out.cell 2 _ rfl)
          have z3 := (hB1.cell (p := ⟨wr.heap.size, 3, none⟩) (by exact HK1.out.lt)).trans (HK1.out.cell 3 _ rfl)
          have zl := Nat.lt_of_lt_of_le HK1.out.lt hB1.size
          refine .inl ?_
          unfold dpUpd Oper.wp
          go_simp
          exact dpJ.at f0 f1 true f3 f4 f5 f6 f7 f8 f9 f10 false false false false (e1) (e2) (H53) (a8) (c8) rfl rfl (ch4) (ch6) (ch7) (ch8) (ch9) (Lib.hid (by simp)) (Lib.hid (by simp)) (Lib.hid (by simp)) (Lib.hid (by simp)) (hB) (by simp) (by simp) (by simp)
        · have ho' := ho
          simp at hu ho
          subst hu ho
          clear ha
          have e4 : f4 = false := Bool.eq_false_iff.2 fun h => Bool.false_ne_true ((ch4.out h))
          have e8 : f8 = false := Bool.eq_false_iff.2 fun h => Bool.false_ne_true ((ch4.out (ch8.out h).1))
          have e9 : f9 = false := Bool.eq_false_iff.2 fun h => Bool.false_ne_true ((ch4.out (ch8.out (ch9.out h)).1))
          have e11 : f11 = false := Bool.eq_false_iff.2 fun h => Bool.false_ne_true ((ch4.out (ch8.out (ch9.out (ch11.out h).2.2.1)).1))
          have e12 : f12 = false := Bool.eq_false_iff.2 fun h => Bool.false_ne_true ((ch4.out (ch8.out (ch9.out (ch11.out (ch12.out h)).2.2.1)).1))
          have e13 : f13 = false := Bool.eq_false_iff.2 fun h => Bool.false_ne_true ((ch4.out (ch8.out (ch9.out (ch11.out (ch12.out (ch13.out h).2)).2.2.1)).1))
          have e14 : f14 = false := Bool.eq_false_iff.2 fun h => Bool.false_ne_true ((ch4.out (ch8.out (ch9.out (ch11.out (ch12.out (ch13.out (ch14.out h)).2)).2.2.1)).1))
          subst e4 e8 e9 e11 e12 e13 e14
          refine .inl ?_
          unfold dpUpd Oper.wp
          go_simp
          exact dpJ.at f0 f1 f2 true false f5 f6 f7 false false f10 false false false false (e1) (e2) (H53) (a8) (c8) rfl rfl (Lib.hid (by simp)) (ch6) (ch7) (Lib.hid (by simp)) (Lib.hid (by simp)) (Lib.hid (by simp)) (Lib.hid (by simp)) (Lib.hid (by simp)) (Lib.hid (by simp)) (hB) (by simp) (by simp) (by simp)
        · have ho' := ho
          simp at hu ho
          subst hu ho
          simp [Region.binds] at ha
          obtain rfl : f3 = true := by simp only [ha]
          clear ha
          have e8 : f8 = false := Bool.eq_false_iff.2 fun h => Bool.false_ne_true ((ch8.out h).1)
          have e9 : f9 = false := Bool.eq_false_iff.2 fun h => Bool.false_ne_true ((ch8.out (ch9.out h)).1)
          have e11 : f11 = false := Bool.eq_false_iff.2 fun h => Bool.false_ne_true ((ch8.out (ch9.out (ch11.out h).2.2.1)).1)
          have e12 : f12 = false := Bool.eq_false_iff.2 fun h => Bool.false_ne_true ((ch8.out (ch9.out (ch11.out (ch12.out h)).2.2.1)).1)
          have e13 : f13 = false := Bool.eq_false_iff.2 fun h => Bool.false_ne_true ((ch8.out (ch9.out (ch11.out (ch12.out (ch13.out h).2)).2.2.1)).1)
          have e14 : f14 = false := Bool.eq_false_iff.2 fun h => Bool.false_ne_true ((ch8.out (ch9.out (ch11.out (ch12.out (ch13.out (ch14.out h)).2)).2.2.1)).1)
          subst e8 e9 e11 e12 e13 e14
          have hz1 := HZ1.out
          refine .inl ?_
          unfold dpUpd Oper.wp
          go_simp
          exact dpJ.at f0 f1 f2 true true f5 f6 f7 false false f10 false false false false (e1) (e2) (H53) (a8) (c8) rfl rfl (Lib.hid (by simp)) (ch6) (ch7) (Lib.hid (by simp)) (Lib.hid (by simp)) (Lib.hid (by simp)) (Lib.hid (by simp)) (Lib.hid (by simp)) (Lib.hid (by simp)) (hB) (by simp) (by simp) (by simp)
        · have ho' := ho
          simp at hu ho
          subst hu ho
          clear ha
          have e6 : f6 = false := Bool.eq_false_iff.2 fun h => Bool.false_ne_true ((ch6.out h))
          have e7 : f7 = false := Bool.eq_false_iff.2 fun h => Bool.false_ne_true ((ch6.out (ch7.out h)))
          have e8 : f8 = false := Bool.eq_false_iff.2 fun h => Bool.false_ne_true ((ch6.out (ch7.out (ch8.out h).2)))
          have e9 : f9 = false := Bool.eq_false_iff.2 fun h => Bool.false_ne_true ((ch6.out (ch7.out (ch8.out (ch9.out h)).2)))
          have e11 : f11 = false := Bool.eq_false_iff.2 fun h => Bool.false_ne_true ((ch6.out (ch7.out (ch8.out (ch9.out (ch11.out h).2.2.1)).2)))
          have e12 : f12 = false := Bool.eq_false_iff.2 fun h => Bool.false_ne_true ((ch6.out (ch7.out (ch8.out (ch9.out (ch11.out (ch12.out h)).2.2.1)).2)))
          have e13 : f13 = false := Bool.eq_false_iff.2 fun h => Bool.false_ne_true ((ch6.out (ch7.out (ch8.out (ch9.out (ch11.out (ch12.out (ch13.out h).2)).2.2.1)).2)))
          have e14 : f14 = false := Bool.eq_false_iff.2 fun h => Bool.false_ne_true ((ch6.out (ch7.out (ch8.out (ch9.out (ch11.out (ch12.out (ch13.out (ch14.out h)).2)).2.2.1)).2)))
          subst e6 e7 e8 e9 e11 e12 e13 e14
          refine .inl ?_
          unfold dpUpd Oper.wp
          go_simp
          exact dpJ.at f0 f1 f2 f3 f4 true false false false false f10 false false false false (e1) (e2) (H53) (a8) (c8) rfl rfl (ch4) (Lib.hid (by simp)) (Lib.hid (by simp)) (Lib.hid (by simp)) (Lib.hid (by simp)) (Lib.hid (by simp)) (Lib.hid (by simp)) (Lib.hid (by simp)) (Lib.hid (by simp)) (hB) (by simp) (by simp) (by simp)
        · have ho' := ho
          simp at hu ho
          subst hu ho
          simp [Region.binds] at ha
          obtain rfl : f5 = true := by simp only [ha]
          clear ha
          have e7 : f7 = false := Bool.eq_false_iff.2 fun h => Bool.false_ne_true ((ch7.out h))
          have e8 : f8 = false := Bool.eq_false_iff.2 fun h => Bool.false_ne_true ((ch7.out (ch8.out h).2))
          have e9 : f9 = false := Bool.eq_false_iff.2 fun h => Bool.false_ne_true ((ch7.out (ch8.out (ch9.out h)).2))
          have e11 : f11 = false := Bool.eq_false_iff.2 fun h => Bool.false_ne_true ((ch7.out (ch8.out (ch9.out (ch11.out h).2.2.1)).2))
          have e12 : f12 = false := Bool.eq_false_iff.2 fun h => Bool.false_ne_true ((ch7.out (ch8.out (ch9.out (ch11.out (ch12.out h)).2.2.1)).2))
          have e13 : f13 = false := Bool.eq_false_iff.2 fun h => Bool.false_ne_true ((ch7.out (ch8.out (ch9.out (ch11.out (ch12.out (ch13.out h).2)).2.2.1)).2))
          have e14 : f14 = false := Bool.eq_false_iff.2 fun h => Bool.false_ne_true ((ch7.out (ch8.out (ch9.out (ch11.out (ch12.out (ch13.out (ch14.out h)).2)).2.2.1)).2))
          subst e7 e8 e9 e11 e12 e13 e14
          have hib := HIB.out
          have hwr : IntKind.i64.wrap ((i : Int) + 1) = (i : Int) + 1 := IntWalk.i64_in _ (by omega)
          refine .inl ?_
          unfold dpUpd Oper.wp
          go_simp
          exact dpJ.at f0 f1 f2 f3 f4 true true false false false f10 false false false false (e1) (e2) (H53) (a8) (c8) rfl rfl (ch4) (Lib.hid (by simp)) (Lib.hid (by simp)) (Lib.hid (by simp)) (Lib.hid (by simp)) (Lib.hid (by simp)) (Lib.hid (by simp)) (Lib.hid (by simp)) (Lib.hid (by simp)) (hB) (by simp) (by simp) (by simp)
        · have ho' := ho
          simp at hu ho
          subst hu ho
          simp [Region.binds] at ha
          obtain rfl : f6 = true := by simp only [ha]
          clear ha
          obtain rfl : f5 = true := (ch6.out rfl)
          have e8 : f8 = false := Bool.eq_false_iff.2 fun h => Bool.false_ne_true ((ch8.out h).2)
          have e9 : f9 = false := Bool.eq_false_iff.2 fun h => Bool.false_ne_true ((ch8.out (ch9.out h)).2)
          have e11 : f11 = false := Bool.eq_false_iff.2 fun h => Bool.false_ne_true ((ch8.out (ch9.out (ch11.out h).2.2.1)).2)
          have e12 : f12 = false := Bool.eq_false_iff.2 fun h => Bool.false_ne_true ((ch8.out (ch9.out (ch11.out (ch12.out h)).2.2.1)).2)
          have e13 : f13 = false := Bool.eq_false_iff.2 fun h => Bool.false_ne_true ((ch8.out (ch9.out (ch11.out (ch12.out (ch13.out h).2)).2.2.1)).2)
          have e14 : f14 = false := Bool.eq_false_iff.2 fun h => Bool.false_ne_true ((ch8.out (ch9.out (ch11.out (ch12.out (ch13.out (ch14.out h)).2)).2.2.1)).2)
          subst e8 e9 e11 e12 e13 e14
          have hS := (hB rfl).size
          refine .inl ?_
          unfold dpUpd Oper.wp
          go_simp
          refine (HNU.out w').mono ?_
          intro e w1 hO
          obtain ⟨rfl, hb⟩ := hO
          exact dpJ.at f0 f1 f2 f3 f4 true true true false false f10 false false false false (e1) (e2) (H53) (a8) (c8) rfl rfl (ch4) (Lib.hid (by simp)) (Lib.hid (by simp)) (Lib.hid (by simp)) (Lib.hid (by simp)) (Lib.hid (by simp)) (Lib.hid (by simp)) (Lib.hid (by simp)) (Lib.hid (by simp)) (fun h0 => (hB h0).trans (hb.mono hS)) (by simp) (by simp) (by simp)
        · have ho' := ho
          simp at hu ho
          subst hu ho
          simp [Region.binds] at ha
          obtain rfl : f4 = true := by simp only [ha]
          obtain rfl : f7 = true := by simp only [ha]
          clear ha
          obtain rfl : f6 = true := (ch7.out rfl)
          obtain rfl : f5 = true := (ch6.out (ch7.out rfl))
          obtain rfl : f3 = true := (ch4.out rfl)
          have e9 : f9 = false := Bool.eq_false_iff.2 fun h => Bool.false_ne_true ((ch9.out h))
          have e11 : f11 = false := Bool.eq_false_iff.2 fun h => Bool.false_ne_true ((ch9.out (ch11.out h).2.2.1))
          have e12 : f12 = false := Bool.eq_false_iff.2 fun h => Bool.false_ne_true ((ch9.out (ch11.out (ch12.out h)).2.2.1))
          have e13 : f13 = false := Bool.eq_false_iff.2 fun h => Bool.false_ne_true ((ch9.out (ch11.out (ch12.out (ch13.out h).2)).2.2.1))
          have e14 : f14 = false := Bool.eq_false_iff.2 fun h => Bool.false_ne_true ((ch9.out (ch11.out (ch12.out (ch13.out (ch14.out h)).2)).2.2.1))
          subst e9 e11 e12 e13 e14
          have hz2 := HZ2.out
          refine .inl ?_
          unfold dpUpd Oper.wp
          go_simp
          exact dpJ.at f0 f1 f2 true true true true true true false f10 false false false false (e1) (e2) (H53) (a8) (c8) rfl rfl (Lib.hid (by simp)) (Lib.hid (by simp)) (Lib.hid (by simp)) (Lib.hid (by simp)) (Lib.hid (by simp)) (Lib.hid (by simp)) (Lib.hid (by simp)) (Lib.hid (by simp)) (Lib.hid (by simp)) (hB) (by simp) (by simp) (by simp)
        · have ho' := ho
          simp at hu ho
          subst hu ho
          simp [Region.binds] at ha
          obtain rfl : f8 = true := by simp only [ha]
          clear ha
          obtain rfl : f7 = true := (ch8.out rfl).2
          obtain rfl : f6 = true := (ch7.out (ch8.out rfl).2)
          obtain rfl : f5 = true := (ch6.out (ch7.out (ch8.out rfl).2))
          obtain rfl : f4 = true := (ch8.out rfl).1
          obtain rfl : f3 = true := (ch4.out (ch8.out rfl).1)
          have e11 : f11 = false := Bool.eq_false_iff.2 fun h => Bool.false_ne_true ((ch11.out h).2.2.1)
          have e12 : f12 = false := Bool.eq_false_iff.2 fun h => Bool.false_ne_true ((ch11.out (ch12.out h)).2.2.1)
          have e13 : f13 = false := Bool.eq_false_iff.2 fun h => Bool.false_ne_true ((ch11.out (ch12.out (ch13.out h).2)).2.2.1)
          have e14 : f14 = false := Bool.eq_false_iff.2 fun h => Bool.false_ne_true ((ch11.out (ch12.out (ch13.out (ch14.out h)).2)).2.2.1)
          subst e11 e12 e13 e14
          have hz3 := HZ3.out
          refine .inl ?_
          unfold dpUpd Oper.wp
          go_simp
          exact dpJ.at f0 f1 f2 true true true true true true true f10 false false false false (e1) (e2) (H53) (a8) (c8) rfl rfl (Lib.hid (by simp)) (Lib.hid (by simp)) (Lib.hid (by simp)) (Lib.hid (by simp)) (Lib.hid (by simp)) (Lib.hid (by simp)) (Lib.hid (by simp)) (Lib.hid (by simp)) (Lib.hid (by simp)) (hB) (by simp) (by simp) (by simp)
        · have ho' := ho
          simp at hu ho
          subst hu ho
          clear ha
          have e11 : f11 = false := Bool.eq_false_iff.2 fun h => Bool.false_ne_true ((ch11.out h).2.2.2)
          have e12 : f12 = false := Bool.eq_false_iff.2 fun h => Bool.false_ne_true ((ch11.out (ch12.out h)).2.2.2)
          have e13 : f13 = false := Bool.eq_false_iff.2 fun h => Bool.false_ne_true ((ch11.out (ch12.out (ch13.out h).2)).2.2.2)
          have e14 : f14 = false := Bool.eq_false_iff.2 fun h => Bool.false_ne_true ((ch11.out (ch12.out (ch13.out (ch14.out h)).2)).2.2.2)
          subst e11 e12 e13 e14
          refine .inl ?_
          unfold dpUpd Oper.wp
          go_simp
          exact dpJ.at f0 f1 f2 f3 f4 f5 f6 f7 f8 f9 true false false false false (e1) (e2) (H53) (a8) (c8) rfl rfl (ch4) (ch6) (ch7) (ch8) (ch9) (Lib.hid (by simp)) (Lib.hid (by simp)) (Lib.hid (by simp)) (Lib.hid (by simp)) (hB) (by simp) (by simp) (by simp)
        · have ho' := ho
          simp at hu ho
          subst hu ho
          simp [Region.binds] at ha
          obtain rfl : f1 = true := by simp only [ha]
          obtain rfl : f2 = true := by simp only [ha]
          obtain rfl : f9 = true := by simp only [ha]
          obtain rfl : f10 = true := by simp only [ha]
          clear ha
          obtain rfl : f8 = true := (ch9.out rfl)
          obtain rfl : f7 = true := (ch8.out (ch9.out rfl)).2
          obtain rfl : f6 = true := (ch7.out (ch8.out (ch9.out rfl)).2)
          obtain rfl : f5 = true := (ch6.out (ch7.out (ch8.out (ch9.out rfl)).2))
          obtain rfl : f4 = true := (ch8.out (ch9.out rfl)).1
          obtain rfl : f3 = true := (ch4.out (ch8.out (ch9.out rfl)).1)
          have e12 : f12 = false := Bool.eq_false_iff.2 fun h => Bool.false_ne_true ((ch12.out h))
          have e13 : f13 = false := Bool.eq_false_iff.2 fun h => Bool.false_ne_true ((ch12.out (ch13.out h).2))
          have e14 : f14 = false := Bool.eq_false_iff.2 fun h => Bool.false_ne_true ((ch12.out (ch13.out (ch14.out h)).2))
          subst e12 e13 e14
          have hB1 := hB rfl
          refine .inl ?_
          unfold dpUpd Oper.wp
          go_simp
          refine (HDP.out w' hB1).mono ?_
          intro e w1 hO
          obtain ⟨q1, q2, rfl, hrd⟩ := hO
          exact dpJ.at f0 true true true true true true true true true true true false false false (q1) (q2) (H53) (a8) (c8) rfl rfl (Lib.hid (by simp)) (Lib.hid (by simp)) (Lib.hid (by simp)) (Lib.hid (by simp)) (Lib.hid (by simp)) (Lib.hid (by simp)) (Lib.hid (by simp)) (Lib.hid (by simp)) (Lib.hid (by simp)) (by simp) (fun _ _ => hrd) (by simp) (by simp)
        · have ho' := ho
          simp at hu ho
          subst hu ho
          simp [Region.binds] at ha
          obtain rfl : f11 = true := by simp only [ha]
          clear ha
          obtain rfl : f10 = true := (ch11.out rfl).2.2.2
          obtain rfl : f9 = true := (ch11.out rfl).2.2.1
          obtain rfl : f8 = true := (ch9.out (ch11.out rfl).2.2.1)
          obtain rfl : f7 = true := (ch8.out (ch9.out (ch11.out rfl).2.2.1)).2
          obtain rfl : f6 = true := (ch7.out (ch8.out (ch9.out (ch11.out rfl).2.2.1)).2)
          obtain rfl : f5 = true := (ch6.out (ch7.out (ch8.out (ch9.out (ch11.out rfl).2.2.1)).2))
          obtain rfl : f4 = true := (ch8.out (ch9.out (ch11.out rfl).2.2.1)).1
          obtain rfl : f3 = true := (ch4.out (ch8.out (ch9.out (ch11.out rfl).2.2.1)).1)
          obtain rfl : f2 = true := (ch11.out rfl).2.1
          obtain rfl : f1 = true := (ch11.out rfl).1
          have e13 : f13 = false := Bool.eq_false_iff.2 fun h => Bool.false_ne_true ((ch13.out h).2)
          have e14 : f14 = false := Bool.eq_false_iff.2 fun h => Bool.false_ne_true ((ch13.out (ch14.out h)).2)
          subst e13 e14
          have hrd := rd rfl rfl
          have hal := fun o => (Below.refl w'.heap.size w').alloc (Nat.le_refl w'.heap.size) o
          refine .inl ?_
          unfold dpUpd Oper.wp
          go_simp
          exact dpJ.at f0 true true true true true true true true true true true true false false (e1) (e2) (w'.heap.size) (a8) (c8) rfl rfl (Lib.hid (by simp)) (Lib.hid (by simp)) (Lib.hid (by simp)) (Lib.hid (by simp)) (Lib.hid (by simp)) (Lib.hid (by simp)) (Lib.hid (by simp)) (Lib.hid (by simp)) (Lib.hid (by simp)) (by simp) (fun _ _ => hrd.later (hal _)) (fun _ _ => dep_lit (D, .slice e1 D.excl.length e2) w' _ rfl) (by simp)
        · have ho' := ho
          simp at hu ho
          subst hu ho
          simp [Region.binds] at ha
          obtain rfl : f0 = true := by simp only [ha]
          obtain rfl : f12 = true := by simp only [ha]
          clear ha
          obtain rfl : f11 = true := (ch12.out rfl)
          obtain rfl : f10 = true := (ch11.out (ch12.out rfl)).2.2.2
          obtain rfl : f9 = true := (ch11.out (ch12.out rfl)).2.2.1
          obtain rfl : f8 = true := (ch9.out (ch11.out (ch12.out rfl)).2.2.1)
          obtain rfl : f7 = true := (ch8.out (ch9.out (ch11.out (ch12.out rfl)).2.2.1)).2
          obtain rfl : f6 = true := (ch7.out (ch8.out (ch9.out (ch11.out (ch12.out rfl)).2.2.1)).2)
          obtain rfl : f5 = true := (ch6.out (ch7.out (ch8.out (ch9.out (ch11.out (ch12.out rfl)).2.2.1)).2))
          obtain rfl : f4 = true := (ch8.out (ch9.out (ch11.out (ch12.out rfl)).2.2.1)).1
          obtain rfl : f3 = true := (ch4.out (ch8.out (ch9.out (ch11.out (ch12.out rfl)).2.2.1)).1)
          obtain rfl : f2 = true := (ch11.out (ch12.out rfl)).2.1
          obtain rfl : f1 = true := (ch11.out (ch12.out rfl)).1
          have e14 : f14 = false := Bool.eq_false_iff.2 fun h => Bool.false_ne_true ((ch14.out h))
          subst e14
          have hrd := rd rfl rfl
          have h53 := r53 rfl rfl
          refine .inl ?_
          unfold dpUpd
          refine wp_append_slice w' (.tmp 41) (.tmp 53) 31 rfl wq.heap.size 48 Tryz.underlying31 info_depQ rfl (by decide) depC_len8 (.slice oa i oc) OL (by simp [Act.eval]) hrd.row.row (.slice (some ⟨H53, 0, none⟩) 1 1) _ (by simp [Act.eval]) h53 (fun y hy => by rw [List.mem_singleton.1 hy]; exact dep_one hrd.ex) (by have h1 := HLL.out; have := HIB.out; simp only [List.length_cons, List.length_nil]; omega) (by decide) hrd.kq.size ?_
          intro v1 w1 hown hg hloc
          obtain ⟨o1, n1, hv⟩ := hown.shape
          rw [List.length_append, HLL.out, List.length_singleton] at hv
          subst hv
          exact dpJ.at true true true true true true true true true true true true true true false (e1) (e2) (H53) (o1) (n1) rfl rfl (Lib.hid (by simp)) (Lib.hid (by simp)) (Lib.hid (by simp)) (Lib.hid (by simp)) (Lib.hid (by simp)) (Lib.hid (by simp)) (Lib.hid (by simp)) (Lib.hid (by simp)) (Lib.hid (by simp)) (by simp) (by simp) (by simp) (fun _ => hrd.fi HQ9.out hown hg)
        · have ho' := ho
          simp at hu ho
          subst hu ho
          simp [Region.binds] at ha
          obtain rfl : f13 = true := by simp only [ha]
          clear ha
          obtain rfl : f12 = true := (ch13.out rfl).2
          obtain rfl : f11 = true := (ch12.out (ch13.out rfl).2)
          obtain rfl : f10 = true := (ch11.out (ch12.out (ch13.out rfl).2)).2.2.2
          obtain rfl : f9 = true := (ch11.out (ch12.out (ch13.out rfl).2)).2.2.1
          obtain rfl : f8 = true := (ch9.out (ch11.out (ch12.out (ch13.out rfl).2)).2.2.1)
          obtain rfl : f7 = true := (ch8.out (ch9.out (ch11.out (ch12.out (ch13.out rfl).2)).2.2.1)).2
          obtain rfl : f6 = true := (ch7.out (ch8.out (ch9.out (ch11.out (ch12.out (ch13.out rfl).2)).2.2.1)).2)
          obtain rfl : f5 = true := (ch6.out (ch7.out (ch8.out (ch9.out (ch11.out (ch12.out (ch13.out rfl).2)).2.2.1)).2))
          obtain rfl : f4 = true := (ch8.out (ch9.out (ch11.out (ch12.out (ch13.out rfl).2)).2.2.1)).1
          obtain rfl : f3 = true := (ch4.out (ch8.out (ch9.out (ch11.out (ch12.out (ch13.out rfl).2)).2.2.1)).1)
          obtain rfl : f2 = true := (ch11.out (ch12.out (ch13.out rfl).2)).2.1
          obtain rfl : f1 = true := (ch11.out (ch12.out (ch13.out rfl).2)).1
          obtain rfl : f0 = true := (ch13.out rfl).1
          refine .inl ?_
          unfold dpUpd Oper.wp
          go_simp
          exact dpJ.at true true true true true true true true true true true true true true true (e1) (e2) (H53) (a8) (c8) rfl rfl (Lib.hid (by simp)) (Lib.hid (by simp)) (Lib.hid (by simp)) (Lib.hid (by simp)) (Lib.hid (by simp)) (Lib.hid (by simp)) (Lib.hid (by simp)) (Lib.hid (by simp)) (Lib.hid (by simp)) (by simp) (by simp) (by simp) (rf)

end Go.Proofs.YtbbbfjcikhpmbaaGreat
