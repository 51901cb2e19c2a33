/- The walk of the law PomBeside; the conditions stand in the theorem. -/
import Derived.Test.YtbbbfjcikhpmbaaGreatJH20
import Derived.Test.YtbbbfjcikhpmbaaGreatJH23
import Derived.Test.YtbbbfjcikhpmbaaGreatJH24
import Derived.Test.YtbbbfjcikhpmbaaGreatJH18
import Derived.ProofKit
import Derived.Deep.Slices

namespace Go.Proofs.YtbbbfjcikhpmbaaGreat
open Go Go.RowKit

theorem Box.later {w w' : World} {b : Nat} {cs : List Value} (h : Box w b cs) (hb : Below w.heap.size w w') : Box w' b cs := h.below hb h.lt
theorem no_deps {d : Dep} {k : Tr} (hk : k ∈ (depT d).kids) {m : Bs} (hm : m ≠ []) (h1 : kidsF m (depT d).kids = []) : k.name ≠ m := fun h => by
 have h2 : k ∈ kidsF m (depT d).kids := List.mem_filter.2 ⟨hk, by unfold isKid; rw [h]; cases m with
  | nil => exact absurd rfl hm
  | cons _ _ => simp⟩
 rw [h1] at h2; cases h2
theorem turn_dep (x : Tr) (d : Dep) : Turns 21 (depT d) x (besideT id x (depT d)) := by
 refine beside_any id x (depT d) (Nat.le_trans (dep_len d) (by decide)) fun k hk => ⟨fun h => ?_, fun _ => rfl⟩
 have e1 : kidsF bDependencies (depT d).kids = [] := by rw [dep_kids d _ (by decide)]; simp [show bGroup ≠ bDependencies by decide, show bArtifact ≠ bDependencies by decide, show bVersion ≠ bDependencies by decide, show bType ≠ bDependencies by decide, show bClassifier ≠ bDependencies by decide, show bScope ≠ bDependencies by decide, show bOptional ≠ bDependencies by decide, show bExclusions ≠ bDependencies by decide]
 have e2 : kidsF bManagement (depT d).kids = [] := by rw [dep_kids d _ (by decide)]; simp [show bGroup ≠ bManagement by decide, show bArtifact ≠ bManagement by decide, show bVersion ≠ bManagement by decide, show bType ≠ bManagement by decide, show bClassifier ≠ bManagement by decide, show bScope ≠ bManagement by decide, show bOptional ≠ bManagement by decide, show bExclusions ≠ bManagement by decide]
 rcases h with h | h
 · exact absurd h (no_deps hk (by decide) e1)
 · exact absurd h (no_deps hk (by decide) e2)
theorem turn_w1 (x : Tr) (ds : List Dep) (hl : ds.length ≤ 2000) : Turns 64 (.mk bDependencies [] (ds.map depT) []) x (W1 x (.mk bDependencies [] (ds.map depT) [])) := by
 refine within_any (GW x) x (.mk bDependencies [] (ds.map depT) []) (by show (ds.map depT).length ≤ _; rw [List.length_map]; omega) fun k hk => ?_
 obtain ⟨d, -, rfl⟩ := List.mem_map.1 hk
 have hn : (depT d).name = bDependency := rfl
 refine ⟨fun _ => ?_, fun h => ?_, fun h _ => absurd hn h⟩
 · unfold GW; rw [if_pos hn]; exact turn_dep x d
 · rw [hn] at h; exact absurd h (by decide)
theorem turn_w2 (x : Tr) (ds : List Dep) (hl : ds.length ≤ 2000) : Turns 64 (.mk bManagement [] (depsT ds) []) x (W2 x (.mk bManagement [] (depsT ds) [])) := by
 refine within_any (GM x) x (.mk bManagement [] (depsT ds) []) (Nat.le_trans (branchT_len _ _) (by decide)) fun k hk => ?_
 have e := deps_one hk
 have hn : k.name = bDependencies := by rw [e]; rfl
 refine ⟨fun h => ?_, fun _ => ?_, fun _ h => absurd hn h⟩
 · rw [hn] at h; exact absurd h (by decide)
 · unfold GM; rw [if_pos hn, e]; exact turn_w1 x ds hl
theorem turn_pb (x : Tr) (p : Pom) (h2 : p.managed.length ≤ 2000) (h3 : p.deps.length ≤ 2000) : Turns 21 (writeT p) x (PB x (writeT p)) := by
 refine beside_any (GP x) x (writeT p) (Nat.le_trans (write_len p) (by decide)) fun k hk => ⟨fun h => ?_, fun h => ?_⟩
 · by_cases hd : k.name = bDependencies
   · have hm : k ∈ kidsF bDependencies (writeT p).kids := List.mem_filter.2 ⟨hk, by unfold isKid; rw [hd]; decide⟩
     rw [show kidsF bDependencies (writeT p).kids = depsT p.deps from by rw [write_kids p _ (by decide)]; simp [show bParent ≠ bDependencies by decide, show bGroup ≠ bDependencies by decide, show bArtifact ≠ bDependencies by decide, show bVersion ≠ bDependencies by decide, show bPackaging ≠ bDependencies by decide, show bProperties ≠ bDependencies by decide, show bManagement ≠ bDependencies by decide]] at hm
     unfold GP
     rw [if_pos hd, deps_one hm]
     exact turn_w1 x _ h3
   · have hd2 : k.name = bManagement := h.resolve_left hd
     have hm : k ∈ kidsF bManagement (writeT p).kids := List.mem_filter.2 ⟨hk, by unfold isKid; rw [hd2]; decide⟩
     rw [show kidsF bManagement (writeT p).kids = branchT bManagement (depsT p.managed) from by rw [write_kids p _ (by decide)]; simp [show bParent ≠ bManagement by decide, show bGroup ≠ bManagement by decide, show bArtifact ≠ bManagement by decide, show bVersion ≠ bManagement by decide, show bPackaging ≠ bManagement by decide, show bProperties ≠ bManagement by decide, show bDependencies ≠ bManagement by decide]] at hm
     have hk2 : k = .mk bManagement [] (depsT p.managed) [] := by
      unfold branchT at hm
      split at hm
      · cases hm
      · rename_i e
        rw [List.mem_singleton.1 hm, e]
     unfold GP
     rw [if_neg hd, if_pos hd2, hk2]
     exact turn_w2 x _ h2
 · unfold GP
   rw [if_neg (fun e => h (.inl e)), if_neg (fun e => h (.inr e))]
/-- A node by another name. -/
def byName (n : S) (x : Tr) : Tr := .mk n.data.toList x.attrs x.kids x.text
theorem byName_node {X : Nat → Prop} {w : World} {x : Tr} {av kv : Value} (h : NodeX X w x av kv) (n : S) : NodeX X w (byName n x) av kv := by
 obtain ⟨L, h1, h2, h3, h4⟩ := h.parts
 exact .mk L h2 h1 h3 h4
theorem byName_mild {x : Tr} {n : S} (h : Mild x) (hn : n.data.toList ≠ bProperties) : MildW (byName n x) := .of h.weak.kl h.weak.txt (fun e => absurd e hn) h.weak.kids
def knownV : List Value := knownB.map fun b => .string (bs b)
theorem known_cell (k : Nat) (hk : k < 15) : knownV[k]? = some (.string (bs (knownB[k]'hk))) := by
 unfold knownV
 rw [List.getElem?_map, List.getElem?_eq_getElem hk]
 rfl
theorem keepP {p : Prop} {B : Nat} {w w' : World} (h : p) (_ : Below B w w') : p := h
theorem lit_box (w : World) (T : TypeId) (l : List Value) (v : World) (h : v = w.alloc (.cells l.toArray T)) : Box v w.heap.size l := by rw [h]; exact Box.new w l T _ rfl
def t12Upd (pv : Value) (N Y Z X nm : S) (xo yo : Option Addr) (xl xc yl yc TN : Nat) (x0 x1 x2 x3 x4 x5 x6 x7 x8 x10 x11 x12 x13 x14 x15 x16 x17 x18 x19 x20 x21 x22 x23 x24 x25 x26 x27 x28 x29 x30 x31 x32 x33 x34 x35 x36 x37 x38 x39 x40 x41 x42 x47 x48 x49 x50 x51 x52 x53 x54 x55 x56 x57 x58 x59 x60 x61 x62 : Value) (f0 f1 f2 f3 f4 _f5 : Bool) (ko : Option Addr) (kc : Nat) (o1 : Option Addr) (l1 : Nat) (c1 : Nat) (o2 : Option Addr) (l2 : Nat) (c2 : Nat) (H9 : Nat) : Act :=
 ⟨#[x0, x1, x2, x3, x4, x5, x6, x7, x8, cond f4 (.pointer (some ⟨H9, 0, none⟩)) undef, x10, x11, x12, x13, x14, x15, x16, x17, x18, x19, x20, x21, x22, x23, x24, x25, x26, x27, x28, x29, x30, x31, x32, x33, x34, x35, x36, x37, x38, x39, x40, x41, x42, cond f0 (pv) undef, cond f1 (.agg #[.string N, .slice none 0 0, .slice ko TN kc, .string Y]) undef, cond f2 (.agg #[.string nm, .slice xo xl xc, .slice yo yl yc, .string X]) undef, cond f3 (.agg #[.string N, .slice o1 l1 c1, .slice o2 l2 c2, .string Z]) undef, x47, x48, x49, x50, x51, x52, x53, x54, x55, x56, x57, x58, x59, x60, x61, x62], []⟩
inductive t12J (pv : Value) (N Y Z X nm : S) (xo yo : Option Addr) (xl xc yl yc TN : Nat) (NO BO : (Nat → Prop) → World → Value → Value → Prop) (V : World) (x0 x1 x2 x3 x4 x5 x6 x7 x8 x10 x11 x12 x13 x14 x15 x16 x17 x18 x19 x20 x21 x22 x23 x24 x25 x26 x27 x28 x29 x30 x31 x32 x33 x34 x35 x36 x37 x38 x39 x40 x41 x42 x47 x48 x49 x50 x51 x52 x53 x54 x55 x56 x57 x58 x59 x60 x61 x62 : Value) : Array Bool → Act → World → Prop where
 | mk (f0 f1 f2 f3 f4 f5 : Bool) (ko : Option Addr) (kc : Nat) (o1 : Option Addr) (l1 : Nat) (c1 : Nat) (o2 : Option Addr) (l2 : Nat) (c2 : Nat) (H9 : Nat) (w' : World) (ch1 : Hid (f1 = true → f0 = true)) (ch3 : Hid (f3 = true → f1 = true ∧ f2 = true)) (ch5 : Hid (f5 = true → f3 = true ∧ f4 = true)) (hB : (f5 = false → Below V.heap.size V w')) (r44 : (f1 = true → f5 = false → NO (fun j => f4 = true ∧ j = H9) w' (.slice none 0 0) (.slice ko TN kc))) (r46 : (f3 = true → f5 = false → BO (fun j => f4 = true ∧ j = H9) w' (.slice o1 l1 c1) (.slice o2 l2 c2))) (r9 : (f4 = true → f5 = false → Box w' H9 [.string ⟨#[]⟩, .slice none 0 0, .slice none 0 0, .string ⟨#[]⟩])) (r9b : (f4 = true → f5 = false → V.heap.size ≤ H9)) (rfin : (f5 = true → Box w' H9 [.string N, .slice o1 l1 c1, .slice o2 l2 c2, .string Z] ∧ BO (fun j => true = true ∧ j = H9) w' (.slice o1 l1 c1) (.slice o2 l2 c2) ∧ Below V.heap.size V w')) : t12J pv N Y Z X nm xo yo xl xc yl yc TN NO BO V x0 x1 x2 x3 x4 x5 x6 x7 x8 x10 x11 x12 x13 x14 x15 x16 x17 x18 x19 x20 x21 x22 x23 x24 x25 x26 x27 x28 x29 x30 x31 x32 x33 x34 x35 x36 x37 x38 x39 x40 x41 x42 x47 x48 x49 x50 x51 x52 x53 x54 x55 x56 x57 x58 x59 x60 x61 x62 #[f0, f1, f2, f3, f4, f5] (t12Upd pv N Y Z X nm xo yo xl xc yl yc TN x0 x1 x2 x3 x4 x5 x6 x7 x8 x10 x11 x12 x13 x14 x15 x16 x17 x18 x19 x20 x21 x22 x23 x24 x25 x26 x27 x28 x29 x30 x31 x32 x33 x34 x35 x36 x37 x38 x39 x40 x41 x42 x47 x48 x49 x50 x51 x52 x53 x54 x55 x56 x57 x58 x59 x60 x61 x62 f0 f1 f2 f3 f4 f5 ko kc o1 l1 c1 o2 l2 c2 H9) w'
theorem t12J.at {pv : Value} {N Y Z X nm : S} {xo yo : Option Addr} {xl xc yl yc TN : Nat} {NO BO : (Nat → Prop) → World → Value → Value → Prop} {V : World} {x0 x1 x2 x3 x4 x5 x6 x7 x8 x10 x11 x12 x13 x14 x15 x16 x17 x18 x19 x20 x21 x22 x23 x24 x25 x26 x27 x28 x29 x30 x31 x32 x33 x34 x35 x36 x37 x38 x39 x40 x41 x42 x47 x48 x49 x50 x51 x52 x53 x54 x55 x56 x57 x58 x59 x60 x61 x62 : Value} {listed : Array Bool} {atx : Act} {w' : World} (f0 f1 f2 f3 f4 f5 : Bool) (ko : Option Addr) (kc : Nat) (o1 : Option Addr) (l1 : Nat) (c1 : Nat) (o2 : Option Addr) (l2 : Nat) (c2 : Nat) (H9 : Nat) (hl : listed = #[f0, f1, f2, f3, f4, f5]) (ha : atx = t12Upd pv N Y Z X nm xo yo xl xc yl yc TN x0 x1 x2 x3 x4 x5 x6 x7 x8 x10 x11 x12 x13 x14 x15 x16 x17 x18 x19 x20 x21 x22 x23 x24 x25 x26 x27 x28 x29 x30 x31 x32 x33 x34 x35 x36 x37 x38 x39 x40 x41 x42 x47 x48 x49 x50 x51 x52 x53 x54 x55 x56 x57 x58 x59 x60 x61 x62 f0 f1 f2 f3 f4 f5 ko kc o1 l1 c1 o2 l2 c2 H9) (ch1 : Hid (f1 = true → f0 = true)) (ch3 : Hid (f3 = true → f1 = true ∧ f2 = true)) (ch5 : Hid (f5 = true → f3 = true ∧ f4 = true)) (hB : (f5 = false → Below V.heap.size V w')) (r44 : (f1 = true → f5 = false → NO (fun j => f4 = true ∧ j = H9) w' (.slice none 0 0) (.slice ko TN kc))) (r46 : (f3 = true → f5 = false → BO (fun j => f4 = true ∧ j = H9) w' (.slice o1 l1 c1) (.slice o2 l2 c2))) (r9 : (f4 = true → f5 = false → Box w' H9 [.string ⟨#[]⟩, .slice none 0 0, .slice none 0 0, .string ⟨#[]⟩])) (r9b : (f4 = true → f5 = false → V.heap.size ≤ H9)) (rfin : (f5 = true → Box w' H9 [.string N, .slice o1 l1 c1, .slice o2 l2 c2, .string Z] ∧ BO (fun j => true = true ∧ j = H9) w' (.slice o1 l1 c1) (.slice o2 l2 c2) ∧ Below V.heap.size V w')) : t12J pv N Y Z X nm xo yo xl xc yl yc TN NO BO V x0 x1 x2 x3 x4 x5 x6 x7 x8 x10 x11 x12 x13 x14 x15 x16 x17 x18 x19 x20 x21 x22 x23 x24 x25 x26 x27 x28 x29 x30 x31 x32 x33 x34 x35 x36 x37 x38 x39 x40 x41 x42 x47 x48 x49 x50 x51 x52 x53 x54 x55 x56 x57 x58 x59 x60 x61 x62 listed atx w' := by
 subst hl ha
 exact .mk f0 f1 f2 f3 f4 f5 ko kc o1 l1 c1 o2 l2 c2 H9 w' ch1 ch3 ch5 hB r44 r46 r9 r9b rfin
set_option maxRecDepth 100000 in
set_option maxHeartbeats 16000000 in
theorem pomBesideLaw_any (p : Pom) (pv mv dv : Value) (nm : S) (x : Tr) (xv yv : Value) (mx : Int) (w : World) (hp : PomOf w (.agg (pomC p pv mv dv).toArray) p pv mv dv) (hn : NodeOf w x xv yv) (hm : w.cell? ⟨0, 0, none⟩ = some (.int .i64 mx)) :
    Calls Tryz.prog 5 #[.agg (pomC p pv mv dv).toArray, .string nm, nodeV x xv yv] w fun e w' => e = .returned (.bool true) ∧ Below w.heap.size w w' := by
 have hw0 : 0 < w.heap.size := World.block_lt_of_cell? w _ hm
 obtain ⟨T, hT⟩ : ∃ T, T = writeT p := ⟨_, rfl⟩
 obtain ⟨B, hB⟩ : ∃ B, B = PB (byName nm x) T := ⟨_, rfl⟩
 obtain ⟨N, hN⟩ : ∃ N, N = bs T.name := ⟨_, rfl⟩
 obtain ⟨Y, hY⟩ : ∃ Y, Y = bs T.text := ⟨_, rfl⟩
 obtain ⟨Z, hZ⟩ : ∃ Z : S, Z = bs B.text := ⟨_, rfl⟩
 obtain ⟨NX, hNX⟩ : ∃ NX : S, NX = bs x.name := ⟨_, rfl⟩
 obtain ⟨X, hX⟩ : ∃ X : S, X = bs x.text := ⟨_, rfl⟩
 have hNB : bs B.name = N := by rw [hN, hB]; rfl
 obtain ⟨xo, xc, yo, yc, rfl, rfl, -, -⟩ := hn.shape
 obtain ⟨AL, hAL⟩ : ∃ Y : Prop, Y = ((∀ m ∈ knownB, nm.data.toList ≠ m) ∧ nm.data.toList ≠ []) := ⟨_, rfl⟩
 have HLV : Hid (∀ W, Below w.heap.size w W → Calls Tryz.prog 12 #[] W fun e w' => e = .returned (.bool true) ∧ Below W.heap.size W w') := fun W h => pomLives_any mx W ((h.cell (by exact hw0)).trans hm)
 have HL1 : Hid (∀ W, Below w.heap.size w W → Calls Tryz.prog 16 #[.agg (pomC p pv mv dv).toArray] W (RetB (LightP p) W)) := fun W h => lightP_any p pv mv dv W (hp.below h)
 have HM2 : Hid (LightP p → ∀ W, Below w.heap.size w W → Calls Tryz.prog 20 #[.agg (pomC p pv mv dv).toArray] W fun e w' => e = .returned (.bool (mayP p)) ∧ Below W.heap.size W w') := fun hL W h => mayPD_any p pv mv dv W (hp.below h) hL.small
 have HL3 : Hid (∀ W, Below w.heap.size w W → Calls Tryz.prog 11 #[.agg #[.string NX, .slice xo x.attrs.length xc, .slice yo x.kids.length yc, .string X]] W fun e w' => Below W.heap.size W w' ∧ ∃ b : Bool, e = .returned (.bool b) ∧ (b = true → LightT x)) := fun W h => by
  rw [hNX, hX]; exact (lightTop_any x W _ _ (hn.later h)).mono fun e w' ⟨h1, b, h2, h3⟩ => ⟨h1, b, h2, fun e => (h3 e).1⟩
 have HWR : Hid (LightP p → ∀ W, Below w.heap.size w W → Calls Tryz.prog 18 #[.agg (pomC p pv mv dv).toArray] W fun e w' => ∃ (ko : Option Addr) (kc : Nat), e = .returned (.agg #[.string N, .slice none 0 0, .slice ko T.kids.length kc, .string Y]) ∧ NodeX (fun j => j < W.heap.size) w' T (.slice none 0 0) (.slice ko T.kids.length kc) ∧ Below W.heap.size W w') := fun hL W h => by
  rw [hN, hY, hT]
  refine (writeX_any p pv mv dv W (hp.below h) (Nat.le_trans hL.props (by decide)) (Nat.le_trans hL.managed (by decide)) (Nat.le_trans hL.deps (by decide)) (fun d hd => Nat.le_trans (hL.managedL d hd).excl (by decide)) (fun d hd => Nat.le_trans (hL.depsL d hd).excl (by decide))).mono fun e w' hO => ?_
  obtain ⟨kv, rfl, hn, hb⟩ := hO
  obtain ⟨-, -, ko, kc, -, rfl, -, -⟩ := hn.shape
  exact ⟨ko, kc, rfl, hn, hb⟩
 have HBE : Hid (LightP p → ∀ (Q : Nat → Prop) W av kv, NodeX Q W T av kv → (∀ j, Q j → w.heap.size ≤ j) → Below w.heap.size w W → Calls Tryz.prog 21 #[.agg #[.string N, av, kv, .string Y], .agg #[.string nm, .slice xo x.attrs.length xc, .slice yo x.kids.length yc, .string X]] W fun e w' => ∃ (o1 : Option Addr) (l1 c1 : Nat) (o2 : Option Addr) (l2 c2 : Nat), e = .returned (.agg #[.string N, .slice o1 l1 c1, .slice o2 l2 c2, .string Z]) ∧ NodeX (fun j => Q j ∧ j < W.heap.size) w' B (.slice o1 l1 c1) (.slice o2 l2 c2) ∧ Below W.heap.size W w') := fun hL Q W av kv h1 hq hw => by
  have h2 : NodeX Q W x (.slice xo x.attrs.length xc) (.slice yo x.kids.length yc) := (NodeX.fresh hn).keep (KeptX.below hw) (fun j _ h => hq j h)
  have h3 := turn_pb (byName nm x) p (Nat.le_trans hL.managed (by decide)) (Nat.le_trans hL.deps (by decide)) Q W av kv _ _ (by rw [← hT]; exact h1) (byName_node h2 nm)
  rw [← hT, ← hB] at h3
  unfold nodeV at h3
  rw [show bs (byName nm x).name = nm from data_bs nm, show (byName nm x).text = x.text from rfl, ← hN, ← hY, ← hX] at h3
  refine h3.mono fun e w' hO => ?_
  obtain ⟨av3, kv3, rfl, hn3, hb3⟩ := hO
  obtain ⟨o1, c1, o2, c2, rfl, rfl, -, -⟩ := hn3.shape
  exact ⟨o1, _, c1, o2, _, c2, by rw [← hNB, hZ]; rfl, hn3, hb3⟩
 have HRD : Hid (LightP p → mayP p = true → LightT x → AL → ∀ (Q : Nat → Prop) W av kv, NodeX Q W B av kv → Calls Tryz.prog 13 #[.agg #[.string N, av, kv, .string Z]] W (ReadG p W)) := fun hL hM hx ha Q W av kv h0 => by
  have h := h0.node
  rw [hAL] at ha
  have hmi : MildW B := by rw [hB, hT]; exact mild_pb (hL.lt (may_props hM)) ⟨ha.2, byName_mild hx.mild (ha.1 _ (by decide))⟩
  have h1 := readW_any B W av kv h hmi
  rw [hNB, ← hZ] at h1
  have h2 := beside_read (x := byName nm x) hM (fun m hm => ha.1 m hm)
  exact h1.mono fun e w' hO => hO.good (by rw [hB, hT]; exact h2.1) (by rw [hB, hT]; exact h2.2)
 have HSM : Hid (LightP p → ∀ base W a1 c1 a2 c2 a3 c3, Below w.heap.size w W → PomOwn base W p (.slice a1 p.props.length c1) (.slice a2 p.managed.length c2) (.slice a3 p.deps.length c3) → Calls Tryz.prog 15 #[.agg (pomC p pv mv dv).toArray, .agg #[.bool p.hasParent, .string p.parent.group, .string p.parent.artifact, .string p.parent.version, .string p.group, .string p.artifact, .string p.version, .string p.packaging, .slice a1 p.props.length c1, .slice a2 p.managed.length c2, .slice a3 p.deps.length c3]] W fun e w' => e = .returned (.bool true) ∧ Below W.heap.size W w') := fun hL base W a1 c1 a2 c2 a3 c3 h ho => by
  have h1 := sameX_any p p pv mv dv _ _ _ W (hp.below h) ho.of hL.manX hL.depX hL.manX hL.depX
  rwa [decide_eq_true rfl] at h1
 have HALN : Hid ((∀ (k : Nat) (hk : k < 15), ((nm : S).toList == (bs (knownB[k]'hk) : S).toList) = false) → nm.toList.isEmpty = false → AL) := fun h h0 => by
  rw [hAL]
  refine ⟨fun m hm e => ?_, fun e => ?_⟩
  · obtain ⟨k, hk, rfl⟩ := List.mem_iff_getElem.1 hm
    have h1 := h k hk
    rw [← e, data_bs, str_beq, decide_eq_true rfl] at h1
    cases h1
  · rw [bs_empty, e] at h0; cases h0
 obtain ⟨-, p1, p2, p3⟩ := hp
 obtain ⟨s1, s4, rfl⟩ := p1.shape
 obtain ⟨s2, s5, rfl⟩ := p2.shape
 obtain ⟨s3, s6, rfl⟩ := p3.shape
 unfold nodeV
 rw [← hNX, ← hX]
 generalize hmay : mayP p = may at *
 clear hm hw0 p1 p2 p3 hmay hT hN hX hZ hY hNX hNB hB hAL hn
 obtain ⟨LP, hLP⟩ : ∃ Y : Prop, Y = LightP p := ⟨_, rfl⟩
 rw [← hLP] at HL1 HM2 HWR HRD HSM HBE
 clear hLP
 obtain ⟨LX, hLX⟩ : ∃ Y : Prop, Y = LightT x := ⟨_, rfl⟩
 rw [← hLX] at HL3 HRD
 clear hLX
 obtain ⟨TN, hTN⟩ : ∃ n, n = T.kids.length := ⟨_, rfl⟩
 rw [← hTN] at HWR
 clear hTN
 obtain ⟨NO, hNO⟩ : ∃ Y : (Nat → Prop) → World → Value → Value → Prop, Y = fun X W => NodeX X W T := ⟨_, rfl⟩
 have HNK : Hid (∀ X W W' av kv, NO X W av kv → Below W.heap.size W W' → NO X W' av kv) := fun X W W' av kv h hb => by subst hNO; exact h.later hb
 have HNM : Hid (∀ X Y W av kv, NO X W av kv → (∀ j, j < W.heap.size → Y j → X j) → NO Y W av kv) := fun X Y W av kv h hb => by subst hNO; exact h.keep (KeptX.refl _ _) hb
 obtain ⟨BO, hBO⟩ : ∃ Y : (Nat → Prop) → World → Value → Value → Prop, Y = fun X W => NodeX X W B := ⟨_, rfl⟩
 have HBK : Hid (∀ X W W' av kv, BO X W av kv → Below W.heap.size W W' → BO X W' av kv) := fun X W W' av kv h hb => by subst hBO; exact h.later hb
 have HBM : Hid (∀ X Y W av kv, BO X W av kv → (∀ j, j < W.heap.size → Y j → X j) → BO Y W av kv) := fun X Y W av kv h hb => by subst hBO; exact h.keep (KeptX.refl _ _) hb
 have HBG : Hid (∀ X W W' b av kv, BO X W av kv → W.grownBy W' (some b) → X b → BO X W' av kv) := fun X W W' b av kv h hb hx => by subst hBO; exact h.gr hb hx
 obtain ⟨PO, hPO⟩ : ∃ Y : Nat → World → Value → Value → Value → Prop, Y = fun b W => PomOwn b W p := ⟨_, rfl⟩
 have HPK : Hid (∀ b W W' x y z, PO b W x y z → Below W.heap.size W W' → PO b W' x y z) := fun b W W' x y z h hb => by subst hPO; exact h.below hb
 replace HWR : Hid (LP → ∀ W, Below w.heap.size w W → Calls Tryz.prog 18 #[.agg (pomC p (.slice s1 p.props.length s4) (.slice s2 p.managed.length s5) (.slice s3 p.deps.length s6)).toArray] W fun e w' => ∃ (ko : Option Addr) (kc : Nat), e = .returned (.agg #[.string N, .slice none 0 0, .slice ko TN kc, .string Y]) ∧ NO (fun j => j < W.heap.size) w' (.slice none 0 0) (.slice ko TN kc) ∧ Below W.heap.size W w') := by subst hNO; exact HWR
 replace HBE : Hid (LP → ∀ (Q : Nat → Prop) W av kv, NO Q W av kv → (∀ j, Q j → w.heap.size ≤ j) → Below w.heap.size w W → Calls Tryz.prog 21 #[.agg #[.string N, av, kv, .string Y], .agg #[.string nm, .slice xo x.attrs.length xc, .slice yo x.kids.length yc, .string X]] W fun e w' => ∃ (o1 : Option Addr) (l1 c1 : Nat) (o2 : Option Addr) (l2 c2 : Nat), e = .returned (.agg #[.string N, .slice o1 l1 c1, .slice o2 l2 c2, .string Z]) ∧ BO (fun j => Q j ∧ j < W.heap.size) w' (.slice o1 l1 c1) (.slice o2 l2 c2) ∧ Below W.heap.size W w') := by subst hNO hBO; exact HBE
 replace HRD : Hid (LP → may = true → LX → AL → ∀ (Q : Nat → Prop) W av kv, BO Q W av kv → Calls Tryz.prog 13 #[.agg #[.string N, av, kv, .string Z]] W fun e w' => ∃ (a1 : Option Addr) (c1 : Nat) (a2 : Option Addr) (c2 : Nat) (a3 : Option Addr) (c3 : Nat),
  e = .returned (.tuple #[.agg #[.bool p.hasParent, .string p.parent.group, .string p.parent.artifact, .string p.parent.version, .string p.group, .string p.artifact, .string p.version, .string p.packaging, .slice a1 p.props.length c1, .slice a2 p.managed.length c2, .slice a3 p.deps.length c3], .int .i64 0, .string ⟨#[]⟩]) ∧ PO W.heap.size w' (.slice a1 p.props.length c1) (.slice a2 p.managed.length c2) (.slice a3 p.deps.length c3) ∧ Below W.heap.size W w') := by subst hBO; subst hPO; exact HRD
 replace HSM : Hid (LP → ∀ base W a1 c1 a2 c2 a3 c3, Below w.heap.size w W → PO base W (.slice a1 p.props.length c1) (.slice a2 p.managed.length c2) (.slice a3 p.deps.length c3) → Calls Tryz.prog 15 #[.agg (pomC p (.slice s1 p.props.length s4) (.slice s2 p.managed.length s5) (.slice s3 p.deps.length s6)).toArray, .agg #[.bool p.hasParent, .string p.parent.group, .string p.parent.artifact, .string p.parent.version, .string p.group, .string p.artifact, .string p.version, .string p.packaging, .slice a1 p.props.length c1, .slice a2 p.managed.length c2, .slice a3 p.deps.length c3]] W fun e w' => e = .returned (.bool true) ∧ Below W.heap.size W w') := by subst hPO; exact HSM
 clear hNO hBO hPO
 obtain ⟨dh, ⟨dx, dy, dz⟩, dg, da, dv, dk, dp, dm, dd⟩ := p
 simp only [pomC] at HL1 HM2 HWR HSM HRD ⊢
 generalize dp.length = lp at *
 generalize dm.length = lm at *
 generalize dd.length = ld at *
 generalize x.attrs.length = xl at *
 generalize x.kids.length = yl at *
 go_enter Tryz.func5, Tryz.ntmps5
 go_upto_region 1 with fail
 refine wp_world ?_
 intro W hW
 have x1 : Box W w.heap.size [.bool dh, .string dx, .string dy, .string dz, .string dg, .string da, .string dv, .string dk, .slice s1 lp s4, .slice s2 lm s5, .slice s3 ld s6] := by rw [hW]; exact (Box.new w [.bool dh, .string dx, .string dy, .string dz, .string dg, .string da, .string dv, .string dk, .slice s1 lp s4, .slice s2 lm s5, .slice s3 ld s6] _ _ rfl).alloc _
 have x2 : Box W (w.heap.size + 1) [.string NX, .slice xo xl xc, .slice yo yl yc, .string X] := by rw [hW]; exact Box.new _ [.string NX, .slice xo xl xc, .slice yo yl yc, .string X] _ _ (by simp)
 have hb : Below w.heap.size w W := by rw [hW]; exact ((Below.refl _ w).alloc (Nat.le_refl _) _).alloc (by simp) _
 clear hW
 have HA := Lib.hid x1
 have HE := Lib.hid x2
 have HB := Lib.hid hb
 clear x1 x2 hb
 obtain ⟨c0, c1, c2, c3, c4, c5, c6, c7, c8, c9, c10⟩ := bxc11 HA.out
 have cl := HA.out.lt
 go_wp2_with fail
 refine (HL1.out _ HB.out).mono ?_
 intro e w7 hO
 obtain ⟨b, rfl, hbt, hb7⟩ := hO
 have HBT := Lib.hid hbt
 have HA1 := Lib.hid (HA.out.below hb7 HA.out.lt)
 have HE1 := Lib.hid (HE.out.below hb7 HE.out.lt)
 have HB1 := Lib.hid (HB.out.trans (hb7.mono HB.out.size))
 clear hbt hb7 HA HE HB HL1 c0 c1 c2 c3 c4 c5 c6 c7 c8 c9 c10 cl
 cases b with
 | false =>
  go_wp2_with fail
  refine (HLV.out _ HB1.out).mono ?_
  rintro e w8 ⟨rfl, hb8⟩
  have HB8 := Lib.hid (HB1.out.trans (hb8.mono HB1.out.size))
  clear hb8 HLV
  go_wp2
  go_ret
  exact ⟨rfl, HB8.out⟩
 | true =>
  have HLP := Lib.hid (HBT.out rfl)
  clear HBT
  obtain ⟨c0, c1, c2, c3, c4, c5, c6, c7, c8, c9, c10⟩ := bxc11 HA1.out
  have cl := HA1.out.lt
  go_wp2_with fail
  refine (HM2.out HLP.out _ HB1.out).mono ?_
  rintro e w2 ⟨rfl, hb2⟩
  have HA2 := Lib.hid (HA1.out.below hb2 HA1.out.lt)
  have HE2 := Lib.hid (HE1.out.below hb2 HE1.out.lt)
  have HB2 := Lib.hid (HB1.out.trans (hb2.mono HB1.out.size))
  clear hb2 HA1 HE1 HB1 HM2 c0 c1 c2 c3 c4 c5 c6 c7 c8 c9 c10 cl
  cases may with
  | false =>
   go_wp2_with fail
   refine (HLV.out _ HB2.out).mono ?_
   rintro e w8 ⟨rfl, hb8⟩
   have HB8 := Lib.hid (HB2.out.trans (hb8.mono HB2.out.size))
   clear hb8 HLV
   go_wp2
   go_ret
   exact ⟨rfl, HB8.out⟩
  | true =>
   obtain ⟨c0, c1, c2, c3⟩ := bxc4 HE2.out
   have cl := HE2.out.lt
   go_wp2_with fail
   refine (HL3.out _ HB2.out).mono ?_
   rintro e w3 ⟨hb3, b, rfl, hlx⟩
   have HLX := Lib.hid hlx
   have HA3 := Lib.hid (HA2.out.below hb3 HA2.out.lt)
   have HE3 := Lib.hid (HE2.out.below hb3 HE2.out.lt)
   have HB3 := Lib.hid (HB2.out.trans (hb3.mono HB2.out.size))
   clear hlx hb3 HA2 HE2 HB2 HL3 c0 c1 c2 c3 cl
   cases b with
   | false =>
    go_wp2_with fail
    refine (HLV.out _ HB3.out).mono ?_
    rintro e w8 ⟨rfl, hb8⟩
    have HB8 := Lib.hid (HB3.out.trans (hb8.mono HB3.out.size))
    clear hb8 HLV
    go_wp2
    go_ret
    exact ⟨rfl, HB8.out⟩
   | true =>
    have HLX1 := Lib.hid (HLX.out rfl)
    clear HLX
    go_upto_region 4 with fail
    refine wp_world ?_
    intro W4 hW4
    have x4 : Box W4 w3.heap.size knownV := lit_box w3 _ knownV W4 hW4
    have hb4 : Below w3.heap.size w3 W4 := by rw [hW4]; exact (Below.refl _ _).alloc (Nat.le_refl _) _
    clear hW4
    have HK4 := Lib.hid x4
    have HA4 := Lib.hid (HA3.out.later hb4)
    have HE4 := Lib.hid (HE3.out.later hb4)
    have HB4 := Lib.hid (HB3.out.trans (hb4.mono HB3.out.size))
    clear x4 hb4 HA3 HE3 HB3
    go_wp2
    go_loopw [29] (fun i wr => ∃ (k : Nat), k ≤ 15 ∧ i = .int .i64 k ∧ Hid (∀ (j : Nat) (h15 : j < 15), j < k → ((nm : S).toList == (bs (knownB[j]'h15) : S).toList) = false) ∧ Hid (Below W4.heap.size W4 wr)) (fun i _ => 15 - (intOf i).toNat)
    case atStart => exact ⟨0, by decide, rfl, fun j _ h => by omega, Below.refl _ _⟩
    case round =>
     obtain ⟨k, hk, rfl, HNO, HBR⟩ := hrel
     have HBW := Lib.hid (HB4.out.trans (HBR.out.mono HB4.out.size))
     by_cases hlt : k < 15
     · have hkI : (k : Int) < 15 := by omega
       have ck : wr.cell? ⟨w3.heap.size, k, none⟩ = some (.string (bs (knownB[k]'hlt))) := (HK4.out.later HBR.out).cell k _ (known_cell k hlt)
       have cl := (HK4.out.later HBR.out).lt
       obtain ⟨q, hq⟩ : ∃ q, q = ((nm : S).toList == (bs (knownB[k]'hlt) : S).toList) := ⟨_, rfl⟩
       have HQ : Hid (∀ (j : Nat) (h15 : j < 15), j = k → ((nm : S).toList == (bs (knownB[j]'h15) : S).toList) = q) := fun j h15 e => by subst e; exact hq.symm
       have hq2 := hq.symm
       clear hq
       generalize bs (knownB[k]'hlt) = kb at *
       cases q with
       | true =>
        go_wp2_with fail
        refine (HLV.out _ HBW.out).mono ?_
        rintro e w8 ⟨rfl, hb8⟩
        have HB8 := Lib.hid (HBW.out.trans (hb8.mono HBW.out.size))
        clear hb8 HLV
        go_wp2
        go_ret
        exact ⟨rfl, HB8.out⟩
       | false =>
        have HNO2 : Hid (∀ (j : Nat) (h15 : j < 15), j < k + 1 → ((nm : S).toList == (bs (knownB[j]'h15) : S).toList) = false) := fun j h15 h => by
         by_cases e : j = k
         · exact HQ.out j h15 e
         · exact HNO.out j h15 (by omega)
        go_wp2
        go_roundw
        case rel => exact ⟨k + 1, hlt, by go_num, HNO2.out, HBR.out⟩
        case measure => simp [intOf]; omega
     · obtain rfl : k = 15 := by omega
       have HAW := Lib.hid (HA4.out.later HBR.out)
       have HEW := Lib.hid (HE4.out.later HBR.out)
       clear HA4 HE4 HB4 HBR HK4 hk hlt
       obtain ⟨em, hem⟩ : ∃ em, em = nm.toList.isEmpty := ⟨_, rfl⟩
       have hem2 := hem.symm
       have HAE : Hid (em = false → AL) := fun h => HALN.out (fun k hk => HNO.out k hk hk) (by rw [← hem]; exact h)
       clear hem HALN HNO
       cases em with
       | true =>
        go_wp2_with fail
        refine (HLV.out _ HBW.out).mono ?_
        rintro e w8 ⟨rfl, hb8⟩
        have HB8 := Lib.hid (HBW.out.trans (hb8.mono HBW.out.size))
        clear hb8 HLV
        go_wp2
        go_ret
        exact ⟨rfl, HB8.out⟩
       | false =>
        have HAL := Lib.hid (HAE.out rfl)
        clear HAE
        have e0 := HEW.out.cell 0 _ rfl
        have ef0 := HEW.out.free 0
        have e1 := HEW.out.cell 1 _ rfl
        have ef1 := HEW.out.free 1
        have e2 := HEW.out.cell 2 _ rfl
        have ef2 := HEW.out.free 2
        have e3 := HEW.out.cell 3 _ rfl
        have ef3 := HEW.out.free 3
        have el := HEW.out.lt
        go_upto_region 12 with fail
        refine wp_world ?_
        intro W11 hW11
        have g11 : wr.grownBy W11 (some (w.heap.size + 1)) := by rw [hW11]; exact setCell_grown wr _ 0 _
        have HE : Hid (Box W11 (w.heap.size + 1) [.string nm, .slice xo xl xc, .slice yo yl yc, .string X]) := by rw [hW11]; exact HEW.out.set 0 _
        have HA : Hid (Box W11 w.heap.size [.bool dh, .string dx, .string dy, .string dz, .string dg, .string da, .string dv, .string dk, .slice s1 lp s4, .slice s2 lm s5, .slice s3 ld s6]) := HAW.out.grownB g11 (by omega)
        have HBV : Hid (Below w.heap.size w W11) := by rw [hW11]; exact HBW.out.setCell (by simp) _
        replace HWR := Lib.hid (HWR.out HLP.out)
        replace HBE := Lib.hid (HBE.out HLP.out)
        clear hW11 g11 HEW HAW HBW e0 ef0 e1 ef1 e2 ef2 e3 ef3 el
        have HFI : Hid (∀ (w' : World) (o1 : Option Addr) (l1 c1 : Nat) (o2 : Option Addr) (l2 c2 H9 : Nat), Below W11.heap.size W11 w' → BO (fun j => true = true ∧ j = H9) w' (.slice o1 l1 c1) (.slice o2 l2 c2) → Box w' H9 [.string ⟨#[]⟩, .slice none 0 0, .slice none 0 0, .string ⟨#[]⟩] → W11.heap.size ≤ H9 → Box ((((w'.setCell ⟨H9, 0, none⟩ (.string N)).setCell ⟨H9, 1, none⟩ (.slice o1 l1 c1)).setCell ⟨H9, 2, none⟩ (.slice o2 l2 c2)).setCell ⟨H9, 3, none⟩ (.string Z)) H9 [.string N, .slice o1 l1 c1, .slice o2 l2 c2, .string Z] ∧ BO (fun j => true = true ∧ j = H9) ((((w'.setCell ⟨H9, 0, none⟩ (.string N)).setCell ⟨H9, 1, none⟩ (.slice o1 l1 c1)).setCell ⟨H9, 2, none⟩ (.slice o2 l2 c2)).setCell ⟨H9, 3, none⟩ (.string Z)) (.slice o1 l1 c1) (.slice o2 l2 c2) ∧ Below W11.heap.size W11 ((((w'.setCell ⟨H9, 0, none⟩ (.string N)).setCell ⟨H9, 1, none⟩ (.slice o1 l1 c1)).setCell ⟨H9, 2, none⟩ (.slice o2 l2 c2)).setCell ⟨H9, 3, none⟩ (.string Z))) := fun w' o1 l1 c1 o2 l2 c2 H9 hb hn hx hh => by
         have h1 : w'.grownBy ((((w'.setCell ⟨H9, 0, none⟩ (.string N)).setCell ⟨H9, 1, none⟩ (.slice o1 l1 c1)).setCell ⟨H9, 2, none⟩ (.slice o2 l2 c2)).setCell ⟨H9, 3, none⟩ (.string Z)) (some H9) := (((setCell_grown w' _ 0 _).trans (setCell_grown _ _ 1 _)).trans (setCell_grown _ _ 2 _)).trans (setCell_grown _ _ 3 _)
         exact ⟨(((hx.set 0 _).set 1 _).set 2 _).set 3 _, HBG.out _ _ _ _ _ _ hn h1 ⟨rfl, rfl⟩, hb.trans (gr_below h1 hh hb.size)⟩
        refine wp_region_flags0 (t12J (.agg #[.bool dh, .string dx, .string dy, .string dz, .string dg, .string da, .string dv, .string dk, .slice s1 lp s4, .slice s2 lm s5, .slice s3 ld s6]) N Y Z X nm xo yo xl xc yl yc TN NO BO W11 _ _ _ _ _ _ _ _ _ _ _ _ _ _ _ _ _ _ _ _ _ _ _ _ _ _ _ _ _ _ _ _ _ _ _ _ _ _ _ _ _ _ _ _ _ _ _ _ _ _ _ _ _ _ _ _ _ _) (by kernel_rfl) 6 rfl (by kernel_rfl) (t12J.at false false false false false false (none) (0) (none) (0) (0) (none) (0) (0) (0) rfl (by unfold t12Upd; rfl) ?i0 ?i1 ?i2 ?i3 ?i4 ?i5 ?i6 ?i7 ?i8) ?fin ?step
        case i0 => exact Lib.hid (by simp)
        case i1 => exact Lib.hid (by simp)
        case i2 => exact Lib.hid (by simp)
        case i3 => exact fun h0 => belowN (Below.refl _ _) 1
        case i4 => exact by simp
        case i5 => exact by simp
        case i6 => exact by simp
        case i7 => exact by simp
        case i8 => exact by simp
        case fin =>
         intro a' w' hJ
         generalize hl : Array.replicate 6 true = Lz at hJ
         cases hJ with
         | mk f0 f1 f2 f3 f4 f5 ko kc o1 l1 c1 o2 l2 c2 H9 _ ch1 ch3 ch5 hB r44 r46 r9 r9b rfin =>
          have hl' : [true, true, true, true, true, true] = [f0, f1, f2, f3, f4, f5] := congrArg Array.toList hl
          simp only [List.cons.injEq, and_true] at hl'
          obtain ⟨rfl, rfl, rfl, rfl, rfl, rfl⟩ := hl'
          clear hl
          unfold t12Upd
          simp only [cond_true]
          have HDN := Lib.hid (rfin rfl)
          clear ch1 ch3 ch5 hB r44 r46 r9 r9b rfin
          have HE9 := Lib.hid HDN.out.1
          have HN9 := Lib.hid HDN.out.2.1
          have HB9 := Lib.hid (HBV.out.trans (HDN.out.2.2.mono HBV.out.size))
          have HA9 := Lib.hid (HA.out.later HDN.out.2.2)
          clear HDN HA HE HBV
          obtain ⟨n0, n1, n2, n3⟩ := bxc4 HE9.out
          have nl := HE9.out.lt
          go_wp2_with fail
          refine (HRD.out HLP.out (by trivial) HLX1.out HAL.out _ _ _ _ HN9.out).mono ?_
          rintro e w5 ⟨t1, t4, t2, t5, t3, t6, rfl, hp5, hb5⟩
          have HA5 := Lib.hid (HA9.out.later hb5)
          have HB5 := Lib.hid (HB9.out.trans (hb5.mono HB9.out.size))
          have HP5 := Lib.hid hp5
          clear hp5 hb5 HA9 HE9 HB9 HN9 n0 n1 n2 n3 nl
          go_upto_region 14 with fail
          refine wp_world ?_
          intro W6 hW6
          have x6 : Box W6 w5.heap.size [.bool dh, .string dx, .string dy, .string dz, .string dg, .string da, .string dv, .string dk, .slice t1 lp t4, .slice t2 lm t5, .slice t3 ld t6] := by rw [hW6]; exact Box.new w5 [.bool dh, .string dx, .string dy, .string dz, .string dg, .string da, .string dv, .string dk, .slice t1 lp t4, .slice t2 lm t5, .slice t3 ld t6] _ _ rfl
          have hb6 : Below w5.heap.size w5 W6 := by rw [hW6]; exact (Below.refl _ w5).alloc (Nat.le_refl _) _
          clear hW6
          have HQ6 := Lib.hid x6
          have HA6 := Lib.hid (HA5.out.later hb6)
          have HB6 := Lib.hid (HB5.out.trans (hb6.mono HB5.out.size))
          have HP6 := Lib.hid (HPK.out _ _ _ _ _ _ HP5.out hb6)
          clear x6 hb6 HA5 HB5 HP5
          obtain ⟨c0, c1, c2, c3, c4, c5, c6, c7, c8, c9, c10⟩ := bxc11 HA6.out
          have cl := HA6.out.lt
          obtain ⟨d0, d1, d2, d3, d4, d5, d6, d7, d8, d9, d10⟩ := bxc11 HQ6.out
          have dl := HQ6.out.lt
          go_wp2_with fail
          refine (HSM.out HLP.out _ _ _ _ _ _ _ _ HB6.out HP6.out).mono ?_
          rintro e w7 ⟨rfl, hb7⟩
          have HB7 := Lib.hid (HB6.out.trans (hb7.mono HB6.out.size))
          clear hb7 HA6 HB6 HP6 HQ6 c0 c1 c2 c3 c4 c5 c6 c7 c8 c9 c10 cl d0 d1 d2 d3 d4 d5 d6 d7 d8 d9 d10 dl
          go_wp2_with fail
          refine (HLV.out _ HB7.out).mono ?_
          rintro e w8 ⟨rfl, hb8⟩
          have HB8 := Lib.hid (HB7.out.trans (hb8.mono HB7.out.size))
          clear hb8 HLV
          go_wp2
          go_ret
          exact ⟨rfl, HB8.out⟩
        case step =>
         intro listed a' w' hJ i hi
         cases hJ with
         | mk f0 f1 f2 f3 f4 f5 ko kc o1 l1 c1 o2 l2 c2 H9 _ ch1 ch3 ch5 hB r44 r46 r9 r9b rfin =>
          rw [mem_ready] at hi
          obtain ⟨hu, o, ho, ha⟩ := hi
          have hi8 : i < 6 := (Array.getElem?_eq_some_iff.1 ho).1
          rcases (by omega : i = 0 ∨ i = 1 ∨ i = 2 ∨ i = 3 ∨ i = 4 ∨ i = 5) with rfl | rfl | rfl | rfl | rfl | rfl
          · have ho' := ho
            simp at hu ho
            subst hu ho
            clear ha
            have e1 : f1 = false := Bool.eq_false_iff.2 fun h => Bool.false_ne_true ((ch1.out h))
            have e3 : f3 = false := Bool.eq_false_iff.2 fun h => Bool.false_ne_true ((ch1.out (ch3.out h).1))
            have e5 : f5 = false := Bool.eq_false_iff.2 fun h => Bool.false_ne_true ((ch1.out (ch3.out (ch5.out h).1).1))
            subst e1 e3 e5
            have hB1 := hB rfl
            have d0 := (hB1.cell (p := ⟨w.heap.size, 0, none⟩) (by exact HA.out.lt)).trans (HA.out.cell 0 _ rfl)
            have d1 := (hB1.cell (p := ⟨w.heap.size, 1, none⟩) (by exact HA.out.lt)).trans (HA.out.cell 1 _ rfl)
            have d2 := (hB1.cell (p := ⟨w.heap.size, 2, none⟩) (by exact HA.out.lt)).trans (HA.out.cell 2 _ rfl)
            have d3 := (hB1.cell (p := ⟨w.heap.size, 3, none⟩) (by exact HA.out.lt)).trans (HA.out.cell 3 _ rfl)
            have d4 := (hB1.cell (p := ⟨w.heap.size, 4, none⟩) (by exact HA.out.lt)).trans (HA.out.cell 4 _ rfl)
            have d5 := (hB1.cell (p := ⟨w.heap.size, 5, none⟩) (by exact HA.out.lt)).trans (HA.out.cell 5 _ rfl)
            have d6 := (hB1.cell (p := ⟨w.heap.size, 6, none⟩) (by exact HA.out.lt)).trans (HA.out.cell 6 _ rfl)
            have d7 := (hB1.cell (p := ⟨w.heap.size, 7, none⟩) (by exact HA.out.lt)).trans (HA.out.cell 7 _ rfl)
            have d8 := (hB1.cell (p := ⟨w.heap.size, 8, none⟩) (by exact HA.out.lt)).trans (HA.out.cell 8 _ rfl)
            have d9 := (hB1.cell (p := ⟨w.heap.size, 9, none⟩) (by exact HA.out.lt)).trans (HA.out.cell 9 _ rfl)
            have d10 := (hB1.cell (p := ⟨w.heap.size, 10, none⟩) (by exact HA.out.lt)).trans (HA.out.cell 10 _ rfl)
            have dl := Nat.lt_of_lt_of_le HA.out.lt hB1.size
            refine .inl ?_
            unfold t12Upd Oper.wp
            go_simp
            exact t12J.at true false f2 false f4 false (ko) (kc) (o1) (l1) (c1) (o2) (l2) (c2) (H9) rfl rfl (Lib.hid (by simp)) (Lib.hid (by simp)) (Lib.hid (by simp)) (hB) (by simp) (by simp) (r9) (r9b) (by simp)
          · have ho' := ho
            simp at hu ho
            subst hu ho
            simp [Region.binds] at ha
            obtain rfl : f0 = true := by simp only [ha]
            clear ha
            have e3 : f3 = false := Bool.eq_false_iff.2 fun h => Bool.false_ne_true ((ch3.out h).1)
            have e5 : f5 = false := Bool.eq_false_iff.2 fun h => Bool.false_ne_true ((ch3.out (ch5.out h).1).1)
            subst e3 e5
            have hS := (hB rfl).size
            refine .inl ?_
            unfold t12Upd Oper.wp
            go_simp
            refine (HWR.out w' (HBV.out.trans ((hB rfl).mono HBV.out.size))).mono ?_
            intro e w1 hO
            obtain ⟨q1, q3, rfl, hn, hb⟩ := hO
            exact t12J.at true true f2 false f4 false (q1) (q3) (o1) (l1) (c1) (o2) (l2) (c2) (H9) rfl rfl (Lib.hid (by simp)) (Lib.hid (by simp)) (Lib.hid (by simp)) (fun h0 => (hB h0).trans (hb.mono hS)) (fun h0 h1 => HNM.out _ _ _ _ _ hn (fun j _ h => by rw [h.2]; exact (r9 h.1 rfl).lt)) (by simp) (fun h0 h1 => (r9 h0 h1).later hb) (fun h0 h1 => keepP (r9b h0 h1) hb) (by simp)
          · have ho' := ho
            simp at hu ho
            subst hu ho
            clear ha
            have e3 : f3 = false := Bool.eq_false_iff.2 fun h => Bool.false_ne_true ((ch3.out h).2)
            have e5 : f5 = false := Bool.eq_false_iff.2 fun h => Bool.false_ne_true ((ch3.out (ch5.out h).1).2)
            subst e3 e5
            have hB1 := hB rfl
            have d0 := (hB1.cell (p := ⟨w.heap.size + 1, 0, none⟩) (by exact HE.out.lt)).trans (HE.out.cell 0 _ rfl)
            have d1 := (hB1.cell (p := ⟨w.heap.size + 1, 1, none⟩) (by exact HE.out.lt)).trans (HE.out.cell 1 _ rfl)
            have d2 := (hB1.cell (p := ⟨w.heap.size + 1, 2, none⟩) (by exact HE.out.lt)).trans (HE.out.cell 2 _ rfl)
            have d3 := (hB1.cell (p := ⟨w.heap.size + 1, 3, none⟩) (by exact HE.out.lt)).trans (HE.out.cell 3 _ rfl)
            have dl := Nat.lt_of_lt_of_le HE.out.lt hB1.size
            refine .inl ?_
            unfold t12Upd Oper.wp
            go_simp
            exact t12J.at f0 f1 true false f4 false (ko) (kc) (o1) (l1) (c1) (o2) (l2) (c2) (H9) rfl rfl (ch1) (Lib.hid (by simp)) (Lib.hid (by simp)) (hB) (r44) (by simp) (r9) (r9b) (by simp)
          · have ho' := ho
            simp at hu ho
            subst hu ho
            simp [Region.binds] at ha
            obtain rfl : f1 = true := by simp only [ha]
            obtain rfl : f2 = true := by simp only [ha]
            clear ha
            obtain rfl : f0 = true := (ch1.out rfl)
            have e5 : f5 = false := Bool.eq_false_iff.2 fun h => Bool.false_ne_true ((ch5.out h).1)
            subst e5
            have hS := (hB rfl).size
            refine .inl ?_
            unfold t12Upd Oper.wp
            go_simp
            refine (HBE.out (fun j => f4 = true ∧ j = H9) w' _ _ (r44 rfl rfl) (fun j h => by rw [h.2]; exact Nat.le_trans HBV.out.size (r9b h.1 rfl)) (HBV.out.trans ((hB rfl).mono HBV.out.size))).mono ?_
            intro e w1 hO
            obtain ⟨q1, q2, q3, q4, q5, q6, rfl, hn, hb⟩ := hO
            exact t12J.at true true true true f4 false (ko) (kc) (q1) (q2) (q3) (q4) (q5) (q6) (H9) rfl rfl (Lib.hid (by simp)) (Lib.hid (by simp)) (Lib.hid (by simp)) (fun h0 => (hB h0).trans (hb.mono hS)) (fun h0 h1 => HNK.out _ _ _ _ _ (r44 h0 h1) hb) (fun h0 h1 => HBM.out _ _ _ _ _ hn (fun j _ h => ⟨h, by rw [h.2]; exact (r9 h.1 rfl).lt⟩)) (fun h0 h1 => (r9 h0 h1).later hb) (fun h0 h1 => keepP (r9b h0 h1) hb) (by simp)
          · have ho' := ho
            simp at hu ho
            subst hu ho
            clear ha
            have e5 : f5 = false := Bool.eq_false_iff.2 fun h => Bool.false_ne_true ((ch5.out h).2)
            subst e5
            have hB1 := hB rfl
            have hS := (hB rfl).size
            have hal := fun o => (Below.refl w'.heap.size w').alloc (Nat.le_refl w'.heap.size) o
            refine .inl ?_
            unfold t12Upd Oper.wp
            go_simp
            exact t12J.at f0 f1 f2 f3 true false (ko) (kc) (o1) (l1) (c1) (o2) (l2) (c2) (w'.heap.size) rfl rfl (ch1) (ch3) (Lib.hid (by simp)) (fun h0 => (hB h0).trans ((hal _).mono hS)) (fun h0 h1 => HNK.out _ _ _ _ _ (HNM.out _ _ _ _ _ (r44 h0 h1) (fun j hj h => absurd hj (by rw [h.2]; omega))) (hal _)) (fun h0 h1 => HBK.out _ _ _ _ _ (HBM.out _ _ _ _ _ (r46 h0 h1) (fun j hj h => absurd hj (by rw [h.2]; omega))) (hal _)) (fun h0 h1 => Box.new w' [.string ⟨#[]⟩, .slice none 0 0, .slice none 0 0, .string ⟨#[]⟩] _ _ rfl) (fun h0 h1 => hB1.size) (by simp)
          · have ho' := ho
            simp at hu ho
            subst hu ho
            simp [Region.binds] at ha
            obtain rfl : f3 = true := by simp only [ha]
            obtain rfl : f4 = true := by simp only [ha]
            clear ha
            obtain rfl : f2 = true := (ch3.out rfl).2
            obtain rfl : f1 = true := (ch3.out rfl).1
            obtain rfl : f0 = true := (ch1.out (ch3.out rfl).1)
            have hB1 := hB rfl
            have h9 := r9 rfl rfl
            have h9b := r9b rfl rfl
            have h46 := r46 rfl rfl
            obtain ⟨z0, z1, z2, z3⟩ := bxc4 h9
            have f0 := h9.free 0
            have f1 := h9.free 1
            have f2 := h9.free 2
            have f3 := h9.free 3
            have zl := h9.lt
            refine .inl ?_
            unfold t12Upd Oper.wp
            go_simp
            exact t12J.at true true true true true true (ko) (kc) (o1) (l1) (c1) (o2) (l2) (c2) (H9) rfl rfl (Lib.hid (by simp)) (Lib.hid (by simp)) (Lib.hid (by simp)) (by simp) (by simp) (by simp) (by simp) (by simp) (fun _ => HFI.out w' _ _ _ _ _ _ _ hB1 h46 h9 h9b)

end Go.Proofs.YtbbbfjcikhpmbaaGreat

/- From the readings of the arguments to what the walks ask: a project that can be read is one in memory. -/
namespace Go.Proofs.YtbbbfjcikhpmbaaGreat
open Go Go.RowKit

variable {H : Type} {enc : TypeId × Value → H} {W : World} {sp : Nat → Bool} {held : Bool}
/-- Whatever reads as type t are the cells of some a that is all right. -/
def Opens {α : Type} (enc : TypeId × Value → H) (W : World) (sp : Nat → Bool) (held : Bool) (t : TypeId) (C : α → List Value) (Ok : α → Prop) : Prop :=
 ∀ fuel cs x, DataW.trod enc Tryz.prog W 0 sp held fuel t cs = some x → ∃ a, cs = C a ∧ Ok a
theorem opens_string : Opens enc W sp held 9 strC (fun s => s.size ≤ maxLen) := fun _ _ _ h => by
 obtain ⟨s, h1, -, h2⟩ := DataW.trod_string Tryz.underlying9 h
 exact ⟨s, h1, h2⟩
theorem opens_int : Opens enc W sp held 3 (fun n => [.int .i64 n]) (fun n => (Lit.int .i64 n).wf = true) := fun _ _ _ h => by
 obtain ⟨s, h1, -, h2⟩ := DataW.trod_int Tryz.underlying3 h
 exact ⟨s, h1, h2⟩
theorem opens_bool : Opens enc W sp held 4 (fun n => [.bool n]) (fun _ => True) := fun _ _ _ h => by
 obtain ⟨s, h1, -⟩ := DataW.trod_bool Tryz.underlying4 h
 exact ⟨s, h1, trivial⟩
theorem cells_of {w : World} {a : Addr} {n : Nat} {cs : List Value} (h : w.cells? 0 a n = some cs) (hn : 0 < n) : cs.length = n ∧ a.spot = none ∧ a.block < w.heap.size ∧ ∀ j u, cs[j]? = some u → w.cell? ⟨a.block, a.off + j, none⟩ = some u := by
 unfold World.cells? at h
 rw [if_pos (Nat.zero_le _)] at h
 have hl : cs.length = n := by simpa using mapM_some_length h
 have hg : ∀ j, j < n → w.cell? (a.add j) = cs[j]? := fun j hj => mapM_some_get h j j (by simp [hj])
 have h00 : w.cell? a = some cs[0] := by
  have := hg 0 hn
  rw [show a.add 0 = a from rfl] at this
  rw [this]; simp
 have hsp : a.spot = none := by
  cases hs : a.spot with
  | none => rfl
  | some x =>
   exfalso
   simp only [World.cell?, hs, Option.isSome_some, if_true] at h00
   split at h00 <;> cases h00
 obtain ⟨b, o, s⟩ := a
 cases hsp
 refine ⟨hl, rfl, World.block_lt_of_cell? w _ h00, fun j u hu => ?_⟩
 have hj : j < n := by rw [← hl]; exact (List.getElem?_eq_some_iff.1 hu).1
 have := hg j hj
 rw [Addr.add_lit, hu] at this
 exact this
theorem list_snoc {α : Type} {l : List α} {y : α} {i : Nat} {z : α} (h : (l ++ [y])[i]? = some z) : (i < l.length ∧ l[i]? = some z) ∨ (i = l.length ∧ z = y) := by
 by_cases hi : i < l.length
 · left; rw [List.getElem?_append_left hi] at h; exact ⟨hi, h⟩
 · right
   rw [List.getElem?_append_right (by omega)] at h
   by_cases h1 : i - l.length = 0
   · rw [h1] at h; simp at h; exact ⟨by omega, h.symm⟩
   · rw [List.getElem?_eq_none (by simp; omega)] at h; cases h
theorem list_of {α : Type} {len : Nat} {P : Nat → α → Prop} (h : ∀ i, i < len → ∃ y, P i y) : ∃ l : List α, l.length = len ∧ ∀ i y, l[i]? = some y → P i y := by
 induction len with
 | zero => exact ⟨[], rfl, fun i y h => by simp at h⟩
 | succ len ih =>
  obtain ⟨l, hl, hP⟩ := ih (fun i hi => h i (by omega))
  obtain ⟨y, hy⟩ := h len (by omega)
  refine ⟨l ++ [y], by simp [hl], fun i z hz => ?_⟩
  rcases list_snoc hz with ⟨-, h1⟩ | ⟨rfl, rfl⟩
  · exact hP i z h1
  · rw [hl]; exact hy
theorem opens_slice {α : Type} {t e n : Nat} {C : α → List Value} {Ok : α → Prop} (ht : Tryz.prog.underlying t = some (.slice e)) (hn : Tryz.prog.cellsOf e = n) (h0 : 0 < n) (he : Opens enc W sp held e C Ok) :
    Opens enc W sp held t (fun v : Value => [v]) (fun v => ∃ l, SliceOf n C W v l ∧ ∀ a ∈ l, Ok a) := fun fuel cs x h => by
 rcases Deep.open_slice ht h with ⟨rfl, -⟩ | ⟨a, len, cap, m, n', D, Pl, rfl, -, hlc, hcm, hm, -, hel⟩
 · exact ⟨_, rfl, [], SliceOf.nil, by simp⟩
 · rw [hn] at hel
   have hlm : len ≤ m := by rw [hm]; split <;> omega
   obtain ⟨l, hl, hP⟩ := list_of (len := len) (P := fun i y => W.cells? 0 (a.add (i * n)) n = some (C y) ∧ Ok y) (fun i hi => by
    obtain ⟨cs', h1, h2⟩ := hel i (by omega)
    obtain ⟨y, rfl, hy⟩ := he _ _ _ h2
    exact ⟨y, h1, hy⟩)
   refine ⟨_, rfl, l, ⟨some a, cap, by rw [hl], by omega, hcm, by simp, fun i y hy => ?_⟩, fun y hy => ?_⟩
   · have hil : i < len := by rw [← hl]; exact (List.getElem?_eq_some_iff.1 hy).1
     obtain ⟨y0, hy0⟩ : ∃ y0, l[0]? = some y0 := ⟨l[0]'(by omega), by simp⟩
     obtain ⟨-, hs, hb, -⟩ := cells_of (hP 0 y0 hy0).1 h0
     rw [Nat.zero_mul, show a.add 0 = a from rfl] at hs hb
     obtain ⟨b, o, s⟩ := a
     cases hs
     obtain ⟨-, -, -, hc⟩ := cells_of (hP i y hy).1 h0
     rw [Addr.add_lit] at hc
     exact ⟨b, o, rfl, hb, hc⟩
   · obtain ⟨i, hi, rfl⟩ := List.mem_iff_getElem.1 hy
     exact (hP i _ (by simp [hi])).2
theorem cellsOf_str : Tryz.prog.cellsOf 9 = 1 := by kernel_rfl
theorem cellsOf_int : Tryz.prog.cellsOf 3 = 1 := by kernel_rfl
theorem cellsOf_bool : Tryz.prog.cellsOf 4 = 1 := by kernel_rfl
theorem cellsOf_id : Tryz.prog.cellsOf 52 = 2 := by kernel_rfl
theorem cellsOf_prp : Tryz.prog.cellsOf 55 = 2 := by kernel_rfl
theorem cellsOf_gav : Tryz.prog.cellsOf 29 = 3 := by kernel_rfl
theorem cellsOf_dep : Tryz.prog.cellsOf 48 = 8 := by kernel_rfl
theorem cellsOf_pom : Tryz.prog.cellsOf 33 = 11 := by kernel_rfl
theorem cellsOf_ids : Tryz.prog.cellsOf 46 = 1 := by kernel_rfl
theorem cellsOf_prps : Tryz.prog.cellsOf 30 = 1 := by kernel_rfl
theorem cellsOf_deps : Tryz.prog.cellsOf 31 = 1 := by kernel_rfl
theorem len2 {l : List Value} (h : l.length = 2) : ∃ c0 c1, l = [c0, c1] := by
 match l, h with
 | [c0, c1], _ => exact ⟨c0, c1, rfl⟩
theorem len3 {l : List Value} (h : l.length = 3) : ∃ c0 c1 c2, l = [c0, c1, c2] := by
 match l, h with
 | [c0, c1, c2], _ => exact ⟨c0, c1, c2, rfl⟩
theorem len8 {l : List Value} (h : l.length = 8) : ∃ c0 c1 c2 c3 c4 c5 c6 c7, l = [c0, c1, c2, c3, c4, c5, c6, c7] := by
 match l, h with
 | [c0, c1, c2, c3, c4, c5, c6, c7], _ => exact ⟨c0, c1, c2, c3, c4, c5, c6, c7, rfl⟩
theorem len11 {l : List Value} (h : l.length = 11) : ∃ c0 c1 c2 c3 c4 c5 c6 c7 c8 c9 c10, l = [c0, c1, c2, c3, c4, c5, c6, c7, c8, c9, c10] := by
 match l, h with
 | [c0, c1, c2, c3, c4, c5, c6, c7, c8, c9, c10], _ => exact ⟨c0, c1, c2, c3, c4, c5, c6, c7, c8, c9, c10, rfl⟩
theorem opens_id : Opens enc W sp held 52 idC (fun _ => True) := fun fuel cs x h => by
 obtain ⟨xs, n, -, -, hl, hxs, hf⟩ := DataW.trod_struct Tryz.underlying52 h
 rw [cellsOf_id] at hl
 obtain ⟨c0, c1, rfl⟩ := len2 hl
 have f0 : DataW.trod enc Tryz.prog W 0 sp held n 9 (([c0, c1].drop 0).take (Tryz.prog.cellsOf 9)) = xs[0]? := hf 0 _ rfl
 rw [cellsOf_str, List.getElem?_eq_getElem (by rw [hxs]; decide)] at f0
 have f1 : DataW.trod enc Tryz.prog W 0 sp held n 9 (([c0, c1].drop 1).take (Tryz.prog.cellsOf 9)) = xs[1]? := hf 1 _ rfl
 rw [cellsOf_str, List.getElem?_eq_getElem (by rw [hxs]; decide)] at f1
 obtain ⟨a0, h0, k0⟩ := opens_string _ _ _ f0
 obtain ⟨a1, h1, k1⟩ := opens_string _ _ _ f1
 clear hf f0 f1
 cases h0
 cases h1
 exact ⟨⟨a0, a1⟩, rfl, trivial⟩
theorem opens_prp : Opens enc W sp held 55 prpC (fun _ => True) := fun fuel cs x h => by
 obtain ⟨xs, n, -, -, hl, hxs, hf⟩ := DataW.trod_struct Tryz.underlying55 h
 rw [cellsOf_prp] at hl
 obtain ⟨c0, c1, rfl⟩ := len2 hl
 have f0 : DataW.trod enc Tryz.prog W 0 sp held n 9 (([c0, c1].drop 0).take (Tryz.prog.cellsOf 9)) = xs[0]? := hf 0 _ rfl
 rw [cellsOf_str, List.getElem?_eq_getElem (by rw [hxs]; decide)] at f0
 have f1 : DataW.trod enc Tryz.prog W 0 sp held n 9 (([c0, c1].drop 1).take (Tryz.prog.cellsOf 9)) = xs[1]? := hf 1 _ rfl
 rw [cellsOf_str, List.getElem?_eq_getElem (by rw [hxs]; decide)] at f1
 obtain ⟨a0, h0, k0⟩ := opens_string _ _ _ f0
 obtain ⟨a1, h1, k1⟩ := opens_string _ _ _ f1
 clear hf f0 f1
 cases h0
 cases h1
 exact ⟨⟨a0, a1⟩, rfl, trivial⟩
theorem opens_gav : Opens enc W sp held 29 gavC (fun _ => True) := fun fuel cs x h => by
 obtain ⟨xs, n, -, -, hl, hxs, hf⟩ := DataW.trod_struct Tryz.underlying29 h
 rw [cellsOf_gav] at hl
 obtain ⟨c0, c1, c2, rfl⟩ := len3 hl
 have f0 : DataW.trod enc Tryz.prog W 0 sp held n 9 (([c0, c1, c2].drop 0).take (Tryz.prog.cellsOf 9)) = xs[0]? := hf 0 _ rfl
 rw [cellsOf_str, List.getElem?_eq_getElem (by rw [hxs]; decide)] at f0
 have f1 : DataW.trod enc Tryz.prog W 0 sp held n 9 (([c0, c1, c2].drop 1).take (Tryz.prog.cellsOf 9)) = xs[1]? := hf 1 _ rfl
 rw [cellsOf_str, List.getElem?_eq_getElem (by rw [hxs]; decide)] at f1
 have f2 : DataW.trod enc Tryz.prog W 0 sp held n 9 (([c0, c1, c2].drop 2).take (Tryz.prog.cellsOf 9)) = xs[2]? := hf 2 _ rfl
 rw [cellsOf_str, List.getElem?_eq_getElem (by rw [hxs]; decide)] at f2
 obtain ⟨a0, h0, k0⟩ := opens_string _ _ _ f0
 obtain ⟨a1, h1, k1⟩ := opens_string _ _ _ f1
 obtain ⟨a2, h2, k2⟩ := opens_string _ _ _ f2
 clear hf f0 f1 f2
 cases h0
 cases h1
 cases h2
 exact ⟨⟨a0, a1, a2⟩, rfl, trivial⟩
theorem opens_ids : Opens enc W sp held 46 (fun v : Value => [v]) (fun v => ∃ l, SliceOf 2 idC W v l ∧ ∀ a ∈ l, True) := opens_slice Tryz.underlying46 cellsOf_id (by decide) opens_id
theorem opens_prps : Opens enc W sp held 30 (fun v : Value => [v]) (fun v => ∃ l, SliceOf 2 prpC W v l ∧ ∀ a ∈ l, True) := opens_slice Tryz.underlying30 cellsOf_prp (by decide) opens_prp
theorem opens_dep : Opens enc W sp held 48 depC (DepOk W) := fun fuel cs x h => by
 obtain ⟨xs, n, -, -, hl, hxs, hf⟩ := DataW.trod_struct Tryz.underlying48 h
 rw [cellsOf_dep] at hl
 obtain ⟨c0, c1, c2, c3, c4, c5, c6, c7, rfl⟩ := len8 hl
 have f0 : DataW.trod enc Tryz.prog W 0 sp held n 9 (([c0, c1, c2, c3, c4, c5, c6, c7].drop 0).take (Tryz.prog.cellsOf 9)) = xs[0]? := hf 0 _ rfl
 rw [cellsOf_str, List.getElem?_eq_getElem (by rw [hxs]; decide)] at f0
 have f1 : DataW.trod enc Tryz.prog W 0 sp held n 9 (([c0, c1, c2, c3, c4, c5, c6, c7].drop 1).take (Tryz.prog.cellsOf 9)) = xs[1]? := hf 1 _ rfl
 rw [cellsOf_str, List.getElem?_eq_getElem (by rw [hxs]; decide)] at f1
 have f2 : DataW.trod enc Tryz.prog W 0 sp held n 9 (([c0, c1, c2, c3, c4, c5, c6, c7].drop 2).take (Tryz.prog.cellsOf 9)) = xs[2]? := hf 2 _ rfl
 rw [cellsOf_str, List.getElem?_eq_getElem (by rw [hxs]; decide)] at f2
 have f3 : DataW.trod enc Tryz.prog W 0 sp held n 9 (([c0, c1, c2, c3, c4, c5, c6, c7].drop 3).take (Tryz.prog.cellsOf 9)) = xs[3]? := hf 3 _ rfl
 rw [cellsOf_str, List.getElem?_eq_getElem (by rw [hxs]; decide)] at f3
 have f4 : DataW.trod enc Tryz.prog W 0 sp held n 9 (([c0, c1, c2, c3, c4, c5, c6, c7].drop 4).take (Tryz.prog.cellsOf 9)) = xs[4]? := hf 4 _ rfl
 rw [cellsOf_str, List.getElem?_eq_getElem (by rw [hxs]; decide)] at f4
 have f5 : DataW.trod enc Tryz.prog W 0 sp held n 3 (([c0, c1, c2, c3, c4, c5, c6, c7].drop 5).take (Tryz.prog.cellsOf 3)) = xs[5]? := hf 5 _ rfl
 rw [cellsOf_int, List.getElem?_eq_getElem (by rw [hxs]; decide)] at f5
 have f6 : DataW.trod enc Tryz.prog W 0 sp held n 3 (([c0, c1, c2, c3, c4, c5, c6, c7].drop 6).take (Tryz.prog.cellsOf 3)) = xs[6]? := hf 6 _ rfl
 rw [cellsOf_int, List.getElem?_eq_getElem (by rw [hxs]; decide)] at f6
 have f7 : DataW.trod enc Tryz.prog W 0 sp held n 46 (([c0, c1, c2, c3, c4, c5, c6, c7].drop 7).take (Tryz.prog.cellsOf 46)) = xs[7]? := hf 7 _ rfl
 rw [cellsOf_ids, List.getElem?_eq_getElem (by rw [hxs]; decide)] at f7
 obtain ⟨a0, h0, k0⟩ := opens_string _ _ _ f0
 obtain ⟨a1, h1, k1⟩ := opens_string _ _ _ f1
 obtain ⟨a2, h2, k2⟩ := opens_string _ _ _ f2
 obtain ⟨a3, h3, k3⟩ := opens_string _ _ _ f3
 obtain ⟨a4, h4, k4⟩ := opens_string _ _ _ f4
 obtain ⟨a5, h5, k5⟩ := opens_int _ _ _ f5
 obtain ⟨a6, h6, k6⟩ := opens_int _ _ _ f6
 obtain ⟨a7, h7, k7⟩ := opens_ids _ _ _ f7
 clear hf f0 f1 f2 f3 f4 f5 f6 f7
 cases h0
 cases h1
 cases h2
 cases h3
 cases h4
 cases h5
 cases h6
 cases h7
 exact ⟨(⟨a0, a1, a2, a3, a4, a5, a6, k7.choose⟩, _), rfl, k7.choose_spec.1⟩
theorem opens_deps : Opens enc W sp held 31 (fun v : Value => [v]) (fun v => ∃ l, SliceOf 8 depC W v l ∧ ∀ a ∈ l, DepOk W a) := opens_slice Tryz.underlying31 cellsOf_dep (by decide) opens_dep
theorem opens_pom : Opens enc W sp held 33 (fun q : Pom × Value × Value × Value => pomC q.1 q.2.1 q.2.2.1 q.2.2.2) (fun q => PomOf W (.agg (pomC q.1 q.2.1 q.2.2.1 q.2.2.2).toArray) q.1 q.2.1 q.2.2.1 q.2.2.2) := fun fuel cs x h => by
 obtain ⟨xs, n, -, -, hl, hxs, hf⟩ := DataW.trod_struct Tryz.underlying33 h
 rw [cellsOf_pom] at hl
 obtain ⟨c0, c1, c2, c3, c4, c5, c6, c7, c8, c9, c10, rfl⟩ := len11 hl
 have f0 : DataW.trod enc Tryz.prog W 0 sp held n 4 (([c0, c1, c2, c3, c4, c5, c6, c7, c8, c9, c10].drop 0).take (Tryz.prog.cellsOf 4)) = xs[0]? := hf 0 _ rfl
 rw [cellsOf_bool, List.getElem?_eq_getElem (by rw [hxs]; decide)] at f0
 have f1 : DataW.trod enc Tryz.prog W 0 sp held n 29 (([c0, c1, c2, c3, c4, c5, c6, c7, c8, c9, c10].drop 1).take (Tryz.prog.cellsOf 29)) = xs[1]? := hf 1 _ rfl
 rw [cellsOf_gav, List.getElem?_eq_getElem (by rw [hxs]; decide)] at f1
 have f2 : DataW.trod enc Tryz.prog W 0 sp held n 9 (([c0, c1, c2, c3, c4, c5, c6, c7, c8, c9, c10].drop 4).take (Tryz.prog.cellsOf 9)) = xs[2]? := hf 2 _ rfl
 rw [cellsOf_str, List.getElem?_eq_getElem (by rw [hxs]; decide)] at f2
 have f3 : DataW.trod enc Tryz.prog W 0 sp held n 9 (([c0, c1, c2, c3, c4, c5, c6, c7, c8, c9, c10].drop 5).take (Tryz.prog.cellsOf 9)) = xs[3]? := hf 3 _ rfl
 rw [cellsOf_str, List.getElem?_eq_getElem (by rw [hxs]; decide)] at f3
 have f4 : DataW.trod enc Tryz.prog W 0 sp held n 9 (([c0, c1, c2, c3, c4, c5, c6, c7, c8, c9, c10].drop 6).take (Tryz.prog.cellsOf 9)) = xs[4]? := hf 4 _ rfl
 rw [cellsOf_str, List.getElem?_eq_getElem (by rw [hxs]; decide)] at f4
 have f5 : DataW.trod enc Tryz.prog W 0 sp held n 9 (([c0, c1, c2, c3, c4, c5, c6, c7, c8, c9, c10].drop 7).take (Tryz.prog.cellsOf 9)) = xs[5]? := hf 5 _ rfl
 rw [cellsOf_str, List.getElem?_eq_getElem (by rw [hxs]; decide)] at f5
 have f6 : DataW.trod enc Tryz.prog W 0 sp held n 30 (([c0, c1, c2, c3, c4, c5, c6, c7, c8, c9, c10].drop 8).take (Tryz.prog.cellsOf 30)) = xs[6]? := hf 6 _ rfl
 rw [cellsOf_prps, List.getElem?_eq_getElem (by rw [hxs]; decide)] at f6
 have f7 : DataW.trod enc Tryz.prog W 0 sp held n 31 (([c0, c1, c2, c3, c4, c5, c6, c7, c8, c9, c10].drop 9).take (Tryz.prog.cellsOf 31)) = xs[7]? := hf 7 _ rfl
 rw [cellsOf_deps, List.getElem?_eq_getElem (by rw [hxs]; decide)] at f7
 have f8 : DataW.trod enc Tryz.prog W 0 sp held n 31 (([c0, c1, c2, c3, c4, c5, c6, c7, c8, c9, c10].drop 10).take (Tryz.prog.cellsOf 31)) = xs[8]? := hf 8 _ rfl
 rw [cellsOf_deps, List.getElem?_eq_getElem (by rw [hxs]; decide)] at f8
 obtain ⟨a0, h0, k0⟩ := opens_bool _ _ _ f0
 obtain ⟨a1, h1, k1⟩ := opens_gav _ _ _ f1
 obtain ⟨a2, h2, k2⟩ := opens_string _ _ _ f2
 obtain ⟨a3, h3, k3⟩ := opens_string _ _ _ f3
 obtain ⟨a4, h4, k4⟩ := opens_string _ _ _ f4
 obtain ⟨a5, h5, k5⟩ := opens_string _ _ _ f5
 obtain ⟨a6, h6, k6⟩ := opens_prps _ _ _ f6
 obtain ⟨a7, h7, k7⟩ := opens_deps _ _ _ f7
 obtain ⟨a8, h8, k8⟩ := opens_deps _ _ _ f8
 clear hf f0 f1 f2 f3 f4 f5 f6 f7 f8
 cases h0
 cases h1
 cases h2
 cases h3
 cases h4
 cases h5
 cases h6
 cases h7
 cases h8
 exact ⟨(⟨a0, a1, a2, a3, a4, a5, k6.choose, k7.choose.map (·.1), k8.choose.map (·.1)⟩, _, _, _), rfl, rfl, k6.choose_spec.1, ⟨k7.choose, rfl, k7.choose_spec⟩, ⟨k8.choose, rfl, k8.choose_spec⟩⟩

end Go.Proofs.YtbbbfjcikhpmbaaGreat
