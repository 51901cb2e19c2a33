/- The walk of the law PomLimits; the conditions stand in the theorem. -/
import Derived.Test.YtbbbfjcikhpmbaaGreatJE21
import Derived.Test.YtbbbfjcikhpmbaaGreatJE24
import Derived.BigRegion
import Derived.IntWalk
namespace Go.Proofs.YtbbbfjcikhpmbaaGreat
open Go Go.RowKit

theorem deps_replicate {w : World} {v : Value} {n base : Nat} {d : Dep} {x : Value} (h : Owns base 48 8 depC w v (List.replicate n ((d, x) : Dep × Value))) (hx : SliceOf 2 idC w x d.excl) : DepsOf w v (List.replicate n d) :=
 ⟨_, by rw [List.map_replicate], h.slice depC_len8, fun p hp => by rw [List.eq_of_mem_replicate hp]; exact hx⟩
theorem dep_own (y : Dep × Value) (W : World) (H : Nat) (hH : W.heap.size = H) (base : Nat) (hb : base ≤ H) : Owns base 48 8 depC (W.alloc (.cells (depC y).toArray 48)) (.slice (some ⟨H, 0, none⟩) 1 1) [y] := by
 subst hH
 have h := World.ownsRow_lit (w := W) (base := base) (e := 48) (size := 8) (depC y).toArray 1 hb (by unfold maxLen; omega) (by simp [depC])
 unfold Owns
 simpa using h
theorem ids_made (w : World) (n : Nat) (hn : n ≤ 2000) : (Instr.makeSlice 46 (.int .i64 n) (.int .i64 n)).run Tryz.prog w = .ok (.slice (some ⟨w.heap.size, 0, none⟩) n n) (w.alloc (.cells (madeCells #[.string ⟨#[]⟩, .string ⟨#[]⟩] (n * 2)) 52)) := by
 have info_id : (Tryz.prog.info? 52).map (fun i => (i.zero, i.size, i.bytes)) = some (some (.agg #[.string ⟨#[]⟩, .string ⟨#[]⟩]), 2, 32) := by kernel_rfl
 obtain ⟨i, hi, hz, hs, hb⟩ := info_parts info_id
 have := run_make (P := Tryz.prog) w 46 52 i (.agg #[.string ⟨#[]⟩, .string ⟨#[]⟩]) Tryz.underlying46 hi hz .i64 .i64 n n (by omega) (by omega) (by rw [hb]; omega) (by omega)
 rw [hs] at this
 simpa [Value.cells] using this
theorem ids_own (w : World) (n : Nat) (hn : n ≤ 2000) (base : Nat) (hb : base ≤ w.heap.size) : Owns base 52 2 idC (w.alloc (.cells (madeCells #[.string ⟨#[]⟩, .string ⟨#[]⟩] (n * 2)) 52)) (.slice (some ⟨w.heap.size, 0, none⟩) n n) (List.replicate n ⟨⟨#[]⟩, ⟨#[]⟩⟩) := by
 have h := World.ownsRow_lit (w := w) (base := base) (e := 52) (size := 2) (madeCells #[.string ⟨#[]⟩, .string ⟨#[]⟩] (n * 2)) n hb (by unfold maxLen; omega) (size_madeCells _ _)
 have e : ((List.replicate n (⟨⟨#[]⟩, ⟨#[]⟩⟩ : Id)).flatMap idC) = (madeCells #[.string ⟨#[]⟩, .string ⟨#[]⟩] (n * 2)).toList := by
  have h1 : madeCells #[.string ⟨#[]⟩, .string ⟨#[]⟩] (n * 2) = Array.replicate (n * 2) (.string ⟨#[]⟩) := by
   apply Array.ext
   · simp [size_madeCells]
   · intro i h1 h2
     simp only [madeCells, Array.getElem_map, Array.getElem_range, Array.getElem_replicate]
     rcases (by omega : i % 2 = 0 ∨ i % 2 = 1) with h | h <;> simp [h]
  rw [h1, Array.toList_replicate]
  clear h1 h hb hn
  induction n with
  | zero => rfl
  | succ n ih => rw [List.replicate_succ, List.flatMap_cons, ih, show (n + 1) * 2 = n * 2 + 1 + 1 from by omega, List.replicate_succ, List.replicate_succ]; rfl
 unfold Owns
 rw [e, List.length_replicate]
 exact h
def p9Upd (B : Nat) (l : List Prp) (po : Option Addr) (pc : Nat) (x0 x1 x2 x3 x4 x5 x6 x7 x8 x9 x10 x11 x12 x13 x14 x15 x16 x17 x18 x19 x20 x21 x22 x23 y24 y25 y26 y27 y28 y29 y30 y31 y32 y33 x34 x35 x36 x37 x38 x39 x40 x41 x42 x43 x44 x45 x46 x47 x48 x49 x50 x51 x52 x53 x54 x55 x56 x57 x58 x59 x60 x61 x62 x63 x64 x65 x66 x67 x68 x69 x70 x71 x72 x73 x74 x75 x76 x77 x78 x79 x80 x81 x82 x83 x84 x85 x86 x87 x88 x89 x90 x91 x92 x93 x94 x95 x96 x97 x98 x99 x100 x101 x102 x103 x104 : Value) (f0 f1 f2 f3 f4 f5 f6 f7 f8 f9 _f10 : Bool) (H : Nat) (g7 : Nat) (c7 : Nat) : Act :=
 ⟨#[x0, x1, x2, x3, x4, x5, x6, x7, x8, x9, x10, x11, x12, x13, x14, x15, x16, x17, x18, x19, x20, x21, x22, x23, cond f0 (.pointer (some ⟨B, 8, none⟩)) y24, cond f1 (.slice po l.length pc) y25, cond f2 (.int .i64 (l.length : Nat)) y26, cond f3 (.int .i64 ((l.length : Int) + 1)) y27, cond f4 (.string (bs (numP (l.length + 1)))) y28, cond f5 (.string (bs (112 :: numP (l.length + 1)))) y29, cond f6 (.agg #[.string (bs (112 :: numP (l.length + 1))), .string ⟨#[118]⟩]) y30, cond f7 (.slice (some ⟨H, 0, none⟩) 1 1) y31, cond f8 (.slice (some ⟨g7, 0, none⟩) (l.length + 1) c7) y32, cond f9 (.pointer (some ⟨B, 8, none⟩)) y33, x34, x35, x36, x37, x38, x39, x40, x41, x42, x43, x44, x45, x46, x47, x48, x49, x50, x51, x52, x53, x54, x55, x56, x57, x58, x59, x60, x61, x62, x63, x64, x65, x66, x67, x68, x69, x70, x71, x72, x73, x74, x75, x76, x77, x78, x79, x80, x81, x82, x83, x84, x85, x86, x87, x88, x89, x90, x91, x92, x93, x94, x95, x96, x97, x98, x99, x100, x101, x102, x103, x104], []⟩
def p9J (B : Nat) (l : List Prp) (po : Option Addr) (pc : Nat) (V : World) (x0 x1 x2 x3 x4 x5 x6 x7 x8 x9 x10 x11 x12 x13 x14 x15 x16 x17 x18 x19 x20 x21 x22 x23 y24 y25 y26 y27 y28 y29 y30 y31 y32 y33 x34 x35 x36 x37 x38 x39 x40 x41 x42 x43 x44 x45 x46 x47 x48 x49 x50 x51 x52 x53 x54 x55 x56 x57 x58 x59 x60 x61 x62 x63 x64 x65 x66 x67 x68 x69 x70 x71 x72 x73 x74 x75 x76 x77 x78 x79 x80 x81 x82 x83 x84 x85 x86 x87 x88 x89 x90 x91 x92 x93 x94 x95 x96 x97 x98 x99 x100 x101 x102 x103 x104 : Value) (listed : Array Bool) (atx : Act) (w' : World) : Prop :=
 ∃ (f0 f1 f2 f3 f4 f5 f6 f7 f8 f9 f10 : Bool) (H : Nat) (g7 : Nat) (c7 : Nat), listed = #[f0, f1, f2, f3, f4, f5, f6, f7, f8, f9, f10] ∧ atx = p9Upd B l po pc x0 x1 x2 x3 x4 x5 x6 x7 x8 x9 x10 x11 x12 x13 x14 x15 x16 x17 x18 x19 x20 x21 x22 x23 y24 y25 y26 y27 y28 y29 y30 y31 y32 y33 x34 x35 x36 x37 x38 x39 x40 x41 x42 x43 x44 x45 x46 x47 x48 x49 x50 x51 x52 x53 x54 x55 x56 x57 x58 x59 x60 x61 x62 x63 x64 x65 x66 x67 x68 x69 x70 x71 x72 x73 x74 x75 x76 x77 x78 x79 x80 x81 x82 x83 x84 x85 x86 x87 x88 x89 x90 x91 x92 x93 x94 x95 x96 x97 x98 x99 x100 x101 x102 x103 x104 f0 f1 f2 f3 f4 f5 f6 f7 f8 f9 f10 H g7 c7 ∧ Hid (f1 = true → f0 = true) ∧ Hid (f3 = true → f2 = true) ∧ Hid (f4 = true → f3 = true) ∧ Hid (f5 = true → f4 = true) ∧ Hid (f6 = true → f5 = true) ∧ Hid (f7 = true → f6 = true) ∧ Hid (f8 = true → f1 = true ∧ f7 = true) ∧ Hid (f9 = true → f0 = true ∧ f1 = true ∧ f2 = true ∧ f3 = true ∧ f4 = true ∧ f5 = true ∧ f6 = true ∧ f7 = true ∧ f8 = true) ∧ Hid (f10 = true → f0 = true ∧ f1 = true ∧ f2 = true ∧ f3 = true ∧ f4 = true ∧ f5 = true ∧ f6 = true ∧ f7 = true ∧ f8 = true ∧ f9 = true) ∧ (f10 = false → Below (B + 1) V w') ∧ (f8 = false → Owns (B + 1) 55 2 prpC w' (.slice po l.length pc) l) ∧ (f7 = true → f8 = false → H < w'.heap.size ∧ ∀ j u, (prpC (limProp l.length))[j]? = some u → w'.cell? ⟨H, j, none⟩ = some u) ∧ (f8 = true → f10 = false → Owns (B + 1) 55 2 prpC w' (.slice (some ⟨g7, 0, none⟩) (l.length + 1) c7) (l ++ [limProp l.length])) ∧ (f10 = true → (Owns (B + 1) 55 2 prpC w' (.slice (some ⟨g7, 0, none⟩) (l.length + 1) c7) (l ++ [limProp l.length]) ∧ Box w' B [.bool false, .string ⟨#[]⟩, .string ⟨#[]⟩, .string ⟨#[]⟩, .string ⟨#[]⟩, .string ⟨#[97]⟩, .string ⟨#[]⟩, .string ⟨#[]⟩, .slice (some ⟨g7, 0, none⟩) (l.length + 1) c7, .slice none 0 0, .slice none 0 0] ∧ Below B V w'))
theorem prpQ_one (x : Prp) : ∀ u ∈ prpC x, u.oneCell' = true := by
 intro u hu
 simp only [prpC, List.mem_cons, List.not_mem_nil, or_false] at hu
 rcases hu with rfl | rfl <;> rfl
set_option maxRecDepth 100000 in
set_option maxHeartbeats 16000000 in
theorem pomLimitsLaw_any (x kd : Int) (mx : Int) (w : World) (hk0 : 0 ≤ kd) (hm : w.cell? ⟨0, 0, none⟩ = some (.int .i64 mx)) :
    Calls Tryz.prog 9 #[.int .i64 x, .int .u64 kd] w fun e w' => e = .returned (.bool true) ∧ Below w.heap.size w w' := by
 have hw0 : 0 < w.heap.size := World.block_lt_of_cell? w _ hm
 obtain ⟨N, hN, hx⟩ : ∃ n : Nat, n ≤ 1027 ∧ max 0 (min x 1027) = (n : Int) := ⟨(max 0 (min x 1027)).toNat, by omega, by omega⟩
 obtain ⟨k, hk, hkq⟩ : ∃ k : Nat, k < 4 ∧ kd.tmod 4 = (k : Int) := ⟨(kd.tmod 4).toNat, by have := Int.tmod_lt_of_pos kd (show (0 : Int) < 4 by omega); have := Int.tmod_nonneg (4 : Int) hk0; omega, by have := Int.tmod_nonneg (4 : Int) hk0; omega⟩
 obtain ⟨T, hT⟩ : ∃ T, T = writeT (limP k N) := ⟨_, rfl⟩
 obtain ⟨N2, hN2⟩ : ∃ N, N = bs T.name := ⟨_, rfl⟩
 obtain ⟨X2, hX2⟩ : ∃ X, X = bs T.text := ⟨_, rfl⟩
 obtain ⟨WH, hWH⟩ : ∃ X, X = bs (limW k) := ⟨_, rfl⟩
 have hlt := lim_lt (n := N) hk (by omega)
 have HLV : Hid (∀ W, Below w.heap.size w W → Calls Tryz.prog 12 #[] W fun e w' => e = .returned (.bool true) ∧ Below W.heap.size W w') := fun W h => pomLives_any mx W ((h.cell (by exact hw0)).trans hm)
 have HWR : Hid (∀ W pv mv dv, PomOf W (.agg (pomC (limP k N) pv mv dv).toArray) (limP k N) pv mv dv → Calls Tryz.prog 18 #[.agg #[.bool false, .string ⟨#[]⟩, .string ⟨#[]⟩, .string ⟨#[]⟩, .string ⟨#[]⟩, .string ⟨#[97]⟩, .string ⟨#[]⟩, .string ⟨#[]⟩, pv, mv, dv]] W (WriteG N2 X2 T W)) := fun W pv mv dv h => by
  rw [hN2, hX2, hT]
  exact (writeQ_any _ _ _ _ W h hlt.n1 hlt.n2 hlt.n3 (fun d hd => (hlt.man d hd).excl) (fun d hd => (hlt.dep d hd).excl)).mono fun e w' hO => hO.good
 have HRN : Hid (1024 < N → ∀ W av kv, NodeOf W T av kv → Calls Tryz.prog 13 #[.agg #[.string N2, av, kv, .string X2]] W fun e w' => e = .returned (.tuple #[.agg #[.bool false, .string ⟨#[]⟩, .string ⟨#[]⟩, .string ⟨#[]⟩, .string ⟨#[]⟩, .string ⟨#[]⟩, .string ⟨#[]⟩, .string ⟨#[]⟩, .slice none 0 0, .slice none 0 0, .slice none 0 0], .int .i64 2, .string WH]) ∧ Below W.heap.size W w') := fun hn W av kv h => by
  have h1 := readQ_any T W av kv h (by rw [hT]; exact mild_write hlt)
  rw [hN2, hX2, hWH]
  exact h1.mono fun e w' hO => ⟨hO.2.1 _ (by rw [hT]; exact lim_read hk hn), hO.1⟩
 have HRY : Hid (N ≤ 1024 → ∀ W av kv, NodeOf W T av kv → Calls Tryz.prog 13 #[.agg #[.string N2, av, kv, .string X2]] W (ReadG (limP k N) W)) := fun hn W av kv h => by
  have h1 := readQ_any T W av kv h (by rw [hT]; exact mild_write hlt)
  rw [hN2, hX2]
  exact h1.mono fun e w' hO => hO.good (by rw [hT]; exact (write_read (lim_ok hk hn)).1) (by rw [hT]; exact (write_read (lim_ok hk hn)).2)
 have HMN : Hid (1024 < N → ∀ W pv mv dv, PomOf W (.agg (pomC (limP k N) pv mv dv).toArray) (limP k N) pv mv dv → Calls Tryz.prog 24 #[.agg #[.bool false, .string ⟨#[]⟩, .string ⟨#[]⟩, .string ⟨#[]⟩, .string ⟨#[]⟩, .string ⟨#[97]⟩, .string ⟨#[]⟩, .string ⟨#[]⟩, pv, mv, dv]] W fun e w' => e = .returned (.bool false) ∧ Below W.heap.size W w') := fun hn W pv mv dv h => by
  have h1 := pomMay_any _ _ _ _ W h hlt.small
  rwa [lim_no hk hn] at h1
 have HMY : Hid (N ≤ 1024 → ∀ W pv mv dv, PomOf W (.agg (pomC (limP k N) pv mv dv).toArray) (limP k N) pv mv dv → Calls Tryz.prog 24 #[.agg #[.bool false, .string ⟨#[]⟩, .string ⟨#[]⟩, .string ⟨#[]⟩, .string ⟨#[]⟩, .string ⟨#[97]⟩, .string ⟨#[]⟩, .string ⟨#[]⟩, pv, mv, dv]] W fun e w' => e = .returned (.bool true) ∧ Below W.heap.size W w') := fun hn W pv mv dv h => by
  have h1 := pomMay_any _ _ _ _ W h hlt.small
  rwa [lim_ok hk hn] at h1
 have HSM : Hid (∀ W pv mv dv pv2 mv2 dv2 base, PomOf W (.agg (pomC (limP k N) pv mv dv).toArray) (limP k N) pv mv dv → PomOwn base W (limP k N) pv2 mv2 dv2 → Calls Tryz.prog 15 #[.agg #[.bool false, .string ⟨#[]⟩, .string ⟨#[]⟩, .string ⟨#[]⟩, .string ⟨#[]⟩, .string ⟨#[97]⟩, .string ⟨#[]⟩, .string ⟨#[]⟩, pv, mv, dv], .agg #[.bool false, .string ⟨#[]⟩, .string ⟨#[]⟩, .string ⟨#[]⟩, .string ⟨#[]⟩, .string ⟨#[97]⟩, .string ⟨#[]⟩, .string ⟨#[]⟩, pv2, mv2, dv2]] W fun e w' => e = .returned (.bool true) ∧ Below W.heap.size W w') := fun W pv mv dv pv2 mv2 dv2 base h h2 => by
  have x1 : ∀ d ∈ (limP k N).managed, d.excl.length ≤ 140737488355328 := fun d hd => Nat.le_trans (hlt.man d hd).excl (by decide)
  have x2 : ∀ d ∈ (limP k N).deps, d.excl.length ≤ 140737488355328 := fun d hd => Nat.le_trans (hlt.dep d hd).excl (by decide)
  have h1 := sameX_any _ _ _ _ _ _ _ _ W h h2.of x1 x2 x1 x2
  rwa [decide_eq_true rfl] at h1
 clear hlt hN2 hX2 hT
 unfold WriteG at HWR
 unfold ReadG at HRY
 obtain ⟨NO, hNO⟩ : ∃ Y : World → Value → Value → Prop, Y = fun W => NodeOf W T := ⟨_, rfl⟩
 have HNK : Hid (∀ W W' av kv, NO W av kv → Below W.heap.size W W' → NO W' av kv) := fun W W' av kv h hb => by subst hNO; exact h.later hb
 obtain ⟨PL, hPL⟩ : ∃ Y : World → Value → Value → Value → Prop, Y = fun W pv mv dv => PomOf W (.agg (pomC (limP k N) pv mv dv).toArray) (limP k N) pv mv dv := ⟨_, rfl⟩
 have HLK : Hid (∀ W W' x y z, PL W x y z → Below W.heap.size W W' → PL W' x y z) := fun W W' x y z h hb => by subst hPL; exact PomOf.below h hb
 have HL0 : Hid (∀ W pv mv dv, SliceOf 2 prpC W pv (limP k N).props → DepsOf W mv (limP k N).managed → DepsOf W dv (limP k N).deps → PL W pv mv dv) := fun W pv mv dv h1 h2 h3 => by subst hPL; exact ⟨rfl, h1, h2, h3⟩
 obtain ⟨PO, hPO⟩ : ∃ Y : Nat → World → Value → Value → Value → Prop, Y = fun b W => PomOwn b W (limP k N) := ⟨_, rfl⟩
 have HPK : Hid (∀ b W W' x y z, PO b W x y z → Below W.heap.size W W' → PO b W' x y z) := fun b W W' x y z h hb => by subst hPO; exact h.below hb
 replace HWR : Hid (∀ W pv mv dv, PL W pv mv dv → Calls Tryz.prog 18 #[.agg #[.bool false, .string ⟨#[]⟩, .string ⟨#[]⟩, .string ⟨#[]⟩, .string ⟨#[]⟩, .string ⟨#[97]⟩, .string ⟨#[]⟩, .string ⟨#[]⟩, pv, mv, dv]] W fun e w' => ∃ (ko : Option Addr) (kc : Nat), e = .returned (.agg #[.string N2, .slice none 0 0, .slice ko T.kids.length kc, .string X2]) ∧ NO w' (.slice none 0 0) (.slice ko T.kids.length kc) ∧ Below W.heap.size W w') := by subst hPL; subst hNO; exact HWR
 replace HRN : Hid (1024 < N → ∀ W av kv, NO W av kv → Calls Tryz.prog 13 #[.agg #[.string N2, av, kv, .string X2]] W fun e w' => e = .returned (.tuple #[.agg #[.bool false, .string ⟨#[]⟩, .string ⟨#[]⟩, .string ⟨#[]⟩, .string ⟨#[]⟩, .string ⟨#[]⟩, .string ⟨#[]⟩, .string ⟨#[]⟩, .slice none 0 0, .slice none 0 0, .slice none 0 0], .int .i64 2, .string WH]) ∧ Below W.heap.size W w') := by subst hNO; exact HRN
 replace HRY : Hid (N ≤ 1024 → ∀ W av kv, NO W av kv → Calls Tryz.prog 13 #[.agg #[.string N2, av, kv, .string X2]] W fun e w' => ∃ (a1 : Option Addr) (a4 : Nat) (a2 : Option Addr) (a5 : Nat) (a3 : Option Addr) (a6 : Nat), e = .returned (.tuple #[.agg #[.bool false, .string ⟨#[]⟩, .string ⟨#[]⟩, .string ⟨#[]⟩, .string ⟨#[]⟩, .string ⟨#[97]⟩, .string ⟨#[]⟩, .string ⟨#[]⟩, .slice a1 (limP k N).props.length a4, .slice a2 (limP k N).managed.length a5, .slice a3 (limP k N).deps.length a6], .int .i64 0, .string ⟨#[]⟩]) ∧ PO W.heap.size w' (.slice a1 (limP k N).props.length a4) (.slice a2 (limP k N).managed.length a5) (.slice a3 (limP k N).deps.length a6) ∧ Below W.heap.size W w') := by subst hPO; subst hNO; exact HRY
 replace HMN : Hid (1024 < N → ∀ W pv mv dv, PL W pv mv dv → Calls Tryz.prog 24 #[.agg #[.bool false, .string ⟨#[]⟩, .string ⟨#[]⟩, .string ⟨#[]⟩, .string ⟨#[]⟩, .string ⟨#[97]⟩, .string ⟨#[]⟩, .string ⟨#[]⟩, pv, mv, dv]] W fun e w' => e = .returned (.bool false) ∧ Below W.heap.size W w') := by subst hPL; exact HMN
 replace HMY : Hid (N ≤ 1024 → ∀ W pv mv dv, PL W pv mv dv → Calls Tryz.prog 24 #[.agg #[.bool false, .string ⟨#[]⟩, .string ⟨#[]⟩, .string ⟨#[]⟩, .string ⟨#[]⟩, .string ⟨#[97]⟩, .string ⟨#[]⟩, .string ⟨#[]⟩, pv, mv, dv]] W fun e w' => e = .returned (.bool true) ∧ Below W.heap.size W w') := by subst hPL; exact HMY
 replace HSM : Hid (∀ W pv mv dv pv2 mv2 dv2 base, PL W pv mv dv → PO base W pv2 mv2 dv2 → Calls Tryz.prog 15 #[.agg #[.bool false, .string ⟨#[]⟩, .string ⟨#[]⟩, .string ⟨#[]⟩, .string ⟨#[]⟩, .string ⟨#[97]⟩, .string ⟨#[]⟩, .string ⟨#[]⟩, pv, mv, dv], .agg #[.bool false, .string ⟨#[]⟩, .string ⟨#[]⟩, .string ⟨#[]⟩, .string ⟨#[]⟩, .string ⟨#[97]⟩, .string ⟨#[]⟩, .string ⟨#[]⟩, pv2, mv2, dv2]] W fun e w' => e = .returned (.bool true) ∧ Below W.heap.size W w') := by subst hPL; subst hPO; exact HSM
 clear hNO hPL hPO
 generalize T.kids.length = TN at *
 generalize hlp : (limP k N).props.length = lp at HRY
 generalize hlm : (limP k N).managed.length = lm at HRY
 generalize hld : (limP k N).deps.length = ld at HRY
 clear hlp hlm hld
 clear T
 have HWH := Lib.hid hWH
 clear hWH hm hw0
 have hNI : (N : Int) ≤ 1027 := by omega
 have HN := Lib.hid hN
 go_enter Tryz.func9, Tryz.ntmps9
 go_upto_region 4 with fail
 refine wp_world ?_
 intro W hW
 have x5 : Box W w.heap.size [.string ⟨#[103]⟩, .string ⟨#[97]⟩, .string ⟨#[]⟩, .string ⟨#[]⟩, .string ⟨#[]⟩, .int .i64 0, .int .i64 0, .slice none 0 0] := by rw [hW]; exact (Box.new w [.string ⟨#[103]⟩, .string ⟨#[97]⟩, .string ⟨#[]⟩, .string ⟨#[]⟩, .string ⟨#[]⟩, .int .i64 0, .int .i64 0, .slice none 0 0] _ _ rfl).alloc _
 have x6 : Box W (w.heap.size + 1) [.bool false, .string ⟨#[]⟩, .string ⟨#[]⟩, .string ⟨#[]⟩, .string ⟨#[]⟩, .string ⟨#[97]⟩, .string ⟨#[]⟩, .string ⟨#[]⟩, .slice none 0 0, .slice none 0 0, .slice none 0 0] := by rw [hW]; exact Box.new _ [.bool false, .string ⟨#[]⟩, .string ⟨#[]⟩, .string ⟨#[]⟩, .string ⟨#[]⟩, .string ⟨#[97]⟩, .string ⟨#[]⟩, .string ⟨#[]⟩, .slice none 0 0, .slice none 0 0, .slice none 0 0] _ _ (by simp)
 have hB : Below w.heap.size w W := by rw [hW]; exact ((Below.refl _ w).alloc (Nat.le_refl _) _).alloc (by simp) _
 clear hW
 have HX5 := Lib.hid x5
 have HX6 := Lib.hid x6
 have HB := Lib.hid hB
 clear x5 x6 hB
 have s6 := HX6.out.lt
 rcases (by omega : k = 0 ∨ k = 1 ∨ k = 2 ∨ k = 3) with rfl | rfl | rfl | rfl
 · have HWK : Hid (WH = ⟨#[112, 114, 111, 106, 101, 99, 116, 47, 100, 101, 112, 101, 110, 100, 101, 110, 99, 105, 101, 115]⟩) := by show _ = _; rw [HWH.out]; kernel_rfl
   obtain ⟨c0, c1, c2, c3, c4, c5, c6, c7⟩ := bxc8 HX5.out
   have cl := HX5.out.lt
   go_wp2_with fail
   refine (many_any ⟨#[103]⟩ ⟨#[97]⟩ N _ (by have := HN.out; omega)).mono ?_
   rintro e w1 ⟨v1, rfl, hown, hb1⟩
   obtain ⟨ao, c, hv⟩ := hown.shape
   obtain rfl : v1 = .slice ao N c := by rw [hv, List.length_replicate]
   have HO1 := Lib.hid hown
   have HX1 := Lib.hid (HX6.out.below hb1 HX6.out.lt)
   have HB1 := Lib.hid (HB.out.trans (hb1.mono HB.out.size))
   clear hown hv hb1 HX5 HX6 HB c0 c1 c2 c3 c4 c5 c6 c7 cl
   have z1 := HX1.out.cell 10 _ rfl
   have z2 := HX1.out.free 10
   have z3 := HX1.out.lt
   go_upto_region 27 with fail
   refine wp_world ?_
   intro W1 hW1
   have hg1 : w1.grownBy W1 (some (w.heap.size + 1)) := by rw [hW1]; exact setCell_grown _ _ _ _
   have HX2 : Hid (Box W1 (w.heap.size + 1) [.bool false, .string ⟨#[]⟩, .string ⟨#[]⟩, .string ⟨#[]⟩, .string ⟨#[]⟩, .string ⟨#[97]⟩, .string ⟨#[]⟩, .string ⟨#[]⟩, .slice none 0 0, .slice none 0 0, .slice ao N c]) := by show Box _ _ _; rw [hW1]; exact HX1.out.set 10 _
   have HB2 : Hid (Below w.heap.size w W1) := by show Below _ _ _; rw [hW1]; exact HB1.out.setCell (by simp) _
   have HP2 : Hid (PL W1 (.slice none 0 0) (.slice none 0 0) (.slice ao N c)) := HL0.out _ _ _ _ SliceOf.nil ⟨[], rfl, SliceOf.nil, fun _ h => by cases h⟩ (deps_replicate (HO1.out.keptR hg1 s6) SliceOf.nil)
   obtain rfl := HWK.out
   clear hg1 hW1 HX1 HB1 z1 z2 z3
   obtain ⟨d0, d1, d2, d3, d4, d5, d6, d7, d8, d9, d10⟩ := bxc11 HX2.out
   have dl := HX2.out.lt
   go_wp2_with fail
   refine (HWR.out _ _ _ _ HP2.out).mono ?_
   rintro e w5 ⟨ko, kd5, rfl, hn5, hb5⟩
   have HQ5 := Lib.hid (HX2.out.below hb5 HX2.out.lt)
   have HB5 := Lib.hid (HB2.out.trans (hb5.mono HB2.out.size))
   have HP5 := Lib.hid (HLK.out _ _ _ _ _ HP2.out hb5)
   have HN5 := Lib.hid hn5
   clear hn5 hb5 HX2 HB2 HP2 HWR d0 d1 d2 d3 d4 d5 d6 d7 d8 d9 d10 dl
   go_wp2_with fail
   by_cases hbig : 1024 < N
   · have hbI : (1024 : Int) < (N : Int) := by omega
     refine (HRN.out hbig _ _ _ HN5.out).mono ?_
     rintro e w6 ⟨rfl, hb6⟩
     have HQ6 := Lib.hid (HQ5.out.below hb6 HQ5.out.lt)
     have HB6 := Lib.hid (HB5.out.trans (hb6.mono HB5.out.size))
     have HP6 := Lib.hid (HLK.out _ _ _ _ _ HP5.out hb6)
     have HBG := Lib.hid hbig
     clear hb6 HQ5 HB5 HP5 HN5 HRN HRY hbig
     go_upto_region 28 with fail
     refine wp_world ?_
     intro W7 hW7
     have hb7 : Below w6.heap.size w6 W7 := by rw [hW7]; exact (Below.refl _ w6).alloc (Nat.le_refl _) _
     clear hW7
     have HQ7 := Lib.hid (HQ6.out.below hb7 HQ6.out.lt)
     have HB7 := Lib.hid (HB6.out.trans (hb7.mono HB6.out.size))
     have HP7 := Lib.hid (HLK.out _ _ _ _ _ HP6.out hb7)
     clear hb7 HQ6 HB6 HP6
     obtain ⟨d0, d1, d2, d3, d4, d5, d6, d7, d8, d9, d10⟩ := bxc11 HQ7.out
     have dl := HQ7.out.lt
     go_wp2_with fail
     refine (HMN.out HBG.out _ _ _ _ HP7.out).mono ?_
     rintro e w9 ⟨rfl, hb9⟩
     have HB9 := Lib.hid (HB7.out.trans (hb9.mono HB7.out.size))
     clear hb9 HQ7 HB7 HP7 HMN HMY HSM d0 d1 d2 d3 d4 d5 d6 d7 d8 d9 d10 dl
     go_wp2_with fail
     refine (HLV.out _ HB9.out).mono ?_
     rintro e w8 ⟨rfl, hb8⟩
     have HB8 := Lib.hid (HB9.out.trans (hb8.mono HB9.out.size))
     clear hb8 HLV
     go_wp2
     go_ret
     exact ⟨rfl, HB8.out⟩
   · have hbI : ¬ ((1024 : Int) < (N : Int)) := by omega
     have hbl : N ≤ 1024 := by omega
     refine (HRY.out hbl _ _ _ HN5.out).mono ?_
     rintro e w6 ⟨u1, u4, u2, u5, u3, u6, rfl, hp6, hb6⟩
     have HQ6 := Lib.hid (HQ5.out.below hb6 HQ5.out.lt)
     have HB6 := Lib.hid (HB5.out.trans (hb6.mono HB5.out.size))
     have HP6 := Lib.hid (HLK.out _ _ _ _ _ HP5.out hb6)
     have HU6 := Lib.hid hp6
     have HBG := Lib.hid hbl
     clear hp6 hb6 HQ5 HB5 HP5 HN5 HRN HRY hbig hbl
     go_upto_region 28 with fail
     refine wp_world ?_
     intro W7 hW7
     have x7 : Box W7 w6.heap.size [.bool false, .string ⟨#[]⟩, .string ⟨#[]⟩, .string ⟨#[]⟩, .string ⟨#[]⟩, .string ⟨#[97]⟩, .string ⟨#[]⟩, .string ⟨#[]⟩, .slice u1 lp u4, .slice u2 lm u5, .slice u3 ld u6] := by rw [hW7]; exact Box.new w6 [.bool false, .string ⟨#[]⟩, .string ⟨#[]⟩, .string ⟨#[]⟩, .string ⟨#[]⟩, .string ⟨#[97]⟩, .string ⟨#[]⟩, .string ⟨#[]⟩, .slice u1 lp u4, .slice u2 lm u5, .slice u3 ld u6] _ _ rfl
     have hb7 : Below w6.heap.size w6 W7 := by rw [hW7]; exact (Below.refl _ w6).alloc (Nat.le_refl _) _
     clear hW7
     have HV7 := Lib.hid x7
     have HQ7 := Lib.hid (HQ6.out.below hb7 HQ6.out.lt)
     have HB7 := Lib.hid (HB6.out.trans (hb7.mono HB6.out.size))
     have HP7 := Lib.hid (HLK.out _ _ _ _ _ HP6.out hb7)
     have HU7 := Lib.hid (HPK.out _ _ _ _ _ _ HU6.out hb7)
     clear x7 hb7 HQ6 HB6 HP6 HU6
     obtain ⟨d0, d1, d2, d3, d4, d5, d6, d7, d8, d9, d10⟩ := bxc11 HQ7.out
     have dl := HQ7.out.lt
     obtain ⟨f0, f1, f2, f3, f4, f5, f6, f7, f8, f9, f10⟩ := bxc11 HV7.out
     have fl := HV7.out.lt
     go_wp2_with fail
     refine (HSM.out _ _ _ _ _ _ _ _ HP7.out HU7.out).mono ?_
     rintro e w11 ⟨rfl, hb11⟩
     have HB11 := Lib.hid (HB7.out.trans (hb11.mono HB7.out.size))
     have HQ11 := Lib.hid (HQ7.out.below hb11 HQ7.out.lt)
     have HP11 := Lib.hid (HLK.out _ _ _ _ _ HP7.out hb11)
     clear hb11 HV7 HQ7 HB7 HP7 HU7 HSM d0 d1 d2 d3 d4 d5 d6 d7 d8 d9 d10 dl f0 f1 f2 f3 f4 f5 f6 f7 f8 f9 f10 fl
     obtain ⟨d0, d1, d2, d3, d4, d5, d6, d7, d8, d9, d10⟩ := bxc11 HQ11.out
     have dl := HQ11.out.lt
     go_wp2_with fail
     refine (HMY.out HBG.out _ _ _ _ HP11.out).mono ?_
     rintro e w9 ⟨rfl, hb9⟩
     have HB9 := Lib.hid (HB11.out.trans (hb9.mono HB11.out.size))
     clear hb9 HQ11 HB11 HP11 HMN HMY d0 d1 d2 d3 d4 d5 d6 d7 d8 d9 d10 dl
     go_wp2_with fail
     refine (HLV.out _ HB9.out).mono ?_
     rintro e w8 ⟨rfl, hb8⟩
     have HB8 := Lib.hid (HB9.out.trans (hb8.mono HB9.out.size))
     clear hb8 HLV
     go_wp2
     go_ret
     exact ⟨rfl, HB8.out⟩
 · have HWK : Hid (WH = ⟨#[112, 114, 111, 106, 101, 99, 116, 47, 100, 101, 112, 101, 110, 100, 101, 110, 99, 121, 77, 97, 110, 97, 103, 101, 109, 101, 110, 116, 47, 100, 101, 112, 101, 110, 100, 101, 110, 99, 105, 101, 115]⟩) := by show _ = _; rw [HWH.out]; kernel_rfl
   obtain ⟨c0, c1, c2, c3, c4, c5, c6, c7⟩ := bxc8 HX5.out
   have cl := HX5.out.lt
   go_wp2_with fail
   refine (many_any ⟨#[103]⟩ ⟨#[97]⟩ N _ (by have := HN.out; omega)).mono ?_
   rintro e w1 ⟨v1, rfl, hown, hb1⟩
   obtain ⟨ao, c, hv⟩ := hown.shape
   obtain rfl : v1 = .slice ao N c := by rw [hv, List.length_replicate]
   have HO1 := Lib.hid hown
   have HX1 := Lib.hid (HX6.out.below hb1 HX6.out.lt)
   have HB1 := Lib.hid (HB.out.trans (hb1.mono HB.out.size))
   clear hown hv hb1 HX5 HX6 HB c0 c1 c2 c3 c4 c5 c6 c7 cl
   have z1 := HX1.out.cell 9 _ rfl
   have z2 := HX1.out.free 9
   have z3 := HX1.out.lt
   go_upto_region 27 with fail
   refine wp_world ?_
   intro W1 hW1
   have hg1 : w1.grownBy W1 (some (w.heap.size + 1)) := by rw [hW1]; exact setCell_grown _ _ _ _
   have HX2 : Hid (Box W1 (w.heap.size + 1) [.bool false, .string ⟨#[]⟩, .string ⟨#[]⟩, .string ⟨#[]⟩, .string ⟨#[]⟩, .string ⟨#[97]⟩, .string ⟨#[]⟩, .string ⟨#[]⟩, .slice none 0 0, .slice ao N c, .slice none 0 0]) := by show Box _ _ _; rw [hW1]; exact HX1.out.set 9 _
   have HB2 : Hid (Below w.heap.size w W1) := by show Below _ _ _; rw [hW1]; exact HB1.out.setCell (by simp) _
   have HP2 : Hid (PL W1 (.slice none 0 0) (.slice ao N c) (.slice none 0 0)) := HL0.out _ _ _ _ SliceOf.nil (deps_replicate (HO1.out.keptR hg1 s6) SliceOf.nil) ⟨[], rfl, SliceOf.nil, fun _ h => by cases h⟩
   obtain rfl := HWK.out
   clear hg1 hW1 HX1 HB1 z1 z2 z3
   obtain ⟨d0, d1, d2, d3, d4, d5, d6, d7, d8, d9, d10⟩ := bxc11 HX2.out
   have dl := HX2.out.lt
   go_wp2_with fail
   refine (HWR.out _ _ _ _ HP2.out).mono ?_
   rintro e w5 ⟨ko, kd5, rfl, hn5, hb5⟩
   have HQ5 := Lib.hid (HX2.out.below hb5 HX2.out.lt)
   have HB5 := Lib.hid (HB2.out.trans (hb5.mono HB2.out.size))
   have HP5 := Lib.hid (HLK.out _ _ _ _ _ HP2.out hb5)
   have HN5 := Lib.hid hn5
   clear hn5 hb5 HX2 HB2 HP2 HWR d0 d1 d2 d3 d4 d5 d6 d7 d8 d9 d10 dl
   go_wp2_with fail
   by_cases hbig : 1024 < N
   · have hbI : (1024 : Int) < (N : Int) := by omega
     refine (HRN.out hbig _ _ _ HN5.out).mono ?_
     rintro e w6 ⟨rfl, hb6⟩
     have HQ6 := Lib.hid (HQ5.out.below hb6 HQ5.out.lt)
     have HB6 := Lib.hid (HB5.out.trans (hb6.mono HB5.out.size))
     have HP6 := Lib.hid (HLK.out _ _ _ _ _ HP5.out hb6)
     have HBG := Lib.hid hbig
     clear hb6 HQ5 HB5 HP5 HN5 HRN HRY hbig
     go_upto_region 28 with fail
     refine wp_world ?_
     intro W7 hW7
     have hb7 : Below w6.heap.size w6 W7 := by rw [hW7]; exact (Below.refl _ w6).alloc (Nat.le_refl _) _
     clear hW7
     have HQ7 := Lib.hid (HQ6.out.below hb7 HQ6.out.lt)
     have HB7 := Lib.hid (HB6.out.trans (hb7.mono HB6.out.size))
     have HP7 := Lib.hid (HLK.out _ _ _ _ _ HP6.out hb7)
     clear hb7 HQ6 HB6 HP6
     obtain ⟨d0, d1, d2, d3, d4, d5, d6, d7, d8, d9, d10⟩ := bxc11 HQ7.out
     have dl := HQ7.out.lt
     go_wp2_with fail
     refine (HMN.out HBG.out _ _ _ _ HP7.out).mono ?_
     rintro e w9 ⟨rfl, hb9⟩
     have HB9 := Lib.hid (HB7.out.trans (hb9.mono HB7.out.size))
     clear hb9 HQ7 HB7 HP7 HMN HMY HSM d0 d1 d2 d3 d4 d5 d6 d7 d8 d9 d10 dl
     go_wp2_with fail
     refine (HLV.out _ HB9.out).mono ?_
     rintro e w8 ⟨rfl, hb8⟩
     have HB8 := Lib.hid (HB9.out.trans (hb8.mono HB9.out.size))
     clear hb8 HLV
     go_wp2
     go_ret
     exact ⟨rfl, HB8.out⟩
   · have hbI : ¬ ((1024 : Int) < (N : Int)) := by omega
     have hbl : N ≤ 1024 := by omega
     refine (HRY.out hbl _ _ _ HN5.out).mono ?_
     rintro e w6 ⟨u1, u4, u2, u5, u3, u6, rfl, hp6, hb6⟩
     have HQ6 := Lib.hid (HQ5.out.below hb6 HQ5.out.lt)
     have HB6 := Lib.hid (HB5.out.trans (hb6.mono HB5.out.size))
     have HP6 := Lib.hid (HLK.out _ _ _ _ _ HP5.out hb6)
     have HU6 := Lib.hid hp6
     have HBG := Lib.hid hbl
     clear hp6 hb6 HQ5 HB5 HP5 HN5 HRN HRY hbig hbl
     go_upto_region 28 with fail
     refine wp_world ?_
     intro W7 hW7
     have x7 : Box W7 w6.heap.size [.bool false, .string ⟨#[]⟩, .string ⟨#[]⟩, .string ⟨#[]⟩, .string ⟨#[]⟩, .string ⟨#[97]⟩, .string ⟨#[]⟩, .string ⟨#[]⟩, .slice u1 lp u4, .slice u2 lm u5, .slice u3 ld u6] := by rw [hW7]; exact Box.new w6 [.bool false, .string ⟨#[]⟩, .string ⟨#[]⟩, .string ⟨#[]⟩, .string ⟨#[]⟩, .string ⟨#[97]⟩, .string ⟨#[]⟩, .string ⟨#[]⟩, .slice u1 lp u4, .slice u2 lm u5, .slice u3 ld u6] _ _ rfl
     have hb7 : Below w6.heap.size w6 W7 := by rw [hW7]; exact (Below.refl _ w6).alloc (Nat.le_refl _) _
     clear hW7
     have HV7 := Lib.hid x7
     have HQ7 := Lib.hid (HQ6.out.below hb7 HQ6.out.lt)
     have HB7 := Lib.hid (HB6.out.trans (hb7.mono HB6.out.size))
     have HP7 := Lib.hid (HLK.out _ _ _ _ _ HP6.out hb7)
     have HU7 := Lib.hid (HPK.out _ _ _ _ _ _ HU6.out hb7)
     clear x7 hb7 HQ6 HB6 HP6 HU6
     obtain ⟨d0, d1, d2, d3, d4, d5, d6, d7, d8, d9, d10⟩ := bxc11 HQ7.out
     have dl := HQ7.out.lt
     obtain ⟨f0, f1, f2, f3, f4, f5, f6, f7, f8, f9, f10⟩ := bxc11 HV7.out
     have fl := HV7.out.lt
     go_wp2_with fail
     refine (HSM.out _ _ _ _ _ _ _ _ HP7.out HU7.out).mono ?_
     rintro e w11 ⟨rfl, hb11⟩
     have HB11 := Lib.hid (HB7.out.trans (hb11.mono HB7.out.size))
     have HQ11 := Lib.hid (HQ7.out.below hb11 HQ7.out.lt)
     have HP11 := Lib.hid (HLK.out _ _ _ _ _ HP7.out hb11)
     clear hb11 HV7 HQ7 HB7 HP7 HU7 HSM d0 d1 d2 d3 d4 d5 d6 d7 d8 d9 d10 dl f0 f1 f2 f3 f4 f5 f6 f7 f8 f9 f10 fl
     obtain ⟨d0, d1, d2, d3, d4, d5, d6, d7, d8, d9, d10⟩ := bxc11 HQ11.out
     have dl := HQ11.out.lt
     go_wp2_with fail
     refine (HMY.out HBG.out _ _ _ _ HP11.out).mono ?_
     rintro e w9 ⟨rfl, hb9⟩
     have HB9 := Lib.hid (HB11.out.trans (hb9.mono HB11.out.size))
     clear hb9 HQ11 HB11 HP11 HMN HMY d0 d1 d2 d3 d4 d5 d6 d7 d8 d9 d10 dl
     go_wp2_with fail
     refine (HLV.out _ HB9.out).mono ?_
     rintro e w8 ⟨rfl, hb8⟩
     have HB8 := Lib.hid (HB9.out.trans (hb8.mono HB9.out.size))
     clear hb8 HLV
     go_wp2
     go_ret
     exact ⟨rfl, HB8.out⟩
 · have HWK : Hid (WH = ⟨#[112, 114, 111, 106, 101, 99, 116, 47, 100, 101, 112, 101, 110, 100, 101, 110, 99, 105, 101, 115, 47, 100, 101, 112, 101, 110, 100, 101, 110, 99, 121, 91, 49, 93, 47, 101, 120, 99, 108, 117, 115, 105, 111, 110, 115]⟩) := by show _ = _; rw [HWH.out]; kernel_rfl
   have hmk := fun (w : World) => ids_made w N (by have := HN.out; omega)
   have z1 := HX5.out.cell 7 _ rfl
   have z2 := HX5.out.free 7
   have z3 := HX5.out.lt
   go_upto_region 20 with fail
   clear hmk
   refine wp_world ?_
   intro W1 hW1
   obtain ⟨G, hG⟩ : ∃ G, G = W.heap.size := ⟨_, rfl⟩
   rw [← hG] at hW1 ⊢
   have HO1 : Hid (Owns (w.heap.size + 2) 52 2 idC W1 (.slice (some ⟨G, 0, none⟩) N N) (List.replicate 0 limEx ++ List.replicate (N - 0) ⟨⟨#[]⟩, ⟨#[]⟩⟩)) := by
    show Owns _ _ _ _ _ _ _
    rw [hW1, hG]
    have hz : (W.setCell ⟨w.heap.size, 7, none⟩ (.slice (some ⟨W.heap.size, 0, none⟩) N N)).heap.size = W.heap.size := by simp [World.setCell]
    have h1 := ids_own (W.setCell ⟨w.heap.size, 7, none⟩ (.slice (some ⟨W.heap.size, 0, none⟩) N N)) N (by have := HN.out; omega) (w.heap.size + 2) (by rw [hz]; omega)
    rw [hz] at h1
    simpa using h1
   have HX51 : Hid (Box W1 w.heap.size [.string ⟨#[103]⟩, .string ⟨#[97]⟩, .string ⟨#[]⟩, .string ⟨#[]⟩, .string ⟨#[]⟩, .int .i64 0, .int .i64 0, .slice (some ⟨G, 0, none⟩) N N]) := by show Box _ _ _; rw [hW1, hG]; exact (HX5.out.set 7 _).alloc _
   have HX61 : Hid (Box W1 (w.heap.size + 1) [.bool false, .string ⟨#[]⟩, .string ⟨#[]⟩, .string ⟨#[]⟩, .string ⟨#[]⟩, .string ⟨#[97]⟩, .string ⟨#[]⟩, .string ⟨#[]⟩, .slice none 0 0, .slice none 0 0, .slice none 0 0]) := by show Box _ _ _; rw [hW1]; exact (HX6.out.grown (setCell_grown _ _ _ _) (by simp)).alloc _
   have HB1 : Hid (Below w.heap.size w W1) := by show Below _ _ _; rw [hW1]; exact (HB.out.setCell (by simp) _).alloc (by have := HB.out.size; simpa [World.setCell] using this) _
   have HGG : Hid (w.heap.size + 2 ≤ G) := by show _ ≤ _; omega
   have HW1S : Hid (w.heap.size + 2 ≤ W1.heap.size) := HX61.out.lt
   clear hW1 hG z1 z2 z3 HX5 HX6 HB
   have z1 := HX51.out.cell 7 _ rfl
   go_wp2_with fail
   go_loopw [8, 55] (fun u i wr => ∃ (k : Nat), k ≤ N ∧ i = .int .i64 k ∧ Hid (Owns (w.heap.size + 2) 52 2 idC wr (.slice (some ⟨G, 0, none⟩) N N) (List.replicate k limEx ++ List.replicate (N - k) ⟨⟨#[]⟩, ⟨#[]⟩⟩)) ∧ Hid (Below (w.heap.size + 2) W1 wr)) (fun _ i _ => N - (intOf i).toNat)
   case atStart => exact ⟨0, Nat.zero_le _, rfl, HO1, Lib.hid (Below.refl _ _)⟩
   case round =>
    obtain ⟨k, hk, rfl, HOK, HRB⟩ := hrel
    by_cases hlt : k < N
    · have hli : (k : Int) < (N : Int) := by omega
      have hget : (List.replicate k limEx ++ List.replicate (N - k) ⟨⟨#[]⟩, ⟨#[]⟩⟩)[k]? = some (⟨⟨#[]⟩, ⟨#[]⟩⟩ : Id) := by
       rw [List.getElem?_append_right (by rw [List.length_replicate]; omega), List.length_replicate, Nat.sub_self, List.getElem?_replicate, if_pos (by omega)]
      obtain ⟨g, eg, hg1, hg2, hc0, hf0, hcs, hst0⟩ := own_store (j := 0) idC_len2 HOK.out hget (by decide)
      obtain rfl : G = g := by simpa using eg
      obtain ⟨g', eg', -, -, hc1, hf1, -, -⟩ := own_store (j := 1) idC_len2 HOK.out hget (by decide)
      obtain rfl : G = g' := by simpa using eg'
      have HST := Lib.hid hst0
      have hzk := (HX51.out.below HRB.out (by omega)).cell 7 _ rfl
      clear hst0 hcs hget eg eg'
      have hc0 : wr.cell? ⟨G, k * 2, none⟩ = some (.string ⟨#[]⟩) := hc0
      have hf0 : wr.frozen? ⟨G, k * 2, none⟩ = false := hf0
      go_wp2
      go_roundw
      case rel =>
       refine ⟨k + 1, by omega, by go_num, Lib.hid ?_, Lib.hid ?_⟩
       · have h1 := HST.out (.string ⟨#[42]⟩) (⟨⟨#[42]⟩, ⟨#[]⟩⟩ : Id) rfl
         obtain ⟨g2, eg2, -, -, -, -, -, hst1⟩ := own_store (k := k) (j := 1) (x := (⟨⟨#[42]⟩, ⟨#[]⟩⟩ : Id)) idC_len2 h1 (by rw [List.getElem?_set_self (by simp; omega)]) (by decide)
         obtain rfl : G = g2 := by simpa using eg2
         have h2 := hst1 (.string ⟨#[120]⟩) limEx rfl
         rw [List.set_set] at h2
         have h3 : (List.replicate k limEx ++ List.replicate (N - k) (⟨⟨#[]⟩, ⟨#[]⟩⟩ : Id)).set k limEx = List.replicate (k + 1) limEx ++ List.replicate (N - (k + 1)) ⟨⟨#[]⟩, ⟨#[]⟩⟩ := by
          rw [List.set_append_right _ _ (by rw [List.length_replicate]; omega), List.length_replicate, Nat.sub_self, show N - k = (N - (k + 1)) + 1 from by omega, List.replicate_succ, List.set_cons_zero, List.replicate_succ' (n := k), List.append_assoc]
          rfl
         rw [h3] at h2
         exact h2
       · exact (HRB.out.setCell (by exact HGG.out) _).setCell (by exact HGG.out) _
      case measure => simp [intOf]; omega
    · obtain rfl : N = k := by omega
      have HXK := Lib.hid (HX51.out.below HRB.out (by omega))
      have HX6K := Lib.hid (HX61.out.below HRB.out (by omega))
      have HBK := Lib.hid (HB1.out.trans (HRB.out.mono (by omega)))
      have HOL := Lib.hid (HOK.out)
      clear hlt z1 HX51 HX61 HB1 HO1
      obtain ⟨c0, c1, c2, c3, c4, c5, c6, c7⟩ := bxc8 HXK.out
      have cl := HXK.out.lt
      have z1 := HX6K.out.cell 10 _ rfl
      have z2 := HX6K.out.free 10
      have z3 := HX6K.out.lt
      go_upto_region 27 with fail
      refine wp_world ?_
      intro W2 hW2
      have HP2 : Hid (PL W2 (.slice none 0 0) (.slice none 0 0) (.slice (some ⟨wr.heap.size, 0, none⟩) 1 1)) := by
       refine HL0.out _ _ _ _ SliceOf.nil ⟨[], rfl, SliceOf.nil, fun _ h => by cases h⟩ ?_
       have hs0 : w.heap.size + 2 ≤ wr.heap.size := Nat.le_trans HW1S.out HRB.out.size
       have h1 : Owns (w.heap.size + 2) 48 8 depC W2 (.slice (some ⟨wr.heap.size, 0, none⟩) 1 1) [(limD (List.replicate N limEx), .slice (some ⟨G, 0, none⟩) N N)] := by
        rw [hW2]
        exact dep_own (limD (List.replicate N limEx), .slice (some ⟨G, 0, none⟩) N N) (wr.setCell _ _) wr.heap.size (by simp [World.setCell]) _ hs0
       have h2 : SliceOf 2 idC W2 (.slice (some ⟨G, 0, none⟩) N N) (List.replicate N limEx ++ List.replicate (N - N) ⟨⟨#[]⟩, ⟨#[]⟩⟩) := by
        rw [hW2]
        exact ((HOL.out.keptR (setCell_grown _ _ _ _) (by omega)).alloc _).slice idC_len2
       rw [Nat.sub_self, List.replicate_zero, List.append_nil] at h2
       exact ⟨_, rfl, h1.slice depC_len8, fun p hp => by rw [List.mem_singleton.1 hp]; exact h2⟩
      have HX2 : Hid (Box W2 (w.heap.size + 1) [.bool false, .string ⟨#[]⟩, .string ⟨#[]⟩, .string ⟨#[]⟩, .string ⟨#[]⟩, .string ⟨#[97]⟩, .string ⟨#[]⟩, .string ⟨#[]⟩, .slice none 0 0, .slice none 0 0, .slice (some ⟨wr.heap.size, 0, none⟩) 1 1]) := by show Box _ _ _; rw [hW2]; exact (HX6K.out.set 10 _).alloc _
      have HB2 : Hid (Below w.heap.size w W2) := by show Below _ _ _; rw [hW2]; exact (HBK.out.setCell (by simp) _).alloc (by have := HBK.out.size; simpa [World.setCell] using this) _
      obtain rfl := HWK.out
      clear hW2 HXK HX6K HBK HOL HOK HRB z1 z2 z3 c0 c1 c2 c3 c4 c5 c6 c7 cl
      obtain ⟨d0, d1, d2, d3, d4, d5, d6, d7, d8, d9, d10⟩ := bxc11 HX2.out
      have dl := HX2.out.lt
      go_wp2_with fail
      refine (HWR.out _ _ _ _ HP2.out).mono ?_
      rintro e w5 ⟨ko, kd5, rfl, hn5, hb5⟩
      have HQ5 := Lib.hid (HX2.out.below hb5 HX2.out.lt)
      have HB5 := Lib.hid (HB2.out.trans (hb5.mono HB2.out.size))
      have HP5 := Lib.hid (HLK.out _ _ _ _ _ HP2.out hb5)
      have HN5 := Lib.hid hn5
      clear hn5 hb5 HX2 HB2 HP2 HWR d0 d1 d2 d3 d4 d5 d6 d7 d8 d9 d10 dl
      go_wp2_with fail
      by_cases hbig : 1024 < N
      · have hbI : (1024 : Int) < (N : Int) := by omega
        refine (HRN.out hbig _ _ _ HN5.out).mono ?_
        rintro e w6 ⟨rfl, hb6⟩
        have HQ6 := Lib.hid (HQ5.out.below hb6 HQ5.out.lt)
        have HB6 := Lib.hid (HB5.out.trans (hb6.mono HB5.out.size))
        have HP6 := Lib.hid (HLK.out _ _ _ _ _ HP5.out hb6)
        have HBG := Lib.hid hbig
        clear hb6 HQ5 HB5 HP5 HN5 HRN HRY hbig
        go_upto_region 28 with fail
        refine wp_world ?_
        intro W7 hW7
        have hb7 : Below w6.heap.size w6 W7 := by rw [hW7]; exact (Below.refl _ w6).alloc (Nat.le_refl _) _
        clear hW7
        have HQ7 := Lib.hid (HQ6.out.below hb7 HQ6.out.lt)
        have HB7 := Lib.hid (HB6.out.trans (hb7.mono HB6.out.size))
        have HP7 := Lib.hid (HLK.out _ _ _ _ _ HP6.out hb7)
        clear hb7 HQ6 HB6 HP6
        obtain ⟨d0, d1, d2, d3, d4, d5, d6, d7, d8, d9, d10⟩ := bxc11 HQ7.out
        have dl := HQ7.out.lt
        go_wp2_with fail
        refine (HMN.out HBG.out _ _ _ _ HP7.out).mono ?_
        rintro e w9 ⟨rfl, hb9⟩
        have HB9 := Lib.hid (HB7.out.trans (hb9.mono HB7.out.size))
        clear hb9 HQ7 HB7 HP7 HMN HMY HSM d0 d1 d2 d3 d4 d5 d6 d7 d8 d9 d10 dl
        go_wp2_with fail
        refine (HLV.out _ HB9.out).mono ?_
        rintro e w8 ⟨rfl, hb8⟩
        have HB8 := Lib.hid (HB9.out.trans (hb8.mono HB9.out.size))
        clear hb8 HLV
        go_wp2
        go_ret
        exact ⟨rfl, HB8.out⟩
      · have hbI : ¬ ((1024 : Int) < (N : Int)) := by omega
        have hbl : N ≤ 1024 := by omega
        refine (HRY.out hbl _ _ _ HN5.out).mono ?_
        rintro e w6 ⟨u1, u4, u2, u5, u3, u6, rfl, hp6, hb6⟩
        have HQ6 := Lib.hid (HQ5.out.below hb6 HQ5.out.lt)
        have HB6 := Lib.hid (HB5.out.trans (hb6.mono HB5.out.size))
        have HP6 := Lib.hid (HLK.out _ _ _ _ _ HP5.out hb6)
        have HU6 := Lib.hid hp6
        have HBG := Lib.hid hbl
        clear hp6 hb6 HQ5 HB5 HP5 HN5 HRN HRY hbig hbl
        go_upto_region 28 with fail
        refine wp_world ?_
        intro W7 hW7
        have x7 : Box W7 w6.heap.size [.bool false, .string ⟨#[]⟩, .string ⟨#[]⟩, .string ⟨#[]⟩, .string ⟨#[]⟩, .string ⟨#[97]⟩, .string ⟨#[]⟩, .string ⟨#[]⟩, .slice u1 lp u4, .slice u2 lm u5, .slice u3 ld u6] := by rw [hW7]; exact Box.new w6 [.bool false, .string ⟨#[]⟩, .string ⟨#[]⟩, .string ⟨#[]⟩, .string ⟨#[]⟩, .string ⟨#[97]⟩, .string ⟨#[]⟩, .string ⟨#[]⟩, .slice u1 lp u4, .slice u2 lm u5, .slice u3 ld u6] _ _ rfl
        have hb7 : Below w6.heap.size w6 W7 := by rw [hW7]; exact (Below.refl _ w6).alloc (Nat.le_refl _) _
        clear hW7
        have HV7 := Lib.hid x7
        have HQ7 := Lib.hid (HQ6.out.below hb7 HQ6.out.lt)
        have HB7 := Lib.hid (HB6.out.trans (hb7.mono HB6.out.size))
        have HP7 := Lib.hid (HLK.out _ _ _ _ _ HP6.out hb7)
        have HU7 := Lib.hid (HPK.out _ _ _ _ _ _ HU6.out hb7)
        clear x7 hb7 HQ6 HB6 HP6 HU6
        obtain ⟨d0, d1, d2, d3, d4, d5, d6, d7, d8, d9, d10⟩ := bxc11 HQ7.out
        have dl := HQ7.out.lt
        obtain ⟨f0, f1, f2, f3, f4, f5, f6, f7, f8, f9, f10⟩ := bxc11 HV7.out
        have fl := HV7.out.lt
        go_wp2_with fail
        refine (HSM.out _ _ _ _ _ _ _ _ HP7.out HU7.out).mono ?_
        rintro e w11 ⟨rfl, hb11⟩
        have HB11 := Lib.hid (HB7.out.trans (hb11.mono HB7.out.size))
        have HQ11 := Lib.hid (HQ7.out.below hb11 HQ7.out.lt)
        have HP11 := Lib.hid (HLK.out _ _ _ _ _ HP7.out hb11)
        clear hb11 HV7 HQ7 HB7 HP7 HU7 HSM d0 d1 d2 d3 d4 d5 d6 d7 d8 d9 d10 dl f0 f1 f2 f3 f4 f5 f6 f7 f8 f9 f10 fl
        obtain ⟨d0, d1, d2, d3, d4, d5, d6, d7, d8, d9, d10⟩ := bxc11 HQ11.out
        have dl := HQ11.out.lt
        go_wp2_with fail
        refine (HMY.out HBG.out _ _ _ _ HP11.out).mono ?_
        rintro e w9 ⟨rfl, hb9⟩
        have HB9 := Lib.hid (HB11.out.trans (hb9.mono HB11.out.size))
        clear hb9 HQ11 HB11 HP11 HMN HMY d0 d1 d2 d3 d4 d5 d6 d7 d8 d9 d10 dl
        go_wp2_with fail
        refine (HLV.out _ HB9.out).mono ?_
        rintro e w8 ⟨rfl, hb8⟩
        have HB8 := Lib.hid (HB9.out.trans (hb8.mono HB9.out.size))
        clear hb8 HLV
        go_wp2
        go_ret
        exact ⟨rfl, HB8.out⟩
 · have HWK : Hid (WH = ⟨#[112, 114, 111, 106, 101, 99, 116, 47, 112, 114, 111, 112, 101, 114, 116, 105, 101, 115]⟩) := by show _ = _; rw [HWH.out]; kernel_rfl
   clear HX5
   go_wp2_with fail
   go_loopw [9, 21] (fun u i wr => ∃ (l : List Prp) (po : Option Addr) (pc : Nat), l.length ≤ N ∧ i = .int .i64 (l.length : Nat) ∧ Hid (l = limProps l.length) ∧ Hid (Owns (w.heap.size + 1 + 1) 55 2 prpC wr (.slice po l.length pc) l) ∧ Hid (Box wr (w.heap.size + 1) [.bool false, .string ⟨#[]⟩, .string ⟨#[]⟩, .string ⟨#[]⟩, .string ⟨#[]⟩, .string ⟨#[97]⟩, .string ⟨#[]⟩, .string ⟨#[]⟩, .slice po l.length pc, .slice none 0 0, .slice none 0 0] ∧ Below w.heap.size w wr ∧ w.heap.size + 2 ≤ wr.heap.size)) (fun _ i _ => N - (intOf i).toNat)
   case atStart => exact ⟨[], none, 0, Nat.zero_le _, rfl, Lib.hid rfl, Lib.hid Owns.nil, Lib.hid ⟨HX6.out, HB.out, by omega⟩⟩
   case round =>
    obtain ⟨l, po, pc, hk, rfl, HLE, HOK, HR⟩ := hrel
    have HLB : Hid (l.length ≤ 1027) := by have := HN.out; show _ ≤ _; omega
    by_cases hlt : l.length < N
    · have hli : (l.length : Int) < (N : Int) := by omega
      have HXV := Lib.hid HR.out.1
      have HVS := Lib.hid HR.out.2.2
      have HPN : Hid ((⟨#[112]⟩ : S) ++ bs (numP (l.length + 1)) = bs (112 :: numP (l.length + 1))) := by show _ = _; exact bs_append [112] _
      have HPS : Hid (¬ 9223372036854775807 < 1 + (bs (numP (l.length + 1))).size) := by show ¬ _; rw [bs_size]; have := numP_len (l.length + 1); have := HLB.out; omega
      have HNU : Hid (∀ W : World, Calls Tryz.prog 28 #[.int .i64 ((l.length : Int) + 1)] W fun e w' => e = .returned (.string (bs (numP (l.length + 1)))) ∧ Below W.heap.size W w') := fun W => by
       have h1 := refNumber_any (l.length + 1) (by have := HLB.out; omega) W
       rwa [show (((l.length + 1 : Nat)) : Int) = (l.length : Int) + 1 from by omega] at h1
      have hwl : IntKind.i64.wrap ((l.length : Int) + 1) = (l.length : Int) + 1 := IntWalk.i64_in _ (by have := HLB.out; omega)
      go_upto_region 9 with fail
      refine wp_region_flags0 (p9J (w.heap.size + 1) l po pc wr _ _ _ _ _ _ _ _ _ _ _ _ _ _ _ _ _ _ _ _ _ _ _ _ _ _ _ _ _ _ _ _ _ _ _ _ _ _ _ _ _ _ _ _ _ _ _ _ _ _ _ _ _ _ _ _ _ _ _ _ _ _ _ _ _ _ _ _ _ _ _ _ _ _ _ _ _ _ _ _ _ _ _ _ _ _ _ _ _ _ _ _ _ _ _ _ _ _ _ _ _ _ _ _ _) (by kernel_rfl) 11 rfl (by kernel_rfl) ⟨false, false, false, false, false, false, false, false, false, false, false, 0, 0, 0, rfl, rfl, Lib.hid (by simp), Lib.hid (by simp), Lib.hid (by simp), Lib.hid (by simp), Lib.hid (by simp), Lib.hid (by simp), Lib.hid (by simp), Lib.hid (by simp), Lib.hid (by simp), fun h0 => belowN (Below.refl _ _) 1, fun _ => HOK.out.drew, by simp, by simp, by simp⟩ ?fin ?step
      case fin =>
       rintro a' w' ⟨f0, f1, f2, f3, f4, f5, f6, f7, f8, f9, f10, H, g7, c7, hl, rfl, ch1, ch3, ch4, ch5, ch6, ch7, ch8, ch9, ch10, hB, r0, r7, r8, r10⟩
       have hl' : [true, true, true, true, true, true, true, true, true, true, true] = [f0, f1, f2, f3, f4, f5, f6, f7, f8, f9, f10] := congrArg Array.toList hl
       simp only [List.cons.injEq, and_true] at hl'
       obtain ⟨rfl, rfl, rfl, rfl, rfl, rfl, rfl, rfl, rfl, rfl, rfl⟩ := hl'
       unfold p9Upd
       simp only [cond_true]
       have HD := Lib.hid (r10 rfl).2
       have HO9 := Lib.hid (r10 rfl).1
       clear ch1 ch3 ch4 ch5 ch6 ch7 ch8 ch9 ch10 hB r0 r7 r8 r10
       go_wp2
       go_roundw
       case rel =>
        refine ⟨l ++ [limProp l.length], some ⟨g7, 0, none⟩, c7, by simp; omega, by simp, Lib.hid ?_, Lib.hid (by rw [List.length_append]; exact HO9.out), Lib.hid ⟨by rw [List.length_append]; exact HD.out.1, HR.out.2.1.trans (HD.out.2.mono (by omega)), Nat.le_trans HVS.out HD.out.2.size⟩⟩
        rw [List.length_append, List.length_singleton]
        unfold limProps
        rw [List.range_succ, List.map_append]
        congr 1
       case measure => simp [intOf]; omega
      case step =>
       rintro listed a' w' ⟨f0, f1, f2, f3, f4, f5, f6, f7, f8, f9, f10, H, g7, c7, rfl, rfl, ch1, ch3, ch4, ch5, ch6, ch7, ch8, ch9, ch10, hB, r0, r7, r8, r10⟩ i hi
       rw [mem_ready] at hi
       obtain ⟨hu, o, ho, ha⟩ := hi
       have hi8 : i < 11 := (Array.getElem?_eq_some_iff.1 ho).1
       rcases (by omega : i = 0 ∨ i = 1 ∨ i = 2 ∨ i = 3 ∨ i = 4 ∨ i = 5 ∨ i = 6 ∨ i = 7 ∨ i = 8 ∨ i = 9 ∨ i = 10) with rfl | rfl | rfl | rfl | rfl | rfl | rfl | rfl | rfl | rfl | rfl
       · have ho' := ho
         simp at hu ho
         subst hu ho
         clear ha
         have e1 : f1 = false := Bool.eq_false_iff.2 fun h => Bool.false_ne_true ((ch1.out h))
         have e8 : f8 = false := Bool.eq_false_iff.2 fun h => Bool.false_ne_true ((ch1.out (ch8.out h).1))
         have e9 : f9 = false := Bool.eq_false_iff.2 fun h => Bool.false_ne_true ((ch9.out h).1)
         have e10 : f10 = false := Bool.eq_false_iff.2 fun h => Bool.false_ne_true ((ch10.out h).1)
         subst e1 e8 e9 e10
         refine .inl ?_
         unfold p9Upd Oper.wp
         go_simp
         exact ⟨true, false, f2, f3, f4, f5, f6, f7, false, false, false, H, g7, c7, rfl, rfl, Lib.hid (by simp), ch3, ch4, ch5, ch6, ch7, Lib.hid (by simp), Lib.hid (by simp), Lib.hid (by simp), hB, r0, r7, by simp, by simp⟩
       · have ho' := ho
         simp at hu ho
         subst hu ho
         simp [Region.binds] at ha
         obtain rfl : f0 = true := by simp only [ha]
         clear ha
         have e8 : f8 = false := Bool.eq_false_iff.2 fun h => Bool.false_ne_true ((ch8.out h).1)
         have e9 : f9 = false := Bool.eq_false_iff.2 fun h => Bool.false_ne_true ((ch9.out h).2.1)
         have e10 : f10 = false := Bool.eq_false_iff.2 fun h => Bool.false_ne_true ((ch10.out h).2.1)
         subst e8 e9 e10
         have hB1 := hB rfl
         have hS1 := hB1.size
         have k8 := (hB1.cell (p := ⟨w.heap.size + 1, 8, none⟩) (by show w.heap.size + 1 < w.heap.size + 1 + 1; omega)).trans (HXV.out.cell 8 _ rfl)
         have kl8 := Nat.lt_of_lt_of_le HXV.out.lt hS1
         refine .inl ?_
         unfold p9Upd Oper.wp
         go_simp
         exact ⟨true, true, f2, f3, f4, f5, f6, f7, false, false, false, H, g7, c7, rfl, rfl, Lib.hid (by simp), ch3, ch4, ch5, ch6, ch7, Lib.hid (by simp), Lib.hid (by simp), Lib.hid (by simp), hB, r0, r7, by simp, by simp⟩
       · have ho' := ho
         simp at hu ho
         subst hu ho
         clear ha
         have e3 : f3 = false := Bool.eq_false_iff.2 fun h => Bool.false_ne_true ((ch3.out h))
         have e4 : f4 = false := Bool.eq_false_iff.2 fun h => Bool.false_ne_true ((ch3.out (ch4.out h)))
         have e5 : f5 = false := Bool.eq_false_iff.2 fun h => Bool.false_ne_true ((ch3.out (ch4.out (ch5.out h))))
         have e6 : f6 = false := Bool.eq_false_iff.2 fun h => Bool.false_ne_true ((ch3.out (ch4.out (ch5.out (ch6.out h)))))
         have e7 : f7 = false := Bool.eq_false_iff.2 fun h => Bool.false_ne_true ((ch3.out (ch4.out (ch5.out (ch6.out (ch7.out h))))))
         have e8 : f8 = false := Bool.eq_false_iff.2 fun h => Bool.false_ne_true ((ch3.out (ch4.out (ch5.out (ch6.out (ch7.out (ch8.out h).2))))))
         have e9 : f9 = false := Bool.eq_false_iff.2 fun h => Bool.false_ne_true ((ch9.out h).2.2.1)
         have e10 : f10 = false := Bool.eq_false_iff.2 fun h => Bool.false_ne_true ((ch10.out h).2.2.1)
         subst e3 e4 e5 e6 e7 e8 e9 e10
         refine .inl ?_
         unfold p9Upd Oper.wp
         go_simp
         exact ⟨f0, f1, true, false, false, false, false, false, false, false, false, H, g7, c7, rfl, rfl, ch1, Lib.hid (by simp), Lib.hid (by simp), Lib.hid (by simp), Lib.hid (by simp), Lib.hid (by simp), Lib.hid (by simp), Lib.hid (by simp), Lib.hid (by simp), hB, r0, by simp, by simp, by simp⟩
       · have ho' := ho
         simp at hu ho
         subst hu ho
         simp [Region.binds] at ha
         obtain rfl : f2 = true := by simp only [ha]
         clear ha
         have e4 : f4 = false := Bool.eq_false_iff.2 fun h => Bool.false_ne_true ((ch4.out h))
         have e5 : f5 = false := Bool.eq_false_iff.2 fun h => Bool.false_ne_true ((ch4.out (ch5.out h)))
         have e6 : f6 = false := Bool.eq_false_iff.2 fun h => Bool.false_ne_true ((ch4.out (ch5.out (ch6.out h))))
         have e7 : f7 = false := Bool.eq_false_iff.2 fun h => Bool.false_ne_true ((ch4.out (ch5.out (ch6.out (ch7.out h)))))
         have e8 : f8 = false := Bool.eq_false_iff.2 fun h => Bool.false_ne_true ((ch4.out (ch5.out (ch6.out (ch7.out (ch8.out h).2)))))
         have e9 : f9 = false := Bool.eq_false_iff.2 fun h => Bool.false_ne_true ((ch9.out h).2.2.2.1)
         have e10 : f10 = false := Bool.eq_false_iff.2 fun h => Bool.false_ne_true ((ch10.out h).2.2.2.1)
         subst e4 e5 e6 e7 e8 e9 e10
         refine .inl ?_
         unfold p9Upd Oper.wp
         go_simp
         exact ⟨f0, f1, true, true, false, false, false, false, false, false, false, H, g7, c7, rfl, rfl, ch1, Lib.hid (by simp), Lib.hid (by simp), Lib.hid (by simp), Lib.hid (by simp), Lib.hid (by simp), Lib.hid (by simp), Lib.hid (by simp), Lib.hid (by simp), hB, r0, by simp, by simp, by simp⟩
       · have ho' := ho
         simp at hu ho
         subst hu ho
         simp [Region.binds] at ha
         obtain rfl : f3 = true := by simp only [ha]
         clear ha
         obtain rfl : f2 = true := (ch3.out rfl)
         have e5 : f5 = false := Bool.eq_false_iff.2 fun h => Bool.false_ne_true ((ch5.out h))
         have e6 : f6 = false := Bool.eq_false_iff.2 fun h => Bool.false_ne_true ((ch5.out (ch6.out h)))
         have e7 : f7 = false := Bool.eq_false_iff.2 fun h => Bool.false_ne_true ((ch5.out (ch6.out (ch7.out h))))
         have e8 : f8 = false := Bool.eq_false_iff.2 fun h => Bool.false_ne_true ((ch5.out (ch6.out (ch7.out (ch8.out h).2))))
         have e9 : f9 = false := Bool.eq_false_iff.2 fun h => Bool.false_ne_true ((ch9.out h).2.2.2.2.1)
         have e10 : f10 = false := Bool.eq_false_iff.2 fun h => Bool.false_ne_true ((ch10.out h).2.2.2.2.1)
         subst e5 e6 e7 e8 e9 e10
         have hS := (hB rfl).size
         refine .inl ?_
         unfold p9Upd Oper.wp
         go_simp
         refine (HNU.out w').mono ?_
         intro e w1 hO
         obtain ⟨rfl, hb⟩ := hO
         exact ⟨f0, f1, true, true, true, false, false, false, false, false, false, H, g7, c7, rfl, rfl, ch1, Lib.hid (by simp), Lib.hid (by simp), Lib.hid (by simp), Lib.hid (by simp), Lib.hid (by simp), Lib.hid (by simp), Lib.hid (by simp), Lib.hid (by simp), fun h0 => (hB h0).trans (hb.mono (Nat.le_trans HVS.out hS)), fun h0 => (r0 h0).below hb, by simp, by simp, by simp⟩
       · have ho' := ho
         simp at hu ho
         subst hu ho
         simp [Region.binds] at ha
         obtain rfl : f4 = true := by simp only [ha]
         clear ha
         obtain rfl : f3 = true := (ch4.out rfl)
         obtain rfl : f2 = true := (ch3.out (ch4.out rfl))
         have e6 : f6 = false := Bool.eq_false_iff.2 fun h => Bool.false_ne_true ((ch6.out h))
         have e7 : f7 = false := Bool.eq_false_iff.2 fun h => Bool.false_ne_true ((ch6.out (ch7.out h)))
         have e8 : f8 = false := Bool.eq_false_iff.2 fun h => Bool.false_ne_true ((ch6.out (ch7.out (ch8.out h).2)))
         have e9 : f9 = false := Bool.eq_false_iff.2 fun h => Bool.false_ne_true ((ch9.out h).2.2.2.2.2.1)
         have e10 : f10 = false := Bool.eq_false_iff.2 fun h => Bool.false_ne_true ((ch10.out h).2.2.2.2.2.1)
         subst e6 e7 e8 e9 e10
         have hpn := HPN.out
         have hps := HPS.out
         refine .inl ?_
         unfold p9Upd Oper.wp
         go_simp
         exact ⟨f0, f1, true, true, true, true, false, false, false, false, false, H, g7, c7, rfl, rfl, ch1, Lib.hid (by simp), Lib.hid (by simp), Lib.hid (by simp), Lib.hid (by simp), Lib.hid (by simp), Lib.hid (by simp), Lib.hid (by simp), Lib.hid (by simp), hB, r0, by simp, by simp, by simp⟩
       · have ho' := ho
         simp at hu ho
         subst hu ho
         simp [Region.binds] at ha
         obtain rfl : f5 = true := by simp only [ha]
         clear ha
         obtain rfl : f4 = true := (ch5.out rfl)
         obtain rfl : f3 = true := (ch4.out (ch5.out rfl))
         obtain rfl : f2 = true := (ch3.out (ch4.out (ch5.out rfl)))
         have e7 : f7 = false := Bool.eq_false_iff.2 fun h => Bool.false_ne_true ((ch7.out h))
         have e8 : f8 = false := Bool.eq_false_iff.2 fun h => Bool.false_ne_true ((ch7.out (ch8.out h).2))
         have e9 : f9 = false := Bool.eq_false_iff.2 fun h => Bool.false_ne_true ((ch9.out h).2.2.2.2.2.2.1)
         have e10 : f10 = false := Bool.eq_false_iff.2 fun h => Bool.false_ne_true ((ch10.out h).2.2.2.2.2.2.1)
         subst e7 e8 e9 e10
         refine .inl ?_
         unfold p9Upd Oper.wp
         go_simp
         exact ⟨f0, f1, true, true, true, true, true, false, false, false, false, H, g7, c7, rfl, rfl, ch1, Lib.hid (by simp), Lib.hid (by simp), Lib.hid (by simp), Lib.hid (by simp), Lib.hid (by simp), Lib.hid (by simp), Lib.hid (by simp), Lib.hid (by simp), hB, r0, by simp, by simp, by simp⟩
       · have ho' := ho
         simp at hu ho
         subst hu ho
         simp [Region.binds] at ha
         obtain rfl : f6 = true := by simp only [ha]
         clear ha
         obtain rfl : f5 = true := (ch6.out rfl)
         obtain rfl : f4 = true := (ch5.out (ch6.out rfl))
         obtain rfl : f3 = true := (ch4.out (ch5.out (ch6.out rfl)))
         obtain rfl : f2 = true := (ch3.out (ch4.out (ch5.out (ch6.out rfl))))
         have e8 : f8 = false := Bool.eq_false_iff.2 fun h => Bool.false_ne_true ((ch8.out h).2)
         have e9 : f9 = false := Bool.eq_false_iff.2 fun h => Bool.false_ne_true ((ch9.out h).2.2.2.2.2.2.2.1)
         have e10 : f10 = false := Bool.eq_false_iff.2 fun h => Bool.false_ne_true ((ch10.out h).2.2.2.2.2.2.2.1)
         subst e8 e9 e10
         have hS := (hB rfl).size
         have hal := fun o => (Below.refl w'.heap.size w').alloc (Nat.le_refl w'.heap.size) o
         refine .inl ?_
         unfold p9Upd Oper.wp
         go_simp
         exact ⟨f0, f1, true, true, true, true, true, true, false, false, false, w'.heap.size, g7, c7, rfl, rfl, ch1, Lib.hid (by simp), Lib.hid (by simp), Lib.hid (by simp), Lib.hid (by simp), Lib.hid (by simp), Lib.hid (by simp), Lib.hid (by simp), Lib.hid (by simp), fun h0 => (hB h0).trans ((hal _).mono (Nat.le_trans HVS.out hS)), fun h0 => (r0 h0).below (hal _), fun h0 h1 => ⟨by simp, lit_cells w' (prpC (limProp l.length)) _⟩, by simp, by simp⟩
       · have ho' := ho
         simp at hu ho
         subst hu ho
         simp [Region.binds] at ha
         obtain rfl : f1 = true := by simp only [ha]
         obtain rfl : f7 = true := by simp only [ha]
         clear ha
         obtain rfl : f6 = true := (ch7.out rfl)
         obtain rfl : f5 = true := (ch6.out (ch7.out rfl))
         obtain rfl : f4 = true := (ch5.out (ch6.out (ch7.out rfl)))
         obtain rfl : f3 = true := (ch4.out (ch5.out (ch6.out (ch7.out rfl))))
         obtain rfl : f2 = true := (ch3.out (ch4.out (ch5.out (ch6.out (ch7.out rfl)))))
         obtain rfl : f0 = true := (ch1.out rfl)
         have e9 : f9 = false := Bool.eq_false_iff.2 fun h => Bool.false_ne_true ((ch9.out h).2.2.2.2.2.2.2.2)
         have e10 : f10 = false := Bool.eq_false_iff.2 fun h => Bool.false_ne_true ((ch10.out h).2.2.2.2.2.2.2.2.1)
         subst e9 e10
         have hB1 := hB rfl
         have hS1 := hB1.size
         have ho4 := r0 rfl
         have hh6 := r7 rfl rfl
         refine .inl ?_
         unfold p9Upd
         refine wp_append_one rfl (.tmp 25) (.tmp 31) 30 rfl (w.heap.size + 2) 55 Tryz.underlying30 info_prpQ rfl (by decide) prpC_len2 (.slice po l.length pc) l (by simp [Act.eval]) ho4 H (limProp l.length) (by simp [Act.eval]) hh6.2 (prpQ_one _) (by have := HLB.out; omega) (by decide) (Nat.le_trans HVS.out hS1) w'.heap.size rfl ?_
         intro g1 cap1 w1 hown hgr hloc hlt1
         exact ⟨true, true, true, true, true, true, true, true, true, false, false, H, g1, cap1, rfl, rfl, Lib.hid (by simp), Lib.hid (by simp), Lib.hid (by simp), Lib.hid (by simp), Lib.hid (by simp), Lib.hid (by simp), Lib.hid (by simp), Lib.hid (by simp), Lib.hid (by simp), fun _ => hB1.trans (below_own hgr (fun g e => (ho4.lt g e).1) (Nat.le_trans HVS.out hS1)), by simp, by simp, fun h0 h1 => hown, by simp⟩
       · have ho' := ho
         simp at hu ho
         subst hu ho
         simp [Region.binds] at ha
         obtain rfl : f0 = true := by simp only [ha]
         obtain rfl : f1 = true := by simp only [ha]
         obtain rfl : f2 = true := by simp only [ha]
         obtain rfl : f3 = true := by simp only [ha]
         obtain rfl : f4 = true := by simp only [ha]
         obtain rfl : f5 = true := by simp only [ha]
         obtain rfl : f6 = true := by simp only [ha]
         obtain rfl : f7 = true := by simp only [ha]
         obtain rfl : f8 = true := by simp only [ha]
         clear ha
         have e10 : f10 = false := Bool.eq_false_iff.2 fun h => Bool.false_ne_true ((ch10.out h).2.2.2.2.2.2.2.2.2)
         subst e10
         refine .inl ?_
         unfold p9Upd Oper.wp
         go_simp
         exact ⟨true, true, true, true, true, true, true, true, true, true, false, H, g7, c7, rfl, rfl, Lib.hid (by simp), Lib.hid (by simp), Lib.hid (by simp), Lib.hid (by simp), Lib.hid (by simp), Lib.hid (by simp), Lib.hid (by simp), Lib.hid (by simp), Lib.hid (by simp), hB, by simp, by simp, r8, by simp⟩
       · have ho' := ho
         simp at hu ho
         subst hu ho
         simp [Region.binds] at ha
         obtain rfl : f0 = true := by simp only [ha]
         obtain rfl : f1 = true := by simp only [ha]
         obtain rfl : f2 = true := by simp only [ha]
         obtain rfl : f3 = true := by simp only [ha]
         obtain rfl : f4 = true := by simp only [ha]
         obtain rfl : f5 = true := by simp only [ha]
         obtain rfl : f6 = true := by simp only [ha]
         obtain rfl : f7 = true := by simp only [ha]
         obtain rfl : f8 = true := by simp only [ha]
         obtain rfl : f9 = true := by simp only [ha]
         clear ha
         have hB1 := hB rfl
         have hS1 := hB1.size
         have ho7 := r8 rfl rfl
         have hT9 := HXV.out.below hB1 (by omega)
         have z2 := hT9.cell 8 _ rfl
         have u2 := hT9.free 8
         have pl := hT9.lt
         refine .inl ?_
         unfold p9Upd Oper.wp
         go_simp
         exact ⟨true, true, true, true, true, true, true, true, true, true, true, H, g7, c7, rfl, rfl, Lib.hid (by simp), Lib.hid (by simp), Lib.hid (by simp), Lib.hid (by simp), Lib.hid (by simp), Lib.hid (by simp), Lib.hid (by simp), Lib.hid (by simp), Lib.hid (by simp), by simp, by simp, by simp, by simp, fun h0 => ⟨ho7.keptR (setCell_grown _ _ _ _) (by omega), hT9.set 8 _, (hB1.mono (by omega)).setCell (by simp) _⟩⟩
    · have HX2 := Lib.hid HR.out.1
      have HB2 := Lib.hid HR.out.2.1
      have HP2 : Hid (PL wr (.slice po l.length pc) (.slice none 0 0) (.slice none 0 0)) := by
       refine HL0.out _ _ _ _ ?_ ⟨[], rfl, SliceOf.nil, fun _ h => by cases h⟩ ⟨[], rfl, SliceOf.nil, fun _ h => by cases h⟩
       have h1 := HOK.out.slice prpC_len2
       have h2 := HLE.out
       rw [show l.length = N from by omega] at h2
       exact (show (limP 3 N).props = l from h2.symm) ▸ h1
      have hli : ¬ ((l.length : Int) < (N : Int)) := by omega
      clear HOK HLE HR hlt
      obtain rfl := HWK.out
      obtain ⟨d0, d1, d2, d3, d4, d5, d6, d7, d8, d9, d10⟩ := bxc11 HX2.out
      have dl := HX2.out.lt
      go_wp2_with fail
      refine (HWR.out _ _ _ _ HP2.out).mono ?_
      rintro e w5 ⟨ko, kd5, rfl, hn5, hb5⟩
      have HQ5 := Lib.hid (HX2.out.below hb5 HX2.out.lt)
      have HB5 := Lib.hid (HB2.out.trans (hb5.mono HB2.out.size))
      have HP5 := Lib.hid (HLK.out _ _ _ _ _ HP2.out hb5)
      have HN5 := Lib.hid hn5
      clear hn5 hb5 HX2 HB2 HP2 HWR d0 d1 d2 d3 d4 d5 d6 d7 d8 d9 d10 dl
      go_wp2_with fail
      by_cases hbig : 1024 < N
      · have hbI : (1024 : Int) < (N : Int) := by omega
        refine (HRN.out hbig _ _ _ HN5.out).mono ?_
        rintro e w6 ⟨rfl, hb6⟩
        have HQ6 := Lib.hid (HQ5.out.below hb6 HQ5.out.lt)
        have HB6 := Lib.hid (HB5.out.trans (hb6.mono HB5.out.size))
        have HP6 := Lib.hid (HLK.out _ _ _ _ _ HP5.out hb6)
        have HBG := Lib.hid hbig
        clear hb6 HQ5 HB5 HP5 HN5 HRN HRY hbig
        go_upto_region 28 with fail
        refine wp_world ?_
        intro W7 hW7
        have hb7 : Below w6.heap.size w6 W7 := by rw [hW7]; exact (Below.refl _ w6).alloc (Nat.le_refl _) _
        clear hW7
        have HQ7 := Lib.hid (HQ6.out.below hb7 HQ6.out.lt)
        have HB7 := Lib.hid (HB6.out.trans (hb7.mono HB6.out.size))
        have HP7 := Lib.hid (HLK.out _ _ _ _ _ HP6.out hb7)
        clear hb7 HQ6 HB6 HP6
        obtain ⟨d0, d1, d2, d3, d4, d5, d6, d7, d8, d9, d10⟩ := bxc11 HQ7.out
        have dl := HQ7.out.lt
        go_wp2_with fail
        refine (HMN.out HBG.out _ _ _ _ HP7.out).mono ?_
        rintro e w9 ⟨rfl, hb9⟩
        have HB9 := Lib.hid (HB7.out.trans (hb9.mono HB7.out.size))
        clear hb9 HQ7 HB7 HP7 HMN HMY HSM d0 d1 d2 d3 d4 d5 d6 d7 d8 d9 d10 dl
        go_wp2_with fail
        refine (HLV.out _ HB9.out).mono ?_
        rintro e w8 ⟨rfl, hb8⟩
        have HB8 := Lib.hid (HB9.out.trans (hb8.mono HB9.out.size))
        clear hb8 HLV
        go_wp2
        go_ret
        exact ⟨rfl, HB8.out⟩
      · have hbI : ¬ ((1024 : Int) < (N : Int)) := by omega
        have hbl : N ≤ 1024 := by omega
        refine (HRY.out hbl _ _ _ HN5.out).mono ?_
        rintro e w6 ⟨u1, u4, u2, u5, u3, u6, rfl, hp6, hb6⟩
        have HQ6 := Lib.hid (HQ5.out.below hb6 HQ5.out.lt)
        have HB6 := Lib.hid (HB5.out.trans (hb6.mono HB5.out.size))
        have HP6 := Lib.hid (HLK.out _ _ _ _ _ HP5.out hb6)
        have HU6 := Lib.hid hp6
        have HBG := Lib.hid hbl
        clear hp6 hb6 HQ5 HB5 HP5 HN5 HRN HRY hbig hbl
        go_upto_region 28 with fail
        refine wp_world ?_
        intro W7 hW7
        have x7 : Box W7 w6.heap.size [.bool false, .string ⟨#[]⟩, .string ⟨#[]⟩, .string ⟨#[]⟩, .string ⟨#[]⟩, .string ⟨#[97]⟩, .string ⟨#[]⟩, .string ⟨#[]⟩, .slice u1 lp u4, .slice u2 lm u5, .slice u3 ld u6] := by rw [hW7]; exact Box.new w6 [.bool false, .string ⟨#[]⟩, .string ⟨#[]⟩, .string ⟨#[]⟩, .string ⟨#[]⟩, .string ⟨#[97]⟩, .string ⟨#[]⟩, .string ⟨#[]⟩, .slice u1 lp u4, .slice u2 lm u5, .slice u3 ld u6] _ _ rfl
        have hb7 : Below w6.heap.size w6 W7 := by rw [hW7]; exact (Below.refl _ w6).alloc (Nat.le_refl _) _
        clear hW7
        have HV7 := Lib.hid x7
        have HQ7 := Lib.hid (HQ6.out.below hb7 HQ6.out.lt)
        have HB7 := Lib.hid (HB6.out.trans (hb7.mono HB6.out.size))
        have HP7 := Lib.hid (HLK.out _ _ _ _ _ HP6.out hb7)
        have HU7 := Lib.hid (HPK.out _ _ _ _ _ _ HU6.out hb7)
        clear x7 hb7 HQ6 HB6 HP6 HU6
        obtain ⟨d0, d1, d2, d3, d4, d5, d6, d7, d8, d9, d10⟩ := bxc11 HQ7.out
        have dl := HQ7.out.lt
        obtain ⟨f0, f1, f2, f3, f4, f5, f6, f7, f8, f9, f10⟩ := bxc11 HV7.out
        have fl := HV7.out.lt
        go_wp2_with fail
        refine (HSM.out _ _ _ _ _ _ _ _ HP7.out HU7.out).mono ?_
        rintro e w11 ⟨rfl, hb11⟩
        have HB11 := Lib.hid (HB7.out.trans (hb11.mono HB7.out.size))
        have HQ11 := Lib.hid (HQ7.out.below hb11 HQ7.out.lt)
        have HP11 := Lib.hid (HLK.out _ _ _ _ _ HP7.out hb11)
        clear hb11 HV7 HQ7 HB7 HP7 HU7 HSM d0 d1 d2 d3 d4 d5 d6 d7 d8 d9 d10 dl f0 f1 f2 f3 f4 f5 f6 f7 f8 f9 f10 fl
        obtain ⟨d0, d1, d2, d3, d4, d5, d6, d7, d8, d9, d10⟩ := bxc11 HQ11.out
        have dl := HQ11.out.lt
        go_wp2_with fail
        refine (HMY.out HBG.out _ _ _ _ HP11.out).mono ?_
        rintro e w9 ⟨rfl, hb9⟩
        have HB9 := Lib.hid (HB11.out.trans (hb9.mono HB11.out.size))
        clear hb9 HQ11 HB11 HP11 HMN HMY d0 d1 d2 d3 d4 d5 d6 d7 d8 d9 d10 dl
        go_wp2_with fail
        refine (HLV.out _ HB9.out).mono ?_
        rintro e w8 ⟨rfl, hb8⟩
        have HB8 := Lib.hid (HB9.out.trans (hb8.mono HB9.out.size))
        clear hb8 HLV
        go_wp2
        go_ret
        exact ⟨rfl, HB8.out⟩

end Go.Proofs.YtbbbfjcikhpmbaaGreat
