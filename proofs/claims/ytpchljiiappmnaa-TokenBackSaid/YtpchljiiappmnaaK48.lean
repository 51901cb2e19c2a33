/- How tokens are printed, and the walk of the program's tag; the conditions stand in the theorem. -/
import Derived.Test.YtpchljiiappmnaaK47
import Derived.Test.YtpchljiiappmnaaK43
import Derived.Test.YtpchljiiappmnaaK19
import Derived.Deep.RegionHeld3
namespace Go.Proofs.Ytpchljiiappmnaa
open Go Go.RowKit

def attsP (l : List At2) : Bs := l.flatMap (attT false)
def tagP (t : Tk) (fin : Bs) : Bs := 60 :: (t.name ++ (attsP t.attrs ++ fin))
def tokP (t : Tk) : Bs :=
  if t.kind = 5 then sNote ++ (t.text ++ eNote) else if t.kind = 6 then sHead ++ (t.text ++ eHead) else if t.kind = 3 then [60, 47] ++ (t.name ++ [62])
  else if t.kind = 1 then tagP t [62] else if t.kind = 2 then tagP t [47, 62] else if t.kind = 4 then esc false t.text else []
def printP (ts : List Tk) : Bs := ts.flatMap tokP

/-- How great a tag may become. -/
def attsW (l : List At2) : Nat := (l.map fun a => a.1.length + 6 * a.2.length + 4).sum
theorem attP_len (a : At2) : (attT false a).length ≤ a.1.length + 6 * a.2.length + 4 := by
  have := (esc_len true a.2).2
  unfold attT
  simp only [Bool.false_eq_true, if_false, List.length_cons, List.length_append, List.length_nil]; omega
theorem attsP_len (l : List At2) : (attsP l).length ≤ attsW l := by
  induction l with
  | nil => exact Nat.le_refl _
  | cons a l ih =>
    have := attP_len a
    show (attT false a ++ attsP l).length ≤ _
    unfold attsW at *
    rw [List.length_append, List.map_cons, List.sum_cons]; omega
theorem attsW_take (l : List At2) (k : Nat) : attsW (l.take k) ≤ attsW l := by
  induction l generalizing k with
  | nil => simp [attsW]
  | cons a l ih =>
    cases k with
    | zero => simp [attsW]
    | succ k => have := ih k; unfold attsW at *; simp only [List.take_succ_cons, List.map_cons, List.sum_cons]; omega
theorem attsW_get {l : List At2} {k : Nat} (h : k < l.length) : l[k].1.length + 6 * l[k].2.length + 4 ≤ attsW l := by
  induction l generalizing k with
  | nil => simp at h
  | cons a l ih =>
    cases k with
    | zero => unfold attsW; simp only [List.map_cons, List.sum_cons, List.getElem_cons_zero]; omega
    | succ k => have := ih (k := k) (by simpa using h); unfold attsW at *; simp only [List.map_cons, List.sum_cons, List.getElem_cons_succ]; omega
theorem attsP_snoc {l : List At2} {k : Nat} (h : k < l.length) : attsP (l.take (k + 1)) = attsP (l.take k) ++ attT false l[k] := by
  rw [List.take_succ_eq_append_getElem h]; unfold attsP; rw [List.flatMap_append]; simp

theorem byteCells_len (l : Bs) : (Lib.byteCells l).length = l.length := by simp [Lib.byteCells]
theorem str_cells {s : S} {l : Bs} (h : s = bs l) (cs : Bs) : Lib.byteCells cs ++ Lib.strCells s = Lib.byteCells (cs ++ l) := by rw [h, byteCells_app]
/-- The text of one attribute, in the walk's words. -/
theorem att_str {N V E : S} {a : At2} (h1 : N = bs a.1) (h2 : V = bs a.2) (h3 : E = bs (esc true V.data.toList)) : (⟨#[32]⟩ : S) ++ N ++ (⟨#[61, 34]⟩ : S) ++ E ++ (⟨#[34]⟩ : S) = bs (attT false a) := by
  rw [h3, h2, bs_data, h1, show (⟨#[32]⟩ : S) = bs [32] from rfl, show (⟨#[61, 34]⟩ : S) = bs [61, 34] from rfl, show (⟨#[34]⟩ : S) = bs [34] from rfl, bs_append, bs_append, bs_append, bs_append]
  simp [attT]

set_option maxRecDepth 100000 in
set_option maxHeartbeats 8000000 in
theorem tag_any (w0 : World) (R b : Nat) (cs : Bs) (x : TkM) (fin : S) (w : World) (hB : Bld R b (Lib.byteCells cs) w) (hA : SliceOf 2 atC w0 x.av x.t.attrs) (h0 : Below w0.heap.size w0 w) (hR : w0.heap.size ≤ R) (hb0 : w0.heap.size ≤ b)
    (hsz : cs.length + x.t.name.length + attsW x.t.attrs + fin.size ≤ 100000000000) (hat : attsW x.t.attrs ≤ 1000000000) :
    Calls Try.prog 60 #[.pointer (some ⟨b, 0, none⟩), .agg #[.int .i64 x.t.kind, .string (bs x.t.name), x.av, .string (bs x.t.text), .int .i64 x.off, .int .i64 x.line, .int .i64 x.col], .string fin] w
      fun e w' => e = .returned (.tuple #[]) ∧ Bld R b (Lib.byteCells (cs ++ tagP x.t fin.data.toList)) w' ∧ Kept R b w w' := by
  obtain ⟨ao, cap, hv⟩ := hA.shape
  have hcap : x.t.attrs.length ≤ 9223372036854775807 := by
    obtain ⟨_, _, e, h2, h3, -⟩ := hA
    unfold maxLen at h3; omega
  rw [hv] at hA ⊢
  obtain ⟨N, hN⟩ : ∃ N : S, bs x.t.name = N := ⟨_, rfl⟩
  have hNs : N.size = x.t.name.length := by rw [← hN, bs_size]
  have HN := Lib.hid hN
  rw [hN]
  have HB := Lib.hid hB
  have HA := Lib.hid hA
  have H0 := Lib.hid h0
  have hbw := hB.lt
  have hRw := hB.room
  have hN2 : N.size ≤ 100000000000 := by omega
  have HNS := Lib.hid hNs
  clear hB hA h0 hN hv hNs
  generalize hl : x.t.attrs = l at *
  have HL := Lib.hid hl.symm
  clear hl
  go_enter Try.func60, Try.ntmps60
  go_wp2_with fail
  refine Calls.world ?_
  intro W hW
  have hbx : W.heap[w.heap.size]? = some (.cells #[.int .i64 x.t.kind, .string N, .slice ao l.length cap, .string (bs x.t.text), .int .i64 x.off, .int .i64 x.line, .int .i64 x.col] 34 (0, 0)) := by rw [hW]; exact heap_alloc_new w _
  have hbW : Below w.heap.size w W := by rw [hW]; exact (Below.refl _ _).alloc (Nat.le_refl _) _
  have hltW : w.heap.size < W.heap.size := by rw [hW]; simp
  clear hW
  refine (writeString_bld R b _ ((⟨#[60]⟩ : S) ++ N) W (HB.out.keep hbW) (by rw [byteCells_len, ByteArray.size_append, size_lit]; simp; omega)).mono ?_
  rintro e w1 ⟨rfl, hB1, hK1⟩
  have c2 : w1.cell? ⟨w.heap.size, 2, none⟩ = some (.slice ao l.length cap) := (hK1.var (by omega) (by decide) hbx 2).trans (by rw [Lib.cell_of_heap hbx]; rfl)
  have hlt1 : w.heap.size < w1.heap.size := Nat.lt_of_lt_of_le hltW hK1.size
  have HB1 : Hid (Bld R b (Lib.byteCells (cs ++ (60 :: x.t.name))) w1) := by
    have h1 : (⟨#[60]⟩ : S) ++ N = bs (60 :: x.t.name) := by rw [← HN.out, show (⟨#[60]⟩ : S) = bs [60] from rfl, bs_append]; rfl
    have h2 := hB1
    rw [str_cells h1] at h2
    exact h2
  have HK1 : Hid (Kept R b w w1) := (Kept.of_below hbW hRw).trans hK1
  clear hB1 hK1 hbx hbW hltW
  go_wp2_with fail
  clear c2
  go_loopw [16] (fun i wr => ∃ k : Nat, k ≤ l.length ∧ i = .int .i64 k ∧ Bld R b (Lib.byteCells (cs ++ (60 :: x.t.name) ++ attsP (l.take k))) wr ∧ Kept R b w wr) (fun i _ => l.length - (intOf i).toNat)
  case atStart => exact ⟨0, Nat.zero_le _, rfl, by have := HB1.out; simpa [attsP] using this, HK1.out⟩
  case round =>
    obtain ⟨k, hk, rfl, hB, hK⟩ := hrel
    have HBk := Lib.hid hB
    have HKk := Lib.hid hK
    have hwr := hK.size
    have hbr := hB.lt
    have hlen : (cs ++ (60 :: x.t.name) ++ attsP (l.take k)).length ≤ 100000000001 := by
      have h1 := attsP_len (l.take k)
      have h2 := attsW_take l k
      simp only [List.length_append, List.length_cons]; omega
    by_cases hlt : k < l.length
    · obtain ⟨g, o, rfl, hg, hc⟩ := HA.out.at hlt
      have tr : ∀ q u, w0.cell? ⟨g, q, none⟩ = some u → wr.cell? ⟨g, q, none⟩ = some u := fun q u hq => (hK.cell (by omega) (by omega)).trans ((H0.out.cell (by exact hg)).trans hq)
      have d0 := tr _ _ (hc 0 _ rfl)
      have d1 := tr _ _ (hc 1 _ rfl)
      rw [Nat.add_zero] at d0
      have hgr : g < wr.heap.size := by omega
      have hi1 : (k : Int) < (l.length : Int) := by omega
      have hw := attsW_get hlt
      obtain ⟨N2, hN2'⟩ : ∃ N2 : S, bs l[k].1 = N2 := ⟨_, rfl⟩
      obtain ⟨V, hV⟩ : ∃ V : S, bs l[k].2 = V := ⟨_, rfl⟩
      rw [hN2'] at d0
      rw [hV] at d1
      have hNs2 : N2.size ≤ 1000000000 := by rw [← hN2', bs_size]; omega
      have hVs : V.size ≤ 200000000 := by rw [← hV, bs_size]; omega
      obtain ⟨E, hE⟩ : ∃ E : S, E = bs (esc true V.data.toList) := ⟨_, rfl⟩
      have hEs : E.size ≤ 1200000000 := by
        rw [hE, bs_size]
        have := (esc_len true V.data.toList).2
        rw [size_data] at this; omega
      have HESC : Hid (∀ w, Calls Try.prog 61 #[.string V, .bool true] w fun e w' => e = .returned (.string E) ∧ Below w.heap.size w w') := fun w => by rw [hE]; exact escape_any V true w (by omega)
      have HAS := Lib.hid (att_str hN2'.symm hV.symm hE)
      have HSZ : Hid (((⟨#[32]⟩ : S) ++ N2 ++ (⟨#[61, 34]⟩ : S) ++ E ++ (⟨#[34]⟩ : S)).size ≤ 3000000000) := by
        show _ ≤ _
        simp only [ByteArray.size_append, size_lit]
        simp; omega
      clear hc tr hB hK hE hN2' hV
      go_wp2_with fail
      clear d0 d1
      refine wp_world ?_
      intro W2 hW2
      have hbx : W2.heap[wr.heap.size]? = some (.cells #[.string N2, .string V] 43 (0, 0)) := by rw [hW2]; exact heap_alloc_new wr _
      have hbW : Below wr.heap.size wr W2 := by rw [hW2]; exact (Below.refl _ _).alloc (Nat.le_refl _) _
      have z0 : W2.cell? ⟨wr.heap.size, 0, none⟩ = some (.string N2) := by rw [Lib.cell_of_heap hbx]; rfl
      have z1 : W2.cell? ⟨wr.heap.size, 1, none⟩ = some (.string V) := by rw [Lib.cell_of_heap hbx]; rfl
      have hlt2 : wr.heap.size < W2.heap.size := by rw [hW2]; simp
      have HB2 := Lib.hid ((HBk.out.keep hbW).keep (belowN (Below.refl _ _) 1))
      have HK2 := Lib.hid (HKk.out.trans (Kept.of_below hbW (by omega)))
      have HX := Lib.hid hbx
      have f1 : ¬ 9223372036854775807 < 1 + N2.size := by omega
      have f2 : ¬ 9223372036854775807 < 1 + N2.size + 2 := by omega
      have f3 : ¬ 9223372036854775807 < 1 + N2.size + 2 + E.size := by omega
      have f4 : ¬ 9223372036854775807 < 1 + N2.size + 2 + E.size + 1 := by omega
      clear hW2 hbx hbW
      go_region_held3 (fun w' => w'.cell? ⟨wr.heap.size, 0, none⟩ = some (.string N2) ∧ w'.cell? ⟨wr.heap.size, 1, none⟩ = some (.string V)) (first | exact ⟨z0, z1⟩ | exact ⟨(hb5.cell (by exact hlt2)).trans z0, (hb5.cell (by exact hlt2)).trans z1⟩ | exact ⟨(hK6.var (by omega) (by decide) hx5 0).trans ((hb5.cell (by exact hlt2)).trans z0), (hK6.var (by omega) (by decide) hx5 1).trans ((hb5.cell (by exact hlt2)).trans z1)⟩)
        (first | (go_at_call 61; refine (HESC.out _).mono ?_; rintro e w5 ⟨rfl, hb5⟩; have hx5 := (hb5.block _ (by exact hlt2)).trans HX.out) | (go_at_call 59; refine (writeString_bld R b _ _ _ (HB2.out.keep hb5) (by rw [byteCells_len]; have := HSZ.out; omega)).mono ?_; rintro e w6 ⟨rfl, hB6, hK6⟩))
      have HB6 : Hid (Bld R b (Lib.byteCells (cs ++ (60 :: x.t.name) ++ attsP (l.take (k + 1)))) w6) := by
        have h2 := hB6
        rw [str_cells HAS.out] at h2
        show Bld _ _ _ _
        rw [attsP_snoc hlt, ← List.append_assoc]; exact h2
      have HK6 : Hid (Kept R b w w6) := (HK2.out.trans (Kept.of_below ((belowN (Below.refl _ _) 1).trans hb5) (by omega))).trans hK6
      clear hB6 hK6 hx5 hb5 z0 z1 f1 f2 f3 f4
      go_wp2
      go_round
      case rel => exact ⟨k + 1, hlt, by go_num, HB6.out, HK6.out⟩
      case measure => simp [intOf]; omega
    · obtain rfl : k = l.length := by omega
      have hi1 : ¬ (l.length : Int) < (l.length : Int) := by omega
      rw [List.take_length] at HBk hlen
      clear hB hK
      go_wp2_with fail
      refine (writeString_bld R b _ fin wr HBk.out (by rw [byteCells_len]; omega)).mono ?_
      rintro e w3 ⟨rfl, hB3, hK3⟩
      have HB3 : Hid (Bld R b (Lib.byteCells (cs ++ tagP x.t fin.data.toList)) w3) := by
        have h2 := hB3
        rw [str_cells (data_bs fin).symm] at h2
        show Bld _ _ _ _
        have e1 : cs ++ (60 :: x.t.name) ++ attsP l ++ fin.data.toList = cs ++ tagP x.t fin.data.toList := by
          rw [HL.out]; simp [tagP]
        rw [← e1]; exact h2
      have HK3 := Lib.hid (HKk.out.trans hK3)
      clear hB3 hK3
      go_wp2
      go_end0
      exact ⟨rfl, HB3.out, HK3.out⟩

end Go.Proofs.Ytpchljiiappmnaa
