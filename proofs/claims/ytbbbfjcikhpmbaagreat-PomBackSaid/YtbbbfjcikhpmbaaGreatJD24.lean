/- Walks of the program's Print on trees; their conditions stand in the theorems. -/
import Derived.Test.YtbbbfjcikhpmbaaGreatJD12
import Derived.Test.YtbbbfjcikhpmbaaGreatJD10
import Derived.Laws.EntriesVeiled
import Derived.Test.YtbbbfjcikhpmbaaGreatJD20
import Derived.WalkSpells
import Derived.Test.YtbbbfjcikhpmbaaGreatJD23
import Derived.Test.YtbbbfjcikhpmbaaGreatJD14
namespace Go.Proofs.YtbbbfjcikhpmbaaGreat
open Go Go.RowKit

mutual
/-- What a tree is printed as. -/
def Tr.pr : Tr → Bs
 | .mk n a ks x => if n.isEmpty then esc false x else if ks.isEmpty then tagP ⟨2, n, a, []⟩ [47, 62] else tagP ⟨1, n, a, []⟩ [62] ++ (Tr.prL ks ++ ([60, 47] ++ (n ++ [62])))
def Tr.prL : List Tr → Bs
 | [] => []
 | t :: l => t.pr ++ Tr.prL l
end
mutual
/-- How great a tree's printing may become. -/
def Tr.wt : Tr → Nat
 | .mk n a ks x => (2 * n.length + x.length + attsW a + 30) + Tr.wtL ks
def Tr.wtL : List Tr → Nat
 | [] => 0
 | t :: l => t.wt + Tr.wtL l
end
theorem Tr.wt_eq (t : Tr) : t.wt = (2 * t.name.length + t.text.length + attsW t.attrs + 30) + Tr.wtL t.kids := by cases t; rw [Tr.wt]; rfl
theorem Tr.pr_eq (t : Tr) : t.pr = if t.name.isEmpty then esc false t.text else if t.kids.isEmpty then tagP ⟨2, t.name, t.attrs, []⟩ [47, 62] else tagP ⟨1, t.name, t.attrs, []⟩ [62] ++ (Tr.prL t.kids ++ ([60, 47] ++ (t.name ++ [62]))) := by cases t; rw [Tr.pr]; rfl
theorem prL_append : ∀ (l m : List Tr), Tr.prL (l ++ m) = Tr.prL l ++ Tr.prL m
 | [], m => by simp [Tr.prL]
 | t :: l, m => by rw [List.cons_append, Tr.prL, Tr.prL, prL_append l m, List.append_assoc]
theorem prL_take {l : List Tr} {k : Nat} (h : k < l.length) : Tr.prL (l.take (k + 1)) = Tr.prL (l.take k) ++ l[k].pr := by
 rw [List.take_succ_eq_append_getElem h, prL_append]; simp [Tr.prL]
theorem wtL_take : ∀ (l : List Tr) (k : Nat) (h : k < l.length), Tr.wtL (l.take k) + l[k].wt ≤ Tr.wtL l
 | t :: l, 0, _ => by simp only [List.take_zero, Tr.wtL, List.getElem_cons_zero]; omega
 | t :: l, k + 1, h => by have := wtL_take l k (by simpa using h); simp only [List.take_succ_cons, Tr.wtL, List.getElem_cons_succ]; omega
theorem tagT_len (k : Int) (n : Bs) (a : List At2) (q : Bs) : (tagP ⟨k, n, a, []⟩ q).length ≤ n.length + attsW a + q.length + 1 := by
 have := attsP_len a
 unfold tagP
 simp only [List.length_cons, List.length_append]; omega
mutual
theorem pr_len : ∀ t : Tr, t.pr.length ≤ 6 * t.wt
 | .mk n a ks x => by
  have h1 := (esc_len false x).2
  have h2 := prL_len ks
  have h3 := tagT_len 1 n a [62]
  have h4 := tagT_len 2 n a [47, 62]
  simp only [List.length_cons, List.length_nil] at h3 h4
  rw [Tr.pr, Tr.wt]
  repeat' split
  all_goals (try simp only [List.length_append, List.length_cons, List.length_nil]); omega
theorem prL_len : ∀ l : List Tr, (Tr.prL l).length ≤ 6 * Tr.wtL l
 | [] => by simp [Tr.prL]
 | t :: l => by
  have h1 := pr_len t
  have h2 := prL_len l
  rw [Tr.prL, Tr.wtL, List.length_append]; omega
end
theorem Kept.x {R b : Nat} {w w' : World} (h : Kept R b w w') : KeptX (fun j => R ≤ j ∨ j = b) w w' :=
 ⟨h.size, fun _ _ _ hn => h.cell (Nat.lt_of_not_le (fun e => hn (.inl e))) (fun e => hn (.inr e))⟩
theorem tk_lit (W : World) (H : Nat) (hH : W.heap.size = H) (k : Int) (n : Bs) (a : List At2) (av : Value) (hA : SliceOf 2 atC W av a) : TkMs (W.alloc (.cells #[.int .i64 k, .string (bs n), av, .string ⟨#[]⟩, .int .i64 0, .int .i64 0, .int .i64 0] 117)) (.slice (some ⟨H, 0, none⟩) 1 1) [⟨⟨k, n, a, []⟩, av, 0, 0, 0⟩] := by
 refine ⟨?_, fun x hx => ?_⟩
 · have h := sliceLit tkC_len W [(⟨⟨k, n, a, []⟩, av, 0, 0, 0⟩ : TkM)] 117 H 1 hH rfl (by unfold maxLen; simp)
   exact h
 · obtain rfl := List.mem_singleton.1 hx
   exact hA.below ((Below.refl _ _).alloc (Nat.le_refl _) _)
theorem str3 (a : Array UInt8) (N : S) (n : Bs) (c : Array UInt8) (h : N = bs n) : (⟨a⟩ : S) ++ N ++ (⟨c⟩ : S) = bs (a.toList ++ (n ++ c.toList)) := by
 rw [h, show (⟨a⟩ : S) = bs a.toList by simp [bs], show (⟨c⟩ : S) = bs c.toList by simp [bs], bs_append, bs_append, List.append_assoc]
set_option maxRecDepth 100000 in
set_option maxHeartbeats 16000000 in
theorem lay_any : ∀ (n : Nat) (t : Tr) (w : World) (av kv : Value) (R b c : Nat) (P : Bs), SizeOf.sizeOf t ≤ n → Bld R b (Lib.byteCells P) w → c < R → c ≠ b → w.cell? ⟨c, 0, none⟩ = some (.func (.func 75) #[] #[.pointer (some ⟨b, 0, none⟩), .pointer (some ⟨c, 0, none⟩)]) → NodeX (fun j => R ≤ j ∨ j = b) w t av kv → P.length + 6 * t.wt ≤ 10000000000 → t.wt ≤ 900000000 →
    Calls Tryz.prog 75 #[nodeV t av kv, .pointer (some ⟨b, 0, none⟩), .pointer (some ⟨c, 0, none⟩)] w fun e w' => e = .returned (.tuple #[]) ∧ Bld R b (Lib.byteCells (P ++ t.pr)) w' ∧ Kept R b w w'
 | 0, t, w, av, kv, R, b, c, P, hn, _, _, _, _, _, _, _ => by
  obtain ⟨n, l, k, x⟩ := t
  simp only [Tr.mk.sizeOf_spec] at hn
  omega
 | n + 1, t, w, av, kv, R, b, c, P, hn, hB, hcR, hcb, hcc, ht, hw1, hw2 => by
  obtain ⟨ao, ac, ko, kc, rfl, rfl, hal, hkl⟩ := ht.shape
  have hwt := t.wt_eq
  have HI : Hid (∀ k (hk : k < t.kids.length) (W' : World) (v1 v2 : Value) (P' : Bs), Bld R b (Lib.byteCells P') W' → W'.cell? ⟨c, 0, none⟩ = some (.func (.func 75) #[] #[.pointer (some ⟨b, 0, none⟩), .pointer (some ⟨c, 0, none⟩)]) → NodeX (fun j => R ≤ j ∨ j = b) W' t.kids[k] v1 v2 → P'.length + 6 * t.kids[k].wt ≤ 10000000000 →
      Calls Tryz.prog 75 #[nodeV t.kids[k] v1 v2, .pointer (some ⟨b, 0, none⟩), .pointer (some ⟨c, 0, none⟩)] W' fun e w' => e = .returned (.tuple #[]) ∧ Bld R b (Lib.byteCells (P' ++ t.kids[k].pr)) w' ∧ Kept R b W' w') := fun k hk W' v1 v2 P' h1 h2 h3 h4 => lay_any n _ W' v1 v2 R b c P' (by have := kid_less hk; omega) h1 hcR hcb h2 h3 h4 (by have := wtL_take t.kids k hk; omega)
  have hPR := t.pr_eq
  obtain ⟨N, hN⟩ : ∃ N : S, bs t.name = N := ⟨_, rfl⟩
  obtain ⟨X, hX⟩ : ∃ X : S, bs t.text = X := ⟨_, rfl⟩
  have hNs : N.size = t.name.length := by rw [← hN, bs_size]
  have hNb : N.size ≤ 900000000 := by omega
  have hXs : X.size ≤ 1000000000 := by rw [← hX, bs_size]; omega
  have hXe : X.data.toList = t.text := by rw [← hX, bs_data]
  have hbl := hB.lt
  have hbn : w.heap.size ≠ b := by omega
  have HB := Lib.hid hB
  have HCC := Lib.hid hcc
  have HT := Lib.hid ht
  have HWT : Hid (P.length + 6 * t.wt ≤ 10000000000 ∧ t.wt ≤ 900000000 ∧ t.wt = (2 * t.name.length + t.text.length + attsW t.attrs + 30) + Tr.wtL t.kids) := ⟨hw1, hw2, hwt⟩
  have HNN := Lib.hid hN
  have hnl : t.name.length ≤ 900000000 := by omega
  have haw : attsW t.attrs ≤ 900000000 := by omega
  have hPl : P.length ≤ 10000000000 := by omega
  have hnaw : t.name.length + attsW t.attrs ≤ 900000000 := by omega
  clear hn hB hcc ht hw1 hw2 hwt
  unfold nodeV
  rw [hN, hX]
  by_cases hne : t.name = []
  · have he : N.toList.isEmpty = true := by rw [empty_data, hNs, hne]; rfl
    have HPR : Hid (t.pr = esc false X.data.toList) := by show _ = _; rw [hPR, hne, hXe]; rfl
    have hEl : (esc false X.data.toList).length ≤ 6000000000 := by
     have := (esc_len false X.data.toList).2
     rw [size_data] at this; omega
    clear hne hPR hN hX hNs hXe
    go_enter Tryz.func75, Tryz.ntmps75
    go_wp2_with fail
    refine (escape_any X false _ hXs).mono ?_
    rintro e w3 ⟨rfl, hb3⟩
    have hb0 : Below w.heap.size w w3 := ((Below.refl _ w).alloc (Nat.le_refl _) _).trans (hb3.mono (by simp))
    have HB3 := Lib.hid (HB.out.keep hb0)
    have HK3 := Lib.hid (Kept.of_below (b := b) hb0 HB.out.room)
    clear hb3 hb0
    go_wp2_with fail
    refine (writeString_bld R b _ _ _ HB3.out (by rw [byteCells_len, bs_size]; omega)).mono ?_
    rintro e w4 ⟨rfl, hB4, hK4⟩
    have HB4 : Hid (Bld R b (Lib.byteCells (P ++ t.pr)) w4) := by
     have h1 := hB4
     rw [str_cells rfl] at h1
     rw [HPR.out]; exact h1
    have HK4 := Lib.hid (HK3.out.trans hK4)
    clear hB4 hK4
    go_wp2
    refine bodyPost_ret (v := .tuple #[]) (by simp [results, Tryz.results75, go_sem]) rfl ?_
    exact ⟨rfl, HB4.out, HK4.out⟩
  · have he : N.toList.isEmpty = false := by rw [empty_data, hNs]; simpa using hne
    have hE : t.name.isEmpty = false := by simpa using hne
    rw [hE] at hPR
    by_cases hk : t.kids = []
    · have hk0 : t.kids.length = 0 := by rw [hk]; rfl
      have HPR : Hid (t.pr = tagP ⟨2, t.name, t.attrs, []⟩ [47, 62]) := by show _ = _; rw [hPR, hk]; rfl
      have hkI : ¬ (0 : Int) < (t.kids.length : Int) := by omega
      clear hne hPR hN hX hNs hXe hE hk hk0
      go_enter Tryz.func75, Tryz.ntmps75
      go_wp2_with fail
      refine Calls.world ?_
      intro W1 hW1
      have hb1 : Below w.heap.size w W1 := by rw [hW1]; first | exact (((Below.refl _ w).alloc (Nat.le_refl _) _).alloc (by simp) _).alloc (by simp; omega) _ | exact ((((Below.refl _ w).alloc (Nat.le_refl _) _).alloc (by simp) _).setCell (by simp) _).alloc (by simp; omega) _
      have hnb1 : W1.heap[w.heap.size]? = some (.cells #[.string N, .slice ao t.attrs.length ac, .slice ko t.kids.length kc, .string X] 25 (0, 0)) := by
       rw [hW1]
       first
        | (rw [Lib.alloc_old _ _ _ (by simp; omega), Lib.alloc_old _ _ _ (by simp)]; exact heap_alloc_new w _)
        | (rw [Lib.alloc_old _ _ _ (by simp; omega), heap_set_other _ _ _ _ _ (by simp), Lib.alloc_old _ _ _ (by simp)]; exact heap_alloc_new w _)
      have htk : TkMs W1 (.slice (some ⟨w.heap.size + 2, 0, none⟩) 1 1) [⟨⟨2, t.name, t.attrs, []⟩, .slice ao t.attrs.length ac, 0, 0, 0⟩] := by
       rw [hW1, ← HNN.out]
       refine tk_lit _ _ (by simp) 2 t.name t.attrs _ (HT.out.att.below ?_)
       first | exact ((Below.refl _ w).alloc (Nat.le_refl _) _).alloc (by simp) _ | exact (((Below.refl _ w).alloc (Nat.le_refl _) _).alloc (by simp) _).setCell (by simp) _
      have HPC := Lib.hid (print_any _ _ W1 htk (by show tksW [_] ≤ _; unfold tksW tkW; simp; omega))
      have hB1 := HB.out.keep hb1
      have HK1 := Lib.hid (Kept.of_below (b := b) hb1 HB.out.room)
      have HNB1 := Lib.hid hnb1
      have HB1 := Lib.hid hB1
      clear hW1 hb1 htk hnb1 hB1
      refine HPC.out.mono ?_
      rintro e w2 ⟨rfl, hb2⟩
      have HB2 := Lib.hid (HB1.out.keep hb2)
      have HK2 := Lib.hid (HK1.out.trans (Kept.of_below (b := b) hb2 HB1.out.room))
      have HNB2 : Hid (w2.heap[w.heap.size]? = some (.cells #[.string N, .slice ao t.attrs.length ac, .slice ko t.kids.length kc, .string X] 25 (0, 0))) := (hb2.block _ (Array.getElem?_eq_some_iff.1 HNB1.out).1).trans HNB1.out
      obtain ⟨Y, hY⟩ : ∃ Y : S, Y = bs (printP (([⟨⟨2, t.name, t.attrs, []⟩, .slice ao t.attrs.length ac, 0, 0, 0⟩] : List TkM).map (·.t))) := ⟨_, rfl⟩
      have hYt : Y = bs (tagP ⟨2, t.name, t.attrs, []⟩ [47, 62]) := by rw [hY]; show bs (printP [_]) = _; rw [printP_one]; rfl
      rw [← hY]
      have hYs : Y.size ≤ t.name.length + attsW t.attrs + 3 := by rw [hYt, bs_size]; have := tagT_len 2 t.name t.attrs [47, 62]; simp only [List.length_cons, List.length_nil] at this; omega
      have HYT := Lib.hid hYt
      clear hb2 HPC HNB1 HB1 HK1 hY hYt
      go_wp2_with fail
      refine (writeString_bld R b _ Y _ HB2.out (by rw [byteCells_len]; omega)).mono ?_
      rintro e w3 ⟨rfl, hB3, hK3⟩
      have HB3 : Hid (Bld R b (Lib.byteCells (P ++ tagP ⟨2, t.name, t.attrs, []⟩ [47, 62])) w3) := by
       have h1 := hB3
       rw [str_cells HYT.out] at h1
       exact h1
      have HK3 := Lib.hid (HK2.out.trans hK3)
      have HNB3 : Hid (w3.heap[w.heap.size]? = some (.cells #[.string N, .slice ao t.attrs.length ac, .slice ko t.kids.length kc, .string X] 25 (0, 0))) := hK3.typed _ _ _ _ hbn (by decide) HNB2.out
      have n2 : w3.cell? ⟨w.heap.size, 2, none⟩ = some (.slice ko t.kids.length kc) := by rw [Lib.cell_of_heap HNB3.out]; rfl
      have nl : w.heap.size < w3.heap.size := (Array.getElem?_eq_some_iff.1 HNB3.out).1
      clear hB3 hK3 HB2 HK2 HNB2 hYs HYT
      go_wp2_with fail
      go_loopw [31] (fun i wr => i = .int .i64 0 ∧ wr = w3) (fun _ _ => 0)
      case atStart => exact ⟨rfl, rfl⟩
      case round =>
       obtain ⟨rfl, hwr⟩ := hrel
       obtain rfl : w3 = wr := hwr.symm
       go_wp2
       go_end0
       exact ⟨rfl, by rw [HPR.out]; exact HB3.out, HK3.out⟩
    · have hk0 : 0 < t.kids.length := by cases h : t.kids with | nil => exact absurd h hk | cons a b => simp
      have hkE : t.kids.isEmpty = false := by simpa using hk
      have HPR : Hid (t.pr = tagP ⟨1, t.name, t.attrs, []⟩ [62] ++ (Tr.prL t.kids ++ ([60, 47] ++ (t.name ++ [62])))) := by show _ = _; rw [hPR, hkE]; rfl
      have hkI : (0 : Int) < (t.kids.length : Int) := by omega
      clear hne hPR hN hX hNs hXe hE hk hkE
      go_enter Tryz.func75, Tryz.ntmps75
      go_wp2_with fail
      refine Calls.world ?_
      intro W1 hW1
      have hb1 : Below w.heap.size w W1 := by rw [hW1]; first | exact (((Below.refl _ w).alloc (Nat.le_refl _) _).alloc (by simp) _).alloc (by simp; omega) _ | exact ((((Below.refl _ w).alloc (Nat.le_refl _) _).alloc (by simp) _).setCell (by simp) _).alloc (by simp; omega) _
      have hnb1 : W1.heap[w.heap.size]? = some (.cells #[.string N, .slice ao t.attrs.length ac, .slice ko t.kids.length kc, .string X] 25 (0, 0)) := by
       rw [hW1]
       first
        | (rw [Lib.alloc_old _ _ _ (by simp; omega), Lib.alloc_old _ _ _ (by simp)]; exact heap_alloc_new w _)
        | (rw [Lib.alloc_old _ _ _ (by simp; omega), heap_set_other _ _ _ _ _ (by simp), Lib.alloc_old _ _ _ (by simp)]; exact heap_alloc_new w _)
      have htk : TkMs W1 (.slice (some ⟨w.heap.size + 2, 0, none⟩) 1 1) [⟨⟨1, t.name, t.attrs, []⟩, .slice ao t.attrs.length ac, 0, 0, 0⟩] := by
       rw [hW1, ← HNN.out]
       refine tk_lit _ _ (by simp) 1 t.name t.attrs _ (HT.out.att.below ?_)
       first | exact ((Below.refl _ w).alloc (Nat.le_refl _) _).alloc (by simp) _ | exact (((Below.refl _ w).alloc (Nat.le_refl _) _).alloc (by simp) _).setCell (by simp) _
      have HPC := Lib.hid (print_any _ _ W1 htk (by show tksW [_] ≤ _; unfold tksW tkW; simp; omega))
      have hB1 := HB.out.keep hb1
      have HK1 := Lib.hid (Kept.of_below (b := b) hb1 HB.out.room)
      have HNB1 := Lib.hid hnb1
      have HB1 := Lib.hid hB1
      clear hW1 hb1 htk hnb1 hB1
      refine HPC.out.mono ?_
      rintro e w2 ⟨rfl, hb2⟩
      have HB2 := Lib.hid (HB1.out.keep hb2)
      have HK2 := Lib.hid (HK1.out.trans (Kept.of_below (b := b) hb2 HB1.out.room))
      have HNB2 : Hid (w2.heap[w.heap.size]? = some (.cells #[.string N, .slice ao t.attrs.length ac, .slice ko t.kids.length kc, .string X] 25 (0, 0))) := (hb2.block _ (Array.getElem?_eq_some_iff.1 HNB1.out).1).trans HNB1.out
      obtain ⟨Y, hY⟩ : ∃ Y : S, Y = bs (printP (([⟨⟨1, t.name, t.attrs, []⟩, .slice ao t.attrs.length ac, 0, 0, 0⟩] : List TkM).map (·.t))) := ⟨_, rfl⟩
      have hYt : Y = bs (tagP ⟨1, t.name, t.attrs, []⟩ [62]) := by rw [hY]; show bs (printP [_]) = _; rw [printP_one]; rfl
      rw [← hY]
      have hYs : Y.size ≤ t.name.length + attsW t.attrs + 3 := by rw [hYt, bs_size]; have := tagT_len 1 t.name t.attrs [62]; simp only [List.length_cons, List.length_nil] at this; omega
      have HYT := Lib.hid hYt
      clear hb2 HPC HNB1 HB1 HK1 hY hYt
      go_wp2_with fail
      refine (writeString_bld R b _ Y _ HB2.out (by rw [byteCells_len]; omega)).mono ?_
      rintro e w3 ⟨rfl, hB3, hK3⟩
      have HB3 : Hid (Bld R b (Lib.byteCells (P ++ tagP ⟨1, t.name, t.attrs, []⟩ [62])) w3) := by
       have h1 := hB3
       rw [str_cells HYT.out] at h1
       exact h1
      have HK3 := Lib.hid (HK2.out.trans hK3)
      have HNB3 : Hid (w3.heap[w.heap.size]? = some (.cells #[.string N, .slice ao t.attrs.length ac, .slice ko t.kids.length kc, .string X] 25 (0, 0))) := hK3.typed _ _ _ _ hbn (by decide) HNB2.out
      have n2 : w3.cell? ⟨w.heap.size, 2, none⟩ = some (.slice ko t.kids.length kc) := by rw [Lib.cell_of_heap HNB3.out]; rfl
      have nl : w.heap.size < w3.heap.size := (Array.getElem?_eq_some_iff.1 HNB3.out).1
      clear hB3 hK3 HB2 HK2 HNB2 hYs HYT
      go_wp2_with fail
      go_loopw [31] (fun i wr => ∃ k : Nat, k ≤ t.kids.length ∧ i = .int .i64 k ∧ Hid (Bld R b (Lib.byteCells (P ++ tagP ⟨1, t.name, t.attrs, []⟩ [62] ++ Tr.prL (t.kids.take k))) wr ∧ Kept R b w wr ∧ wr.heap[w.heap.size]? = some (.cells #[.string N, .slice ao t.attrs.length ac, .slice ko t.kids.length kc, .string X] 25 (0, 0)))) (fun i _ => t.kids.length - (intOf i).toNat)
      case atStart => exact ⟨0, Nat.zero_le _, rfl, by simpa [Tr.prL] using HB3.out, HK3.out, HNB3.out⟩
      case round =>
       obtain ⟨k, hk, rfl, HR⟩ := hrel
       clear n2 nl
       by_cases hlt : k < t.kids.length
       · have hkx := HT.out.keep HR.out.2.1.x (fun _ _ h => h)
         obtain ⟨g, o, r1, r2, s1, s2, rfl, hg, -, c0, c1, c2, c3, hn1⟩ := hkx.at k hlt
         have hki : (k : Int) < (t.kids.length : Int) := by omega
         have cc : wr.cell? ⟨c, 0, none⟩ = some (.func (.func 75) #[] #[.pointer (some ⟨b, 0, none⟩), .pointer (some ⟨c, 0, none⟩)]) := (HR.out.2.1.cell hcR hcb).trans HCC.out
         have hcl : c < wr.heap.size := Nat.lt_of_lt_of_le hcR (Nat.le_trans HB.out.room HR.out.2.1.size)
         have HC : Hid (∀ o1, Calls Tryz.prog 75 #[nodeV t.kids[k] (.slice r1 t.kids[k].attrs.length r2) (.slice s1 t.kids[k].kids.length s2), .pointer (some ⟨b, 0, none⟩), .pointer (some ⟨c, 0, none⟩)] (wr.alloc o1) fun e w' => e = .returned (.tuple #[]) ∧ Bld R b (Lib.byteCells ((P ++ tagP ⟨1, t.name, t.attrs, []⟩ [62] ++ Tr.prL (t.kids.take k)) ++ t.kids[k].pr)) w' ∧ Kept R b (wr.alloc o1) w') := fun o1 => by
          have h0 : Below wr.heap.size wr (wr.alloc o1) := (Below.refl _ _).alloc (Nat.le_refl _) _
          refine HI.out k hlt _ _ _ _ (HR.out.1.keep h0) ((h0.cell (p := ⟨c, 0, none⟩) (by exact hcl)).trans cc) (hn1.keep (KeptX.below h0) (fun _ _ h => h)) ?_
          have h1 := tagT_len 1 t.name t.attrs [62]
          have h2 := prL_len (t.kids.take k)
          have h3 := wtL_take t.kids k hlt
          have h4 := HWT.out
          simp only [List.length_append, List.length_cons, List.length_nil] at h1 ⊢
          omega
         have HKW := Lib.hid (fun o1 => HR.out.2.1.trans (Kept.of_below (R := R) (b := b) ((Below.refl wr.heap.size wr).alloc (Nat.le_refl _) o1) (Nat.le_trans HB.out.room HR.out.2.1.size)))
         have HNW : Hid (∀ o1, (wr.alloc o1).heap[w.heap.size]? = some (.cells #[.string N, .slice ao t.attrs.length ac, .slice (some ⟨g, o, none⟩) t.kids.length kc, .string X] 25 (0, 0))) := fun o1 => (Lib.alloc_old _ _ _ (Array.getElem?_eq_some_iff.1 HR.out.2.2).1).trans HR.out.2.2
         have HPT := Lib.hid (prL_take hlt)
         unfold nodeV at HC
         clear hkx hn1
         go_wp2_with fail
         refine (HC.out _).mono ?_
         rintro e w4 ⟨rfl, hB4, hK4⟩
         have HB4 : Hid (Bld R b (Lib.byteCells (P ++ tagP ⟨1, t.name, t.attrs, []⟩ [62] ++ Tr.prL (t.kids.take (k + 1)))) w4) := by
          show Bld _ _ _ _
          rw [HPT.out, ← List.append_assoc]; exact hB4
         have HK4 := Lib.hid ((HKW.out _).trans hK4)
         have HNB4 : Hid (w4.heap[w.heap.size]? = some (.cells #[.string N, .slice ao t.attrs.length ac, .slice (some ⟨g, o, none⟩) t.kids.length kc, .string X] 25 (0, 0))) := hK4.typed _ _ _ _ hbn (by decide) (HNW.out _)
         clear hB4 hK4 HC HKW HNW
         go_wp2
         go_roundw
         case rel => exact ⟨k + 1, hlt, by go_num, HB4.out, HK4.out, HNB4.out⟩
         case measure => simp [intOf]; omega
       · obtain rfl : k = t.kids.length := by omega
         have n0 : wr.cell? ⟨w.heap.size, 0, none⟩ = some (.string N) := by rw [Lib.cell_of_heap HR.out.2.2]; rfl
         have n2 : wr.cell? ⟨w.heap.size, 2, none⟩ = some (.slice ko t.kids.length kc) := by rw [Lib.cell_of_heap HR.out.2.2]; rfl
         have nl : w.heap.size < wr.heap.size := (Array.getElem?_eq_some_iff.1 HR.out.2.2).1
         have hl1 : (0 : Int) < (t.kids.length : Int) := by omega
         have hsz9 : (P ++ tagP ⟨1, t.name, t.attrs, []⟩ [62] ++ Tr.prL t.kids).length ≤ 20000000000 := by
          have h1 := tagT_len 1 t.name t.attrs [62]
          have h2 := prL_len t.kids
          have h4 := HWT.out
          simp only [List.length_append, List.length_cons, List.length_nil] at h1 ⊢
          omega
         have HRB : Hid (Bld R b (Lib.byteCells (P ++ tagP ⟨1, t.name, t.attrs, []⟩ [62] ++ Tr.prL t.kids)) wr) := by have := HR.out.1; rwa [List.take_length] at this
         have HEND : Hid ((⟨#[60, 47]⟩ : S) ++ N ++ (⟨#[62]⟩ : S) = bs ([60, 47] ++ (t.name ++ [62]))) := str3 _ _ _ _ HNN.out.symm
         go_wp2_with fail
         refine (writeString_bld R b _ ((⟨#[60, 47]⟩ : S) ++ N ++ (⟨#[62]⟩ : S)) _ HRB.out (by simp only [byteCells_len, ByteArray.size_append, size_lit]; simp; simp at hsz9; omega)).mono ?_
         rintro e w4 ⟨rfl, hB4, hK4⟩
         have HB4 : Hid (Bld R b (Lib.byteCells (P ++ t.pr)) w4) := by
          have h1 := hB4
          rw [str_cells HEND.out] at h1
          show Bld _ _ _ _
          rw [HPR.out]
          simpa using h1
         have HK4 := Lib.hid (HR.out.2.1.trans hK4)
         clear hB4 hK4
         go_wp2
         go_end0
         exact ⟨rfl, HB4.out, HK4.out⟩
set_option maxRecDepth 100000 in
set_option maxHeartbeats 8000000 in
theorem treePrint_any (t : Tr) (w : World) (av kv : Value) (h : NodeOf w t av kv) (hw : t.wt ≤ 900000000) :
    Calls Tryz.prog 29 #[nodeV t av kv] w fun e w' => e = .returned (.string (bs t.pr)) ∧ Below w.heap.size w w' := by
 obtain ⟨ao, ac, ko, kc, rfl, rfl, -, -⟩ := h.shape
 have HT := Lib.hid h
 clear h
 unfold nodeV
 go_enter Tryz.func29, Tryz.ntmps29
 go_wp2_with fail
 refine Calls.world ?_
 intro W hW
 have hWs : W.heap.size = w.heap.size + 3 := by rw [hW]; simp
 have hbW : Below w.heap.size w W := by rw [hW]; exact (((Below.refl _ w).alloc (Nat.le_refl _) _).alloc (by simp) _).alloc (by simp; omega) _
 have hBl : Bld W.heap.size (w.heap.size + 1) (Lib.byteCells []) W := by
  have h1 := Bld.fresh (w.alloc (.cells #[.string (bs t.name), .slice ao t.attrs.length ac, .slice ko t.kids.length kc, .string (bs t.text)] 25)) W (by rw [hW]; exact (Below.refl _ _).alloc (by simp) _)
  rw [show (w.alloc (.cells #[.string (bs t.name), .slice ao t.attrs.length ac, .slice ko t.kids.length kc, .string (bs t.text)] 25)).heap.size = w.heap.size + 1 by simp] at h1
  exact h1
 have hcc : W.cell? ⟨w.heap.size + 1 + 1, 0, none⟩ = some (.func (.func 75) #[] #[.pointer (some ⟨w.heap.size + 1, 0, none⟩), .pointer (some ⟨w.heap.size + 1 + 1, 0, none⟩)]) := by rw [hW]; exact (Box.new _ [_] _ _ (by simp)).cell 0 _ rfl
 have HLA := lay_any _ t W _ _ W.heap.size (w.heap.size + 1) (w.heap.size + 1 + 1) [] (Nat.le_refl _) hBl (by omega) (by omega) hcc (HT.out.keep (KeptX.below hbW) (fun k h1 h2 => by omega)) (by simp; omega) hw
 unfold nodeV at HLA
 refine HLA.mono ?_
 rintro e w1 ⟨rfl, hB1, hK1⟩
 have HB1 := Lib.hid (hB1.isB w.heap.size (by omega) (by omega))
 have HBE := Lib.hid (hbW.trans (hK1.below (B := w.heap.size) (by omega) (by omega)))
 have HSZ : Hid (w.heap.size ≤ w1.heap.size) := HBE.out.size
 clear hWs hbW hBl hcc HLA hB1 hK1 hW hw
 go_wp2_with fail
 refine (Tryz.Builder_String_any w.heap.size (w.heap.size + 1) ([] ++ t.pr) w1 HB1.out HSZ.out).mono ?_
 rintro e w2 ⟨rfl, hb2⟩
 have HZ := Lib.hid (HBE.out.trans hb2)
 clear hb2
 go_wp2
 go_ret
 exact ⟨rfl, HZ.out⟩

end Go.Proofs.YtbbbfjcikhpmbaaGreat

/- Walks of isAttrs and of what it calls; their conditions stand in the theorems. -/
namespace Go.Proofs.YtbbbfjcikhpmbaaGreat
open Go Go.RowKit

theorem Says.qb {p : Prop} {q : Bool} (hq : q = true ↔ p) {w : World} {e : Ending} {w' : World} (h : Says p w e w') : e = .returned (.bool q) ∧ Below w.heap.size w w' := by
 obtain ⟨z, rfl, hz, hb⟩ := h
 have : z = q := by
  cases z <;> cases q
  · rfl
  · have := hz.2 (hq.1 rfl); cases this
  · have := hq.2 (hz.1 rfl); cases this
  · rfl
 exact ⟨by rw [this], hb⟩
theorem bool_of (p : Prop) : ∃ q : Bool, q = true ↔ p := by
 by_cases h : p
 · exact ⟨true, fun _ => h, fun _ => rfl⟩
 · exact ⟨false, fun e => absurd e Bool.false_ne_true, fun e => absurd e h⟩
/-- May these be an element's attributes? -/
def GoodAtts (l : List At2) : Prop := (∀ a ∈ l, okName a.1 = true ∧ okText a.2 = true) ∧ (l.map (·.1)).Nodup
def hasAtt (n : Bs) (l : List At2) : Prop := ∃ k, ∃ h : k < l.length, l[k].1 = n
/-- What is asked of one attribute. -/
def OkAt (l : List At2) (k : Nat) (h : k < l.length) : Prop := ¬ hasAtt l[k].1 (l.take k) ∧ okName l[k].1 = true ∧ okText l[k].2 = true
theorem goodAtts_iff (l : List At2) : GoodAtts l ↔ ∀ k (h : k < l.length), OkAt l k h := by
 constructor
 · rintro ⟨h1, h2⟩ k h
   refine ⟨?_, h1 _ (List.getElem_mem h)⟩
   rintro ⟨j, hj, he⟩
   have hjk : j < k := by rw [List.length_take] at hj; omega
   rw [List.getElem_take] at he
   have h3 := (List.pairwise_iff_getElem.1 h2) j k (by simp; omega) (by simpa using h) hjk
   simp only [List.getElem_map] at h3
   exact h3 he
 · intro h
   refine ⟨fun a ha => ?_, ?_⟩
   · obtain ⟨k, hk, rfl⟩ := List.mem_iff_getElem.1 ha
     exact (h k hk).2
   · refine List.pairwise_iff_getElem.2 fun i j hi hj hij => ?_
     have hj' : j < l.length := by simpa using hj
     simp only [List.getElem_map]
     intro e
     exact (h j hj').1 ⟨i, by rw [List.length_take]; omega, by rw [List.getElem_take]; exact e⟩

end Go.Proofs.YtbbbfjcikhpmbaaGreat

/- Walks of isLeaf and of May on trees; their conditions stand in the theorems. -/

namespace Go.Proofs.YtbbbfjcikhpmbaaGreat
open Go Go.RowKit

/-- May this be a text? -/
def LeafOk (t : Tr) : Prop := t.attrs = [] ∧ t.kids = [] ∧ t.text ≠ [] ∧ okText t.text = true
/-- Is an element, and all within it, as it should be, sizes aside? -/
inductive RightT : Tr → Prop where
 | mk {n : Bs} {a : List At2} {ks : List Tr} {x : Bs} (hn : okName n = true) (hx : x = []) (ha : GoodAtts a) (hk : ∀ k ∈ ks, k.name ≠ [] → RightT k) (hl : ∀ k ∈ ks, k.name = [] → LeafOk k) (hs : ∀ (k : Nat) (h : k + 1 < ks.length), (ks[k]'(Nat.lt_of_succ_lt h)).name = [] → (ks[k + 1]'h).name ≠ []) : RightT (.mk n a ks x)
/-- One kid is as it should be. -/
def KidOk (t : Tr) (k : Nat) (h : k < t.kids.length) : Prop := ((t.kids[k]'h).name ≠ [] ∧ RightT (t.kids[k]'h)) ∨ ((t.kids[k]'h).name = [] ∧ LeafOk (t.kids[k]'h) ∧ ∀ j (hj : j + 1 = k), (t.kids[j]'(by omega)).name ≠ [])
theorem right_iff (t : Tr) : RightT t ↔ okName t.name = true ∧ t.text = [] ∧ GoodAtts t.attrs ∧ ∀ k (h : k < t.kids.length), KidOk t k h := by
 constructor
 · intro h
   cases h with
   | mk hn hx ha hk hl hs =>
    refine ⟨hn, hx, ha, fun k h => ?_⟩
    rename_i n a ks x
    show ((ks[k]'h).name ≠ [] ∧ RightT (ks[k]'h)) ∨ ((ks[k]'h).name = [] ∧ LeafOk (ks[k]'h) ∧ ∀ j (hj : j + 1 = k), (ks[j]'(by have : k < ks.length := h; omega)).name ≠ [])
    by_cases hne : (ks[k]'h).name = []
    · refine .inr ⟨hne, hl _ (List.getElem_mem _) hne, fun j hj e => ?_⟩
      subst hj
      exact hs j h e hne
    · exact .inl ⟨hne, hk _ (List.getElem_mem _) hne⟩
 · rintro ⟨hn, hx, ha, h⟩
   obtain ⟨n, a, ks, x⟩ := t
   refine .mk hn hx ha (fun y hy hne => ?_) (fun y hy hne => ?_) (fun k hk hne hne2 => ?_)
   · obtain ⟨k, hk, rfl⟩ := List.mem_iff_getElem.1 hy
     rcases h k hk with ⟨-, h1⟩ | ⟨h1, -⟩
     · exact h1
     · exact absurd h1 hne
   · obtain ⟨k, hk, rfl⟩ := List.mem_iff_getElem.1 hy
     rcases h k hk with ⟨h1, -⟩ | ⟨-, h1, -⟩
     · exact absurd hne h1
     · exact h1
   · rcases h (k + 1) hk with ⟨h1, -⟩ | ⟨-, -, h1⟩
     · exact h1 hne2
     · exact h1 k rfl hne
/-- Texts, names and values that are not too long to be gone through. -/
inductive FineT : Tr → Prop where
 | mk {n : Bs} {a : List At2} {ks : List Tr} {x : Bs} (hn : n.length ≤ 1000000000) (hx : x.length ≤ 1000000000) (ha : ∀ b ∈ a, b.1.length ≤ 1000000000 ∧ b.2.length ≤ 1000000000) (hk : ∀ k ∈ ks, FineT k) : FineT (.mk n a ks x)
theorem FineT.name {t : Tr} (h : FineT t) : t.name.length ≤ 1000000000 := by cases h; assumption
theorem FineT.text {t : Tr} (h : FineT t) : t.text.length ≤ 1000000000 := by cases h; assumption
theorem FineT.attrs {t : Tr} (h : FineT t) : ∀ b ∈ t.attrs, b.1.length ≤ 1000000000 ∧ b.2.length ≤ 1000000000 := by cases h; assumption
theorem FineT.kids {t : Tr} (h : FineT t) : ∀ k ∈ t.kids, FineT k := by cases h; assumption

end Go.Proofs.YtbbbfjcikhpmbaaGreat

/- How great the tree of a written project is: plain laws on trees; no program in sight. -/

namespace Go.Proofs.YtbbbfjcikhpmbaaGreat
open Go Go.RowKit

/-! Bounds by a tree's weight. -/
theorem wtL_app : ∀ (l m : List Tr), Tr.wtL (l ++ m) = Tr.wtL l + Tr.wtL m
 | [], m => by simp [Tr.wtL]
 | t :: l, m => by rw [List.cons_append, Tr.wtL, Tr.wtL, wtL_app l m]; omega
theorem wtL_le {t : Tr} : ∀ {l : List Tr}, t ∈ l → t.wt ≤ Tr.wtL l
 | u :: l, h => by
  rw [Tr.wtL]
  rcases List.mem_cons.1 h with rfl | h
  · omega
  · have := wtL_le h; omega
mutual
theorem cnt_wt : ∀ t : Tr, 30 * t.cnt ≤ t.wt
 | .mk n a ks x => by rw [Tr.cnt, Tr.wt]; have := cntL_wt ks; omega
theorem cntL_wt : ∀ l : List Tr, 30 * Tr.cntL l ≤ Tr.wtL l
 | [] => by simp [Tr.cntL]
 | t :: l => by rw [Tr.cntL, Tr.wtL]; have := cnt_wt t; have := cntL_wt l; omega
end
theorem att_le {a : At2} : ∀ {l : List At2}, a ∈ l → a.1.length ≤ attsW l ∧ a.2.length ≤ attsW l
 | b :: l, h => by
  have e : attsW (b :: l) = b.1.length + 6 * b.2.length + 4 + attsW l := by simp [attsW]
  rcases List.mem_cons.1 h with rfl | h
  · omega
  · have := att_le h; omega
theorem fine_wt : ∀ (n : Nat) (t : Tr), SizeOf.sizeOf t ≤ n → t.wt ≤ 1000000000 → FineT t
 | 0, .mk n a ks x, h, _ => by simp at h
 | n + 1, .mk nm a ks x, h, hw => by
  rw [Tr.wt] at hw
  refine .mk (by omega) (by omega) (fun b hb => ?_) (fun k hk => fine_wt n k ?_ ?_)
  · have := att_le hb; omega
  · have := List.sizeOf_lt_of_mem hk; simp at h; omega
  · have := wtL_le hk; omega
/-! A written project is mild. -/
def MildL (l : List Tr) : Prop := ∀ t ∈ l, t.name ≠ [] ∧ Mild t
theorem MildL.nil : MildL [] := fun _ h => by cases h
theorem MildL.app {a b : List Tr} (h : MildL a) (g : MildL b) : MildL (a ++ b) := fun t ht => (List.mem_append.1 ht).elim (h t) (g t)
theorem textF_named : ∀ {l : List Tr}, (∀ t ∈ l, t.name ≠ []) → textF l = []
 | [], _ => rfl
 | t :: l, h => by
  have h1 := h t (by simp)
  rw [textF, textF_named (fun u hu => h u (by simp [hu]))]
  cases hn : t.name with
  | nil => exact absurd hn h1
  | cons _ _ => rfl
theorem MildL.up {l : List Tr} (h : MildL l) (n : Bs) (hn : n.length ≤ 1000000000) (hl : l.length ≤ 100000) : Mild (.mk n [] l []) :=
 .of hl (by show (textF l).length ≤ _; rw [textF_named (fun t ht => (h t ht).1)]; simp) hn (fun k hk => (h k hk).2)
theorem mild_text (x : Bs) : Mild (.mk [] [] [] x) := .of (by simp [Tr.kids]) (by show (textF []).length ≤ _; simp [textF]) (by simp [Tr.name]) (fun k hk => by cases hk)
theorem mildL_leaf (n : Bs) (s : S) (h0 : n ≠ []) (h1 : n.length ≤ 100) (h2 : s.size ≤ 1000000) : MildL (leafT n s) := by
 unfold leafT
 split
 · exact .nil
 · intro t ht
   obtain rfl := List.mem_singleton.1 ht
   refine ⟨h0, .of (by simp [Tr.kids]) ?_ (by show n.length ≤ _; omega) (fun k hk => ?_)⟩
   · show (s.data.toList ++ []).length ≤ _
     rw [List.append_nil, size_data]; omega
   · obtain rfl := List.mem_singleton.1 hk
     exact mild_text _
theorem mildL_branch (n : Bs) (l : List Tr) (h0 : n ≠ []) (h1 : n.length ≤ 100) (h : MildL l) (hl : l.length ≤ 2000) : MildL (branchT n l) := by
 unfold branchT
 split
 · exact .nil
 · intro t ht
   obtain rfl := List.mem_singleton.1 ht
   exact ⟨h0, h.up n (by omega) (by omega)⟩
theorem mildL_map {α : Type} (f : α → Tr) (l : List α) (h : ∀ x ∈ l, (f x).name ≠ [] ∧ Mild (f x)) : MildL (l.map f) := fun t ht => by
 obtain ⟨x, hx, rfl⟩ := List.mem_map.1 ht
 exact h x hx
/-- A dependency whose texts and lists are not too long. -/
structure DepLt (d : Dep) : Prop where
 own : ∀ s ∈ [d.group, d.artifact, d.version, d.type, d.classifier], s.size ≤ 1000000
 ex : ∀ y ∈ d.excl, y.group.size ≤ 1000000 ∧ y.artifact.size ≤ 1000000
 excl : d.excl.length ≤ 2000
theorem wordB_len (n : Int) : (wordB n).length ≤ 100 := by
 unfold wordB
 repeat' split
 all_goals simp
theorem mild_ex {y : Id} (h : y.group.size ≤ 1000000 ∧ y.artifact.size ≤ 1000000) : Mild (exT y) :=
 ((mildL_leaf bGroup y.group (by decide) (by decide) h.1).app (mildL_leaf bArtifact y.artifact (by decide) (by decide) h.2)).up _ (by decide) (by rw [List.length_append]; have := leafT_len bGroup y.group; have := leafT_len bArtifact y.artifact; omega)
theorem mildL_opt (n : Int) : MildL (optT n) := by
 unfold optT
 split
 · exact mildL_leaf _ _ (by decide) (by decide) (by decide)
 · split
   · exact mildL_leaf _ _ (by decide) (by decide) (by decide)
   · exact .nil
theorem mild_dep {d : Dep} (h : DepLt d) : Mild (depT d) := by
 have hs : (bs (wordB d.scope) : S).size ≤ 1000000 := by rw [bs_size]; have := wordB_len d.scope; omega
 refine MildL.up ((((((((MildL.nil.app (mildL_leaf _ _ (by decide) (by decide) (h.own _ (by simp)))).app (mildL_leaf _ _ (by decide) (by decide) (h.own _ (by simp)))).app (mildL_leaf _ _ (by decide) (by decide) (h.own _ (by simp)))).app (mildL_leaf _ _ (by decide) (by decide) (h.own _ (by simp)))).app (mildL_leaf _ _ (by decide) (by decide) (h.own _ (by simp)))).app (mildL_leaf _ _ (by decide) (by decide) hs)).app (mildL_opt _)).app (mildL_branch _ _ (by decide) (by decide) (mildL_map _ _ fun y hy => ⟨by show bExclusion ≠ []; decide, mild_ex (h.ex y hy)⟩) (by rw [List.length_map]; exact h.excl))) _ (by decide) ?_
 refine Nat.le_trans (br_len (m := 7) ?_ _ _) (by decide)
 rw [List.length_append]
 have := optT_len d.opt
 have h6 : ((((((([] : List Tr) ++ leafT bGroup d.group) ++ leafT bArtifact d.artifact) ++ leafT bVersion d.version) ++ leafT bType d.type) ++ leafT bClassifier d.classifier) ++ leafT bScope (bs (wordB d.scope))).length ≤ 6 := leaf_len (leaf_len (leaf_len (leaf_len (leaf_len (leaf_len (m := 0) (by simp) _ _) _ _) _ _) _ _) _ _) _ _
 omega
/-- A project whose texts and lists are not too long. -/
structure PomLt (p : Pom) : Prop where
 own : ∀ s ∈ [p.group, p.artifact, p.version, p.packaging, p.parent.group, p.parent.artifact, p.parent.version], s.size ≤ 1000000
 prp : ∀ y ∈ p.props, y.name.size ≤ 1000000 ∧ y.value.size ≤ 1000000 ∧ y.name.data.toList ≠ []
 man : ∀ d ∈ p.managed, DepLt d
 dep : ∀ d ∈ p.deps, DepLt d
 n1 : p.props.length ≤ 2000
 n2 : p.managed.length ≤ 2000
 n3 : p.deps.length ≤ 2000
theorem mild_prop {x : Prp} (h : x.name.size ≤ 1000000 ∧ x.value.size ≤ 1000000 ∧ x.name.data.toList ≠ []) : Mild (propT x) := by
 unfold propT
 refine .of ?_ ?_ (by show x.name.data.toList.length ≤ _; rw [size_data]; omega) (fun k hk => ?_)
 · show (if x.value.toList.isEmpty then ([] : List Tr) else [.mk [] [] [] x.value.data.toList]).length ≤ _
   split <;> simp
 · show (textF (if x.value.toList.isEmpty then ([] : List Tr) else [.mk [] [] [] x.value.data.toList])).length ≤ _
   split
   · simp [textF]
   · show (x.value.data.toList ++ []).length ≤ _
     rw [List.append_nil, size_data]; omega
 · have hk : k ∈ (if x.value.toList.isEmpty then ([] : List Tr) else [.mk [] [] [] x.value.data.toList]) := hk
   split at hk
   · cases hk
   · obtain rfl := List.mem_singleton.1 hk; exact mild_text _
theorem mildL_deps {ds : List Dep} (h : ∀ d ∈ ds, DepLt d) (hl : ds.length ≤ 2000) : MildL (depsT ds) :=
 mildL_branch _ _ (by decide) (by decide) (mildL_map _ _ fun d hd => ⟨by show bDependency ≠ []; decide, mild_dep (h d hd)⟩) (by rw [List.length_map]; exact hl)
theorem mildL_par {p : Pom} (h : PomLt p) : MildL (parentL p.hasParent p.parent) := by
 unfold parentL
 split
 · refine MildL.nil.app (mildL_branch _ _ (by decide) (by decide) (((MildL.nil.app (mildL_leaf _ _ (by decide) (by decide) (h.own _ (by simp)))).app (mildL_leaf _ _ (by decide) (by decide) (h.own _ (by simp)))).app (mildL_leaf _ _ (by decide) (by decide) (h.own _ (by simp)))) ?_)
   exact Nat.le_trans (leaf_len (leaf_len (leaf_len (m := 0) (by simp) _ _) _ _) _ _) (by decide)
 · exact .nil
theorem mildL_write {p : Pom} (h : PomLt p) : MildL (writeT p).kids :=
 (((((((mildL_par h).app (mildL_leaf _ _ (by decide) (by decide) (h.own _ (by simp)))).app (mildL_leaf _ _ (by decide) (by decide) (h.own _ (by simp)))).app (mildL_leaf _ _ (by decide) (by decide) (h.own _ (by simp)))).app (mildL_leaf _ _ (by decide) (by decide) (h.own _ (by simp)))).app (mildL_branch _ _ (by decide) (by decide) (mildL_map _ _ fun y hy => ⟨by show y.name.data.toList ≠ []; exact (h.prp y hy).2.2, mild_prop (h.prp y hy)⟩) (by rw [List.length_map]; exact h.n1))).app
  (mildL_branch _ _ (by decide) (by decide) (MildL.nil.app (mildL_deps h.man h.n2)) (by rw [List.nil_append]; exact Nat.le_trans (branchT_len _ _) (by decide)))).app (mildL_deps h.dep h.n3)
theorem write_len (p : Pom) : (writeT p).kids.length ≤ 8 := by
 show (parentL p.hasParent p.parent ++ leafT bGroup p.group ++ leafT bArtifact p.artifact ++ leafT bVersion p.version ++ leafT bPackaging p.packaging ++ branchT bProperties (p.props.map propT) ++ branchT bManagement ([] ++ depsT p.managed) ++ depsT p.deps).length ≤ 8
 exact br_len (br_len (br_len (leaf_len (leaf_len (leaf_len (leaf_len (parentL_len _ _) _ _) _ _) _ _) _ _) _ _) _ _) _ _
theorem mild_write {p : Pom} (h : PomLt p) : Mild (writeT p) := (mildL_write h).up bProject (by decide) (Nat.le_trans (write_len p) (by decide))
/-! The weight of a light project. -/
theorem wt_leaf (n : Bs) (s : S) : Tr.wtL (leafT n s) ≤ 2 * n.length + s.size + 60 := by
 unfold leafT
 split
 · simp [Tr.wtL]
 · simp only [Tr.wtL, Tr.wt, attsW, List.map_nil, List.sum_nil, List.length_nil, size_data]; omega
theorem wt_branch (n : Bs) (l : List Tr) : Tr.wtL (branchT n l) ≤ 2 * n.length + 30 + Tr.wtL l := by
 unfold branchT
 split
 · simp [Tr.wtL]
 · simp only [Tr.wtL, Tr.wt, attsW, List.map_nil, List.sum_nil, List.length_nil]; omega
theorem wt_map {α : Type} (f : α → Tr) (m : Nat) : ∀ (l : List α), (∀ x ∈ l, (f x).wt ≤ m) → Tr.wtL (l.map f) ≤ l.length * m
 | [], _ => by simp [Tr.wtL]
 | x :: l, h => by
  rw [List.map_cons, Tr.wtL, List.length_cons, Nat.add_mul, Nat.one_mul]
  have := h x (by simp)
  have := wt_map f m l (fun y hy => h y (by simp [hy]))
  omega
theorem wt_up (n : Bs) (l : List Tr) : (Tr.mk n [] l []).wt = 2 * n.length + 30 + Tr.wtL l := by simp [Tr.wt, attsW]
theorem wt_ex {y : Id} (h : y.group.size ≤ 2000 ∧ y.artifact.size ≤ 2000) : (exT y).wt ≤ 5000 := by
 unfold exT
 rw [wt_up, wtL_app]
 have := wt_leaf bGroup y.group
 have := wt_leaf bArtifact y.artifact
 have : bGroup.length = 7 := rfl
 have : bArtifact.length = 10 := rfl
 have : bExclusion.length = 9 := rfl
 omega
theorem wt_opt (n : Int) : Tr.wtL (optT n) ≤ 200 := by
 unfold optT
 split
 · exact Nat.le_trans (wt_leaf _ _) (by decide)
 · split
   · exact Nat.le_trans (wt_leaf _ _) (by decide)
   · simp [Tr.wtL]
theorem wt_dep {d : Dep} (h : LightD d) : (depT d).wt ≤ 100000 := by
 unfold depT
 rw [wt_up]
 simp only [wtL_app, Tr.wtL]
 have h1 := wt_leaf bGroup d.group
 have h2 := wt_leaf bArtifact d.artifact
 have h3 := wt_leaf bVersion d.version
 have h4 := wt_leaf bType d.type
 have h5 := wt_leaf bClassifier d.classifier
 have h6 := wt_leaf bScope (bs (wordB d.scope))
 rw [bs_size] at h6
 have h7 := wordB_len d.scope
 have h8 := wt_opt d.opt
 have h9 := wt_branch bExclusions (d.excl.map exT)
 have h10 := wt_map exT 5000 d.excl (fun y hy => wt_ex (h.ex y hy))
 have h11 := Nat.mul_le_mul_right 5000 h.excl
 have o1 := h.own d.group (by simp)
 have o2 := h.own d.artifact (by simp)
 have o3 := h.own d.version (by simp)
 have o4 := h.own d.type (by simp)
 have o5 := h.own d.classifier (by simp)
 have e1 : bGroup.length = 7 := rfl
 have e2 : bArtifact.length = 10 := rfl
 have e3 : bVersion.length = 7 := rfl
 have e4 : bType.length = 4 := rfl
 have e5 : bClassifier.length = 10 := rfl
 have e6 : bScope.length = 5 := rfl
 have e7 : bExclusions.length = 10 := rfl
 have e8 : bDependency.length = 10 := rfl
 omega
theorem wt_deps {ds : List Dep} (h : ∀ d ∈ ds, LightD d) (hl : ds.length ≤ 30) : Tr.wtL (depsT ds) ≤ 3001000 := by
 unfold depsT
 have h1 := wt_branch bDependencies (ds.map depT)
 have h2 := wt_map depT 100000 ds (fun d hd => wt_dep (h d hd))
 have h3 := Nat.mul_le_mul_right 100000 hl
 have e : bDependencies.length = 12 := rfl
 omega
theorem wt_par (hp : Bool) (g : Gav) (h : g.group.size ≤ 2000 ∧ g.artifact.size ≤ 2000 ∧ g.version.size ≤ 2000) : Tr.wtL (parentL hp g) ≤ 10000 := by
 unfold parentL
 split
 · have h1 := wt_branch bParent ([] ++ leafT bGroup g.group ++ leafT bArtifact g.artifact ++ leafT bVersion g.version)
   simp only [wtL_app, Tr.wtL] at h1 ⊢
   have := wt_leaf bGroup g.group
   have := wt_leaf bArtifact g.artifact
   have := wt_leaf bVersion g.version
   have e1 : bGroup.length = 7 := rfl
   have e2 : bArtifact.length = 10 := rfl
   have e3 : bVersion.length = 7 := rfl
   have e4 : bParent.length = 6 := rfl
   omega
 · simp [Tr.wtL]
theorem wt_prop {x : Prp} (h : x.name.size ≤ 2000 ∧ x.value.size ≤ 2000) : (propT x).wt ≤ 10000 := by
 unfold propT
 split
 · rw [wt_up, size_data]; simp only [Tr.wtL]; omega
 · rw [wt_up, size_data]; simp only [Tr.wtL, Tr.wt, attsW, List.map_nil, List.sum_nil, List.length_nil, size_data]; omega
theorem wt_write {p : Pom} (h : LightP p) : (writeT p).wt ≤ 10000000 := by
 unfold writeT
 rw [wt_up]
 simp only [wtL_app]
 have o1 := h.own p.group (by simp)
 have o2 := h.own p.artifact (by simp)
 have o3 := h.own p.version (by simp)
 have o4 := h.own p.packaging (by simp)
 have a1 := wt_par p.hasParent p.parent ⟨h.own p.parent.group (by simp), h.own p.parent.artifact (by simp), h.own p.parent.version (by simp)⟩
 have a2 := wt_leaf bGroup p.group
 have a3 := wt_leaf bArtifact p.artifact
 have a4 := wt_leaf bVersion p.version
 have a5 := wt_leaf bPackaging p.packaging
 have a6 := wt_branch bProperties (p.props.map propT)
 have a7 := wt_map propT 10000 p.props (fun y hy => wt_prop (h.prp y hy))
 have a8 := Nat.mul_le_mul_right 10000 h.props
 have a9 := wt_branch bManagement ([] ++ depsT p.managed)
 have b1 := wt_deps h.managedL h.managed
 have b2 := wt_deps h.depsL h.deps
 simp only [wtL_app, Tr.wtL] at a9
 have e1 : bGroup.length = 7 := rfl
 have e2 : bArtifact.length = 10 := rfl
 have e3 : bVersion.length = 7 := rfl
 have e4 : bPackaging.length = 9 := rfl
 have e5 : bProperties.length = 10 := rfl
 have e6 : bManagement.length = 20 := rfl
 have e7 : bProject.length = 7 := rfl
 omega
theorem LightD.lt {d : Dep} (h : LightD d) : DepLt d := ⟨fun s hs => Nat.le_trans (h.own s hs) (by decide), fun y hy => ⟨Nat.le_trans (h.ex y hy).1 (by decide), Nat.le_trans (h.ex y hy).2 (by decide)⟩, Nat.le_trans h.excl (by decide)⟩
theorem LightP.lt {p : Pom} (h : LightP p) (hm : propsGo p.props [] = true) : PomLt p :=
 ⟨fun s hs => Nat.le_trans (h.own s hs) (by decide), fun y hy => ⟨Nat.le_trans (h.prp y hy).1 (by decide), Nat.le_trans (h.prp y hy).2 (by decide), fun e => by have := (props_ok hm y hy).1; rw [e] at this; revert this; decide⟩, fun d hd => (h.managedL d hd).lt, fun d hd => (h.depsL d hd).lt, Nat.le_trans h.props (by decide), Nat.le_trans h.managed (by decide), Nat.le_trans h.deps (by decide)⟩

end Go.Proofs.YtbbbfjcikhpmbaaGreat

/- Walks of May, the program's; the conditions stand in the theorems. -/
namespace Go.Proofs.YtbbbfjcikhpmbaaGreat
open Go Go.RowKit

/-- May this be a tree? -/
def MayT (t : Tr) : Prop := RightT t ∧ t.cnt ≤ 4096 ∧ t.dep ≤ 64

end Go.Proofs.YtbbbfjcikhpmbaaGreat
