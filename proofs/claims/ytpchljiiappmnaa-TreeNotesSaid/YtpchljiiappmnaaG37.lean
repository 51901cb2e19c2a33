/- Walks of the program's Print on trees; their conditions stand in the theorems. -/
import Derived.Test.YtpchljiiappmnaaG21
import Derived.Test.YtpchljiiappmnaaG16
import Derived.Laws.EntriesVeiled
namespace Go.Proofs.Ytpchljiiappmnaa
open Go Go.RowKit

mutual
/-- What a tree is printed as. -/
def Tr.pr : Tr → Bs
  | .mk n a ks x => if n.isEmpty then esc false x else if ks.isEmpty then tagP ⟨2, n, a, []⟩ [47, 62] else tagP ⟨1, n, a, []⟩ [62] ++ (Tr.prL ks ++ ([60, 47] ++ (n ++ [62])))
def Tr.prL : List Tr → Bs
  | [] => []
  | t :: l => t.pr ++ Tr.prL l
end
mutual
/-- How great a tree's printing may become. -/
def Tr.wt : Tr → Nat
  | .mk n a ks x => (2 * n.length + x.length + attsW a + 30) + Tr.wtL ks
def Tr.wtL : List Tr → Nat
  | [] => 0
  | t :: l => t.wt + Tr.wtL l
end
theorem Tr.wt_eq (t : Tr) : t.wt = (2 * t.name.length + t.text.length + attsW t.attrs + 30) + Tr.wtL t.kids := by cases t; rw [Tr.wt]; rfl
theorem Tr.pr_eq (t : Tr) : t.pr = if t.name.isEmpty then esc false t.text else if t.kids.isEmpty then tagP ⟨2, t.name, t.attrs, []⟩ [47, 62] else tagP ⟨1, t.name, t.attrs, []⟩ [62] ++ (Tr.prL t.kids ++ ([60, 47] ++ (t.name ++ [62]))) := by cases t; rw [Tr.pr]; rfl
theorem prL_append : ∀ (l m : List Tr), Tr.prL (l ++ m) = Tr.prL l ++ Tr.prL m
  | [], m => by simp [Tr.prL]
  | t :: l, m => by rw [List.cons_append, Tr.prL, Tr.prL, prL_append l m, List.append_assoc]
theorem prL_take {l : List Tr} {k : Nat} (h : k < l.length) : Tr.prL (l.take (k + 1)) = Tr.prL (l.take k) ++ l[k].pr := by
  rw [List.take_succ_eq_append_getElem h, prL_append]; simp [Tr.prL]
theorem wtL_take : ∀ (l : List Tr) (k : Nat) (h : k < l.length), Tr.wtL (l.take k) + l[k].wt ≤ Tr.wtL l
  | t :: l, 0, _ => by simp only [List.take_zero, Tr.wtL, List.getElem_cons_zero]; omega
  | t :: l, k + 1, h => by have := wtL_take l k (by simpa using h); simp only [List.take_succ_cons, Tr.wtL, List.getElem_cons_succ]; omega
theorem wtL_take_le : ∀ (l : List Tr) (k : Nat), Tr.wtL (l.take k) ≤ Tr.wtL l
  | [], k => by simp
  | t :: l, 0 => by simp [Tr.wtL]
  | t :: l, k + 1 => by have := wtL_take_le l k; simp only [List.take_succ_cons, Tr.wtL]; omega
theorem tagT_len (k : Int) (n : Bs) (a : List At2) (q : Bs) : (tagP ⟨k, n, a, []⟩ q).length ≤ n.length + attsW a + q.length + 1 := by
  have := attsP_len a
  unfold tagP
  simp only [List.length_cons, List.length_append]; omega
mutual
theorem pr_len : ∀ t : Tr, t.pr.length ≤ 6 * t.wt
  | .mk n a ks x => by
    have h1 := (esc_len false x).2
    have h2 := prL_len ks
    have h3 := tagT_len 1 n a [62]
    have h4 := tagT_len 2 n a [47, 62]
    simp only [List.length_cons, List.length_nil] at h3 h4
    rw [Tr.pr, Tr.wt]
    repeat' split
    all_goals (try simp only [List.length_append, List.length_cons, List.length_nil]); omega
theorem prL_len : ∀ l : List Tr, (Tr.prL l).length ≤ 6 * Tr.wtL l
  | [] => by simp [Tr.prL]
  | t :: l => by
    have h1 := pr_len t
    have h2 := prL_len l
    rw [Tr.prL, Tr.wtL, List.length_append]; omega
end
theorem Kept.x {R b : Nat} {w w' : World} (h : Kept R b w w') : KeptX (fun j => R ≤ j ∨ j = b) w w' :=
  ⟨h.size, fun _ _ _ hn => h.cell (Nat.lt_of_not_le (fun e => hn (.inl e))) (fun e => hn (.inr e))⟩
theorem SliceX.of {α : Type} {n : Nat} {C : α → List Value} {X : Nat → Prop} {w : World} {v : Value} {l : List α} (h : SliceX n C X w v l) : SliceOf n C w v l := h.slice
theorem tk_lit (W : World) (H : Nat) (hH : W.heap.size = H) (k : Int) (n : Bs) (a : List At2) (av : Value) (hA : SliceOf 2 atC W av a) : TkMs (W.alloc (.cells #[.int .i64 k, .string (bs n), av, .string ⟨#[]⟩, .int .i64 0, .int .i64 0, .int .i64 0] 34)) (.slice (some ⟨H, 0, none⟩) 1 1) [⟨⟨k, n, a, []⟩, av, 0, 0, 0⟩] := by
  refine ⟨?_, fun x hx => ?_⟩
  · have h := sliceLit tkC_len W [(⟨⟨k, n, a, []⟩, av, 0, 0, 0⟩ : TkM)] 34 H 1 hH rfl (by unfold maxLen; simp)
    exact h
  · obtain rfl := List.mem_singleton.1 hx
    exact hA.below ((Below.refl _ _).alloc (Nat.le_refl _) _)
theorem str3 (a : Array UInt8) (N : S) (n : Bs) (c : Array UInt8) (h : N = bs n) : (⟨a⟩ : S) ++ N ++ (⟨c⟩ : S) = bs (a.toList ++ (n ++ c.toList)) := by
  rw [h, show (⟨a⟩ : S) = bs a.toList by simp [bs], show (⟨c⟩ : S) = bs c.toList by simp [bs], bs_append, bs_append, List.append_assoc]

set_option maxRecDepth 100000 in
set_option maxHeartbeats 16000000 in
theorem lay_any : ∀ (n : Nat) (t : Tr) (w : World) (av kv : Value) (R b c : Nat) (P : Bs), SizeOf.sizeOf t ≤ n → Bld R b (Lib.byteCells P) w → c < R → c ≠ b → w.cell? ⟨c, 0, none⟩ = some (.func (.func 71) #[] #[.pointer (some ⟨b, 0, none⟩), .pointer (some ⟨c, 0, none⟩)]) → NodeX (fun j => R ≤ j ∨ j = b) w t av kv → P.length + 6 * t.wt ≤ 10000000000 → t.wt ≤ 900000000 →
    Calls Try.prog 71 #[nodeV t av kv, .pointer (some ⟨b, 0, none⟩), .pointer (some ⟨c, 0, none⟩)] w fun e w' => e = .returned (.tuple #[]) ∧ Bld R b (Lib.byteCells (P ++ t.pr)) w' ∧ Kept R b w w'
  | 0, t, w, av, kv, R, b, c, P, hn, _, _, _, _, _, _, _ => by
    obtain ⟨n, l, k, x⟩ := t
    simp only [Tr.mk.sizeOf_spec] at hn
    omega
  | n + 1, t, w, av, kv, R, b, c, P, hn, hB, hcR, hcb, hcc, ht, hw1, hw2 => by
    obtain ⟨ao, ac, ko, kc, rfl, rfl, hal, hkl⟩ := ht.shape
    have hwt := t.wt_eq
    have HI : Hid (∀ k (hk : k < t.kids.length) (W' : World) (v1 v2 : Value) (P' : Bs), Bld R b (Lib.byteCells P') W' → W'.cell? ⟨c, 0, none⟩ = some (.func (.func 71) #[] #[.pointer (some ⟨b, 0, none⟩), .pointer (some ⟨c, 0, none⟩)]) → NodeX (fun j => R ≤ j ∨ j = b) W' t.kids[k] v1 v2 → P'.length + 6 * t.kids[k].wt ≤ 10000000000 →
        Calls Try.prog 71 #[nodeV t.kids[k] v1 v2, .pointer (some ⟨b, 0, none⟩), .pointer (some ⟨c, 0, none⟩)] W' fun e w' => e = .returned (.tuple #[]) ∧ Bld R b (Lib.byteCells (P' ++ t.kids[k].pr)) w' ∧ Kept R b W' w') := fun k hk W' v1 v2 P' h1 h2 h3 h4 => lay_any n _ W' v1 v2 R b c P' (by have := kid_less hk; omega) h1 hcR hcb h2 h3 h4 (by have := wtL_take t.kids k hk; omega)
    have hPR := t.pr_eq
    obtain ⟨N, hN⟩ : ∃ N : S, bs t.name = N := ⟨_, rfl⟩
    obtain ⟨X, hX⟩ : ∃ X : S, bs t.text = X := ⟨_, rfl⟩
    have hNs : N.size = t.name.length := by rw [← hN, bs_size]
    have hNb : N.size ≤ 900000000 := by omega
    have hXs : X.size ≤ 1000000000 := by rw [← hX, bs_size]; omega
    have hXe : X.data.toList = t.text := by rw [← hX, bs_data]
    have hbl := hB.lt
    have hbn : w.heap.size ≠ b := by omega
    have HB := Lib.hid hB
    have HCC := Lib.hid hcc
    have HT := Lib.hid ht
    have HWT : Hid (P.length + 6 * t.wt ≤ 10000000000 ∧ t.wt ≤ 900000000 ∧ t.wt = (2 * t.name.length + t.text.length + attsW t.attrs + 30) + Tr.wtL t.kids) := ⟨hw1, hw2, hwt⟩
    have HNN := Lib.hid hN
    have hnl : t.name.length ≤ 900000000 := by omega
    have haw : attsW t.attrs ≤ 900000000 := by omega
    have hPl : P.length ≤ 10000000000 := by omega
    have hnaw : t.name.length + attsW t.attrs ≤ 900000000 := by omega
    clear hn hB hcc ht hw1 hw2 hwt
    unfold nodeV
    rw [hN, hX]
    by_cases hne : t.name = []
    · have he : N.toList.isEmpty = true := by rw [empty_data, hNs, hne]; rfl
      have HPR : Hid (t.pr = esc false X.data.toList) := by show _ = _; rw [hPR, hne, hXe]; rfl
      have hEl : (esc false X.data.toList).length ≤ 6000000000 := by
        have := (esc_len false X.data.toList).2
        rw [size_data] at this; omega
      clear hne hPR hN hX hNs hXe
      go_enter Try.func71, Try.ntmps71
      go_wp2_with fail
      refine (escape_any X false _ hXs).mono ?_
      rintro e w3 ⟨rfl, hb3⟩
      have hb0 : Below w.heap.size w w3 := ((Below.refl _ w).alloc (Nat.le_refl _) _).trans (hb3.mono (by simp))
      have HB3 := Lib.hid (HB.out.keep hb0)
      have HK3 := Lib.hid (Kept.of_below (b := b) hb0 HB.out.room)
      clear hb3 hb0
      go_wp2_with fail
      refine (writeString_bld R b _ _ _ HB3.out (by rw [byteCells_len, bs_size]; omega)).mono ?_
      rintro e w4 ⟨rfl, hB4, hK4⟩
      have HB4 : Hid (Bld R b (Lib.byteCells (P ++ t.pr)) w4) := by
        have h1 := hB4
        rw [str_cells rfl] at h1
        rw [HPR.out]; exact h1
      have HK4 := Lib.hid (HK3.out.trans hK4)
      clear hB4 hK4
      go_wp2
      refine bodyPost_ret (v := .tuple #[]) (by simp [results, Try.results71, go_sem]) rfl ?_
      exact ⟨rfl, HB4.out, HK4.out⟩
    · have he : N.toList.isEmpty = false := by rw [empty_data, hNs]; simpa using hne
      have hE : t.name.isEmpty = false := by simpa using hne
      rw [hE] at hPR
      by_cases hk : t.kids = []
      · have hk0 : t.kids.length = 0 := by rw [hk]; rfl
        have HPR : Hid (t.pr = tagP ⟨2, t.name, t.attrs, []⟩ [47, 62]) := by show _ = _; rw [hPR, hk]; rfl
        have hkI : ¬ (0 : Int) < (t.kids.length : Int) := by omega
        clear hne hPR hN hX hNs hXe hE hk hk0
        go_enter Try.func71, Try.ntmps71
        go_wp2_with fail
        refine Calls.world ?_
        intro W1 hW1
        have hb1 : Below w.heap.size w W1 := by rw [hW1]; first | exact (((Below.refl _ w).alloc (Nat.le_refl _) _).alloc (by simp) _).alloc (by simp; omega) _ | exact ((((Below.refl _ w).alloc (Nat.le_refl _) _).alloc (by simp) _).setCell (by simp) _).alloc (by simp; omega) _
        have hnb1 : W1.heap[w.heap.size]? = some (.cells #[.string N, .slice ao t.attrs.length ac, .slice ko t.kids.length kc, .string X] 54 (0, 0)) := by
          rw [hW1]
          first
            | (rw [Lib.alloc_old _ _ _ (by simp; omega), Lib.alloc_old _ _ _ (by simp)]; exact heap_alloc_new w _)
            | (rw [Lib.alloc_old _ _ _ (by simp; omega), heap_set_other _ _ _ _ _ (by simp), Lib.alloc_old _ _ _ (by simp)]; exact heap_alloc_new w _)
        have htk : TkMs W1 (.slice (some ⟨w.heap.size + 2, 0, none⟩) 1 1) [⟨⟨2, t.name, t.attrs, []⟩, .slice ao t.attrs.length ac, 0, 0, 0⟩] := by
          rw [hW1, ← HNN.out]
          refine tk_lit _ _ (by simp) 2 t.name t.attrs _ (HT.out.att.below ?_)
          first | exact ((Below.refl _ w).alloc (Nat.le_refl _) _).alloc (by simp) _ | exact (((Below.refl _ w).alloc (Nat.le_refl _) _).alloc (by simp) _).setCell (by simp) _
        have HPC := Lib.hid (print_any _ _ W1 htk (by show tksW [_] ≤ _; unfold tksW tkW; simp; omega))
        have hB1 := HB.out.keep hb1
        have HK1 := Lib.hid (Kept.of_below (b := b) hb1 HB.out.room)
        have HNB1 := Lib.hid hnb1
        have HB1 := Lib.hid hB1
        clear hW1 hb1 htk hnb1 hB1
        refine HPC.out.mono ?_
        rintro e w2 ⟨rfl, hb2⟩
        have HB2 := Lib.hid (HB1.out.keep hb2)
        have HK2 := Lib.hid (HK1.out.trans (Kept.of_below (b := b) hb2 HB1.out.room))
        have HNB2 : Hid (w2.heap[w.heap.size]? = some (.cells #[.string N, .slice ao t.attrs.length ac, .slice ko t.kids.length kc, .string X] 54 (0, 0))) := (hb2.block _ (Array.getElem?_eq_some_iff.1 HNB1.out).1).trans HNB1.out
        obtain ⟨Y, hY⟩ : ∃ Y : S, Y = bs (printP (([⟨⟨2, t.name, t.attrs, []⟩, .slice ao t.attrs.length ac, 0, 0, 0⟩] : List TkM).map (·.t))) := ⟨_, rfl⟩
        have hYt : Y = bs (tagP ⟨2, t.name, t.attrs, []⟩ [47, 62]) := by rw [hY]; show bs (printP [_]) = _; rw [printP_one]; rfl
        rw [← hY]
        have hYs : Y.size ≤ t.name.length + attsW t.attrs + 3 := by rw [hYt, bs_size]; have := tagT_len 2 t.name t.attrs [47, 62]; simp only [List.length_cons, List.length_nil] at this; omega
        have HYT := Lib.hid hYt
        clear hb2 HPC HNB1 HB1 HK1 hY hYt
        go_wp2_with fail
        refine (writeString_bld R b _ Y _ HB2.out (by rw [byteCells_len]; omega)).mono ?_
        rintro e w3 ⟨rfl, hB3, hK3⟩
        have HB3 : Hid (Bld R b (Lib.byteCells (P ++ tagP ⟨2, t.name, t.attrs, []⟩ [47, 62])) w3) := by
          have h1 := hB3
          rw [str_cells HYT.out] at h1
          exact h1
        have HK3 := Lib.hid (HK2.out.trans hK3)
        have HNB3 : Hid (w3.heap[w.heap.size]? = some (.cells #[.string N, .slice ao t.attrs.length ac, .slice ko t.kids.length kc, .string X] 54 (0, 0))) := hK3.typed _ _ _ _ hbn (by decide) HNB2.out
        have n2 : w3.cell? ⟨w.heap.size, 2, none⟩ = some (.slice ko t.kids.length kc) := by rw [Lib.cell_of_heap HNB3.out]; rfl
        have nl : w.heap.size < w3.heap.size := (Array.getElem?_eq_some_iff.1 HNB3.out).1
        clear hB3 hK3 HB2 HK2 HNB2 hYs HYT
        go_wp2_with fail
        go_loopw [31] (fun i wr => i = .int .i64 0 ∧ wr = w3) (fun _ _ => 0)
        case atStart => exact ⟨rfl, rfl⟩
        case round =>
          obtain ⟨rfl, hwr⟩ := hrel
          obtain rfl : w3 = wr := hwr.symm
          go_wp2
          go_end0
          exact ⟨rfl, by rw [HPR.out]; exact HB3.out, HK3.out⟩
      · have hk0 : 0 < t.kids.length := by cases h : t.kids with | nil => exact absurd h hk | cons a b => simp
        have hkE : t.kids.isEmpty = false := by simpa using hk
        have HPR : Hid (t.pr = tagP ⟨1, t.name, t.attrs, []⟩ [62] ++ (Tr.prL t.kids ++ ([60, 47] ++ (t.name ++ [62])))) := by show _ = _; rw [hPR, hkE]; rfl
        have hkI : (0 : Int) < (t.kids.length : Int) := by omega
        clear hne hPR hN hX hNs hXe hE hk hkE
        go_enter Try.func71, Try.ntmps71
        go_wp2_with fail
        refine Calls.world ?_
        intro W1 hW1
        have hb1 : Below w.heap.size w W1 := by rw [hW1]; first | exact (((Below.refl _ w).alloc (Nat.le_refl _) _).alloc (by simp) _).alloc (by simp; omega) _ | exact ((((Below.refl _ w).alloc (Nat.le_refl _) _).alloc (by simp) _).setCell (by simp) _).alloc (by simp; omega) _
        have hnb1 : W1.heap[w.heap.size]? = some (.cells #[.string N, .slice ao t.attrs.length ac, .slice ko t.kids.length kc, .string X] 54 (0, 0)) := by
          rw [hW1]
          first
            | (rw [Lib.alloc_old _ _ _ (by simp; omega), Lib.alloc_old _ _ _ (by simp)]; exact heap_alloc_new w _)
            | (rw [Lib.alloc_old _ _ _ (by simp; omega), heap_set_other _ _ _ _ _ (by simp), Lib.alloc_old _ _ _ (by simp)]; exact heap_alloc_new w _)
        have htk : TkMs W1 (.slice (some ⟨w.heap.size + 2, 0, none⟩) 1 1) [⟨⟨1, t.name, t.attrs, []⟩, .slice ao t.attrs.length ac, 0, 0, 0⟩] := by
          rw [hW1, ← HNN.out]
          refine tk_lit _ _ (by simp) 1 t.name t.attrs _ (HT.out.att.below ?_)
          first | exact ((Below.refl _ w).alloc (Nat.le_refl _) _).alloc (by simp) _ | exact (((Below.refl _ w).alloc (Nat.le_refl _) _).alloc (by simp) _).setCell (by simp) _
        have HPC := Lib.hid (print_any _ _ W1 htk (by show tksW [_] ≤ _; unfold tksW tkW; simp; omega))
        have hB1 := HB.out.keep hb1
        have HK1 := Lib.hid (Kept.of_below (b := b) hb1 HB.out.room)
        have HNB1 := Lib.hid hnb1
        have HB1 := Lib.hid hB1
        clear hW1 hb1 htk hnb1 hB1
        refine HPC.out.mono ?_
        rintro e w2 ⟨rfl, hb2⟩
        have HB2 := Lib.hid (HB1.out.keep hb2)
        have HK2 := Lib.hid (HK1.out.trans (Kept.of_below (b := b) hb2 HB1.out.room))
        have HNB2 : Hid (w2.heap[w.heap.size]? = some (.cells #[.string N, .slice ao t.attrs.length ac, .slice ko t.kids.length kc, .string X] 54 (0, 0))) := (hb2.block _ (Array.getElem?_eq_some_iff.1 HNB1.out).1).trans HNB1.out
        obtain ⟨Y, hY⟩ : ∃ Y : S, Y = bs (printP (([⟨⟨1, t.name, t.attrs, []⟩, .slice ao t.attrs.length ac, 0, 0, 0⟩] : List TkM).map (·.t))) := ⟨_, rfl⟩
        have hYt : Y = bs (tagP ⟨1, t.name, t.attrs, []⟩ [62]) := by rw [hY]; show bs (printP [_]) = _; rw [printP_one]; rfl
        rw [← hY]
        have hYs : Y.size ≤ t.name.length + attsW t.attrs + 3 := by rw [hYt, bs_size]; have := tagT_len 1 t.name t.attrs [62]; simp only [List.length_cons, List.length_nil] at this; omega
        have HYT := Lib.hid hYt
        clear hb2 HPC HNB1 HB1 HK1 hY hYt
        go_wp2_with fail
        refine (writeString_bld R b _ Y _ HB2.out (by rw [byteCells_len]; omega)).mono ?_
        rintro e w3 ⟨rfl, hB3, hK3⟩
        have HB3 : Hid (Bld R b (Lib.byteCells (P ++ tagP ⟨1, t.name, t.attrs, []⟩ [62])) w3) := by
          have h1 := hB3
          rw [str_cells HYT.out] at h1
          exact h1
        have HK3 := Lib.hid (HK2.out.trans hK3)
        have HNB3 : Hid (w3.heap[w.heap.size]? = some (.cells #[.string N, .slice ao t.attrs.length ac, .slice ko t.kids.length kc, .string X] 54 (0, 0))) := hK3.typed _ _ _ _ hbn (by decide) HNB2.out
        have n2 : w3.cell? ⟨w.heap.size, 2, none⟩ = some (.slice ko t.kids.length kc) := by rw [Lib.cell_of_heap HNB3.out]; rfl
        have nl : w.heap.size < w3.heap.size := (Array.getElem?_eq_some_iff.1 HNB3.out).1
        clear hB3 hK3 HB2 HK2 HNB2 hYs HYT
        go_wp2_with fail
        go_loopw [31] (fun i wr => ∃ k : Nat, k ≤ t.kids.length ∧ i = .int .i64 k ∧ Hid (Bld R b (Lib.byteCells (P ++ tagP ⟨1, t.name, t.attrs, []⟩ [62] ++ Tr.prL (t.kids.take k))) wr ∧ Kept R b w wr ∧ wr.heap[w.heap.size]? = some (.cells #[.string N, .slice ao t.attrs.length ac, .slice ko t.kids.length kc, .string X] 54 (0, 0)))) (fun i _ => t.kids.length - (intOf i).toNat)
        case atStart => exact ⟨0, Nat.zero_le _, rfl, by simpa [Tr.prL] using HB3.out, HK3.out, HNB3.out⟩
        case round =>
          obtain ⟨k, hk, rfl, HR⟩ := hrel
          clear n2 nl
          by_cases hlt : k < t.kids.length
          · have hkx := HT.out.keep HR.out.2.1.x (fun _ _ h => h)
            obtain ⟨g, o, r1, r2, s1, s2, rfl, hg, -, c0, c1, c2, c3, hn1⟩ := hkx.at k hlt
            have hki : (k : Int) < (t.kids.length : Int) := by omega
            have cc : wr.cell? ⟨c, 0, none⟩ = some (.func (.func 71) #[] #[.pointer (some ⟨b, 0, none⟩), .pointer (some ⟨c, 0, none⟩)]) := (HR.out.2.1.cell hcR hcb).trans HCC.out
            have hcl : c < wr.heap.size := Nat.lt_of_lt_of_le hcR (Nat.le_trans HB.out.room HR.out.2.1.size)
            have HC : Hid (∀ o1, Calls Try.prog 71 #[nodeV t.kids[k] (.slice r1 t.kids[k].attrs.length r2) (.slice s1 t.kids[k].kids.length s2), .pointer (some ⟨b, 0, none⟩), .pointer (some ⟨c, 0, none⟩)] (wr.alloc o1) fun e w' => e = .returned (.tuple #[]) ∧ Bld R b (Lib.byteCells ((P ++ tagP ⟨1, t.name, t.attrs, []⟩ [62] ++ Tr.prL (t.kids.take k)) ++ t.kids[k].pr)) w' ∧ Kept R b (wr.alloc o1) w') := fun o1 => by
              have h0 : Below wr.heap.size wr (wr.alloc o1) := (Below.refl _ _).alloc (Nat.le_refl _) _
              refine HI.out k hlt _ _ _ _ (HR.out.1.keep h0) ((h0.cell (p := ⟨c, 0, none⟩) (by exact hcl)).trans cc) (hn1.keep (KeptX.below h0) (fun _ _ h => h)) ?_
              have h1 := tagT_len 1 t.name t.attrs [62]
              have h2 := prL_len (t.kids.take k)
              have h3 := wtL_take t.kids k hlt
              have h4 := HWT.out
              simp only [List.length_append, List.length_cons, List.length_nil] at h1 ⊢
              omega
            have HKW := Lib.hid (fun o1 => HR.out.2.1.trans (Kept.of_below (R := R) (b := b) ((Below.refl wr.heap.size wr).alloc (Nat.le_refl _) o1) (Nat.le_trans HB.out.room HR.out.2.1.size)))
            have HNW : Hid (∀ o1, (wr.alloc o1).heap[w.heap.size]? = some (.cells #[.string N, .slice ao t.attrs.length ac, .slice (some ⟨g, o, none⟩) t.kids.length kc, .string X] 54 (0, 0))) := fun o1 => (Lib.alloc_old _ _ _ (Array.getElem?_eq_some_iff.1 HR.out.2.2).1).trans HR.out.2.2
            have HPT := Lib.hid (prL_take hlt)
            unfold nodeV at HC
            clear hkx hn1
            go_wp2_with fail
            refine (HC.out _).mono ?_
            rintro e w4 ⟨rfl, hB4, hK4⟩
            have HB4 : Hid (Bld R b (Lib.byteCells (P ++ tagP ⟨1, t.name, t.attrs, []⟩ [62] ++ Tr.prL (t.kids.take (k + 1)))) w4) := by
              show Bld _ _ _ _
              rw [HPT.out, ← List.append_assoc]; exact hB4
            have HK4 := Lib.hid ((HKW.out _).trans hK4)
            have HNB4 : Hid (w4.heap[w.heap.size]? = some (.cells #[.string N, .slice ao t.attrs.length ac, .slice (some ⟨g, o, none⟩) t.kids.length kc, .string X] 54 (0, 0))) := hK4.typed _ _ _ _ hbn (by decide) (HNW.out _)
            clear hB4 hK4 HC HKW HNW
            go_wp2
            go_roundw
            case rel => exact ⟨k + 1, hlt, by go_num, HB4.out, HK4.out, HNB4.out⟩
            case measure => simp [intOf]; omega
          · obtain rfl : k = t.kids.length := by omega
            have n0 : wr.cell? ⟨w.heap.size, 0, none⟩ = some (.string N) := by rw [Lib.cell_of_heap HR.out.2.2]; rfl
            have n2 : wr.cell? ⟨w.heap.size, 2, none⟩ = some (.slice ko t.kids.length kc) := by rw [Lib.cell_of_heap HR.out.2.2]; rfl
            have nl : w.heap.size < wr.heap.size := (Array.getElem?_eq_some_iff.1 HR.out.2.2).1
            have hl1 : (0 : Int) < (t.kids.length : Int) := by omega
            have hsz9 : (P ++ tagP ⟨1, t.name, t.attrs, []⟩ [62] ++ Tr.prL t.kids).length ≤ 20000000000 := by
              have h1 := tagT_len 1 t.name t.attrs [62]
              have h2 := prL_len t.kids
              have h4 := HWT.out
              simp only [List.length_append, List.length_cons, List.length_nil] at h1 ⊢
              omega
            have HRB : Hid (Bld R b (Lib.byteCells (P ++ tagP ⟨1, t.name, t.attrs, []⟩ [62] ++ Tr.prL t.kids)) wr) := by have := HR.out.1; rwa [List.take_length] at this
            have HEND : Hid ((⟨#[60, 47]⟩ : S) ++ N ++ (⟨#[62]⟩ : S) = bs ([60, 47] ++ (t.name ++ [62]))) := str3 _ _ _ _ HNN.out.symm
            go_wp2_with fail
            refine (writeString_bld R b _ ((⟨#[60, 47]⟩ : S) ++ N ++ (⟨#[62]⟩ : S)) _ HRB.out (by simp only [byteCells_len, ByteArray.size_append, size_lit]; simp; simp at hsz9; omega)).mono ?_
            rintro e w4 ⟨rfl, hB4, hK4⟩
            have HB4 : Hid (Bld R b (Lib.byteCells (P ++ t.pr)) w4) := by
              have h1 := hB4
              rw [str_cells HEND.out] at h1
              show Bld _ _ _ _
              rw [HPR.out]
              simpa using h1
            have HK4 := Lib.hid (HR.out.2.1.trans hK4)
            clear hB4 hK4
            go_wp2
            go_end0
            exact ⟨rfl, HB4.out, HK4.out⟩

set_option maxRecDepth 100000 in
set_option maxHeartbeats 8000000 in
theorem treePrint_any (t : Tr) (w : World) (av kv : Value) (h : NodeOf w t av kv) (hw : t.wt ≤ 900000000) :
    Calls Try.prog 47 #[nodeV t av kv] w fun e w' => e = .returned (.string (bs t.pr)) ∧ Below w.heap.size w w' := by
  obtain ⟨ao, ac, ko, kc, rfl, rfl, -, -⟩ := h.shape
  have HT := Lib.hid h
  clear h
  unfold nodeV
  go_enter Try.func47, Try.ntmps47
  go_wp2_with fail
  refine Calls.world ?_
  intro W hW
  have hWs : W.heap.size = w.heap.size + 3 := by rw [hW]; simp
  have hbW : Below w.heap.size w W := by rw [hW]; exact (((Below.refl _ w).alloc (Nat.le_refl _) _).alloc (by simp) _).alloc (by simp; omega) _
  have hBl : Bld W.heap.size (w.heap.size + 1) (Lib.byteCells []) W := by
    have h1 := Bld.fresh (w.alloc (.cells #[.string (bs t.name), .slice ao t.attrs.length ac, .slice ko t.kids.length kc, .string (bs t.text)] 54)) W (by rw [hW]; exact (Below.refl _ _).alloc (by simp) _)
    rw [show (w.alloc (.cells #[.string (bs t.name), .slice ao t.attrs.length ac, .slice ko t.kids.length kc, .string (bs t.text)] 54)).heap.size = w.heap.size + 1 by simp] at h1
    exact h1
  have hcc : W.cell? ⟨w.heap.size + 1 + 1, 0, none⟩ = some (.func (.func 71) #[] #[.pointer (some ⟨w.heap.size + 1, 0, none⟩), .pointer (some ⟨w.heap.size + 1 + 1, 0, none⟩)]) := by rw [hW]; exact (Box.new _ [_] _ _ (by simp)).cell 0 _ rfl
  have HLA := lay_any _ t W _ _ W.heap.size (w.heap.size + 1) (w.heap.size + 1 + 1) [] (Nat.le_refl _) hBl (by omega) (by omega) hcc (HT.out.keep (KeptX.below hbW) (fun k h1 h2 => by omega)) (by simp; omega) hw
  unfold nodeV at HLA
  refine HLA.mono ?_
  rintro e w1 ⟨rfl, hB1, hK1⟩
  have HB1 := Lib.hid (hB1.isB w.heap.size (by omega) (by omega))
  have HBE := Lib.hid (hbW.trans (hK1.below (B := w.heap.size) (by omega) (by omega)))
  have HSZ : Hid (w.heap.size ≤ w1.heap.size) := HBE.out.size
  clear hWs hbW hBl hcc HLA hB1 hK1 hW hw
  go_wp2_with fail
  refine (Try.Builder_String_any w.heap.size (w.heap.size + 1) ([] ++ t.pr) w1 HB1.out HSZ.out).mono ?_
  rintro e w2 ⟨rfl, hb2⟩
  have HZ := Lib.hid (HBE.out.trans hb2)
  clear hb2
  go_wp2
  go_ret
  exact ⟨rfl, HZ.out⟩

end Go.Proofs.Ytpchljiiappmnaa

/- The walk of the document's Print; its conditions stand in the theorem. -/
namespace Go.Proofs.Ytpchljiiappmnaa
open Go Go.RowKit

theorem kind_cases2 (K : Int) : ((K == 5) = true ∧ K = 5) ∨ ((K == 5) = false ∧ K ≠ 5 ∧ (((K == 6) = true ∧ K = 6) ∨ ((K == 6) = false ∧ K ≠ 6 ∧ (((K == 3) = true ∧ K = 3) ∨ ((K == 3) = false ∧ K ≠ 3 ∧ (((K == 4) = true ∧ K = 4) ∨ ((K == 4) = false ∧ K ≠ 4 ∧ (((K == 1) = true ∧ K = 1) ∨ ((K == 1) = false ∧ K ≠ 1 ∧ (((K == 2) = true ∧ K = 2) ∨ ((K == 2) = false ∧ K ≠ 2))))))))))) := by
  have h : ∀ n : Int, ((K == n) = true ∧ K = n) ∨ ((K == n) = false ∧ K ≠ n) := fun n => by
    by_cases e : K = n
    · exact .inl ⟨beq_iff_eq.2 e, e⟩
    · exact .inr ⟨beq_eq_false_iff_ne.2 e, e⟩
  rcases h 5 with a | ⟨a, b⟩
  · exact .inl a
  refine .inr ⟨a, b, ?_⟩
  rcases h 6 with a | ⟨a, b⟩
  · exact .inl a
  refine .inr ⟨a, b, ?_⟩
  rcases h 3 with a | ⟨a, b⟩
  · exact .inl a
  refine .inr ⟨a, b, ?_⟩
  rcases h 4 with a | ⟨a, b⟩
  · exact .inl a
  refine .inr ⟨a, b, ?_⟩
  rcases h 1 with a | ⟨a, b⟩
  · exact .inl a
  refine .inr ⟨a, b, ?_⟩
  rcases h 2 with a | ⟨a, b⟩
  · exact .inl a
  exact .inr ⟨a, b⟩

/-- What the loop has printed so far. -/
structure PrAt (ts : List Tk) (k : Nat) (T : S) : Prop where
  is : T = bs (printP (ts.take k))
theorem PrAt.step {ts : List Tk} {k : Nat} {T : S} (h : PrAt ts k T) (hk : k < ts.length) {Y : S} {t : Tk} (ht : ts[k] = t) (hY : Y = bs (tokP t)) : PrAt ts (k + 1) (T ++ Y) := by
  refine ⟨?_⟩
  rw [printP_snoc hk, ht, h.is, hY, bs_append]
theorem PrAt.size {ts : List Tk} {k : Nat} {T : S} (h : PrAt ts k T) (hs : tksW ts ≤ 1000000000) : T.size ≤ 6000000000 := by
  have h1 := printP_len (ts.take k)
  have h2 := tksW_take ts k
  rw [h.is, bs_size]; omega
/-- What the inner loop has printed so far. -/
structure InAt (T0 : S) (nm : Bs) (l : List At2) (j : Nat) (T : S) : Prop where
  is : T = T0 ++ bs (60 :: (nm ++ attsP (l.take j)))
theorem InAt.step {T0 : S} {nm : Bs} {l : List At2} {j : Nat} {T : S} (h : InAt T0 nm l j T) (hj : j < l.length) {Y : S} (hY : Y = bs (attT false l[j])) : InAt T0 nm l (j + 1) (T ++ Y) := by
  refine ⟨?_⟩
  rw [h.is, hY, attsP_snoc hj]
  rw [← data_bs T0, bs_append, bs_append, bs_append]
  simp
theorem InAt.size {T0 : S} {nm : Bs} {l : List At2} {j : Nat} {T : S} (h : InAt T0 nm l j T) : T.size ≤ T0.size + nm.length + attsW l + 1 := by
  have h1 := attsP_len (l.take j)
  have h2 := attsW_take l j
  rw [h.is, ByteArray.size_append, bs_size]
  simp only [List.length_cons, List.length_append]; omega
theorem InAt.done {T0 : S} {x : Tk} {T : S} (h : InAt T0 x.name x.attrs x.attrs.length T) (q : Bs) {Q : S} (hQ : Q = bs q) : T ++ Q = T0 ++ bs (tagP x q) := by
  rw [h.is, hQ, List.take_length, ← data_bs T0, bs_append, bs_append, bs_append]
  simp [tagP]
theorem app_assoc (A B C : S) : A ++ B ++ C = A ++ (B ++ C) := by
  rw [← data_bs A, ← data_bs B, ← data_bs C, bs_append, bs_append, bs_append, bs_append, List.append_assoc]

set_option maxRecDepth 100000 in
set_option maxHeartbeats 16000000 in
theorem refPrint_any (v : Value) (L : List TkM) (w : World) (h : TkMs w v L) (hsz : tksW (L.map (·.t)) ≤ 1000000000) :
    Calls Try.prog 30 #[v] w fun e w' => e = .returned (.string (bs (printP (L.map (·.t))))) ∧ Below w.heap.size w w' := by
  obtain ⟨ao, cap, rfl⟩ := h.own.shape
  have hcap : L.length ≤ 9223372036854775807 := by
    obtain ⟨_, _, e, h2, h3, -⟩ := h.own
    unfold maxLen at h3; omega
  have HT := Lib.hid h
  clear h
  go_enter Try.func30, Try.ntmps30
  go_wp2_with fail
  go_loopw [3, 10] (fun s i wr => ∃ (k : Nat) (T : S), k ≤ L.length ∧ i = .int .i64 k ∧ s = .string T ∧ Hid (PrAt (L.map (·.t)) k T) ∧ Below w.heap.size w wr) (fun _ i _ => L.length - (intOf i).toNat)
  case atStart => exact ⟨0, _, Nat.zero_le _, rfl, rfl, ⟨rfl⟩, Below.refl _ _⟩
  case round =>
    obtain ⟨k, T, hk, rfl, rfl, HP, hB⟩ := hrel
    obtain ⟨wo, rfl⟩ : ∃ wo : World, wo = wr := ⟨_, rfl⟩
    have HB := Lib.hid hB
    have hwr := hB.size
    have hTs := HP.out.size hsz
    by_cases hlt : k < L.length
    · have hltM : k < (L.map (·.t)).length := by simpa using hlt
      obtain ⟨g, o, rfl, hg, hc⟩ := HT.out.own.at hlt
      have hA := HT.out.att L[k] (List.getElem_mem hlt)
      have tr : ∀ q u, w.cell? ⟨g, q, none⟩ = some u → wo.cell? ⟨g, q, none⟩ = some u := fun q u hq => (HB.out.cell (by exact hg)).trans hq
      have d0 := tr _ _ (hc 0 _ rfl)
      have d1 := tr _ _ (hc 1 _ rfl)
      have d2 := tr _ _ (hc 2 _ rfl)
      have d3 := tr _ _ (hc 3 _ rfl)
      have d4 := tr _ _ (hc 4 _ rfl)
      have d5 := tr _ _ (hc 5 _ rfl)
      have d6 := tr _ _ (hc 6 _ rfl)
      rw [Nat.add_zero] at d0
      have hgr : g < wo.heap.size := Nat.lt_of_lt_of_le hg hwr
      have hi1 : (k : Int) < (L.length : Int) := by omega
      have hw := tksW_get hltM
      rw [List.getElem_map] at hw
      have HSN : Hid (∀ Y : S, Y = bs (tokP L[k].t) → PrAt (L.map (·.t)) (k + 1) (T ++ Y)) := fun Y hY => HP.out.step hltM (by rw [List.getElem_map]) hY
      have htw : tkW L[k].t ≤ 1000000000 := by omega
      unfold tkW at htw
      obtain ⟨ca, cpa, hav⟩ := hA.shape
      have hlm : L[k].t.attrs.length ≤ 9223372036854775807 := by
        obtain ⟨_, _, e, h2, h3, -⟩ := hA
        unfold maxLen at h3; omega
      obtain ⟨N, hN⟩ : ∃ N : S, bs L[k].t.name = N := ⟨_, rfl⟩
      obtain ⟨X, hX⟩ : ∃ X : S, bs L[k].t.text = X := ⟨_, rfl⟩
      have hNl : N.size = L[k].t.name.length := by rw [← hN, bs_size]
      have hXs : X.size ≤ 1000000000 := by rw [← hX, bs_size]; omega
      have hNs : N.size ≤ 1000000000 := by omega
      have HNL := Lib.hid hNl
      have HN := Lib.hid hN
      have HX := Lib.hid hX
      rw [hN] at d1
      rw [hX] at d3
      rw [hav] at d2 hA
      have HA := Lib.hid hA
      clear hc tr hw hB hN hX hA hav hNl
      generalize L[k] = x at *
      have HB1 := Lib.hid (HB.out.alloc hwr (.cells #[.int .i64 x.t.kind, .string N, .slice ca x.t.attrs.length cpa, .string X, .int .i64 x.off, .int .i64 x.line, .int .i64 x.col] 34))
      have hks := kind_cases2 x.t.kind
      rcases hks with ⟨e5, hk0⟩ | ⟨e5, hn5, ⟨e6, hk0⟩ | ⟨e6, hn6, ⟨e3, hk0⟩ | ⟨e3, hn3, ⟨e4, hk0⟩ | ⟨e4, hn4, ⟨e1, hk0⟩ | ⟨e1, hn1, ⟨e2, hk0⟩ | ⟨e2, hn2⟩⟩⟩⟩⟩⟩
      · have HTE : Hid (tokP x.t = sNote ++ (x.t.text ++ eNote)) := by show _ = _; unfold tokP; rw [if_pos hk0]
        clear hk0 
        have HST : Hid (PrAt (L.map (·.t)) (k + 1) (T ++ ((⟨#[60, 33, 45, 45]⟩ : S) ++ X ++ (⟨#[45, 45, 62]⟩ : S)))) := HSN.out _ (by
          rw [HTE.out]; exact tok_str sNote eNote HX.out.symm)
        go_wp2
        go_round
        case rel => exact ⟨k + 1, _, hlt, by go_num, rfl, HST.out, HB1.out⟩
        case measure => simp [intOf]; omega
      · have HTE : Hid (tokP x.t = sHead ++ (x.t.text ++ eHead)) := by show _ = _; unfold tokP; rw [if_neg (by rw [hk0]; decide), if_pos hk0]
        clear hk0 hn5
        have HST : Hid (PrAt (L.map (·.t)) (k + 1) (T ++ ((⟨#[60, 63, 120, 109, 108]⟩ : S) ++ X ++ (⟨#[63, 62]⟩ : S)))) := HSN.out _ (by
          rw [HTE.out]; exact tok_str sHead eHead HX.out.symm)
        go_wp2
        go_round
        case rel => exact ⟨k + 1, _, hlt, by go_num, rfl, HST.out, HB1.out⟩
        case measure => simp [intOf]; omega
      · have HTE : Hid (tokP x.t = ([60, 47] : Bs) ++ (x.t.name ++ ([62] : Bs))) := by show _ = _; unfold tokP; rw [if_neg (by rw [hk0]; decide), if_neg (by rw [hk0]; decide), if_pos hk0]
        clear hk0 hn5 hn6
        have HST : Hid (PrAt (L.map (·.t)) (k + 1) (T ++ ((⟨#[60, 47]⟩ : S) ++ N ++ (⟨#[62]⟩ : S)))) := HSN.out _ (by
          rw [HTE.out]; exact tok_str ([60, 47] : Bs) ([62] : Bs) HN.out.symm)
        go_wp2
        go_round
        case rel => exact ⟨k + 1, _, hlt, by go_num, rfl, HST.out, HB1.out⟩
        case measure => simp [intOf]; omega
      · have HTE : Hid (tokP x.t = esc false x.t.text) := by show _ = _; unfold tokP; rw [if_neg (by rw [hk0]; decide), if_neg (by rw [hk0]; decide), if_neg (by rw [hk0]; decide), if_neg (by rw [hk0]; decide), if_neg (by rw [hk0]; decide), if_pos hk0]
        clear hk0 hn5 hn6 hn3
        obtain ⟨E, hE⟩ : ∃ E : S, E = bs (esc false X.data.toList) := ⟨_, rfl⟩
        have hEs : E.size ≤ 6000000000 := by
          rw [hE, bs_size]
          have := (esc_len false X.data.toList).2
          rw [size_data] at this; omega
        have HST : Hid (PrAt (L.map (·.t)) (k + 1) (T ++ E)) := HSN.out _ (by
          have e1 : X.data.toList = x.t.text := by rw [← HX.out, bs_data]
          rw [HTE.out, hE, e1])
        have HESC : Hid (∀ w, Calls Try.prog 27 #[.string X, .bool false] w fun e w' => e = .returned (.string E) ∧ w = w') := fun w => by rw [hE]; exact refEscape_any X false w hXs
        clear hE
        go_wp2_with fail
        refine (HESC.out _).mono ?_
        rintro e w' ⟨rfl, rfl⟩
        go_wp2
        go_round
        case rel => exact ⟨k + 1, _, hlt, by go_num, rfl, HST.out, HB1.out⟩
        case measure => simp [intOf]; omega
      · have HTE : Hid (tokP x.t = tagP x.t [62]) := by show _ = _; unfold tokP; rw [if_neg (by rw [hk0]; decide), if_neg (by rw [hk0]; decide), if_neg (by rw [hk0]; decide), if_pos hk0]
        clear hk0 hn5 hn6 hn3 hn4
        go_wp2_with fail
        refine wp_world ?_
        intro W hW
        have hbx : Box W wo.heap.size [.int .i64 x.t.kind, .string N, .slice ca x.t.attrs.length cpa, .string X, .int .i64 x.off, .int .i64 x.line, .int .i64 x.col] := by rw [hW]; exact Box.new wo _ _ _ rfl
        have hBW : Below w.heap.size w W := by rw [hW]; exact HB1.out
        clear hW
        have HBX := Lib.hid hbx
        have HBW := Lib.hid hBW
        have hwW := hBW.size
        have hI0 : InAt T x.t.name x.t.attrs 0 (T ++ ((⟨#[60]⟩ : S) ++ N)) := by
          refine ⟨?_⟩
          rw [← HN.out, show (⟨#[60]⟩ : S) = bs [60] from rfl, bs_append]
          simp [attsP]
        have HI0 := Lib.hid hI0
        have hltb := hbx.lt
        clear hbx hBW hI0 d0 d1 d2 d3 d4 d5 d6
        go_loopw [3, 58] (fun s i wr => ∃ (j : Nat) (U : S), j ≤ x.t.attrs.length ∧ i = .int .i64 j ∧ s = .string U ∧ Hid (InAt T x.t.name x.t.attrs j U) ∧ Below W.heap.size W wr) (fun _ i _ => x.t.attrs.length - (intOf i).toNat)
        case atStart => exact ⟨0, _, Nat.zero_le _, rfl, rfl, HI0.out, Below.refl _ _⟩
        case round =>
          obtain ⟨j, U, hj, rfl, rfl, HU, hBV⟩ := hrel
          have HV := Lib.hid hBV
          have hwv := hBV.size
          have hUs := HU.out.size
          by_cases hjlt : j < x.t.attrs.length
          · obtain ⟨g2, o2, rfl, hg2, hc⟩ := HA.out.at hjlt
            have tr : ∀ q u, w.cell? ⟨g2, q, none⟩ = some u → wr.cell? ⟨g2, q, none⟩ = some u := fun q u hq => (hBV.cell (by exact Nat.lt_of_lt_of_le hg2 hwW)).trans ((HBW.out.cell (by exact hg2)).trans hq)
            have d0 := tr _ _ (hc 0 _ rfl)
            have d1 := tr _ _ (hc 1 _ rfl)
            rw [Nat.add_zero] at d0
            have hgr2 : g2 < wr.heap.size := Nat.lt_of_lt_of_le (Nat.lt_of_lt_of_le hg2 hwW) hwv
            have hji : (j : Int) < (x.t.attrs.length : Int) := by omega
            have haw := attsW_get hjlt
            obtain ⟨N2, hN2⟩ : ∃ N2 : S, bs x.t.attrs[j].1 = N2 := ⟨_, rfl⟩
            obtain ⟨V, hV⟩ : ∃ V : S, bs x.t.attrs[j].2 = V := ⟨_, rfl⟩
            rw [hN2] at d0
            rw [hV] at d1
            have hNs2 : N2.size ≤ 1000000000 := by rw [← hN2, bs_size]; omega
            have hVs : V.size ≤ 200000000 := by rw [← hV, bs_size]; omega
            obtain ⟨E, hE⟩ : ∃ E : S, E = bs (esc true V.data.toList) := ⟨_, rfl⟩
            have hEs : E.size ≤ 1200000000 := by
              rw [hE, bs_size]
              have := (esc_len true V.data.toList).2
              rw [size_data] at this; omega
            have HAS := Lib.hid (HU.out.step hjlt (att_str hN2.symm hV.symm hE))
            have HESC0 : Hid (∀ w, Calls Try.prog 27 #[.string V, .bool true] w fun e w' => e = .returned (.string E) ∧ w = w') := fun w => by rw [hE]; exact refEscape_any V true w (by omega)
            clear hc tr hBV hE hN2 hV
            go_wp2_with fail
            clear d0 d1
            refine wp_world ?_
            intro W2 hW2
            have hx2 : Box W2 wr.heap.size [.string N2, .string V] := by rw [hW2]; exact Box.new wr _ _ _ rfl
            have hB2 : Below W.heap.size W W2 := by rw [hW2]; exact HV.out.alloc hwv _
            clear hW2
            have y0 := hx2.cell 0 _ rfl
            have y1 := hx2.cell 1 _ rfl
            have ly := hx2.lt
            have HB2 := Lib.hid hB2
            have HESC : Hid (∀ i, Calls Try.prog 27 #[.string V, .bool true] (W2.drewN i) fun e w'' => e = .returned (.string E) ∧ ∃ q, w'' = W2.drewN q) := fun i => quietS (HESC0.out _)
            have f1 : ¬ 9223372036854775807 < 1 + N2.size := by omega
            have f2 : ¬ 9223372036854775807 < 1 + N2.size + 2 := by omega
            have f3 : ¬ 9223372036854775807 < 1 + N2.size + 2 + E.size := by omega
            have f4 : ¬ 9223372036854775807 < 1 + N2.size + 2 + E.size + 1 := by omega
            have f5 : ¬ 9223372036854775807 < U.size + (1 + N2.size + 2 + E.size + 1) := by omega
            clear hx2 hB2 HESC0
            go_quiet ((go_at_call 27; exact HESC.out _))
            go_wp2
            go_round
            case rel => exact ⟨j + 1, _, hjlt, by go_num, rfl, HAS.out, belowN HB2.out _⟩
            case measure => simp [intOf]; omega
          · obtain rfl : j = x.t.attrs.length := by omega
            have hji : ¬ (x.t.attrs.length : Int) < (x.t.attrs.length : Int) := by omega
            have hx2 := HBX.out.below hBV hltb
            have y0 := hx2.cell 0 _ rfl
            have ly := hx2.lt
            have HST : Hid (PrAt (L.map (·.t)) (k + 1) (U ++ (⟨#[62]⟩ : S))) := by
              show PrAt _ _ _
              rw [HU.out.done (Q := ⟨#[62]⟩) [62] rfl]
              exact HSN.out _ (by rw [HTE.out])
            have HZ := Lib.hid (HBW.out.trans (hBV.mono hwW))
            clear hx2 hBV
            go_wp2
            go_round
            case rel => exact ⟨k + 1, _, hlt, by go_num, rfl, HST.out, HZ.out⟩
            case measure => simp [intOf]; omega
      · have HTE : Hid (tokP x.t = tagP x.t [47, 62]) := by show _ = _; unfold tokP; rw [if_neg (by rw [hk0]; decide), if_neg (by rw [hk0]; decide), if_neg (by rw [hk0]; decide), if_neg (by rw [hk0]; decide), if_pos hk0]
        clear hk0 hn5 hn6 hn3 hn4 hn1
        go_wp2_with fail
        refine wp_world ?_
        intro W hW
        have hbx : Box W wo.heap.size [.int .i64 x.t.kind, .string N, .slice ca x.t.attrs.length cpa, .string X, .int .i64 x.off, .int .i64 x.line, .int .i64 x.col] := by rw [hW]; exact Box.new wo _ _ _ rfl
        have hBW : Below w.heap.size w W := by rw [hW]; exact HB1.out
        clear hW
        have HBX := Lib.hid hbx
        have HBW := Lib.hid hBW
        have hwW := hBW.size
        have hI0 : InAt T x.t.name x.t.attrs 0 (T ++ ((⟨#[60]⟩ : S) ++ N)) := by
          refine ⟨?_⟩
          rw [← HN.out, show (⟨#[60]⟩ : S) = bs [60] from rfl, bs_append]
          simp [attsP]
        have HI0 := Lib.hid hI0
        have hltb := hbx.lt
        clear hbx hBW hI0 d0 d1 d2 d3 d4 d5 d6
        go_loopw [3, 58] (fun s i wr => ∃ (j : Nat) (U : S), j ≤ x.t.attrs.length ∧ i = .int .i64 j ∧ s = .string U ∧ Hid (InAt T x.t.name x.t.attrs j U) ∧ Below W.heap.size W wr) (fun _ i _ => x.t.attrs.length - (intOf i).toNat)
        case atStart => exact ⟨0, _, Nat.zero_le _, rfl, rfl, HI0.out, Below.refl _ _⟩
        case round =>
          obtain ⟨j, U, hj, rfl, rfl, HU, hBV⟩ := hrel
          have HV := Lib.hid hBV
          have hwv := hBV.size
          have hUs := HU.out.size
          by_cases hjlt : j < x.t.attrs.length
          · obtain ⟨g2, o2, rfl, hg2, hc⟩ := HA.out.at hjlt
            have tr : ∀ q u, w.cell? ⟨g2, q, none⟩ = some u → wr.cell? ⟨g2, q, none⟩ = some u := fun q u hq => (hBV.cell (by exact Nat.lt_of_lt_of_le hg2 hwW)).trans ((HBW.out.cell (by exact hg2)).trans hq)
            have d0 := tr _ _ (hc 0 _ rfl)
            have d1 := tr _ _ (hc 1 _ rfl)
            rw [Nat.add_zero] at d0
            have hgr2 : g2 < wr.heap.size := Nat.lt_of_lt_of_le (Nat.lt_of_lt_of_le hg2 hwW) hwv
            have hji : (j : Int) < (x.t.attrs.length : Int) := by omega
            have haw := attsW_get hjlt
            obtain ⟨N2, hN2⟩ : ∃ N2 : S, bs x.t.attrs[j].1 = N2 := ⟨_, rfl⟩
            obtain ⟨V, hV⟩ : ∃ V : S, bs x.t.attrs[j].2 = V := ⟨_, rfl⟩
            rw [hN2] at d0
            rw [hV] at d1
            have hNs2 : N2.size ≤ 1000000000 := by rw [← hN2, bs_size]; omega
            have hVs : V.size ≤ 200000000 := by rw [← hV, bs_size]; omega
            obtain ⟨E, hE⟩ : ∃ E : S, E = bs (esc true V.data.toList) := ⟨_, rfl⟩
            have hEs : E.size ≤ 1200000000 := by
              rw [hE, bs_size]
              have := (esc_len true V.data.toList).2
              rw [size_data] at this; omega
            have HAS := Lib.hid (HU.out.step hjlt (att_str hN2.symm hV.symm hE))
            have HESC0 : Hid (∀ w, Calls Try.prog 27 #[.string V, .bool true] w fun e w' => e = .returned (.string E) ∧ w = w') := fun w => by rw [hE]; exact refEscape_any V true w (by omega)
            clear hc tr hBV hE hN2 hV
            go_wp2_with fail
            clear d0 d1
            refine wp_world ?_
            intro W2 hW2
            have hx2 : Box W2 wr.heap.size [.string N2, .string V] := by rw [hW2]; exact Box.new wr _ _ _ rfl
            have hB2 : Below W.heap.size W W2 := by rw [hW2]; exact HV.out.alloc hwv _
            clear hW2
            have y0 := hx2.cell 0 _ rfl
            have y1 := hx2.cell 1 _ rfl
            have ly := hx2.lt
            have HB2 := Lib.hid hB2
            have HESC : Hid (∀ i, Calls Try.prog 27 #[.string V, .bool true] (W2.drewN i) fun e w'' => e = .returned (.string E) ∧ ∃ q, w'' = W2.drewN q) := fun i => quietS (HESC0.out _)
            have f1 : ¬ 9223372036854775807 < 1 + N2.size := by omega
            have f2 : ¬ 9223372036854775807 < 1 + N2.size + 2 := by omega
            have f3 : ¬ 9223372036854775807 < 1 + N2.size + 2 + E.size := by omega
            have f4 : ¬ 9223372036854775807 < 1 + N2.size + 2 + E.size + 1 := by omega
            have f5 : ¬ 9223372036854775807 < U.size + (1 + N2.size + 2 + E.size + 1) := by omega
            clear hx2 hB2 HESC0
            go_quiet ((go_at_call 27; exact HESC.out _))
            go_wp2
            go_round
            case rel => exact ⟨j + 1, _, hjlt, by go_num, rfl, HAS.out, belowN HB2.out _⟩
            case measure => simp [intOf]; omega
          · obtain rfl : j = x.t.attrs.length := by omega
            have hji : ¬ (x.t.attrs.length : Int) < (x.t.attrs.length : Int) := by omega
            have hx2 := HBX.out.below hBV hltb
            have y0 := hx2.cell 0 _ rfl
            have ly := hx2.lt
            have HST : Hid (PrAt (L.map (·.t)) (k + 1) (U ++ (⟨#[47, 62]⟩ : S))) := by
              show PrAt _ _ _
              rw [HU.out.done (Q := ⟨#[47, 62]⟩) [47, 62] rfl]
              exact HSN.out _ (by rw [HTE.out])
            have HZ := Lib.hid (HBW.out.trans (hBV.mono hwW))
            clear hx2 hBV
            go_wp2
            go_round
            case rel => exact ⟨k + 1, _, hlt, by go_num, rfl, by rw [app_assoc]; exact HST.out, HZ.out⟩
            case measure => simp [intOf]; omega
      · have HTE : Hid (tokP x.t = []) := by show _ = _; unfold tokP; rw [if_neg hn5, if_neg hn6, if_neg hn3, if_neg hn1, if_neg hn2, if_neg hn4]
        have HST : Hid (PrAt (L.map (·.t)) (k + 1) T) := by
          have := HSN.out (⟨#[]⟩ : S) (by rw [HTE.out]; rfl)
          have e1 : T ++ (⟨#[]⟩ : S) = T := by rw [← data_bs T, show (⟨#[]⟩ : S) = bs [] from rfl, bs_append, List.append_nil]
          rw [e1] at this
          exact this
        clear hn5 hn6 hn3 hn1 hn2 hn4
        go_wp2
        go_round
        case rel => exact ⟨k + 1, _, hlt, by go_num, rfl, HST.out, HB1.out⟩
        case measure => simp [intOf]; omega
    · obtain rfl : k = L.length := by omega
      have hi1 : ¬ (L.length : Int) < (L.length : Int) := by omega
      have HO : Hid (T = bs (printP (L.map (·.t)))) := by
        have h1 := HP.out.is
        rw [List.take_of_length_le (by simp)] at h1
        exact h1
      go_wp2
      go_ret
      exact ⟨by rw [HO.out]; rfl, HB.out⟩

end Go.Proofs.Ytpchljiiappmnaa

/- Walks of the document's Print on trees; its conditions stand in the theorem. -/
namespace Go.Proofs.Ytpchljiiappmnaa
open Go Go.RowKit

/-- What the first loop has printed so far. -/
structure InP (nm : Bs) (l : List At2) (j : Nat) (T : S) : Prop where
  is : T = bs (60 :: (nm ++ attsP (l.take j)))
theorem InP.step {nm : Bs} {l : List At2} {j : Nat} {T : S} (h : InP nm l j T) (hj : j < l.length) {Y : S} (hY : Y = bs (attT false l[j])) : InP nm l (j + 1) (T ++ Y) := by
  refine ⟨?_⟩
  rw [h.is, hY, attsP_snoc hj, bs_append]
  simp
theorem InP.size {nm : Bs} {l : List At2} {j : Nat} {T : S} (h : InP nm l j T) : T.size ≤ nm.length + attsW l + 1 := by
  have h1 := attsP_len (l.take j)
  have h2 := attsW_take l j
  rw [h.is, bs_size]
  simp only [List.length_cons, List.length_append]; omega
theorem InP.done {nm : Bs} {l : List At2} {T : S} (h : InP nm l l.length T) (k : Int) (q : Bs) : T ++ bs q = bs (tagP ⟨k, nm, l, []⟩ q) := by
  rw [h.is, List.take_length, bs_append]
  simp [tagP]

set_option maxRecDepth 100000 in
set_option maxHeartbeats 16000000 in
theorem refPr_go : ∀ (n : Nat) (t : Tr) (w : World) (av kv : Value), SizeOf.sizeOf t ≤ n → NodeOf w t av kv → t.wt ≤ 900000000 →
    Calls Try.prog 49 #[nodeV t av kv] w fun e w' => e = .returned (.string (bs t.pr)) ∧ Below w.heap.size w w'
  | 0, t, w, av, kv, hn, _, _ => by
    obtain ⟨n, l, k, x⟩ := t
    simp only [Tr.mk.sizeOf_spec] at hn
    omega
  | n + 1, t, w, av, kv, hn, ht, hw => by
    obtain ⟨ao, ac, ko, kc, rfl, rfl, hal, hkl⟩ := ht.shape
    have hwt := t.wt_eq
    have HI : Hid (∀ k (hk : k < t.kids.length) (W' : World) (v1 v2 : Value), NodeOf W' t.kids[k] v1 v2 → Calls Try.prog 49 #[nodeV t.kids[k] v1 v2] W' fun e w' => e = .returned (.string (bs t.kids[k].pr)) ∧ Below W'.heap.size W' w') := fun k hk W' v1 v2 h1 => refPr_go n _ W' v1 v2 (by have := kid_less hk; omega) h1 (by have := wtL_take t.kids k hk; omega)
    have hPR := t.pr_eq
    obtain ⟨N, hN⟩ : ∃ N : S, bs t.name = N := ⟨_, rfl⟩
    obtain ⟨X, hX⟩ : ∃ X : S, bs t.text = X := ⟨_, rfl⟩
    have hNs : N.size = t.name.length := by rw [← hN, bs_size]
    have hNb : N.size ≤ 900000000 := by omega
    have hXs : X.size ≤ 1000000000 := by rw [← hX, bs_size]; omega
    have hXe : X.data.toList = t.text := by rw [← hX, bs_data]
    have HT := Lib.hid ht
    have HWT : Hid (t.wt ≤ 900000000 ∧ t.wt = (2 * t.name.length + t.text.length + attsW t.attrs + 30) + Tr.wtL t.kids) := ⟨hw, hwt⟩
    have HNN := Lib.hid hN
    have hnaw : t.name.length + attsW t.attrs ≤ 900000000 := by omega
    clear hn ht hw hwt
    unfold nodeV
    rw [hN, hX]
    by_cases hne : t.name = []
    · have he : N.toList.isEmpty = true := by rw [empty_data, hNs, hne]; rfl
      have HPR : Hid (t.pr = esc false X.data.toList) := by show _ = _; rw [hPR, hne, hXe]; rfl
      clear hne hPR hN hX hNs hXe
      go_enter Try.func49, Try.ntmps49
      go_wp2_with fail
      refine (refEscape_any X false _ hXs).mono ?_
      rintro e w3 ⟨rfl, hw3⟩
      have HB3 : Hid (Below w.heap.size w w3) := by show Below _ _ _; rw [← hw3]; exact (Below.refl _ w).alloc (Nat.le_refl _) _
      clear hw3
      go_wp2
      go_ret
      exact ⟨by rw [HPR.out]; rfl, HB3.out⟩
    · have he : N.toList.isEmpty = false := by rw [empty_data, hNs]; simpa using hne
      have hE : t.name.isEmpty = false := by simpa using hne
      rw [hE] at hPR
      have HPR := Lib.hid hPR
      clear hne hPR hN hX hNs hXe hE
      go_enter Try.func49, Try.ntmps49
      go_wp2_with fail
      refine wp_world ?_
      intro W hW
      have hbx : Box W w.heap.size [.string N, .slice ao t.attrs.length ac, .slice ko t.kids.length kc, .string X] := by rw [hW]; exact Box.new w _ _ _ rfl
      have hBW : Below w.heap.size w W := by rw [hW]; exact (Below.refl _ w).alloc (Nat.le_refl _) _
      clear hW
      have HBX := Lib.hid hbx
      have HBW := Lib.hid hBW
      have hwW := hBW.size
      have hI0 : InP t.name t.attrs 0 ((⟨#[60]⟩ : S) ++ N) := by
        refine ⟨?_⟩
        rw [← HNN.out, show (⟨#[60]⟩ : S) = bs [60] from rfl, bs_append]
        simp [attsP]
      have HI0 := Lib.hid hI0
      have hltb := hbx.lt
      clear hbx hBW hI0
      go_loopw [3, 20] (fun s i wr => ∃ (j : Nat) (U : S), j ≤ t.attrs.length ∧ i = .int .i64 j ∧ s = .string U ∧ Hid (InP t.name t.attrs j U) ∧ Below W.heap.size W wr) (fun _ i _ => t.attrs.length - (intOf i).toNat)
      case atStart => exact ⟨0, _, Nat.zero_le _, rfl, rfl, HI0.out, Below.refl _ _⟩
      case round =>
        obtain ⟨j, U, hj, rfl, rfl, HU, hBV⟩ := hrel
        have HV := Lib.hid hBV
        have hwv := hBV.size
        have hUs := HU.out.size
        by_cases hjlt : j < t.attrs.length
        · obtain ⟨g2, o2, rfl, hg2, -, d0, d1⟩ := (HT.out.later (HBW.out.trans (hBV.mono hwW))).atA j hjlt
          have hji : (j : Int) < (t.attrs.length : Int) := by omega
          have haw := attsW_get hjlt
          obtain ⟨N2, hN2⟩ : ∃ N2 : S, bs t.attrs[j].1 = N2 := ⟨_, rfl⟩
          obtain ⟨V, hV⟩ : ∃ V : S, bs t.attrs[j].2 = V := ⟨_, rfl⟩
          rw [hN2] at d0
          rw [hV] at d1
          have hNs2 : N2.size ≤ 1000000000 := by rw [← hN2, bs_size]; omega
          have hVs : V.size ≤ 200000000 := by rw [← hV, bs_size]; omega
          obtain ⟨E, hE⟩ : ∃ E : S, E = bs (esc true V.data.toList) := ⟨_, rfl⟩
          have hEs : E.size ≤ 1200000000 := by
            rw [hE, bs_size]
            have := (esc_len true V.data.toList).2
            rw [size_data] at this; omega
          have HAS := Lib.hid (HU.out.step hjlt (att_str hN2.symm hV.symm hE))
          have HESC0 : Hid (∀ w, Calls Try.prog 27 #[.string V, .bool true] w fun e w' => e = .returned (.string E) ∧ w = w') := fun w => by rw [hE]; exact refEscape_any V true w (by omega)
          clear hBV hE hN2 hV
          go_wp2_with fail
          clear d0 d1
          refine wp_world ?_
          intro W2 hW2
          have hx2 : Box W2 wr.heap.size [.string N2, .string V] := by rw [hW2]; exact Box.new wr _ _ _ rfl
          have hB2 : Below W.heap.size W W2 := by rw [hW2]; exact HV.out.alloc hwv _
          clear hW2
          have y0 := hx2.cell 0 _ rfl
          have y1 := hx2.cell 1 _ rfl
          have ly := hx2.lt
          have HB2 := Lib.hid hB2
          have HESC : Hid (∀ i, Calls Try.prog 27 #[.string V, .bool true] (W2.drewN i) fun e w'' => e = .returned (.string E) ∧ ∃ q, w'' = W2.drewN q) := fun i => quietS (HESC0.out _)
          have f1 : ¬ 9223372036854775807 < 1 + N2.size := by omega
          have f2 : ¬ 9223372036854775807 < 1 + N2.size + 2 := by omega
          have f3 : ¬ 9223372036854775807 < 1 + N2.size + 2 + E.size := by omega
          have f4 : ¬ 9223372036854775807 < 1 + N2.size + 2 + E.size + 1 := by omega
          have f5 : ¬ 9223372036854775807 < U.size + (1 + N2.size + 2 + E.size + 1) := by omega
          clear hx2 hB2 HESC0
          go_quiet ((go_at_call 27; exact HESC.out _))
          go_wp2
          go_roundw
          case rel => exact ⟨j + 1, _, hjlt, by go_num, rfl, HAS.out, belowN HB2.out _⟩
          case measure => simp [intOf]; omega
        · obtain rfl : j = t.attrs.length := by omega
          obtain ⟨wo, hwo⟩ : ∃ wo : World, wo = wr := ⟨_, rfl⟩
          subst hwo
          have hji : ¬ (t.attrs.length : Int) < (t.attrs.length : Int) := by omega
          have hx2 := HBX.out.below hBV hltb
          have y2 := hx2.cell 2 _ rfl
          have ly := hx2.lt
          have HX2 := Lib.hid hx2
          have HZ := Lib.hid (HBW.out.trans (hBV.mono hwW))
          clear hx2 hBV
          by_cases hk : t.kids = []
          · have hkb : ((t.kids.length : Int) == 0) = true := by rw [hk]; rfl
            have HF : Hid (U ++ (⟨#[47, 62]⟩ : S) = bs t.pr) := by
              show _ = _
              rw [HPR.out, hk]
              exact HU.out.done 2 [47, 62]
            clear hk
            go_wp2
            go_ret
            exact ⟨by rw [← HF.out]; rfl, HZ.out⟩
          · have hk0 : 0 < t.kids.length := by cases h : t.kids with | nil => exact absurd h hk | cons a b => simp
            have hkE : t.kids.isEmpty = false := by simpa using hk
            have hkb : ((t.kids.length : Int) == 0) = false := beq_eq_false_iff_ne.2 (by omega)
            have HP2 : Hid (t.pr = tagP ⟨1, t.name, t.attrs, []⟩ [62] ++ (Tr.prL t.kids ++ ([60, 47] ++ (t.name ++ [62])))) := by show _ = _; rw [HPR.out, hkE]; rfl
            have hUd : U ++ (⟨#[62]⟩ : S) = bs (tagP ⟨1, t.name, t.attrs, []⟩ [62] ++ Tr.prL (t.kids.take 0)) := by
              simp only [List.take_zero, Tr.prL, List.append_nil]
              exact HU.out.done 1 [62]
            have HUD := Lib.hid hUd
            clear hk hkE hUd hj HU
            go_wp2
            go_loopw [3, 47] (fun s i wr => ∃ (k : Nat) (T : S), k ≤ t.kids.length ∧ i = .int .i64 k ∧ s = .string T ∧ Hid (T = bs (tagP ⟨1, t.name, t.attrs, []⟩ [62] ++ Tr.prL (t.kids.take k)) ∧ Below wo.heap.size wo wr)) (fun _ i _ => t.kids.length - (intOf i).toNat)
            case atStart => exact ⟨0, _, Nat.zero_le _, rfl, rfl, HUD.out, Below.refl _ _⟩
            case round =>
              obtain ⟨k, T, hk, rfl, rfl, HR⟩ := hrel
              clear y2 hkb
              have hTs : T.size ≤ 6000000000 := by
                rw [HR.out.1, bs_size, List.length_append]
                have h1 := tagT_len 1 t.name t.attrs [62]
                have h2 := prL_len (t.kids.take k)
                have h3 := wtL_take_le t.kids k
                have h4 := HWT.out
                simp only [List.length_cons, List.length_nil] at h1
                omega
              by_cases hlt : k < t.kids.length
              · have hbw := HZ.out.trans (HR.out.2.mono HZ.out.size)
                obtain ⟨g, o, r1, r2, s1, s2, rfl, hg, -, c0, c1, c2, c3, hn1⟩ := (HT.out.later hbw).at k hlt
                have hki : (k : Int) < (t.kids.length : Int) := by omega
                have HC := Lib.hid (fun o1 => HI.out k hlt (wr.alloc o1) _ _ (hn1.later ((Below.refl _ _).alloc (Nat.le_refl _) _)))
                have HBN := Lib.hid (fun o1 => HR.out.2.alloc HR.out.2.size o1)
                have HPT := Lib.hid (prL_take hlt)
                obtain ⟨Y, hY⟩ : ∃ Y : S, bs t.kids[k].pr = Y := ⟨_, rfl⟩
                have hYs : Y.size ≤ 6000000000 := by
                  rw [← hY, bs_size]
                  have h1 := pr_len t.kids[k]
                  have h2 := wtL_take t.kids k hlt
                  have h4 := HWT.out
                  omega
                have HYY : Hid (T ++ Y = bs (tagP ⟨1, t.name, t.attrs, []⟩ [62] ++ Tr.prL (t.kids.take (k + 1)))) := by
                  show _ = _
                  rw [HR.out.1, ← hY, bs_append, HPT.out, List.append_assoc]
                rw [hY] at HC
                unfold nodeV at HC
                clear hbw hn1 hY
                go_wp2_with fail
                refine (HC.out _).mono ?_
                rintro e w4 ⟨rfl, hb4⟩
                have HB4 := Lib.hid ((HBN.out _).trans (hb4.mono (HBN.out _).size))
                clear hb4 HC HBN
                go_wp2
                go_roundw
                case rel => exact ⟨k + 1, _, hlt, by go_num, rfl, HYY.out, HB4.out⟩
                case measure => simp [intOf]; omega
              · obtain rfl : k = t.kids.length := by omega
                have x3 := HX2.out.below HR.out.2 ly
                have y0 := x3.cell 0 _ rfl
                have ly3 := x3.lt
                have HF : Hid (T ++ (⟨#[60, 47]⟩ : S) ++ N ++ (⟨#[62]⟩ : S) = bs t.pr) := by
                  show _ = _
                  have h1 := HR.out.1
                  rw [List.take_length] at h1
                  rw [HP2.out, h1, ← HNN.out, show (⟨#[60, 47]⟩ : S) = bs [60, 47] from rfl, show (⟨#[62]⟩ : S) = bs [62] from rfl, bs_append, bs_append, bs_append]
                  simp
                have HB5 := Lib.hid (HZ.out.trans (HR.out.2.mono HZ.out.size))
                clear x3
                go_wp2
                go_ret
                exact ⟨by rw [← HF.out]; rfl, HB5.out⟩
theorem refPr_any (t : Tr) (w : World) (av kv : Value) (ht : NodeOf w t av kv) (hw : t.wt ≤ 900000000) : Calls Try.prog 49 #[nodeV t av kv] w fun e w' => e = .returned (.string (bs t.pr)) ∧ Below w.heap.size w w' := refPr_go _ t w av kv (Nat.le_refl _) ht hw

end Go.Proofs.Ytpchljiiappmnaa
