/- Walks of isName, isText and the document's IsName, plain; their conditions stand in the theorems. -/
import Derived.Test.YtpchljiiappmnaaG21
import Derived.Test.YtpchljiiappmnaaG13
import Derived.Laws.EntriesVeiled
import Derived.WalkSpells
namespace Go.Proofs.Ytpchljiiappmnaa
open Go Go.RowKit

/-- Is a text a name? -/
def okName (l : Bs) : Bool := !l.isEmpty && decide (nameLen l = l.length)
/-- Are all bytes a text's? -/
def okText (l : Bs) : Bool := l.all cText
theorem okText_take {l : Bs} {k : Nat} (h : k < l.length) : okText (l.take (k + 1)) = (okText (l.take k) && cText l[k]) := by
  unfold okText
  rw [List.take_succ_eq_append_getElem h, List.all_append]; simp
theorem okText_false {l : Bs} {k : Nat} (h : k < l.length) (hc : cText l[k] = false) : okText l = false := by
  unfold okText
  rw [Bool.eq_false_iff]
  intro h2
  have := List.all_eq_true.1 h2 l[k] (List.getElem_mem h)
  rw [hc] at this; cases this
theorem get_data (s : S) (k : Nat) (h : k < s.size) : s.data.toList[k]'(by rw [size_data]; exact h) = s[k] := rfl

set_option maxHeartbeats 1000000 in
theorem isNm_any (s : S) (w : World) (hs : s.size ≤ 9223372036854775807) :
    Calls Try.prog 73 #[.string s] w fun e w' => e = .returned (.bool (okName s.data.toList)) ∧ w = w' := by
  have hE0 := empty_data s
  by_cases h0 : s.size = 0
  · have hE : s.toList.isEmpty = true := by rw [hE0]; simpa using h0
    have hE2 : (!s.toList.isEmpty) = false := by rw [hE]; rfl
    have hd : s.data.toList = [] := List.eq_nil_of_length_eq_zero (by rw [size_data, h0])
    have HO : Hid (okName s.data.toList = false) := by show _ = _; rw [hd]; rfl
    clear hE0 hd h0
    go_enter Try.func73, Try.ntmps73
    go_wp2_with fail
    go_ret
    exact ⟨by rw [HO.out]; rfl, rfl⟩
  · have hE : s.toList.isEmpty = false := by rw [hE0]; simpa using h0
    have hE2 : (!s.toList.isEmpty) = true := by rw [hE]; rfl
    have HO : Hid (okName s.data.toList = decide (nameLen s.data.toList = s.size)) := by
      show _ = _
      have hd : s.data.toList.isEmpty = false := by
        cases h : s.data.toList with
        | nil => have := size_data s; rw [h] at this; exact absurd this.symm h0
        | cons a b => rfl
      unfold okName
      rw [hd, size_data]; rfl
    have HN := Lib.hid (fun w => name_any s w hs)
    clear hE0 h0
    generalize nameLen s.data.toList = n at *
    by_cases hn : n = s.size
    · have hb : ((n : Int) == (s.size : Int)) = true := by rw [hn]; simp
      rw [decide_eq_true hn] at HO
      have HNN := Lib.hid hn
      clear hn
      go_enter Try.func73, Try.ntmps73
      go_wp2_with (go_at_call 105; refine (HN.out _).mono ?_; rintro e w' ⟨rfl, rfl⟩)
      go_ret
      exact ⟨by rw [HO.out]; rfl, rfl⟩
    · have hb : ((n : Int) == (s.size : Int)) = false := beq_eq_false_iff_ne.2 (by omega)
      rw [decide_eq_false hn] at HO
      have HNN := Lib.hid hn
      clear hn
      go_enter Try.func73, Try.ntmps73
      go_wp2_with (go_at_call 105; refine (HN.out _).mono ?_; rintro e w' ⟨rfl, rfl⟩)
      go_ret
      exact ⟨by rw [HO.out]; rfl, rfl⟩

set_option maxHeartbeats 1000000 in
theorem refIsNm_any (s : S) (w : World) (hs : s.size ≤ 9223372036854775807) :
    Calls Try.prog 101 #[.string s] w fun e w' => e = .returned (.bool (okName s.data.toList)) ∧ w = w' := by
  by_cases h0 : s.size = 0
  · have hI : ¬ (0 : Int) < (s.size : Int) := by omega
    have hd : s.data.toList = [] := List.eq_nil_of_length_eq_zero (by rw [size_data, h0])
    have HO : Hid (okName s.data.toList = false) := by show _ = _; rw [hd]; rfl
    clear hd h0
    go_enter Try.func101, Try.ntmps101
    go_wp2_with fail
    go_ret
    exact ⟨by rw [HO.out]; rfl, rfl⟩
  · have hI : (0 : Int) < (s.size : Int) := by omega
    have HO : Hid (okName s.data.toList = decide (nameLen s.data.toList = s.size)) := by
      show _ = _
      have hd : s.data.toList.isEmpty = false := by
        cases h : s.data.toList with
        | nil => have := size_data s; rw [h] at this; exact absurd this.symm h0
        | cons a b => rfl
      unfold okName
      rw [hd, size_data]; rfl
    have HN := Lib.hid (fun w => refName_any s w hs)
    clear h0
    generalize nameLen s.data.toList = n at *
    by_cases hn : n = s.size
    · have hb : ((n : Int) == (s.size : Int)) = true := by rw [hn]; simp
      rw [decide_eq_true hn] at HO
      have HNN := Lib.hid hn
      clear hn
      go_enter Try.func101, Try.ntmps101
      go_wp2_with (go_at_call 25; refine (HN.out _).mono ?_; rintro e w' ⟨rfl, rfl⟩)
      go_ret
      exact ⟨by rw [HO.out]; rfl, rfl⟩
    · have hb : ((n : Int) == (s.size : Int)) = false := beq_eq_false_iff_ne.2 (by omega)
      rw [decide_eq_false hn] at HO
      have HNN := Lib.hid hn
      clear hn
      go_enter Try.func101, Try.ntmps101
      go_wp2_with (go_at_call 25; refine (HN.out _).mono ?_; rintro e w' ⟨rfl, rfl⟩)
      go_ret
      exact ⟨by rw [HO.out]; rfl, rfl⟩

set_option maxHeartbeats 2000000 in
theorem isTx_any (s : S) (w : World) (hs : s.size ≤ 1000000000) :
    Calls Try.prog 108 #[.string s] w fun e w' => e = .returned (.bool (okText s.data.toList)) ∧ Below w.heap.size w w' := by
  have hcv := fun (w : World) => conv_bytes w s
  go_enter Try.func108, Try.ntmps108
  go_wp2_with fail
  clear hcv
  refine wp_world ?_
  intro W hW
  have hcells := fun j h => bytesW_cell w s j h
  have hbel : Below w.heap.size w (bytesW w s) := bytesW_below w s _ (Nat.le_refl _)
  have hsz := bytesW_size w s
  rw [← hW] at hcells hbel hsz
  have HCE := Lib.hid hcells
  have HBE := Lib.hid hbel
  have HSZ := Lib.hid hsz
  clear hW hcells hbel hsz
  go_loopw [4, 8] (fun _ i wr => ∃ k : Nat, k ≤ s.size ∧ i = .int .i64 k ∧ wr = W ∧ Hid (okText (s.data.toList.take k) = true)) (fun _ i _ => s.size - (intOf i).toNat)
  case atStart => exact ⟨0, Nat.zero_le _, rfl, rfl, by show _ = _; rfl⟩
  case round =>
    obtain ⟨k, hk, rfl, hwr, HK⟩ := hrel
    obtain rfl : W = wr := hwr.symm
    by_cases hlt : k < s.size
    · have c1 := HCE.out k hlt
      have hg1 : w.heap.size < W.heap.size := by have := HSZ.out; omega
      have hi1 : (k : Int) < (s.size : Int) := by omega
      have hlt' : k < s.data.toList.length := by rw [size_data]; exact hlt
      have HT := Lib.hid (okText_take hlt')
      have HFF := Lib.hid (fun h => okText_false hlt' h)
      rw [get_data s k hlt] at HT HFF
      have HCT := Lib.hid (fun w => isText_any s[k] w)
      cases hc : cText s[k]
      · rw [hc] at HCT HFF
        have HF2 : Hid (okText s.data.toList = false) := HFF.out rfl
        clear hc
        go_wp2_with fail
        refine (HCT.out _).mono ?_
        rintro e w' ⟨rfl, hw'⟩
        obtain rfl : W = w' := hw'
        go_wp2
        go_ret
        exact ⟨by rw [HF2.out]; rfl, HBE.out⟩
      · rw [hc] at HCT HT
        clear hc
        go_wp2_with fail
        refine (HCT.out _).mono ?_
        rintro e w' ⟨rfl, hw'⟩
        obtain rfl : W = w' := hw'
        go_wp2
        go_roundw
        case rel => exact ⟨k + 1, hlt, by go_num, by first | rfl | trivial, by show _ = _; rw [HT.out, HK.out]; rfl⟩
        case measure => simp [intOf]; omega
    · obtain rfl : k = s.size := by omega
      have HO : Hid (okText s.data.toList = true) := by have := HK.out; rwa [List.take_of_length_le (by rw [size_data]; exact Nat.le_refl _)] at this
      go_wp2
      go_ret
      exact ⟨by rw [HO.out]; rfl, HBE.out⟩

set_option maxHeartbeats 2000000 in
theorem refPlain_any (s : S) (w : World) (hs : s.size ≤ 9223372036854775807) :
    Calls Try.prog 102 #[.string s] w fun e w' => e = .returned (.bool (okText s.data.toList)) ∧ w = w' := by
  go_enter Try.func102, Try.ntmps102
  go_wp2_with fail
  go_loop [3] (fun i => ∃ k : Nat, k ≤ s.size ∧ i = .int .i64 k ∧ Hid (okText (s.data.toList.take k) = true)) (fun i => s.size - (intOf i).toNat)
  case atStart => exact ⟨0, Nat.zero_le _, rfl, by show _ = _; rfl⟩
  case round =>
    obtain ⟨k, hk, rfl, HK⟩ := hrel
    by_cases hlt : k < s.size
    · have hi1 : (k : Int) < (s.size : Int) := by omega
      have hlt' : k < s.data.toList.length := by rw [size_data]; exact hlt
      have HT := Lib.hid (okText_take hlt')
      have HFF := Lib.hid (fun h => okText_false hlt' h)
      rw [get_data s k hlt] at HT HFF
      have HCT := Lib.hid (fun w => is16_any s[k] w)
      cases hc : cText s[k]
      · rw [hc] at HCT HFF
        have HF2 : Hid (okText s.data.toList = false) := HFF.out rfl
        clear hc
        go_wp2_with (go_at_call 26; refine (HCT.out _).mono ?_; rintro e w' ⟨rfl, rfl⟩)
        go_ret
        exact ⟨by rw [HF2.out]; rfl, rfl⟩
      · rw [hc] at HCT HT
        clear hc
        go_wp2_with (go_at_call 26; refine (HCT.out _).mono ?_; rintro e w' ⟨rfl, rfl⟩)
        go_round
        case rel => exact ⟨k + 1, hlt, by go_num, by show _ = _; rw [HT.out, HK.out]; rfl⟩
        case measure => simp [intOf]; omega
    · obtain rfl : k = s.size := by omega
      have HO : Hid (okText s.data.toList = true) := by have := HK.out; rwa [List.take_of_length_le (by rw [size_data]; exact Nat.le_refl _)] at this
      go_wp2_with fail
      go_ret
      exact ⟨by rw [HO.out]; rfl, rfl⟩

end Go.Proofs.Ytpchljiiappmnaa

/- Walks of isAttrs and of what it calls; their conditions stand in the theorems. -/
namespace Go.Proofs.Ytpchljiiappmnaa
open Go Go.RowKit

theorem Says.qb {p : Prop} {q : Bool} (hq : q = true ↔ p) {w : World} {e : Ending} {w' : World} (h : Says p w e w') : e = .returned (.bool q) ∧ Below w.heap.size w w' := by
  obtain ⟨z, rfl, hz, hb⟩ := h
  have : z = q := by
    cases z <;> cases q
    · rfl
    · have := hz.2 (hq.1 rfl); cases this
    · have := hq.2 (hz.1 rfl); cases this
    · rfl
  exact ⟨by rw [this], hb⟩
theorem bool_of (p : Prop) : ∃ q : Bool, q = true ↔ p := by
  by_cases h : p
  · exact ⟨true, fun _ => h, fun _ => rfl⟩
  · exact ⟨false, fun e => absurd e Bool.false_ne_true, fun e => absurd e h⟩

/-- May these be an element's attributes? -/
def GoodAtts (l : List At2) : Prop := (∀ a ∈ l, okName a.1 = true ∧ okText a.2 = true) ∧ (l.map (·.1)).Nodup
def hasN (n : Bs) (l : List At2) : Prop := ∃ k, ∃ h : k < l.length, l[k].1 = n
/-- What is asked of one attribute. -/
def OkAt (l : List At2) (k : Nat) (h : k < l.length) : Prop := ¬ hasN l[k].1 (l.take k) ∧ okName l[k].1 = true ∧ okText l[k].2 = true
theorem goodAtts_iff (l : List At2) : GoodAtts l ↔ ∀ k (h : k < l.length), OkAt l k h := by
  constructor
  · rintro ⟨h1, h2⟩ k h
    refine ⟨?_, h1 _ (List.getElem_mem h)⟩
    rintro ⟨j, hj, he⟩
    have hjk : j < k := by rw [List.length_take] at hj; omega
    rw [List.getElem_take] at he
    have h3 := (List.pairwise_iff_getElem.1 h2) j k (by simp; omega) (by simpa using h) hjk
    simp only [List.getElem_map] at h3
    exact h3 he
  · intro h
    refine ⟨fun a ha => ?_, ?_⟩
    · obtain ⟨k, hk, rfl⟩ := List.mem_iff_getElem.1 ha
      exact (h k hk).2
    · refine List.pairwise_iff_getElem.2 fun i j hi hj hij => ?_
      have hj' : j < l.length := by simpa using hj
      simp only [List.getElem_map]
      intro e
      exact (h j hj').1 ⟨i, by rw [List.length_take]; omega, by rw [List.getElem_take]; exact e⟩

set_option maxHeartbeats 2000000 in
theorem eqNm_any (n m : Bs) (v : S) (p : Nat) (V : Value) (w : World) (hp : Box w p [.string (bs n), V]) :
    Calls Try.prog 107 #[.agg #[.string (bs m), .string v], .pointer (some ⟨p, 0, none⟩)] w fun e w' => e = .returned (.bool (decide (m = n))) ∧ Below w.heap.size w w' := by
  have hE := bs_beq2 m n
  have p0 := hp.cell 0 _ rfl
  have pl := hp.lt
  have hpn : p ≠ w.heap.size := by omega
  generalize decide (m = n) = q at *
  clear hp
  go_enter Try.func107, Try.ntmps107
  go_wp2
  go_ret
  exact ⟨rfl, (Below.refl _ w).alloc (Nat.le_refl _) _⟩

set_option maxRecDepth 100000 in
set_option maxHeartbeats 4000000 in
theorem indexF_any (n : Bs) (l : List At2) (p : Nat) (V : Value) (av : Value) (w : World) (hp : Box w p [.string (bs n), V]) (hl : SliceOf 2 atC w av l) :
    Calls Try.prog 126 #[av, .func (.func 107) #[] #[.pointer (some ⟨p, 0, none⟩)]] w fun e w' => ∃ r : Int, e = .returned (.int .i64 r) ∧ (0 ≤ r ↔ hasN n l) ∧ Below w.heap.size w w' := by
  obtain ⟨ao, cap, rfl, hl1, hl2, -⟩ := id hl
  have hlen : l.length ≤ 9223372036854775807 := by unfold maxLen at hl2; omega
  have HP := Lib.hid hp
  have HL := Lib.hid hl
  clear hp hl hl1 hl2
  go_enter Try.func126, Try.ntmps126
  go_wp2
  go_loopw [5, 8] (fun _ i wr => ∃ k : Nat, k ≤ l.length ∧ i = .int .i64 k ∧ Hid (Below w.heap.size w wr ∧ ∀ q (h : q < l.length), q < k → l[q].1 ≠ n)) (fun _ i _ => l.length - (intOf i).toNat)
  case atStart => exact ⟨0, Nat.zero_le _, rfl, Below.refl _ _, fun q _ h => absurd h (Nat.not_lt_zero q)⟩
  case round =>
    obtain ⟨k, hk, rfl, HR⟩ := hrel
    by_cases hlt : k < l.length
    · obtain ⟨g, o, rfl, hg, hc⟩ := (HL.out.below HR.out.1).at hlt
      have d0 := hc 0 _ rfl
      have d1 := hc 1 _ rfl
      rw [Nat.add_zero] at d0
      have hki : (k : Int) < (l.length : Int) := by omega
      have hk0 : (0 : Int) ≤ (k : Int) := by omega
      have HE : Hid (Calls Try.prog 107 #[.agg #[.string (bs l[k].1), .string (bs l[k].2)], .pointer (some ⟨p, 0, none⟩)] wr fun e w' => e = .returned (.bool (decide (l[k].1 = n))) ∧ Below wr.heap.size wr w') := eqNm_any n l[k].1 (bs l[k].2) p V wr (HP.out.below HR.out.1 HP.out.lt)
      clear hc
      by_cases he : l[k].1 = n
      · rw [decide_eq_true he] at HE
        have HH : Hid (hasN n l) := ⟨k, hlt, he⟩
        clear he
        go_wp2_with fail
        refine HE.out.mono ?_
        rintro e w4 ⟨rfl, hb4⟩
        have HB4 := Lib.hid (HR.out.1.trans (hb4.mono HR.out.1.size))
        clear hb4 HE
        go_wp2
        go_ret
        exact ⟨_, rfl, ⟨fun _ => HH.out, fun _ => hk0⟩, HB4.out⟩
      · rw [decide_eq_false he] at HE
        have HH := Lib.hid he
        clear he
        go_wp2_with fail
        refine HE.out.mono ?_
        rintro e w4 ⟨rfl, hb4⟩
        have HB4 := Lib.hid (HR.out.1.trans (hb4.mono HR.out.1.size))
        clear hb4 HE
        go_wp2
        go_roundw
        case rel => exact ⟨k + 1, hlt, by go_num, HB4.out, fun q h1 h3 => by
          rcases Nat.lt_succ_iff_lt_or_eq.1 h3 with h | rfl
          · exact HR.out.2 q h1 h
          · exact HH.out⟩
        case measure => simp [intOf]; omega
    · obtain rfl : k = l.length := by omega
      go_wp2
      go_ret
      exact ⟨-1, rfl, ⟨fun h => absurd h (by decide), fun ⟨q, h1, h2⟩ => absurd h2 (HR.out.2 q h1 h1)⟩, HR.out.1⟩

set_option maxHeartbeats 2000000 in
theorem containsF_any (n : Bs) (l : List At2) (p : Nat) (V : Value) (av : Value) (w : World) (hp : Box w p [.string (bs n), V]) (hl : SliceOf 2 atC w av l) :
    Calls Try.prog 106 #[av, .func (.func 107) #[] #[.pointer (some ⟨p, 0, none⟩)]] w (Says (hasN n l) w) := by
  obtain ⟨ao, cap, rfl⟩ := hl.shape
  have HC := Lib.hid (indexF_any n l p V _ w hp hl)
  clear hp hl
  go_enter Try.func106, Try.ntmps106
  go_wp2_with fail
  refine HC.out.mono ?_
  rintro e w1 ⟨r, rfl, hr, hb⟩
  have HB := Lib.hid hb
  have HR := Lib.hid hr
  clear hr hb HC
  by_cases h0 : 0 ≤ r
  · go_wp2
    go_ret
    exact ⟨true, by first | rfl | (simp [h0]), ⟨fun _ => HR.out.1 h0, fun _ => rfl⟩, HB.out⟩
  · go_wp2
    go_ret
    exact ⟨false, by first | rfl | (simp [h0]), ⟨fun e => absurd e Bool.false_ne_true, fun e => absurd (HR.out.2 e) (by omega)⟩, HB.out⟩

theorem SliceOf.takeA {w : World} {ao : Option Addr} {len cap : Nat} {l : List At2} (h : SliceOf 2 atC w (.slice ao len cap) l) (k : Nat) (hk : k ≤ l.length) : SliceOf 2 atC w (.slice ao k cap) (l.take k) := by
  obtain ⟨ao', cap', e, h1, h2, h3, h4⟩ := h
  simp only [Value.slice.injEq] at e
  obtain ⟨rfl, rfl, rfl⟩ := e
  have hl : (l.take k).length = k := by rw [List.length_take]; omega
  refine ⟨ao, cap, by rw [hl], by omega, h2, h3, fun i x hx => ?_⟩
  have hi : i < k := by rw [← hl]; exact (List.getElem?_eq_some_iff.1 hx).1
  rw [List.getElem?_take_of_lt hi] at hx
  exact h4 i x hx

set_option maxRecDepth 100000 in
set_option maxHeartbeats 8000000 in
theorem isAtts_any (l : List At2) (av : Value) (w : World) (hl : SliceOf 2 atC w av l) (hs : ∀ a ∈ l, a.1.length ≤ 1000000000 ∧ a.2.length ≤ 1000000000) :
    Calls Try.prog 74 #[av] w (Says (GoodAtts l) w) := by
  obtain ⟨ao, cap, rfl, hl1, hl2, hl3, -⟩ := id hl
  have hlen : l.length ≤ 9223372036854775807 := by unfold maxLen at hl2; omega
  have HL := Lib.hid hl
  have HG : Hid (GoodAtts l ↔ ∀ k (h : k < l.length), OkAt l k h) := goodAtts_iff l
  have HS := Lib.hid hs
  have hcap : cap ≤ 9223372036854775807 := by unfold maxLen at hl2; omega
  clear hl hs hl2
  go_enter Try.func74, Try.ntmps74
  go_wp2
  go_loopw [3, 5, 8] (fun _ _ i wr => ∃ k : Nat, k ≤ l.length ∧ i = .int .i64 k ∧ Hid (Below w.heap.size w wr ∧ ∀ q (h : q < l.length), q < k → OkAt l q h)) (fun _ _ i _ => l.length - (intOf i).toNat)
  case atStart => exact ⟨0, Nat.zero_le _, rfl, Below.refl _ _, fun q _ h => absurd h (Nat.not_lt_zero q)⟩
  case round =>
    obtain ⟨k, hk, rfl, HR⟩ := hrel
    by_cases hlt : k < l.length
    · obtain ⟨g, o, rfl, hg, hc⟩ := (HL.out.below HR.out.1).at hlt
      have d0 := hc 0 _ rfl
      have d1 := hc 1 _ rfl
      rw [Nat.add_zero] at d0
      have hki : (k : Int) < (l.length : Int) := by omega
      have hk0 : (0 : Int) ≤ (k : Int) := by omega
      have hkc : (k : Int) ≤ (cap : Int) := by omega
      obtain ⟨N, hN⟩ : ∃ N : S, bs l[k].1 = N := ⟨_, rfl⟩
      obtain ⟨V, hV⟩ : ∃ V : S, bs l[k].2 = V := ⟨_, rfl⟩
      obtain ⟨q1, hq1⟩ := bool_of (hasN l[k].1 (l.take k))
      have hz := HS.out _ (List.getElem_mem hlt)
      have HC1 : Hid (∀ W, Below wr.heap.size wr W → Box W wr.heap.size [.string N, .string V] → Calls Try.prog 106 #[.slice (some ⟨g, o, none⟩) k cap, .func (.func 107) #[] #[.pointer (some ⟨wr.heap.size, 0, none⟩)]] W fun e w' => e = .returned (.bool q1) ∧ Below W.heap.size W w') := fun W hb hx =>
        (containsF_any l[k].1 (l.take k) wr.heap.size (.string V) _ W (by rw [hN]; exact hx) (((HL.out.below HR.out.1).below hb).takeA k hk)).mono fun e w' h => h.qb hq1
      have HC2 : Hid (∀ W, Calls Try.prog 73 #[.string N] W fun e w' => e = .returned (.bool (okName l[k].1)) ∧ W = w') := fun W => by have := isNm_any (bs l[k].1) W (by rw [bs_size]; omega); rw [bs_data] at this; rw [← hN]; exact this
      have HC3 : Hid (∀ W, Calls Try.prog 108 #[.string V] W fun e w' => e = .returned (.bool (okText l[k].2)) ∧ Below W.heap.size W w') := fun W => by have := isTx_any (bs l[k].2) W (by rw [bs_size]; omega); rw [bs_data] at this; rw [← hV]; exact this
      have HOK : Hid (OkAt l k hlt ↔ q1 = false ∧ okName l[k].1 = true ∧ okText l[k].2 = true) := by
        show _ ↔ _
        unfold OkAt
        rw [← hq1]; simp
      rw [hN] at d0
      rw [hV] at d1
      clear hc hN hV hq1 hz
      generalize okName l[k].1 = q2 at *
      generalize okText l[k].2 = q3 at *
      go_wp2_with fail
      refine Calls.world ?_
      intro W hW
      have hx : Box W wr.heap.size [.string N, .string V] := by rw [hW]; exact Box.new _ _ _ _ rfl
      have hb : Below wr.heap.size wr W := by rw [hW]; exact (Below.refl _ _).alloc (Nat.le_refl _) _
      have HBW := Lib.hid (HR.out.1.trans (hb.mono HR.out.1.size))
      clear hW d0 d1
      refine (HC1.out W hb hx).mono ?_
      rintro e w4 ⟨rfl, hb4⟩
      have hx4 := hx.below hb4 hx.lt
      have HB4 := Lib.hid (HBW.out.trans (hb4.mono HBW.out.size))
      have x0 := hx4.cell 0 _ rfl
      have x1 := hx4.cell 1 _ rfl
      have xl := hx4.lt
      clear hb hx hb4 hx4 HC1 HBW
      cases q1 with
      | true =>
        go_wp2
        go_ret
        refine ⟨false, rfl, ⟨fun e => absurd e Bool.false_ne_true, fun e => ?_⟩, HB4.out⟩
        have := (HOK.out.1 (HG.out.1 e k hlt)).1
        cases this
      | false =>
        cases q2 with
        | false =>
          go_wp2_with (go_at_call 73; refine (HC2.out _).mono ?_; rintro e w' ⟨rfl, rfl⟩)
          go_ret
          refine ⟨false, rfl, ⟨fun e => absurd e Bool.false_ne_true, fun e => ?_⟩, HB4.out⟩
          have := (HOK.out.1 (HG.out.1 e k hlt)).2.1
          cases this
        | true =>
          go_wp2_with (go_at_call 73; refine (HC2.out _).mono ?_; rintro e w' ⟨rfl, rfl⟩)
          refine (HC3.out _).mono ?_
          rintro e w5 ⟨rfl, hb5⟩
          have HB5 := Lib.hid (HB4.out.trans (hb5.mono HB4.out.size))
          clear hb5 x0 x1 xl
          cases q3 with
          | false =>
            go_wp2
            go_ret
            refine ⟨false, rfl, ⟨fun e => absurd e Bool.false_ne_true, fun e => ?_⟩, HB5.out⟩
            have := (HOK.out.1 (HG.out.1 e k hlt)).2.2
            cases this
          | true =>
            go_wp2
            go_roundw
            case rel => exact ⟨k + 1, hlt, by go_num, HB5.out, fun q h1 h3 => by
              rcases Nat.lt_succ_iff_lt_or_eq.1 h3 with h | rfl
              · exact HR.out.2 q h1 h
              · exact HOK.out.2 ⟨by trivial, by trivial, by trivial⟩⟩
            case measure => simp [intOf]; omega
    · obtain rfl : k = l.length := by omega
      go_wp2
      go_ret
      exact ⟨true, rfl, ⟨fun _ => HG.out.2 fun q h1 => HR.out.2 q h1 h1, fun _ => rfl⟩, HR.out.1⟩

end Go.Proofs.Ytpchljiiappmnaa
