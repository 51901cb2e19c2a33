/- Walks: diff.pinKey and diff.side at pins; the conditions stand in the theorems. -/
import Derived.Test.YtmcjpmogjmnfpaaL8
namespace Go.Proofs.Ytmcjpmogjmnfpaa
open Go Go.RowKit

theorem SliceOf.drop {α : Type} {n : Nat} {C : α → List Value} {w : World} {b o len cap : Nat} {l : List α} (h : SliceOf n C w (.slice (some ⟨b, o, none⟩) len cap) l) {k : Nat} (hk : k ≤ l.length) : SliceOf n C w (.slice (some ⟨b, o + k * n, none⟩) (len - k) (cap - k)) (l.drop k) := by
  obtain ⟨ao', cap', h1, h2, hm, h3, h4⟩ := h
  cases h1
  refine ⟨_, _, by rw [List.length_drop], by rw [List.length_drop]; omega, by omega, by simp, fun i x hx => ?_⟩
  rw [List.getElem?_drop] at hx
  obtain ⟨b', o', e, hlt, hc⟩ := h4 _ _ hx
  cases e
  refine ⟨b, o + k * n, rfl, hlt, fun j u hu => ?_⟩
  have := hc j u hu
  rw [Nat.add_mul] at this
  rw [Nat.add_assoc o]; exact this

theorem SliceOf.dropEnd {α : Type} {n : Nat} {C : α → List Value} {w : World} {ao : Option Addr} {len : Nat} {l : List α} {k : Nat} (h : SliceOf n C w (.slice ao len k) l) (hk : k ≤ l.length) : len - k = 0 ∧ l.drop k = [] := by
  obtain ⟨ao', cap', h1, h2, -, -, -⟩ := h
  cases h1
  exact ⟨by omega, List.drop_of_length_le h2⟩

/-- Where a cut slice begins: the walk's form, taken as it stands. -/
def cut (a : Option Addr) (l m s : Nat) : Option Addr := if m = l then a else a.map (·.add (l * s))
theorem sliced_cut (a : Option Addr) (l h m s : Nat) : sliced a l h m s = .slice (cut a l m s) (h - l) (m - l) := rfl
theorem cut_zero (a : Option Addr) (m s : Nat) : cut a 0 m s = a := by
  unfold cut
  split
  · rfl
  · cases a with
    | none => rfl
    | some x => simp [Addr.add]

theorem SliceOf.cut {α : Type} {n : Nat} {C : α → List Value} {w : World} {ao : Option Addr} {len cap : Nat} {l : List α} (h : SliceOf n C w (.slice ao len cap) l) {k : Nat} (hk : k ≤ l.length) : SliceOf n C w (.slice (cut ao k cap n) (len - k) (cap - k)) (l.drop k) := by
  have h0 := h
  obtain ⟨ao', cap', h1, h2, hm, h3, h4⟩ := h
  cases h1
  refine ⟨_, _, by rw [List.length_drop], by rw [List.length_drop]; omega, by omega, ?_, fun i x hx => ?_⟩
  · intro hn
    unfold Go.Proofs.Ytmcjpmogjmnfpaa.cut at hn
    split at hn
    · omega
    · cases ao with
      | none => have := h3 rfl; omega
      | some a => simp at hn
  · have hi : k + i < l.length := by
      rw [List.getElem?_drop] at hx
      exact (List.getElem?_eq_some_iff.1 hx).1
    have hx' := hx
    rw [List.getElem?_drop] at hx
    obtain ⟨b', o', e, hlt, hc⟩ := h4 _ _ hx
    cases e
    obtain ⟨ao2, cap2, e1, -, -, -, h6⟩ := h0.drop hk
    simp only [Value.slice.injEq] at e1
    obtain ⟨rfl, -, -⟩ := e1
    obtain ⟨b3, o3, e3, hl3, hc3⟩ := h6 i x hx'
    cases e3
    refine ⟨b', _, ?_, hl3, hc3⟩
    unfold Go.Proofs.Ytmcjpmogjmnfpaa.cut
    rw [if_neg (by omega)]
    simp [Addr.add]


theorem size_keyE : (Try.prog.info? 42).map (·.size) = some 4 := by kernel_rfl
set_option maxRecDepth 100000 in
theorem pinKey_any (p : Pin) (w : World) : Calls Try.prog 25 #[.agg #[.string p.key.group, .string p.key.artifact, .string p.key.type, .string p.key.classifier, .string p.version, .int .i64 p.scope]] w fun e w' => e = .returned (.agg #[.string p.key.group, .string p.key.artifact, .string p.key.type, .string p.key.classifier]) ∧ Below w.heap.size w w' := by
  have HB : Hid (∀ o1 o2, Below w.heap.size w ((w.alloc o1).alloc o2)) := fun o1 o2 => ((Below.refl _ w).alloc (Nat.le_refl _) _).alloc (by simp) _
  go_enter Try.func25, Try.ntmps25
  go_wp2
  refine bodyPost_ret (results_cell_box rfl _ _ (w.heap.size + 1) (keyC p.key) rfl (Box.new _ (keyC p.key) _ _ (by simp)) Try.underlying42 rfl size_keyE) rfl ?_
  exact ⟨rfl, HB.out _ _⟩

theorem clo_l (k : Key) (w : World) (B : Nat) (l : List Edit) (ho : OutAt B w l) (hl : l.length ≤ 1000) (p : Pin) (g1 o1 : Nat) (h1 : PinAt w g1 o1 p) : Calls Try.prog 26 #[.agg #[.string k.group, .string k.artifact, .string k.type, .string k.classifier], .pointer (some ⟨g1, o1, none⟩), .pointer none, .pointer (some ⟨B, 0, none⟩)] w fun e w' => e = .returned (.tuple #[]) ∧ OutAt B w' (l ++ oneE k (some p) none) ∧ Below B w w' := by
  have h : oneE k (some p) none = [editOf k (some p) none] := if_pos (.inr (.inl rfl))
  rw [h]; exact clo_old k w B l ho hl p g1 o1 h1
theorem clo_m (k : Key) (w : World) (B : Nat) (l : List Edit) (ho : OutAt B w l) (hl : l.length ≤ 1000) (q : Pin) (g2 o2 : Nat) (h2 : PinAt w g2 o2 q) : Calls Try.prog 26 #[.agg #[.string k.group, .string k.artifact, .string k.type, .string k.classifier], .pointer none, .pointer (some ⟨g2, o2, none⟩), .pointer (some ⟨B, 0, none⟩)] w fun e w' => e = .returned (.tuple #[]) ∧ OutAt B w' (l ++ oneE k none (some q)) ∧ Below B w w' := by
  have h : oneE k none (some q) = [editOf k none (some q)] := if_pos (.inl rfl)
  rw [h]; exact clo_new k w B l ho hl q g2 o2 h2
theorem clo_lm (k : Key) (w : World) (B : Nat) (l : List Edit) (ho : OutAt B w l) (hl : l.length ≤ 1000) (p : Pin) (g1 o1 : Nat) (h1 : PinAt w g1 o1 p) (q : Pin) (g2 o2 : Nat) (h2 : PinAt w g2 o2 q) : Calls Try.prog 26 #[.agg #[.string k.group, .string k.artifact, .string k.type, .string k.classifier], .pointer (some ⟨g1, o1, none⟩), .pointer (some ⟨g2, o2, none⟩), .pointer (some ⟨B, 0, none⟩)] w fun e w' => e = .returned (.tuple #[]) ∧ OutAt B w' (l ++ oneE k (some p) (some q)) ∧ Below B w w' := by
  by_cases hpq : p = q
  · subst hpq
    have h : oneE k (some p) (some p) = [] := if_neg (by simp)
    rw [h, List.append_nil]; exact clo_same k w B l ho p g1 o1 h1 g2 o2 h2
  · have h : oneE k (some p) (some q) = [editOf k (some p) (some q)] := if_pos (.inr (.inr (by simpa using hpq)))
    rw [h]; exact clo_both k w B l ho hl p g1 o1 h1 q g2 o2 h2 hpq
theorem compare_c {W : World} (a b : Key) (x : Later W) (c : Int) (hc : cmpK a b = c) : Calls Try.prog 31 #[.agg #[.string a.group, .string a.artifact, .string a.type, .string a.classifier], .agg #[.string b.group, .string b.artifact, .string b.type, .string b.classifier]] x.at_ fun e w'' => e = .returned (.int .i64 c) ∧ ∃ y : Later W, w'' = y.at_ := by
  subst hc; exact Later.call (compare_any a b x.at_)
theorem oneE_len (k : Key) (a b : Option Pin) : (oneE k a b).length ≤ 1 := by unfold oneE; split <;> simp
def lenV : Value → Nat
  | .slice _ n _ => n
  | _ => 0

attribute [local go_sem ↓] sliced_cut in
set_option maxRecDepth 100000 in
set_option maxHeartbeats 8000000 in
theorem side_any (a b : List Pin) (av bv : Value) (w0 w : World) (B : Nat) (hb0 : Below w0.heap.size w0 w) (hB : w0.heap.size ≤ B) (hav : SliceOf 6 pinC w0 av a) (hbv : SliceOf 6 pinC w0 bv b) (ho : OutAt B w []) (hl : a.length + b.length ≤ 1000) :
    Calls Try.prog 24 #[av, bv, .func (.func 25) #[] #[], .func (.func 26) #[] #[.pointer (some ⟨B, 0, none⟩)]] w fun e w' => e = .returned (.tuple #[]) ∧ OutAt B w' (mergeP oneE a b) ∧ Below B w w' := by
  have HB0 := Lib.hid hb0
  have HBB := Lib.hid hB
  have HA := Lib.hid hav
  have HM := Lib.hid hbv
  have HO := Lib.hid ho
  have HLL := Lib.hid hl
  clear hb0 hB hav hbv ho hl
  go_enter Try.func24, Try.ntmps24
  go_wp2_with fail
  go_loopw [0, 1] (fun lv mv wr => ∃ (l m : List Pin) (out : List Edit), SliceOf 6 pinC w0 lv l ∧ SliceOf 6 pinC w0 mv m ∧ Hid (mergeP oneE a b = out ++ mergeP oneE l m) ∧ OutAt B wr out ∧ Below B w wr ∧ Hid (out.length + l.length + m.length ≤ a.length + b.length)) (fun lv mv _ => lenV lv + lenV mv)
  case atStart => exact ⟨a, b, [], HA.out, HM.out, rfl, HO.out, Below.refl _ _, by show _ ≤ _; simp⟩
  case round =>
    obtain ⟨l, m, out, hlv, hmv, HE, ho, hb, HN⟩ := hrel
    obtain ⟨ao1, cap1, rfl⟩ := hlv.shape
    obtain ⟨ao2, cap2, rfl⟩ := hmv.shape
    have HL := Lib.hid hlv
    have HM2 := Lib.hid hmv
    have HOW := Lib.hid ho
    have HBW := Lib.hid hb
    have HW0 : Hid (Below w0.heap.size w0 wr) := HB0.out.trans (hb.mono HBB.out)
    clear hlv hmv ho hb
    cases l with
    | nil =>
      cases m with
      | nil =>
        go_wp2
        go_end0
        exact ⟨rfl, by have := HE.out; rw [mergeP, List.append_nil] at this; rw [this]; exact HOW.out, HBW.out⟩
      | cons q m =>
        obtain ⟨g2, o2, rfl, hq0⟩ := HM2.out.pinAt (k := 0) (by simp)
        have hqW : PinAt wr g2 o2 q := by have := hq0.below HW0.out; simpa using this
        have Hwq := Lib.hid hqW
        clear hq0 hqW
        go_wp2_with fail
        refine wp_world ?_
        intro V hV
        have HVW : Hid (Below wr.heap.size wr V) := by rw [hV]; exact Below.refl _ _
        clear hV
        have HOV : Hid (OutAt B V out) := HOW.out.below HVW.out
        have HLE : Hid (out.length ≤ 1000) := by have h1 := HN.out; have h2 := HLL.out; show _ ≤ _; omega
        have Hq : Hid (PinAt V g2 o2 q) := Hwq.out.below HVW.out
        have e0 : V.cell? ⟨g2, o2, none⟩ = some (.string q.key.group) := by simpa using Hq.out.2 0 _ rfl
        have e1 : V.cell? ⟨g2, o2 + 1, none⟩ = some (.string q.key.artifact) := Hq.out.2 1 _ rfl
        have e2 : V.cell? ⟨g2, o2 + 2, none⟩ = some (.string q.key.type) := Hq.out.2 2 _ rfl
        have e3 : V.cell? ⟨g2, o2 + 3, none⟩ = some (.string q.key.classifier) := Hq.out.2 3 _ rfl
        have e4 : V.cell? ⟨g2, o2 + 4, none⟩ = some (.string q.version) := Hq.out.2 4 _ rfl
        have e5 : V.cell? ⟨g2, o2 + 5, none⟩ = some (.int .i64 q.scope) := Hq.out.2 5 _ rfl
        have HCL : Hid (∀ w1, Below V.heap.size V.drew w1 → Calls Try.prog 26 #[.agg #[.string q.key.group, .string q.key.artifact, .string q.key.type, .string q.key.classifier], .pointer none, .pointer (some ⟨g2, o2, none⟩), .pointer (some ⟨B, 0, none⟩)] w1 fun e w' => e = .returned (.tuple #[]) ∧ OutAt B w' (out ++ oneE q.key none (some q)) ∧ Below B w1 w') := fun w1 hb1 => by
          have hb : Below V.heap.size V w1 := (belowN (Below.refl _ V) 1).trans hb1
          exact clo_m q.key w1 B out (HOV.out.below hb) HLE.out q g2 o2 (Hq.out.below hb)
        go_region_law (first | (go_simp; go_at_call 26; refine (HCL.out _ HB1.out).mono ?_; rintro e w2 ⟨rfl, ho2, hb2⟩; have HO2 := Lib.hid ho2; have HB2 := Lib.hid hb2; clear ho2 hb2) | (go_simp; go_at_call 25; refine (pinKey_any q _).mono ?_; rintro e w1 ⟨rfl, hb1⟩; have HB1 := Lib.hid hb1; clear hb1))
        all_goals
          go_wp2
          go_roundw
          case rel =>
            refine ⟨[], m, out ++ oneE q.key none (some q), HL.out, (HM2.out.cut (k := 1) (by simp)), ?_, HO2.out, ?_, ?_⟩
            · exact by show _ = _; rw [HE.out, mergeP, List.append_assoc]
            · exact HBW.out.trans ((HVW.out.mono (Nat.le_of_lt HOW.out.lt)).trans ((belowN (Below.refl B V) 1).trans ((HB1.out.mono (Nat.le_of_lt HOV.out.lt)).trans HB2.out)))
            · have h1 := HN.out
              have h2 := oneE_len q.key none (some q)
              show _ ≤ _
              simp only [List.length_append, List.length_cons, List.length_nil] at h1 ⊢
              omega
          case measure => simp [lenV]
    | cons p l =>
      cases m with
      | nil =>
        obtain ⟨g1, o1, rfl, hp0⟩ := HL.out.pinAt (k := 0) (by simp)
        have hpW : PinAt wr g1 o1 p := by have := hp0.below HW0.out; simpa using this
        have Hwp := Lib.hid hpW
        clear hp0 hpW
        go_wp2_with fail
        refine wp_world ?_
        intro V hV
        have HVW : Hid (Below wr.heap.size wr V) := by rw [hV]; exact Below.refl _ _
        clear hV
        have HOV : Hid (OutAt B V out) := HOW.out.below HVW.out
        have HLE : Hid (out.length ≤ 1000) := by have h1 := HN.out; have h2 := HLL.out; show _ ≤ _; omega
        have Hp : Hid (PinAt V g1 o1 p) := Hwp.out.below HVW.out
        have a0 : V.cell? ⟨g1, o1, none⟩ = some (.string p.key.group) := by simpa using Hp.out.2 0 _ rfl
        have a1 : V.cell? ⟨g1, o1 + 1, none⟩ = some (.string p.key.artifact) := Hp.out.2 1 _ rfl
        have a2 : V.cell? ⟨g1, o1 + 2, none⟩ = some (.string p.key.type) := Hp.out.2 2 _ rfl
        have a3 : V.cell? ⟨g1, o1 + 3, none⟩ = some (.string p.key.classifier) := Hp.out.2 3 _ rfl
        have a4 : V.cell? ⟨g1, o1 + 4, none⟩ = some (.string p.version) := Hp.out.2 4 _ rfl
        have a5 : V.cell? ⟨g1, o1 + 5, none⟩ = some (.int .i64 p.scope) := Hp.out.2 5 _ rfl
        have HCL : Hid (∀ w1, Below V.heap.size V.drew w1 → Calls Try.prog 26 #[.agg #[.string p.key.group, .string p.key.artifact, .string p.key.type, .string p.key.classifier], .pointer (some ⟨g1, o1, none⟩), .pointer none, .pointer (some ⟨B, 0, none⟩)] w1 fun e w' => e = .returned (.tuple #[]) ∧ OutAt B w' (out ++ oneE p.key (some p) none) ∧ Below B w1 w') := fun w1 hb1 => by
          have hb : Below V.heap.size V w1 := (belowN (Below.refl _ V) 1).trans hb1
          exact clo_l p.key w1 B out (HOV.out.below hb) HLE.out p g1 o1 (Hp.out.below hb)
        go_region_law (first | (go_simp; go_at_call 26; refine (HCL.out _ HB1.out).mono ?_; rintro e w2 ⟨rfl, ho2, hb2⟩; have HO2 := Lib.hid ho2; have HB2 := Lib.hid hb2; clear ho2 hb2) | (go_simp; go_at_call 25; refine (pinKey_any p _).mono ?_; rintro e w1 ⟨rfl, hb1⟩; have HB1 := Lib.hid hb1; clear hb1))
        all_goals
          go_wp2
          go_roundw
          case rel =>
            refine ⟨l, [], out ++ oneE p.key (some p) none, (HL.out.cut (k := 1) (by simp)), HM2.out, ?_, HO2.out, ?_, ?_⟩
            · exact by show _ = _; rw [HE.out, mergeP, List.append_assoc]
            · exact HBW.out.trans ((HVW.out.mono (Nat.le_of_lt HOW.out.lt)).trans ((belowN (Below.refl B V) 1).trans ((HB1.out.mono (Nat.le_of_lt HOV.out.lt)).trans HB2.out)))
            · have h1 := HN.out
              have h2 := oneE_len p.key (some p) none
              show _ ≤ _
              simp only [List.length_append, List.length_cons, List.length_nil] at h1 ⊢
              omega
          case measure => simp [lenV]
      | cons q m =>
        obtain ⟨g1, o1, rfl, hp0⟩ := HL.out.pinAt (k := 0) (by simp)
        have hpW : PinAt wr g1 o1 p := by have := hp0.below HW0.out; simpa using this
        have Hwp := Lib.hid hpW
        clear hp0 hpW
        obtain ⟨g2, o2, rfl, hq0⟩ := HM2.out.pinAt (k := 0) (by simp)
        have hqW : PinAt wr g2 o2 q := by have := hq0.below HW0.out; simpa using this
        have Hwq := Lib.hid hqW
        clear hq0 hqW
        have HPK := Lib.hid (fun (x : Later wr) => @Later.call Try.prog _ _ wr x _ (pinKey_any p x.at_))
        have HQK := Lib.hid (fun (x : Later wr) => @Later.call Try.prog _ _ wr x _ (pinKey_any q x.at_))
        have a0 : wr.cell? ⟨g1, o1, none⟩ = some (.string p.key.group) := by simpa using Hwp.out.2 0 _ rfl
        have a1 : wr.cell? ⟨g1, o1 + 1, none⟩ = some (.string p.key.artifact) := Hwp.out.2 1 _ rfl
        have a2 : wr.cell? ⟨g1, o1 + 2, none⟩ = some (.string p.key.type) := Hwp.out.2 2 _ rfl
        have a3 : wr.cell? ⟨g1, o1 + 3, none⟩ = some (.string p.key.classifier) := Hwp.out.2 3 _ rfl
        have a4 : wr.cell? ⟨g1, o1 + 4, none⟩ = some (.string p.version) := Hwp.out.2 4 _ rfl
        have a5 : wr.cell? ⟨g1, o1 + 5, none⟩ = some (.int .i64 p.scope) := Hwp.out.2 5 _ rfl
        have e0 : wr.cell? ⟨g2, o2, none⟩ = some (.string q.key.group) := by simpa using Hwq.out.2 0 _ rfl
        have e1 : wr.cell? ⟨g2, o2 + 1, none⟩ = some (.string q.key.artifact) := Hwq.out.2 1 _ rfl
        have e2 : wr.cell? ⟨g2, o2 + 2, none⟩ = some (.string q.key.type) := Hwq.out.2 2 _ rfl
        have e3 : wr.cell? ⟨g2, o2 + 3, none⟩ = some (.string q.key.classifier) := Hwq.out.2 3 _ rfl
        have e4 : wr.cell? ⟨g2, o2 + 4, none⟩ = some (.string q.version) := Hwq.out.2 4 _ rfl
        have e5 : wr.cell? ⟨g2, o2 + 5, none⟩ = some (.int .i64 q.scope) := Hwq.out.2 5 _ rfl
        have lg1 := Hwp.out.1
        have lg2 := Hwq.out.1
        have hLC := @Later.cells wr
        rcases merge_cases p.key q.key with hc | ⟨hc0, hc⟩ | ⟨hc0, hc⟩
        · skip
          have HC := Lib.hid (fun (x : Later wr) => compare_c p.key q.key x _ hc)
          have HCC := Lib.hid hc
          clear hc
          go_wp2_with fail
          refine region_later (by kernel_rfl) (by kernel_rfl) ?_
          repeat (go_big_quiet_step (first | (go_at_call 25; first | with_reducible exact HPK.out _ | with_reducible exact HQK.out _) | (go_at_call 31; exact HC.out _)))
          refine wpQuiet_nil ?_
          rintro _ ⟨nx, rfl⟩
          have HVW : Hid (Below wr.heap.size wr nx.at_) := nx.below
          clear hLC a0 a1 a2 a3 a4 a5 e0 e1 e2 e3 e4 e5 lg1 lg2
          generalize nx.at_ = V at *
          clear nx
          have HOV : Hid (OutAt B V out) := HOW.out.below HVW.out
          have HLE : Hid (out.length ≤ 1000) := by have h1 := HN.out; have h2 := HLL.out; show _ ≤ _; omega
          have Hp : Hid (PinAt V g1 o1 p) := Hwp.out.below HVW.out
          have a0 : V.cell? ⟨g1, o1, none⟩ = some (.string p.key.group) := by simpa using Hp.out.2 0 _ rfl
          have a1 : V.cell? ⟨g1, o1 + 1, none⟩ = some (.string p.key.artifact) := Hp.out.2 1 _ rfl
          have a2 : V.cell? ⟨g1, o1 + 2, none⟩ = some (.string p.key.type) := Hp.out.2 2 _ rfl
          have a3 : V.cell? ⟨g1, o1 + 3, none⟩ = some (.string p.key.classifier) := Hp.out.2 3 _ rfl
          have a4 : V.cell? ⟨g1, o1 + 4, none⟩ = some (.string p.version) := Hp.out.2 4 _ rfl
          have a5 : V.cell? ⟨g1, o1 + 5, none⟩ = some (.int .i64 p.scope) := Hp.out.2 5 _ rfl
          go_wp2_with fail
          have HCL : Hid (∀ w1, Below V.heap.size V.drew w1 → Calls Try.prog 26 #[.agg #[.string p.key.group, .string p.key.artifact, .string p.key.type, .string p.key.classifier], .pointer (some ⟨g1, o1, none⟩), .pointer none, .pointer (some ⟨B, 0, none⟩)] w1 fun e w' => e = .returned (.tuple #[]) ∧ OutAt B w' (out ++ oneE p.key (some p) none) ∧ Below B w1 w') := fun w1 hb1 => by
            have hb : Below V.heap.size V w1 := (belowN (Below.refl _ V) 1).trans hb1
            exact clo_l p.key w1 B out (HOV.out.below hb) HLE.out p g1 o1 (Hp.out.below hb)
          go_region_law (first | (go_simp; go_at_call 26; refine (HCL.out _ HB1.out).mono ?_; rintro e w2 ⟨rfl, ho2, hb2⟩; have HO2 := Lib.hid ho2; have HB2 := Lib.hid hb2; clear ho2 hb2) | (go_simp; go_at_call 25; refine (pinKey_any p _).mono ?_; rintro e w1 ⟨rfl, hb1⟩; have HB1 := Lib.hid hb1; clear hb1))
          all_goals
            go_wp2
            go_roundw
            case rel =>
              refine ⟨l, (q :: m), out ++ oneE p.key (some p) none, (HL.out.cut (k := 1) (by simp)), HM2.out, ?_, HO2.out, ?_, ?_⟩
              · exact by show _ = _; rw [HE.out, mergeP, if_pos HCC.out, List.append_assoc]
              · exact HBW.out.trans ((HVW.out.mono (Nat.le_of_lt HOW.out.lt)).trans ((belowN (Below.refl B V) 1).trans ((HB1.out.mono (Nat.le_of_lt HOV.out.lt)).trans HB2.out)))
              · have h1 := HN.out
                have h2 := oneE_len p.key (some p) none
                show _ ≤ _
                simp only [List.length_append, List.length_cons] at h1 ⊢
                omega
            case measure => simp [lenV]
        · skip
          have HN1 : Hid (cmpK p.key q.key ≠ -1) := by show _ ≠ _; rw [hc]; decide
          clear hc0
          have HC := Lib.hid (fun (x : Later wr) => compare_c p.key q.key x _ hc)
          have HCC := Lib.hid hc
          clear hc
          go_wp2_with fail
          refine region_later (by kernel_rfl) (by kernel_rfl) ?_
          repeat (go_big_quiet_step (first | (go_at_call 25; first | with_reducible exact HPK.out _ | with_reducible exact HQK.out _) | (go_at_call 31; exact HC.out _)))
          refine wpQuiet_nil ?_
          rintro _ ⟨nx, rfl⟩
          have HVW : Hid (Below wr.heap.size wr nx.at_) := nx.below
          clear hLC a0 a1 a2 a3 a4 a5 e0 e1 e2 e3 e4 e5 lg1 lg2
          generalize nx.at_ = V at *
          clear nx
          have HOV : Hid (OutAt B V out) := HOW.out.below HVW.out
          have HLE : Hid (out.length ≤ 1000) := by have h1 := HN.out; have h2 := HLL.out; show _ ≤ _; omega
          have Hq : Hid (PinAt V g2 o2 q) := Hwq.out.below HVW.out
          have e0 : V.cell? ⟨g2, o2, none⟩ = some (.string q.key.group) := by simpa using Hq.out.2 0 _ rfl
          have e1 : V.cell? ⟨g2, o2 + 1, none⟩ = some (.string q.key.artifact) := Hq.out.2 1 _ rfl
          have e2 : V.cell? ⟨g2, o2 + 2, none⟩ = some (.string q.key.type) := Hq.out.2 2 _ rfl
          have e3 : V.cell? ⟨g2, o2 + 3, none⟩ = some (.string q.key.classifier) := Hq.out.2 3 _ rfl
          have e4 : V.cell? ⟨g2, o2 + 4, none⟩ = some (.string q.version) := Hq.out.2 4 _ rfl
          have e5 : V.cell? ⟨g2, o2 + 5, none⟩ = some (.int .i64 q.scope) := Hq.out.2 5 _ rfl
          go_wp2_with fail
          have HCL : Hid (∀ w1, Below V.heap.size V.drew w1 → Calls Try.prog 26 #[.agg #[.string q.key.group, .string q.key.artifact, .string q.key.type, .string q.key.classifier], .pointer none, .pointer (some ⟨g2, o2, none⟩), .pointer (some ⟨B, 0, none⟩)] w1 fun e w' => e = .returned (.tuple #[]) ∧ OutAt B w' (out ++ oneE q.key none (some q)) ∧ Below B w1 w') := fun w1 hb1 => by
            have hb : Below V.heap.size V w1 := (belowN (Below.refl _ V) 1).trans hb1
            exact clo_m q.key w1 B out (HOV.out.below hb) HLE.out q g2 o2 (Hq.out.below hb)
          go_region_law (first | (go_simp; go_at_call 26; refine (HCL.out _ HB1.out).mono ?_; rintro e w2 ⟨rfl, ho2, hb2⟩; have HO2 := Lib.hid ho2; have HB2 := Lib.hid hb2; clear ho2 hb2) | (go_simp; go_at_call 25; refine (pinKey_any q _).mono ?_; rintro e w1 ⟨rfl, hb1⟩; have HB1 := Lib.hid hb1; clear hb1))
          all_goals
            go_wp2
            go_roundw
            case rel =>
              refine ⟨(p :: l), m, out ++ oneE q.key none (some q), HL.out, (HM2.out.cut (k := 1) (by simp)), ?_, HO2.out, ?_, ?_⟩
              · exact by show _ = _; rw [HE.out, mergeP, if_neg HN1.out, if_pos HCC.out, List.append_assoc]
              · exact HBW.out.trans ((HVW.out.mono (Nat.le_of_lt HOW.out.lt)).trans ((belowN (Below.refl B V) 1).trans ((HB1.out.mono (Nat.le_of_lt HOV.out.lt)).trans HB2.out)))
              · have h1 := HN.out
                have h2 := oneE_len q.key none (some q)
                show _ ≤ _
                simp only [List.length_append, List.length_cons] at h1 ⊢
                omega
            case measure => simp [lenV]
        · skip
          have HN1 : Hid (cmpK p.key q.key ≠ -1) := by show _ ≠ _; rw [hc]; decide
          have HN2 : Hid (cmpK p.key q.key ≠ 1) := by show _ ≠ _; rw [hc]; decide
          clear hc0
          have HC := Lib.hid (fun (x : Later wr) => compare_c p.key q.key x _ hc)
          have HCC := Lib.hid hc
          clear hc
          go_wp2_with fail
          refine region_later (by kernel_rfl) (by kernel_rfl) ?_
          repeat (go_big_quiet_step (first | (go_at_call 25; first | with_reducible exact HPK.out _ | with_reducible exact HQK.out _) | (go_at_call 31; exact HC.out _)))
          refine wpQuiet_nil ?_
          rintro _ ⟨nx, rfl⟩
          have HVW : Hid (Below wr.heap.size wr nx.at_) := nx.below
          clear hLC a0 a1 a2 a3 a4 a5 e0 e1 e2 e3 e4 e5 lg1 lg2
          generalize nx.at_ = V at *
          clear nx
          have HOV : Hid (OutAt B V out) := HOW.out.below HVW.out
          have HLE : Hid (out.length ≤ 1000) := by have h1 := HN.out; have h2 := HLL.out; show _ ≤ _; omega
          have Hp : Hid (PinAt V g1 o1 p) := Hwp.out.below HVW.out
          have a0 : V.cell? ⟨g1, o1, none⟩ = some (.string p.key.group) := by simpa using Hp.out.2 0 _ rfl
          have a1 : V.cell? ⟨g1, o1 + 1, none⟩ = some (.string p.key.artifact) := Hp.out.2 1 _ rfl
          have a2 : V.cell? ⟨g1, o1 + 2, none⟩ = some (.string p.key.type) := Hp.out.2 2 _ rfl
          have a3 : V.cell? ⟨g1, o1 + 3, none⟩ = some (.string p.key.classifier) := Hp.out.2 3 _ rfl
          have a4 : V.cell? ⟨g1, o1 + 4, none⟩ = some (.string p.version) := Hp.out.2 4 _ rfl
          have a5 : V.cell? ⟨g1, o1 + 5, none⟩ = some (.int .i64 p.scope) := Hp.out.2 5 _ rfl
          have Hq : Hid (PinAt V g2 o2 q) := Hwq.out.below HVW.out
          have e0 : V.cell? ⟨g2, o2, none⟩ = some (.string q.key.group) := by simpa using Hq.out.2 0 _ rfl
          have e1 : V.cell? ⟨g2, o2 + 1, none⟩ = some (.string q.key.artifact) := Hq.out.2 1 _ rfl
          have e2 : V.cell? ⟨g2, o2 + 2, none⟩ = some (.string q.key.type) := Hq.out.2 2 _ rfl
          have e3 : V.cell? ⟨g2, o2 + 3, none⟩ = some (.string q.key.classifier) := Hq.out.2 3 _ rfl
          have e4 : V.cell? ⟨g2, o2 + 4, none⟩ = some (.string q.version) := Hq.out.2 4 _ rfl
          have e5 : V.cell? ⟨g2, o2 + 5, none⟩ = some (.int .i64 q.scope) := Hq.out.2 5 _ rfl
          go_wp2_with fail
          have HCL : Hid (∀ w1, Below V.heap.size V.drew w1 → Calls Try.prog 26 #[.agg #[.string p.key.group, .string p.key.artifact, .string p.key.type, .string p.key.classifier], .pointer (some ⟨g1, o1, none⟩), .pointer (some ⟨g2, o2, none⟩), .pointer (some ⟨B, 0, none⟩)] w1 fun e w' => e = .returned (.tuple #[]) ∧ OutAt B w' (out ++ oneE p.key (some p) (some q)) ∧ Below B w1 w') := fun w1 hb1 => by
            have hb : Below V.heap.size V w1 := (belowN (Below.refl _ V) 1).trans hb1
            exact clo_lm p.key w1 B out (HOV.out.below hb) HLE.out p g1 o1 (Hp.out.below hb) q g2 o2 (Hq.out.below hb)
          go_region_law (first | (go_simp; go_at_call 26; refine (HCL.out _ HB1.out).mono ?_; rintro e w2 ⟨rfl, ho2, hb2⟩; have HO2 := Lib.hid ho2; have HB2 := Lib.hid hb2; clear ho2 hb2) | (go_simp; go_at_call 25; refine (pinKey_any p _).mono ?_; rintro e w1 ⟨rfl, hb1⟩; have HB1 := Lib.hid hb1; clear hb1))
          all_goals
            go_wp2_with fail
            go_quiet (fail)
            go_wp2
            go_roundw
            case rel =>
              refine ⟨l, m, out ++ oneE p.key (some p) (some q), (HL.out.cut (k := 1) (by simp)), (HM2.out.cut (k := 1) (by simp)), ?_, (HO2.out.below (belowN (Below.refl _ _) _)), ?_, ?_⟩
              · exact by show _ = _; rw [HE.out, mergeP, if_neg HN1.out, if_neg HN2.out, List.append_assoc]
              · exact HBW.out.trans ((HVW.out.mono (Nat.le_of_lt HOW.out.lt)).trans ((belowN (Below.refl B V) 1).trans ((HB1.out.mono (Nat.le_of_lt HOV.out.lt)).trans (belowN HB2.out _))))
              · have h1 := HN.out
                have h2 := oneE_len p.key (some p) (some q)
                show _ ≤ _
                simp only [List.length_append, List.length_cons] at h1 ⊢
                omega
            case measure => simp [lenV]; omega

end Go.Proofs.Ytmcjpmogjmnfpaa
