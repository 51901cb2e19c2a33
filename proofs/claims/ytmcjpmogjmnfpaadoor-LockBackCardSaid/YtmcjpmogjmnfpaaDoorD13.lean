/- Walk: the document's Print; the conditions stand in the theorems. -/
import Derived.Test.YtmcjpmogjmnfpaaDoorD12
namespace Go.Proofs.YtmcjpmogjmnfpaaDoor
open Go Go.RowKit

theorem pin_str {kx v wx : S} {p : Pin} (h1 : kx = bs (keyT p.key)) (h2 : v = p.version) (h3 : wx = bs (wordB p.scope)) : (⟨#[112, 105, 110, 32]⟩ : S) ++ kx ++ (⟨#[32]⟩ : S) ++ v ++ (⟨#[32]⟩ : S) ++ wx ++ (⟨#[10]⟩ : S) = bs (pinLine p) := by
  subst h1 h2 h3
  rw [show (⟨#[112, 105, 110, 32]⟩ : S) = bs (pinW ++ [32]) from rfl, show (⟨#[32]⟩ : S) = bs [32] from rfl, show (⟨#[10]⟩ : S) = bs [10] from rfl]
  conv => lhs; rw [← data_bs p.version]
  simp only [bs_append, pinLine, List.append_assoc, List.cons_append, List.nil_append]
theorem head_str (g : Gav) : (⟨#[112, 111, 109, 97, 99, 101, 32, 49, 10, 114, 111, 111, 116, 32]⟩ : S) ++ g.group ++ (⟨#[58]⟩ : S) ++ g.artifact ++ (⟨#[58]⟩ : S) ++ g.version ++ (⟨#[10]⟩ : S) = bs (headT g) := by
  rw [show (⟨#[112, 111, 109, 97, 99, 101, 32, 49, 10, 114, 111, 111, 116, 32]⟩ : S) = bs (headB ++ 10 :: rootW) from rfl, show (⟨#[58]⟩ : S) = bs [58] from rfl, show (⟨#[10]⟩ : S) = bs [10] from rfl]
  conv => lhs; rw [← data_bs g.group, ← data_bs g.artifact, ← data_bs g.version]
  simp only [bs_append, headT, gavT, List.append_assoc, List.cons_append, List.nil_append]

set_option maxRecDepth 100000 in
set_option maxHeartbeats 8000000 in
theorem refPrint_any (l : Lock) (v : Value) (w : World) (hv : SliceOf 6 pinC w v l.pins) (hl : lockS l) : Calls Tryd.prog 15 #[.agg #[.string l.root.group, .string l.root.artifact, .string l.root.version, v]] w fun e w' => e = .returned (.string (bs (printB l))) ∧ Below w.heap.size w w' := by
  obtain ⟨ao, cap, rfl⟩ := hv.shape
  have HV := Lib.hid hv
  have HL := Lib.hid hl
  have hn : l.pins.length ≤ 10000 := hl.len
  have HNI := Lib.hid hn
  have HHL : Hid ((headT l.root).length ≤ 3100) := headT_len hl.root
  have HCL : Hid (∀ k, ((l.pins.take k).flatMap pinLine).length ≤ l.pins.length * 5100) := cut_len hl.pins
  obtain ⟨r1, r2, r3⟩ := hl.root
  clear hv hl
  go_enter Tryd.func15, Tryd.ntmps15
  go_upto_region 1 with fail
  refine wp_world ?_
  intro W1 hW1
  have x0 : Box W1 w.heap.size [.string l.root.group, .string l.root.artifact, .string l.root.version, .slice ao l.pins.length cap] := by rw [hW1]; exact Box.new w _ _ _ rfl
  have hb1 : Below w.heap.size w W1 := by rw [hW1]; exact (Below.refl _ w).alloc (Nat.le_refl _) _
  clear hW1
  have X0 := Lib.hid x0
  have HB1 := Lib.hid hb1
  have c0 := x0.cell 0 _ rfl
  have c1 := x0.cell 1 _ rfl
  have c2 := x0.cell 2 _ rfl
  have c3 := x0.cell 3 _ rfl
  clear x0 hb1
  have HHS := Lib.hid (head_str l.root)
  have f1 : ¬ 9223372036854775807 < 14 + l.root.group.size := by omega
  have f2 : ¬ 9223372036854775807 < 14 + l.root.group.size + 1 := by omega
  have f3 : ¬ 9223372036854775807 < 14 + l.root.group.size + 1 + l.root.artifact.size := by omega
  have f4 : ¬ 9223372036854775807 < 14 + l.root.group.size + 1 + l.root.artifact.size + 1 := by omega
  have f5 : ¬ 9223372036854775807 < 14 + l.root.group.size + 1 + l.root.artifact.size + 1 + l.root.version.size := by omega
  have f6 : ¬ 9223372036854775807 < 14 + l.root.group.size + 1 + l.root.artifact.size + 1 + l.root.version.size + 1 := by omega
  go_upto_region 2 with fail
  rw [HHS.out]
  clear f1 f2 f3 f4 f5 f6 c0 c1 c2
  go_wp2_with fail
  go_loopw [24, 3] (fun iv sv wr => ∃ k : Nat, k ≤ l.pins.length ∧ iv = .int .i64 k ∧ sv = .string (bs (headT l.root ++ (l.pins.take k).flatMap pinLine)) ∧ Below W1.heap.size W1 wr) (fun iv _ _ => l.pins.length - (intOf iv).toNat)
  case atStart => exact ⟨0, Nat.zero_le _, rfl, by simp, Below.refl _ _⟩
  case round =>
    obtain ⟨k, hk, rfl, rfl, hb⟩ := hrel
    have HBK := Lib.hid hb
    have hlen := HCL.out k
    have hhl := HHL.out
    have hss : (bs (headT l.root ++ (l.pins.take k).flatMap pinLine)).size ≤ 100000000 := by rw [bs_size, List.length_append]; omega
    have HSS := Lib.hid hss
    have HB1s := Lib.hid (X0.out.lt)
    by_cases hlt : k < l.pins.length
    · have hi1 : (k : Int) < (l.pins.length : Int) := by omega
      obtain ⟨bb, oo, hao, hbl, hcell⟩ := (HV.out.below (HB1.out.trans (hb.mono HB1.out.size))).at hlt
      subst hao
      have g0 : wr.cell? ⟨bb, oo + k * 6, none⟩ = some (.string l.pins[k].key.group) := by simpa using hcell 0 _ rfl
      have g1 : wr.cell? ⟨bb, oo + k * 6 + 1, none⟩ = some (.string l.pins[k].key.artifact) := hcell 1 _ rfl
      have g2 : wr.cell? ⟨bb, oo + k * 6 + 2, none⟩ = some (.string l.pins[k].key.type) := hcell 2 _ rfl
      have g3 : wr.cell? ⟨bb, oo + k * 6 + 3, none⟩ = some (.string l.pins[k].key.classifier) := hcell 3 _ rfl
      have g4 : wr.cell? ⟨bb, oo + k * 6 + 4, none⟩ = some (.string l.pins[k].version) := hcell 4 _ rfl
      have g5 : wr.cell? ⟨bb, oo + k * 6 + 5, none⟩ = some (.int .i64 l.pins[k].scope) := hcell 5 _ rfl
      have HPS := Lib.hid (HL.out.pins _ (List.getElem_mem hlt))
      have HTL := Lib.hid (take_lines hlt)
      clear hcell hb hlen hhl
      generalize l.pins[k] = p at *
      have HPK := Lib.hid (fun V => refPrintKey_any p.key V HPS.out.1)
      have HWD := Lib.hid (fun V => refWord_any p.scope V)
      have hkz : (bs (keyT p.key)).size ≤ 4003 := by rw [bs_size]; exact keyT_len HPS.out.1
      have hwz : (bs (wordB p.scope)).size ≤ 10 := by rw [bs_size]; exact wordB_len _
      have hvz : p.version.size ≤ 1000 := HPS.out.2
      have HST : Hid (∀ v, v = p.version → (⟨#[112, 105, 110, 32]⟩ : S) ++ bs (keyT p.key) ++ (⟨#[32]⟩ : S) ++ v ++ (⟨#[32]⟩ : S) ++ bs (wordB p.scope) ++ (⟨#[10]⟩ : S) = bs (pinLine p)) := fun v hv => pin_str rfl hv rfl
      have HAP := Lib.hid (bs_append (headT l.root ++ (l.pins.take k).flatMap pinLine) (pinLine p))
      have HPL : Hid ((bs (pinLine p)).size ≤ 5100) := by show _ ≤ _; rw [bs_size]; exact pinLine_len HPS.out
      generalize bs (keyT p.key) = kx at *
      generalize bs (wordB p.scope) = wx at *
      generalize hsx : bs (headT l.root ++ (l.pins.take k).flatMap pinLine) = sx at *
      clear hsx
      have f1 : ¬ 9223372036854775807 < 4 + kx.size := by omega
      have f2 : ¬ 9223372036854775807 < 4 + kx.size + 1 := by omega
      have f3 : ¬ 9223372036854775807 < 4 + kx.size + 1 + p.version.size := by omega
      have f4 : ¬ 9223372036854775807 < 4 + kx.size + 1 + p.version.size + 1 := by omega
      have f5 : ¬ 9223372036854775807 < 4 + kx.size + 1 + p.version.size + 1 + wx.size := by omega
      have f6 : ¬ 9223372036854775807 < 4 + kx.size + 1 + p.version.size + 1 + wx.size + 1 := by omega
      have f7 : ¬ 9223372036854775807 < sx.size + (4 + kx.size + 1 + p.version.size + 1 + wx.size + 1) := by omega
      go_upto_region 5 with fail
      refine wp_world ?_
      intro W8 hW8
      have x8 : Box W8 wr.heap.size [.string p.key.group, .string p.key.artifact, .string p.key.type, .string p.key.classifier, .string p.version, .int .i64 p.scope] := by rw [hW8]; exact Box.new wr _ _ _ rfl
      have hb8 : Below wr.heap.size wr W8 := by rw [hW8]; exact (Below.refl _ wr).alloc (Nat.le_refl _) _
      clear hW8 g0 g1 g2 g3 g4 g5
      have HB8 := Lib.hid (HBK.out.trans (hb8.mono HBK.out.size))
      have hs8 : W1.heap.size ≤ W8.heap.size := HB8.out.size
      have z0 := x8.cell 0 _ rfl
      have z1 := x8.cell 1 _ rfl
      have z2 := x8.cell 2 _ rfl
      have z3 := x8.cell 3 _ rfl
      have z4 := x8.cell 4 _ rfl
      have z5 := x8.cell 5 _ rfl
      have l8 := x8.lt
      have hLC := @Later.cells W8
      have HP8 : Hid (∀ x : Later W8, Calls Tryd.prog 41 #[.agg #[.string p.key.group, .string p.key.artifact, .string p.key.type, .string p.key.classifier]] x.at_ fun e w'' => e = .returned (.string kx) ∧ ∃ y : Later W8, w'' = y.at_) := fun x => Later.call (HPK.out _)
      have HW8 : Hid (∀ x : Later W8, Calls Tryd.prog 42 #[.int .i64 p.scope] x.at_ fun e w'' => e = .returned (.string wx) ∧ ∃ y : Later W8, w'' = y.at_) := fun x => Later.call (HWD.out _)
      clear x8 hb8 HPK HWD hkz hwz hvz hss
      refine region_later (by kernel_rfl) (by kernel_rfl) ?_
      repeat (go_big_quiet_step ((first | (go_at_call 41; with_reducible exact HP8.out _) | (go_at_call 42; with_reducible exact HW8.out _))))
      refine wpQuiet_nil ?_
      rintro _ ⟨nx, rfl⟩
      have HZ : Hid (Below W1.heap.size W1 nx.at_) := HB8.out.trans (nx.below.mono hs8)
      clear hLC z0 z1 z2 z3 z4 z5 l8 f1 f2 f3 f4 f5 f6 f7
      generalize nx.at_ = wn at *
      rw [HST.out _ rfl, HAP.out]
      go_wp2
      go_roundw
      case rel => exact ⟨k + 1, hlt, by go_num, by rw [HTL.out, List.append_assoc], HZ.out⟩
      case measure => simp [intOf]; omega
    · obtain rfl : k = l.pins.length := by omega
      have hi1 : ¬ (l.pins.length : Int) < (l.pins.length : Int) := by omega
      rw [List.take_length] at *
      have HNU := Lib.hid (fun V => refNumber_any l.pins.length V (by have := HNI.out; omega))
      have HNL : Hid ((bs (numB l.pins.length)).size ≤ 100) := by
        have h1 := numB_len 7 l.pins.length (by have := HNI.out; omega)
        show _ ≤ _
        rw [bs_size]; omega
      have HAP : Hid (bs (headT l.root ++ l.pins.flatMap pinLine) ++ (⟨#[101, 110, 100, 32]⟩ : S) ++ bs (numB l.pins.length) ++ (⟨#[10]⟩ : S) = bs (printB l)) := by
        show _ = _
        rw [show (⟨#[101, 110, 100, 32]⟩ : S) = bs [101, 110, 100, 32] from rfl, show (⟨#[10]⟩ : S) = bs [10] from rfl]
        simp only [bs_append, printB, endB, List.append_assoc, List.cons_append, List.nil_append]
      have c3' : wr.cell? ⟨w.heap.size, 3, none⟩ = some (.slice ao l.pins.length cap) := (hb.cell (p := ⟨w.heap.size, 3, none⟩) (by exact X0.out.lt)).trans c3
      have HB9 := Lib.hid (HB1.out.trans (hb.mono HB1.out.size))
      clear hb hlen hhl hlt c3
      generalize hsx : bs (headT l.root ++ l.pins.flatMap pinLine) = sx at *
      generalize bs (numB l.pins.length) = nb at *
      clear hsx
      have f1 : ¬ 9223372036854775807 < sx.size + 4 := by omega
      have f2 : ¬ 9223372036854775807 < sx.size + 4 + nb.size := by have := HNL.out; omega
      have f3 : ¬ 9223372036854775807 < sx.size + 4 + nb.size + 1 := by have := HNL.out; omega
      go_wp2_with fail
      refine (HNU.out _).mono ?_
      rintro e w5 ⟨rfl, hb5⟩
      have HB10 := Lib.hid (HB9.out.trans (hb5.mono HB9.out.size))
      clear hb5
      go_wp2
      go_ret
      exact ⟨by rw [← HAP.out]; rfl, HB10.out⟩

end Go.Proofs.YtmcjpmogjmnfpaaDoor
