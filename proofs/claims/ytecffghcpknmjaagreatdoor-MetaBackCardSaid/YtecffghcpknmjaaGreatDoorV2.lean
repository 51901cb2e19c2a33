/- The walks of chars.Lower and of strings.TrimLeft by the byte 0; the conditions stand in the theorems. -/
import Derived.Test.YtecffghcpknmjaaGreatDoorV1
import Derived.IntWalk
namespace Go.Proofs.YtecffghcpknmjaaGreatDoor
open Go Go.RowKit

theorem bytesW_free (w : World) (s : S) (j : Nat) (h : j < s.size) : (bytesW w s).frozen? ⟨w.heap.size, j, none⟩ = false := by
  have hh : (bytesW w s).heap[w.heap.size]? = some (.cells (bytesRow s (bytesC w s)) 5 ((bytesRow s (bytesC w s)).size, (bytesRow s (bytesC w s)).size + 1)) := by
    show (w.heap.push _)[w.heap.size]? = _
    simp
  have hs : j < s.data.size := h
  have hr : s.data.size ≤ (bytesRow s (bytesC w s)).size := by unfold bytesRow; simp
  simp only [World.frozen?, hh]
  simp; omega
def LowRow (w : World) (H : Nat) (s : S) (k : Nat) : Prop := ∀ j (h : j < s.size), w.cell? ⟨H, j, none⟩ = some (.int .u8 ((if j < k then lowV s[j] else s[j]).toNat : Nat)) ∧ w.frozen? ⟨H, j, none⟩ = false
theorem lowV_nat {c : UInt8} (h : 65 ≤ c.toNat ∧ c.toNat ≤ 90) : (lowV c).toNat = c.toNat + 32 := by
  unfold lowV
  rw [if_pos h, UInt8.toNat_add]
  show (c.toNat + 32) % 256 = _
  omega
theorem lowV_no {c : UInt8} (h : ¬ (65 ≤ c.toNat ∧ c.toNat ≤ 90)) : lowV c = c := by unfold lowV; rw [if_neg h]
theorem LowRow.keep {w : World} {H : Nat} {s : S} {k : Nat} (h : LowRow w H s k) (hk : k < s.size) (hl : lowV s[k] = s[k]) : LowRow w H s (k + 1) := fun j hj => by
  refine ⟨?_, (h j hj).2⟩
  rw [(h j hj).1]
  by_cases h1 : j < k
  · rw [if_pos h1, if_pos (by omega)]
  · by_cases h2 : j = k
    · subst h2; rw [if_neg h1, if_pos (by omega), hl]
    · rw [if_neg h1, if_neg (by omega)]
theorem LowRow.set {w : World} {H : Nat} {s : S} {k : Nat} (h : LowRow w H s k) (hk : k < s.size) : LowRow (w.setCell ⟨H, k, none⟩ (.int .u8 ((lowV s[k]).toNat : Nat))) H s (k + 1) := fun j hj => by
  by_cases h2 : j = k
  · subst h2
    refine ⟨?_, by simpa using (h j hj).2⟩
    rw [if_pos (by omega)]
    exact World.cell?_setCell_same _ _ _ (h j hj).1
  · refine ⟨(World.cell?_setCell_other _ _ _ _ (fun e => h2 (by cases e; rfl))).trans ((h j hj).1.trans ?_), by simpa using (h j hj).2⟩
    by_cases h1 : j < k
    · rw [if_pos h1, if_pos (by omega)]
    · rw [if_neg h1, if_neg (by omega)]
set_option maxRecDepth 100000 in
set_option maxHeartbeats 4000000 in
theorem lower_any (s : S) (w : World) (hs : s.size ≤ 9223372036854775807) : Calls Tryz.prog 101 #[.string s] w fun e w' => e = .returned (.string (bs (s.data.toList.map lowV))) ∧ Below w.heap.size w w' := by
  have hcv := fun (w : World) => conv_bytes w s
  go_enter Tryz.func101, Tryz.ntmps101
  go_wp2_with fail
  clear hcv
  refine wp_world ?_
  intro W hW
  have hrow : LowRow W w.heap.size s 0 := fun j hj => by
    rw [hW]
    exact ⟨by rw [if_neg (by omega)]; exact bytesW_cell w s j hj, bytesW_free w s j hj⟩
  have hbel := bytesW_below w s w.heap.size (Nat.le_refl _)
  have hsz := bytesW_size w s
  rw [← hW] at hbel hsz
  have HR0 := Lib.hid hrow
  have HB0 := Lib.hid hbel
  have hlw : w.heap.size < W.heap.size := by omega
  clear hW hrow hbel hsz
  generalize bytesC w s = cap at *
  go_loopw [10] (fun i wr => ∃ k : Nat, k ≤ s.size ∧ i = .int .i64 k ∧ Hid (Below w.heap.size w wr) ∧ w.heap.size < wr.heap.size ∧ Hid (LowRow wr w.heap.size s k)) (fun i _ => s.size - (intOf i).toNat)
  case atStart => exact ⟨0, Nat.zero_le _, rfl, HB0, hlw, HR0⟩
  case round =>
    obtain ⟨k, hk, rfl, HB, hlr, HR⟩ := hrel
    by_cases hlt : k < s.size
    · have c0 := (HR.out k hlt).1
      rw [if_neg (Nat.lt_irrefl k)] at c0
      have z0 := (HR.out k hlt).2
      by_cases h1 : 65 ≤ s[k].toNat
      · by_cases h2 : s[k].toNat ≤ 90
        · have hl := lowV_nat ⟨h1, h2⟩
          have hw1 : IntKind.u8.wrap ((s[k].toNat : Int) + 97) = (s[k].toNat : Int) + 97 := IntWalk.u8_in _ (by omega)
          have hw2 : IntKind.u8.wrap ((s[k].toNat : Int) + 97 - 65) = ((lowV s[k]).toNat : Nat) := by rw [IntWalk.u8_in _ (by omega), hl]; omega
          have HN := Lib.hid (HR.out.set hlt)
          have HBN := Lib.hid (HB.out.setCell (p := ⟨w.heap.size, k, none⟩) (by simp) (.int .u8 ((lowV s[k]).toNat : Nat)))
          have hsz : w.heap.size < (wr.setCell ⟨w.heap.size, k, none⟩ (.int .u8 ((lowV s[k]).toNat : Nat))).heap.size := by simpa [World.setCell] using hlr
          clear hl HR HB
          go_wp2
          go_roundw
          case rel => exact ⟨k + 1, by omega, by go_num, HBN, hsz, HN⟩
          case measure => simp [intOf]; omega
        · have HN := Lib.hid (HR.out.keep hlt (lowV_no (fun e => h2 e.2)))
          clear HR
          go_wp2
          go_roundw
          case rel => exact ⟨k + 1, by omega, by go_num, HB, hlr, HN⟩
          case measure => simp [intOf]; omega
      · have HN := Lib.hid (HR.out.keep hlt (lowV_no (fun e => h1 e.1)))
        clear HR
        go_wp2
        go_roundw
        case rel => exact ⟨k + 1, by omega, by go_num, HB, hlr, HN⟩
        case measure => simp [intOf]; omega
    · obtain rfl : k = s.size := by omega
      have hlen : (s.data.toList.map lowV).length = s.size := by rw [List.length_map, size_data]
      have hcv : (convert 72 9 (.slice (some ⟨w.heap.size, 0, none⟩) s.size cap)).run Tryz.prog wr = .ok (.string (bs (s.data.toList.map lowV))) wr := by
        rw [← hlen]
        refine run_convert_bytes_back (P := Tryz.prog) wr 72 9 5 ⟨w.heap.size, 0, none⟩ cap (s.data.toList.map lowV) Tryz.underlying72 Tryz.underlying5 Tryz.underlying9 (fun j hj => ?_)
        have hj' : j < s.size := by rw [← hlen]; exact hj
        have := (HR.out j hj').1
        rw [if_pos hj'] at this
        rw [Addr.add_lit, Nat.zero_add, this, List.getElem_map]
        rfl
      clear hlen
      go_wp2
      go_ret
      exact ⟨rfl, HB.out⟩

end Go.Proofs.YtecffghcpknmjaaGreatDoor
