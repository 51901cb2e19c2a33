/- Walks: the document's find. -/
import Derived.Test.YtmcjpmogjmnfpaaL6
namespace Go.Proofs.Ytmcjpmogjmnfpaa
open Go Go.RowKit

def keyEq (p q : Key) : Bool := decide (p = q)
theorem eql_keyB (p q : Key) (w : World) : (binOp .eql 42 (.agg #[.string p.group, .string p.artifact, .string p.type, .string p.classifier]) (.agg #[.string q.group, .string q.artifact, .string q.type, .string q.classifier])).run Try.prog w = .ok (.bool (keyEq p q)) w := eql_keyE p q w
theorem size_pinF : (Try.prog.info? 44).map (·.size) = some 6 := by kernel_rfl
theorem findP_go {l : List Pin} {k : Key} {j : Nat} (hj : j < l.length) (h : findP (l.take j) k = none) (hne : ¬ l[j].key = k) : findP (l.take (j + 1)) k = none := by
  rw [List.take_succ_eq_append_getElem hj]
  unfold findP at h ⊢
  rw [List.find?_append, h]
  simpa using hne
theorem findP_end {l : List Pin} {k : Key} {j : Nat} (hj : j < l.length) (h : findP (l.take j) k = none) (he : l[j].key = k) : findP l k = some l[j] := by
  have h1 : l = l.take j ++ l[j] :: l.drop (j + 1) := by rw [← List.drop_eq_getElem_cons hj, List.take_append_drop]
  unfold findP at h ⊢
  conv => lhs; rw [h1]
  rw [List.find?_append, h, List.find?_cons_of_pos (by simpa using he)]
  rfl
theorem SliceOf.pinAtF {w : World} {ao : Option Addr} {len cap : Nat} {l : List Pin} (h : SliceOf 6 pinC w (.slice ao len cap) l) {k : Nat} (hk : k < l.length) : ∃ g o, ao = some ⟨g, o, none⟩ ∧ g < w.heap.size ∧ ∀ j u, (pinC l[k])[j]? = some u → w.cell? ⟨g, o + k * 6 + j, none⟩ = some u := by
  obtain ⟨b, o, h1, h2, h3⟩ := h.at hk
  exact ⟨b, o, h1, h2, h3⟩

attribute [local go_sem ↓] eqg_keyE eql_keyB in
set_option maxRecDepth 100000 in
set_option maxHeartbeats 4000000 in
theorem refFind_any (l : List Pin) (v : Value) (k : Key) (w : World) (hv : SliceOf 6 pinC w v l) : Calls Try.prog 29 #[v, .agg #[.string k.group, .string k.artifact, .string k.type, .string k.classifier]] w fun e w' => e = .returned (.tuple #[.agg (pinC ((findP l k).getD noPin)).toArray, .bool (findP l k).isSome]) ∧ Below w.heap.size w w' := by
  have hlm : l.length ≤ maxLen := by obtain ⟨a, c, e, h2, h3, -⟩ := hv; exact Nat.le_trans h2 h3
  have hlm' : l.length ≤ 9223372036854775807 := Nat.le_trans hlm (by decide)
  obtain ⟨ao, cap, rfl⟩ := hv.shape
  have HV := Lib.hid hv
  clear hv
  go_enter Try.func29, Try.ntmps29
  go_wp2_with fail
  refine wp_world ?_
  intro W hW
  have x3 : Box W w.heap.size [.string k.group, .string k.artifact, .string k.type, .string k.classifier] := by rw [hW]; exact (Box.new w _ _ _ rfl).alloc _
  have x4 : Box W (w.heap.size + 1) [.string ⟨#[]⟩, .string ⟨#[]⟩, .string ⟨#[]⟩, .string ⟨#[]⟩, .string ⟨#[]⟩, .int .i64 0] := by rw [hW]; exact Box.new _ _ _ _ (by simp)
  have hBW : Below w.heap.size w W := by rw [hW]; exact ((Below.refl _ w).alloc (Nat.le_refl _) _).alloc (by simp) _
  clear hW
  have HX3 := Lib.hid x3
  have HX4 := Lib.hid x4
  have HBW := Lib.hid hBW
  have hs := hBW.size
  clear x3 x4 hBW
  go_loopw [10] (fun i wr => ∃ j : Nat, j ≤ l.length ∧ i = .int .i64 j ∧ Hid (findP (l.take j) k = none) ∧ Below W.heap.size W wr) (fun i _ => l.length - (intOf i).toNat)
  case atStart => exact ⟨0, Nat.zero_le _, rfl, rfl, Below.refl _ _⟩
  case round =>
    obtain ⟨j, hj, rfl, hn, hb⟩ := hrel
    have x3' := HX3.out.below hb HX3.out.lt
    have x4' := HX4.out.below hb HX4.out.lt
    have HX4' := Lib.hid x4'
    have l3 := x3'.lt
    have l4 := x4'.lt
    have y0 := x3'.cell 0 _ rfl
    have y1 := x3'.cell 1 _ rfl
    have y2 := x3'.cell 2 _ rfl
    have y3 := x3'.cell 3 _ rfl
    have HB := Lib.hid (HBW.out.trans (hb.mono hs))
    have HBr := Lib.hid hb
    by_cases hlt : j < l.length
    · obtain ⟨g, o, rfl, hg, hc⟩ := (HV.out.below HB.out).pinAtF hlt
      have hji : (j : Int) < (l.length : Int) := by omega
      have c0 := hc 0 _ rfl
      have c1 := hc 1 _ rfl
      have c2 := hc 2 _ rfl
      have c3 := hc 3 _ rfl
      have c4 := hc 4 _ rfl
      have c5 := hc 5 _ rfl
      rw [Nat.add_zero] at c0
      clear x3' x4' hb hc
      by_cases he : l[j].key = k
      · have HF := Lib.hid (findP_end hlt hn.out he)
        clear hn
        subst he
        have hd : keyEq l[j].key l[j].key = true := decide_eq_true rfl
        have X4 : Hid (∀ o1, Box (wr.alloc o1) (w.heap.size + 1) [.string ⟨#[]⟩, .string ⟨#[]⟩, .string ⟨#[]⟩, .string ⟨#[]⟩, .string ⟨#[]⟩, .int .i64 0]) := fun o1 => HX4'.out.alloc _
        have HBA : Hid (∀ o1, Below w.heap.size w (wr.alloc o1)) := fun o1 => HB.out.alloc HB.out.size _
        go_wp2_with ((with_reducible show wpList _ _ _ (Oper.mk none (Op.store 44 (.tmp 4) (.tmp 18)) _ _ _ _ :: _) _ _); refine wpList_store_box rfl 44 (.tmp 4) (.tmp 18) rfl (w.heap.size + 1) [.string ⟨#[]⟩, .string ⟨#[]⟩, .string ⟨#[]⟩, .string ⟨#[]⟩, .string ⟨#[]⟩, .int .i64 0] [.string l[j].key.group, .string l[j].key.artifact, .string l[j].key.type, .string l[j].key.classifier, .string l[j].version, .int .i64 l[j].scope] rfl rfl (X4.out _) rfl size_pinF (by simp [Value.oneCell']) ?_; intro W9 v9 hg9)
        have z0 := v9.cell 0 _ rfl
        have z1 := v9.cell 1 _ rfl
        have z2 := v9.cell 2 _ rfl
        have z3 := v9.cell 3 _ rfl
        have z4 := v9.cell 4 _ rfl
        have z5 := v9.cell 5 _ rfl
        have HG9 := Lib.hid ((HBA.out _).trans ((below_grown hg9 (by simp; omega)).mono (by omega)))
        clear hg9 v9
        go_wp2
        refine bodyPost_ret (v := .tuple #[.agg #[.string l[j].key.group, .string l[j].key.artifact, .string l[j].key.type, .string l[j].key.classifier, .string l[j].version, .int .i64 l[j].scope], .bool true]) (by simp [results, Try.results29, go_sem, z0, z1, z2, z3, z4, z5]) rfl ?_
        exact ⟨by rw [HF.out]; rfl, HG9.out⟩
      · have hd : keyEq l[j].key k = false := decide_eq_false he
        have HN := Lib.hid (findP_go hlt hn.out he)
        clear hn
        go_wp2
        go_roundw
        case rel => exact ⟨j + 1, hlt, by go_num, HN.out, HBr.out.alloc HBr.out.size _⟩
        case measure => simp [intOf]; omega
    · obtain rfl : j = l.length := by omega
      have hji : ¬ (l.length : Int) < (l.length : Int) := by omega
      have HF : Hid (findP l k = none) := by have := hn.out; rwa [List.take_length] at this
      clear x3' x4' hb hn hlt
      go_wp2_with ((with_reducible show wpList _ _ _ (Oper.mk none (Op.store 44 (.tmp 4) (.tmp 20)) _ _ _ _ :: _) _ _); refine wpList_store_box rfl 44 (.tmp 4) (.tmp 20) rfl (w.heap.size + 1) [.string ⟨#[]⟩, .string ⟨#[]⟩, .string ⟨#[]⟩, .string ⟨#[]⟩, .string ⟨#[]⟩, .int .i64 0] [.string ⟨#[]⟩, .string ⟨#[]⟩, .string ⟨#[]⟩, .string ⟨#[]⟩, .string ⟨#[]⟩, .int .i64 0] rfl rfl HX4'.out rfl size_pinF (by simp [Value.oneCell']) ?_; intro W9 v9 hg9; have z0 := v9.cell 0 _ rfl; have z1 := v9.cell 1 _ rfl; have z2 := v9.cell 2 _ rfl; have z3 := v9.cell 3 _ rfl; have z4 := v9.cell 4 _ rfl; have z5 := v9.cell 5 _ rfl; have HG9 := Lib.hid (HB.out.trans ((below_grown hg9 (by omega)).mono (by omega))); clear hg9 v9)
      refine bodyPost_ret (v := .tuple #[.agg #[.string ⟨#[]⟩, .string ⟨#[]⟩, .string ⟨#[]⟩, .string ⟨#[]⟩, .string ⟨#[]⟩, .int .i64 0], .bool false]) (by simp [results, Try.results29, go_sem, z0, z1, z2, z3, z4, z5]) rfl ?_
      exact ⟨by rw [HF.out]; rfl, HG9.out⟩

end Go.Proofs.Ytmcjpmogjmnfpaa
