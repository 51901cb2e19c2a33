/- The plain law of merged Metas; the walk of the statements' has; the conditions stand in the theorems. -/
import Derived.Test.YtecffghcpknmjaaDoorJM08
namespace Go.Proofs.YtecffghcpknmjaaDoor
open Go Go.RowKit

theorem rowM_iff {l : List S} : ∀ (n k : Nat), k + n = l.length → (rowM l n k = true ↔ ∀ j (hj : j < l.length), k ≤ j → stepM l j l[j] = true)
  | 0, k, h => by
    constructor
    · intro _ j hj hk; omega
    · intro _; rfl
  | n + 1, k, h => by
    have hk : k < l.length := by omega
    have ih := rowM_iff (l := l) n (k + 1) (by omega)
    have e : rowM l (n + 1) k = (stepM l k l[k] && rowM l n (k + 1)) := by
      conv => lhs; unfold rowM
      rw [List.getElem?_eq_getElem hk]
    rw [e, Bool.and_eq_true, ih]
    constructor
    · rintro ⟨h1, h2⟩ j hj hkj
      by_cases e : j = k
      · subst e; exact h1
      · exact h2 j hj (by omega)
    · intro h2
      exact ⟨h2 k hk (Nat.le_refl _), fun j hj hkj => h2 j hj (by omega)⟩
theorem stepM_iff {l : List S} {k : Nat} (hk : k < l.length) : stepM l k l[k] = true ↔ verMay l[k] = true ∧ l[k] ∉ l.take k ∧ (∀ (h : 0 < k), ltSV l[k] (l[k - 1]'(by omega)) = false) := by
  unfold stepM
  rw [Bool.and_eq_true, Bool.and_eq_true, and_assoc, Bool.not_eq_true', Bool.not_eq_true', ← memB_iff (l := l.take k), Bool.not_eq_true]
  refine and_congr Iff.rfl (and_congr Iff.rfl ?_)
  by_cases h0 : 0 < k
  · rw [decide_eq_true h0, Bool.true_and]
    have hg : l.getD (k - 1) ⟨#[]⟩ = l[k - 1]'(by omega) := by rw [List.getD_eq_getElem?_getD, List.getElem?_eq_getElem (by omega : k - 1 < l.length)]; rfl
    rw [hg]
    have hf := cmpSV_cmpr.flip (l[k - 1]'(by omega)) l[k]
    unfold ltSV
    constructor
    · intro h _
      have h1 := of_decide_eq_false h
      exact decide_eq_false (by omega)
    · intro h
      have h1 := of_decide_eq_false (h h0)
      exact decide_eq_false (by omega)
  · rw [decide_eq_false h0, Bool.false_and]
    exact ⟨fun _ h => absurd h h0, fun _ => rfl⟩
/-- What the versions of a Meta that may be are. -/
structure RowOk (l : List S) : Prop where
  may : ∀ x ∈ l, verMay x = true
  nd : l.Nodup
  srt : Srt ltSV l
theorem rowOk_iff {l : List S} : rowM l l.length 0 = true ↔ RowOk l := by
  rw [rowM_iff l.length 0 (by omega)]
  constructor
  · intro h
    have h' := fun j hj => (stepM_iff hj).1 (h j hj (Nat.zero_le _))
    refine ⟨fun x hx => ?_, ?_, ?_⟩
    · obtain ⟨j, hj, rfl⟩ := List.mem_iff_getElem.1 hx
      exact (h' j hj).1
    · rw [List.nodup_iff_pairwise_ne, List.pairwise_iff_getElem]
      intro i j hi hj hij e
      refine (h' j hj).2.1 ?_
      rw [← e]
      exact List.mem_iff_getElem.2 ⟨i, by rw [List.length_take]; omega, by rw [List.getElem_take]⟩
    · unfold Srt
      rw [List.pairwise_iff_getElem]
      have key : ∀ d i (hi : i < l.length) (hd : i + d < l.length), ltSV l[i + d] l[i] = false := fun d => by
        induction d with
        | zero => intro i hi _; exact ltSV_weak.irr _
        | succ d ih =>
          intro i hi hd
          have h1 := ih i hi (by omega)
          have h2 := (h' (i + (d + 1)) hd).2.2 (by omega)
          exact ltSV_weak.leT h1 h2
      intro i j hi hj hij
      obtain ⟨d, rfl⟩ : ∃ d, j = i + d := ⟨j - i, by omega⟩
      exact key d i hi hj
  · rintro ⟨h1, h2, h3⟩ j hj _
    rw [stepM_iff hj]
    refine ⟨h1 _ (List.getElem_mem hj), fun hm => ?_, fun h0 => ?_⟩
    · obtain ⟨i, hi, e⟩ := List.mem_iff_getElem.1 hm
      rw [List.length_take] at hi
      rw [List.getElem_take] at e
      rw [List.nodup_iff_pairwise_ne, List.pairwise_iff_getElem] at h2
      exact h2 i j (by omega) hj (by omega) e
    · unfold Srt at h3
      rw [List.pairwise_iff_getElem] at h3
      exact h3 (j - 1) j (by omega) hj (by omega)
theorem mayM_iff {m : MetaD} : mayM m = true ↔ isIdB m.id.group = true ∧ isIdB m.id.artifact = true ∧ m.vers ≠ [] ∧ m.vers.length ≤ 1024 ∧ RowOk m.vers ∧ m.latest = lastV m.vers ∧ m.rel = relV m.vers := by
  unfold mayM
  simp only [Bool.and_eq_true, decide_eq_true_eq, rowOk_iff, Bool.not_eq_true', List.isEmpty_eq_false_iff, and_assoc]
theorem restM_mem {l m : List S} {x : S} : x ∈ restM l m ↔ x ∈ m ∧ x ∉ l := by
  unfold restM
  rw [List.mem_filter, Bool.not_eq_true', ← memB_iff (l := l), Bool.not_eq_true]
theorem restM_self (l : List S) : restM l l = [] := by
  apply List.eq_nil_iff_forall_not_mem.2
  intro x hx
  exact (restM_mem.1 hx).2 (restM_mem.1 hx).1
theorem joinM_nd {l m : List S} (hl : l.Nodup) (hm : m.Nodup) : (l ++ restM l m).Nodup := by
  rw [List.nodup_append]
  exact ⟨hl, hm.filter _, fun x hx y hy e => (restM_mem.1 hy).2 (e ▸ hx)⟩
theorem joinM_mem {l m : List S} {x : S} : x ∈ l ++ restM l m ↔ x ∈ l ∨ x ∈ m := by
  rw [List.mem_append, restM_mem]
  constructor
  · rintro (h | h)
    · exact .inl h
    · exact .inr h.1
  · rintro (h | h)
    · exact .inl h
    · by_cases hl : x ∈ l
      · exact .inl hl
      · exact .inr ⟨h, hl⟩
theorem srt_perm_eqv {l m : List S} (hp : l.Perm m) (hl : Srt ltSV l) (hm : Srt ltSV m) : ∀ i (hi : i < l.length) (hj : i < m.length), ltSV l[i] m[i] = false := by
  intro i hi hj
  cases hc : ltSV l[i] m[i] with
  | false => rfl
  | true =>
    exfalso
    have e := hp.countP_eq (fun x => !ltSV l[i] x)
    have h1 : i + 1 ≤ l.countP (fun x => !ltSV l[i] x) := by
      have h2 : (l.take (i + 1)).countP (fun x => !ltSV l[i] x) = i + 1 := by
        rw [List.countP_eq_length.2 fun x hx => ?_, List.length_take]
        · omega
        · obtain ⟨j, hj', rfl⟩ := List.mem_iff_getElem.1 hx
          rw [List.length_take] at hj'
          rw [List.getElem_take, Bool.not_eq_true']
          exact srt_at' ltSV_weak hl (List.getElem?_eq_getElem (by omega)) (List.getElem?_eq_getElem hi) (by omega)
      calc i + 1 = _ := h2.symm
        _ ≤ _ := (List.take_sublist _ _).countP_le
    have h3 : m.countP (fun x => !ltSV l[i] x) ≤ i := by
      rw [← List.take_append_drop i m, List.countP_append]
      have h4 : (m.drop i).countP (fun x => !ltSV l[i] x) = 0 := by
        rw [List.countP_eq_zero]
        intro x hx
        obtain ⟨j, hj', rfl⟩ := List.mem_iff_getElem.1 hx
        rw [List.length_drop] at hj'
        rw [List.getElem_drop, Bool.not_eq_true', Bool.not_eq_false]
        exact ltSV_weak.lt_of hc (srt_at' ltSV_weak hm (List.getElem?_eq_getElem hj) (List.getElem?_eq_getElem (by omega)) (by omega))
      have h5 := List.countP_le_length (p := fun x => !ltSV l[i] x) (l := m.take i)
      rw [List.length_take] at h5
      omega
    omega
/-- All that the law asks of two Metas that may be and are merged. -/
structure MergedOk (a b : MetaD) (M N O : List S) : Prop where
  own : O = a.vers
  may : mayM ⟨a.id, M, lastV M, relV M⟩ = true
  len : M.length = N.length
  mem : ∀ x ∈ M, x ∈ a.vers ∨ x ∈ b.vers
  cmp : ∀ i (hi : i < M.length) (hj : i < N.length), cmpSV M[i] N[i] = 0
  back : ∀ x, x ∈ a.vers ++ b.vers → x ∈ M
theorem merged_ok {a b : MetaD} {M N O : List S} (ha : mayM a = true) (hb : mayM b = true) (la : a.vers.length ≤ 40) (lb : b.vers.length ≤ 40)
    (hM : Srt ltSV M ∧ SameE ltSV (a.vers ++ restM a.vers b.vers) M) (hN : Srt ltSV N ∧ SameE ltSV (b.vers ++ restM b.vers a.vers) N) (hO : Srt ltSV O ∧ SameE ltSV (a.vers ++ restM a.vers a.vers) O) : MergedOk a b M N O := by
  obtain ⟨a1, a2, a3, a4, ra, -, -⟩ := mayM_iff.1 ha
  obtain ⟨-, -, b3, b4, rb, -, -⟩ := mayM_iff.1 hb
  have pM := hM.2.perm ltSV_weak
  have pN := hN.2.perm ltSV_weak
  have nM : M.Nodup := pM.nodup_iff.1 (joinM_nd ra.nd rb.nd)
  have nN : N.Nodup := pN.nodup_iff.1 (joinM_nd rb.nd ra.nd)
  have mM : ∀ x, x ∈ M ↔ x ∈ a.vers ∨ x ∈ b.vers := fun x => by rw [← pM.mem_iff, joinM_mem]
  have mN : ∀ x, x ∈ N ↔ x ∈ b.vers ∨ x ∈ a.vers := fun x => by rw [← pN.mem_iff, joinM_mem]
  have hp : M.Perm N := (List.perm_ext_iff_of_nodup nM nN).2 fun x => by rw [mM, mN, or_comm]
  have hlen : M.length ≤ 80 := by
    rw [← pM.length_eq, List.length_append]
    have := restM_len a.vers b.vers
    omega
  refine ⟨?_, mayM_iff.2 ⟨a1, a2, fun e => ?_, by show M.length ≤ 1024; omega, ⟨fun x hx => ?_, nM, hM.1⟩, rfl, rfl⟩, hp.length_eq, fun x hx => (mM x).1 hx, fun i hi hj => ?_, fun x hx => (mM x).2 (by rwa [List.mem_append] at hx)⟩
  · rw [restM_self, List.append_nil] at hO
    exact (srt_uniq ltSV_weak ra.srt hO.1 hO.2).symm
  · obtain ⟨x, hx⟩ := List.exists_mem_of_ne_nil _ a3
    have h9 := (mM x).2 (.inl hx)
    have e' : M = [] := e
    rw [e'] at h9
    cases h9
  · rcases (mM x).1 hx with h | h
    · exact ra.may x h
    · exact rb.may x h
  · have h1 := srt_perm_eqv hp hM.1 hN.1 i hi hj
    have h2 := srt_perm_eqv hp.symm hN.1 hM.1 i hj hi
    have h3 := cmpSV_cmpr.flip M[i] N[i]
    unfold ltSV at h1 h2
    have h4 := of_decide_eq_false h1
    have h5 := of_decide_eq_false h2
    omega
attribute [local go_sem ↓] str_beqV in
set_option maxRecDepth 100000 in
set_option maxHeartbeats 4000000 in
theorem hasM_any {w : World} {v : Value} {l : List S} (x : S) (h : SliceOf 1 strC w v l) (hl : l.length ≤ 1000000) :
    Calls Tryd.prog 17 #[v, .string x] w fun e w' => e = .returned (.bool (memB l x)) ∧ w = w' := by
  have HS := Lib.hid h
  have HL := Lib.hid hl
  obtain ⟨ao, c, rfl⟩ := h.shape
  clear h hl
  go_enter Tryd.func17, Tryd.ntmps17
  go_upto_region 2 with fail
  go_loopw [9] (fun i wr => ∃ k : Nat, i = .int .i64 k ∧ k ≤ l.length ∧ w = wr ∧ Hid (memB l x = memB (l.drop k) x)) (fun i _ => l.length - (intOf i).toNat)
  case atStart => exact ⟨0, rfl, Nat.zero_le _, rfl, rfl⟩
  case round =>
    obtain ⟨k, rfl, hk, rfl, HM⟩ := hrel
    by_cases hlt : k < l.length
    · obtain ⟨b, o, hao, hbl, hc⟩ := HS.out.at1 hlt
      cases hao
      have d1 : (k : Int) < (l.length : Int) := by omega
      have wk : IntKind.i64.wrap ((k : Int) + 1) = (k : Int) + 1 := IntWalk.i64_in _ (by have := HL.out; omega)
      have HD : Hid (memB l x = (decide (l[k] = x) || memB (l.drop (k + 1)) x)) := by
        show _ = _
        rw [HM.out, drop_cons' hlt]; rfl
      generalize l[k] = y at *
      clear HM
      obtain ⟨q, hq⟩ : ∃ q, decide (y = x) = q := ⟨_, rfl⟩
      rw [hq] at HD
      cases q with
      | true =>
        go_wp2
        go_ret
        exact ⟨by rw [HD.out]; rfl, by trivial⟩
      | false =>
        go_wp2
        go_roundw
        case rel => exact ⟨k + 1, by first | rfl | go_num, hlt, (by trivial), HD⟩
        case measure => simp [intOf]; omega
    · obtain rfl : k = l.length := by omega
      have d1 : ¬ (l.length : Int) < (l.length : Int) := by omega
      have HD : Hid (memB l x = false) := by show _ = _; rw [HM.out, List.drop_length]; rfl
      clear HM
      go_wp2
      go_ret
      exact ⟨by rw [HD.out]; rfl, by trivial⟩

end Go.Proofs.YtecffghcpknmjaaDoor
