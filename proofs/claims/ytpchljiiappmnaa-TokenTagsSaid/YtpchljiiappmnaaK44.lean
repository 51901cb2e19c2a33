/- The walk of the law TokenTags; its conditions stand in the theorem. -/
import Derived.Test.YtpchljiiappmnaaK31
import Derived.Test.YtpchljiiappmnaaK36
import Derived.Test.YtpchljiiappmnaaK42
import Derived.Test.YtpchljiiappmnaaK43
namespace Go.Proofs.Ytpchljiiappmnaa
open Go Go.RowKit

theorem aposEsc_one (c : UInt8) : (aposR (escC true c)).length ≤ 6 := by
  by_cases h39 : c = 39
  · subst h39; decide
  · have hn : (39 : UInt8) ∉ escC true c := by
      unfold escC; repeat' split
      all_goals first | decide | (simp; exact Ne.symm h39)
    rw [aposR_id _ hn]; exact (escC_len true c).2
theorem aposEsc_len (l : Bs) : (aposR (esc true l)).length ≤ 6 * l.length := by
  induction l with
  | nil => exact Nat.le_refl _
  | cons c l ih =>
    have := aposEsc_one c
    show (aposR (escC true c ++ esc true l)).length ≤ _
    rw [aposR_append, List.length_append, List.length_cons]
    omega

/-- A slice literal of one token. -/
theorem tksLit (w : World) (T : TypeId) (H : Nat) (hH : w.heap.size = H) (k : Int) (s : S) (v : Value) (l : List At2) (hl : SliceOf 2 atC w v l) :
    TksOf (w.alloc (.cells #[.int .i64 k, .string s, v, .string ⟨#[]⟩, .int .i64 0, .int .i64 0, .int .i64 0] T)) (.slice (some ⟨H, 0, none⟩) 1 1) [⟨k, s.data.toList, l, []⟩] := by
  obtain ⟨nm, rfl⟩ : ∃ nm, s = bs nm := ⟨s.data.toList, (data_bs s).symm⟩
  rw [bs_data]
  have h := sliceLit tkC_len w [⟨⟨k, nm, l, []⟩, v, 0, 0, 0⟩] T H 1 hH rfl (by unfold maxLen; simp)
  refine ⟨_, h, ?_, rfl⟩
  intro x hx
  simp at hx
  subst hx
  exact hl.below ((Below.refl _ _).alloc (Nat.le_refl _) _)
theorem TokSl.tks {base : Nat} {w : World} {s : S} {ov : Value} {L : List TkM} {acc : List (Tk × Bs)} (h : TokSl base w s ov L acc) : TksOf w ov (acc.map (·.1)) := by
  refine ⟨L, h.own.slice tkC_len, fun x hx => (h.att x hx).slice atC_len, ?_⟩
  have := congrArg (List.map Prod.fst) h.is
  simpa [List.map_map, Function.comp_def] using this
/-- The text of one attribute, as the law puts it together. -/
theorem att_double {N V E : S} {a : At2} (h1 : N.data.toList = a.1) (h2 : V.data.toList = a.2) (h3 : E = bs (esc true V.data.toList)) : (⟨#[32]⟩ : S) ++ N ++ (⟨#[61, 34]⟩ : S) ++ E ++ (⟨#[34]⟩ : S) = bs (attT false a) := by
  rw [h3, h2, ← data_bs N, h1, show (⟨#[32]⟩ : S) = bs [32] from rfl, show (⟨#[61, 34]⟩ : S) = bs [61, 34] from rfl, show (⟨#[34]⟩ : S) = bs [34] from rfl, bs_append, bs_append, bs_append, bs_append]
  simp [attT]
theorem att_single {N V E : S} {a : At2} (h1 : N.data.toList = a.1) (h2 : V.data.toList = a.2) (h3 : E = bs (esc true V.data.toList)) : (⟨#[10]⟩ : S) ++ N ++ (⟨#[32, 61, 9, 39]⟩ : S) ++ bs (aposR E.data.toList) ++ (⟨#[39]⟩ : S) = bs (attT true a) := by
  rw [h3, bs_data, h2, ← data_bs N, h1, show (⟨#[10]⟩ : S) = bs [10] from rfl, show (⟨#[32, 61, 9, 39]⟩ : S) = bs [32, 61, 9, 39] from rfl, show (⟨#[39]⟩ : S) = bs [39] from rfl, bs_append, bs_append, bs_append, bs_append]
  simp [attT]

/-- What the loop has made of the first k attributes. -/
structure TagsAt (nm : Bs) (l : List At2) (k : Nat) (T : S) : Prop where
  ex : ∃ ps : List (Bool × At2), ps.map (·.2) = l.take k ∧ T = bs (60 :: (nm ++ attsT ps)) ∧ ∀ p ∈ ps, GoodA p.2
  nodup : ((l.take k).map (·.1)).Nodup
  size : T.size ≤ 501 + k * 4000
theorem TagsAt.start (nm : Bs) (l : List At2) (h : nm.length ≤ 500) : TagsAt nm l 0 (bs (60 :: nm)) :=
  ⟨⟨[], rfl, by simp [attsT], by simp⟩, by simp, by rw [bs_size]; simp; omega⟩
theorem TagsAt.step {nm : Bs} {l : List At2} {k : Nat} {T : S} (h : TagsAt nm l k T) (q : Bool) (hk : k < l.length) (hg : GoodA l[k]) (hn : l[k].1 ∉ (l.take k).map (·.1)) (h1 : l[k].1.length ≤ 500) (h2 : l[k].2.length ≤ 500) : TagsAt nm l (k + 1) (T ++ bs (attT q l[k])) := by
  obtain ⟨ps, e1, e2, e3⟩ := h.ex
  have e4 := List.take_succ_eq_append_getElem hk
  refine ⟨⟨ps ++ [(q, l[k])], by rw [e4, List.map_append, e1]; rfl, ?_, ?_⟩, ?_, ?_⟩
  · rw [e2, bs_append]; simp [attsT]
  · intro p hp
    rcases List.mem_append.1 hp with hp | hp
    · exact e3 p hp
    · simp at hp; subst hp; exact hg
  · rw [e4, List.map_append, List.nodup_append]
    refine ⟨h.nodup, by simp, ?_⟩
    intro a ha b hb e
    simp at hb
    subst hb; subst e
    exact hn ha
  · have hz := h.size
    rw [ByteArray.size_append, bs_size]
    have a1 := (esc_len true l[k].2).2
    have a2 := aposEsc_len l[k].2
    have : (attT q l[k]).length ≤ 4000 := by
      unfold attT
      split <;> (simp only [List.length_cons, List.length_append, List.length_nil]; omega)
    omega

/-- What the law asks of a name and its value, one after the other. -/
theorem name_cases (N : S) (V : S) :
    ((((nameLen N.data.toList : Nat) : Int) != ((N.size : Nat) : Int)) = true) ∨
    (((((nameLen N.data.toList : Nat) : Int) != ((N.size : Nat) : Int)) = false) ∧ (N.toList = [] ∨
      (N.toList.isEmpty = false ∧ (500 < N.size ∨ (N.size ≤ 500 ∧ (500 < V.size ∨ V.size ≤ 500)))))) := by
  by_cases h1 : nameLen N.data.toList = N.size
  · right
    refine ⟨by rw [h1]; simp, ?_⟩
    by_cases h2 : N.size = 0
    · exact .inl (List.isEmpty_iff.1 (by rw [empty_data, h2]; rfl))
    · refine .inr ⟨by rw [empty_data]; simpa using h2, ?_⟩
      omega
  · left; rw [bne_iff_ne]; omega

set_option maxRecDepth 100000 in
set_option maxHeartbeats 8000000 in
theorem tags_name (s : S) (v : Value) (l : List At2) (h m : Int) (w : World) (hm : w.cell? ⟨0, 0, none⟩ = some (.int .i64 m)) (hl : SliceOf 2 atC w v l) (hs : s.size ≤ 9223372036854775807)
    (hb : ¬ (nameLen s.data.toList = s.size ∧ s.size ≠ 0 ∧ s.size ≤ 500 ∧ l.length ≤ 8)) :
    Calls Try.prog 6 #[.string s, v, .int .u64 h] w fun e w' => e = .returned (.bool true) ∧ Below w.heap.size w w' := by
  obtain ⟨ao, cap, rfl⟩ := hl.shape
  have hlm : l.length ≤ 9223372036854775807 := by
    obtain ⟨_, _, e, h2, h3, -⟩ := hl
    unfold maxLen at h3; omega
  have HN := Lib.hid (fun w => refName_any s w hs)
  have HLV := Lib.hid (lives_any m w hm)
  clear hm hl
  have hc : ((((nameLen s.data.toList : Nat) : Int) != ((s.size : Nat) : Int)) = true) ∨ (((((nameLen s.data.toList : Nat) : Int) != ((s.size : Nat) : Int)) = false) ∧ (s.toList = [] ∨ (s.toList.isEmpty = false ∧ (500 < s.size ∨ (s.size ≤ 500 ∧ 8 < l.length))))) := by
    by_cases h1 : nameLen s.data.toList = s.size
    · right
      refine ⟨by rw [h1]; simp, ?_⟩
      by_cases h2 : s.size = 0
      · exact .inl (List.isEmpty_iff.1 (by rw [empty_data, h2]; rfl))
      · refine .inr ⟨by rw [empty_data]; simpa using h2, ?_⟩
        by_cases h3 : 500 < s.size
        · exact .inl h3
        · exact .inr ⟨by omega, by
            by_cases h4 : 8 < l.length
            · exact h4
            · exact absurd ⟨h1, h2, by omega, by omega⟩ hb⟩
    · left; rw [bne_iff_ne]; omega
  clear hb
  generalize nameLen s.data.toList = n at *
  rcases hc with g1 | ⟨g1, g2 | ⟨g2, g3 | ⟨g3, g4⟩⟩⟩
  all_goals
    go_enter Try.func6, Try.ntmps6
    go_wp2_with fail
    refine (HN.out _).mono ?_
    rintro e w' ⟨rfl, rfl⟩
    go_wp2_with fail
    refine HLV.out.mono ?_
    rintro e w2 ⟨rfl, hb2⟩
    have HZ := Lib.hid hb2
    clear hb2
    go_wp2
    go_ret
    exact ⟨rfl, HZ.out⟩

end Go.Proofs.Ytpchljiiappmnaa
