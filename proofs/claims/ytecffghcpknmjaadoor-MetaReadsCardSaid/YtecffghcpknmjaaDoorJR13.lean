/- The law MetaReads returns true; the conditions stand in the theorem. -/
import Derived.Test.YtecffghcpknmjaaDoorJR12
import Derived.Test.YtecffghcpknmjaaDoorJR08
import Derived.ProofKit
import Derived.Deep.Slices
import Derived.Test.YtecffghcpknmjaaDoorJR09
import Derived.Test.YtecffghcpknmjaaDoorJR11
import Derived.Test.YtecffghcpknmjaaDoorRows
import Derived.Test.YtecffghcpknmjaaDoorOwn2
import Derived.WalkKit
import Derived.OpenShut
import Derived.HandedShaped
import Derived.Lay
import Derived.LaidOnce
import Derived.Test.YtecffghcpknmjaaDoorV10
import Derived.Test.YtecffghcpknmjaaDoorTie
import Derived.Test.YtecffghcpknmjaaDoorCards
import Derived.SevenTiedAt
namespace Go.Proofs.YtecffghcpknmjaaDoor
open Go Go.RowKit

theorem readM7_err {m : MetaD} {x : Bs} (h : readM7 m = .error x) : x.length ≤ 1000 := by
  unfold readM7 at h
  split at h
  · cases h
  · cases h; decide
theorem readM5_err {g a : Bs} {i la : Tr} {x : Bs} (h : readM5 g a i la = .error x) : x.length ≤ 1000 := by
  unfold readM5 at h
  split at h
  · cases h; decide
  · split at h
    · cases h; decide
    · exact readM7_err h
theorem readM3_err {t : Tr} {g a : Bs} {x : Bs} (h : readM3 t g a = .error x) : x.length ≤ 1000 := by
  unfold readM3 at h
  split at h
  · cases h; decide
  · unfold readM4 at h
    split at h
    · cases h; decide
    · exact readM5_err h
theorem readM_err {t : Tr} {x : Bs} (h : readM t = .error x) (hl : LightT t) : x.length ≤ 1000 := by
  unfold readM at h
  split at h
  · unfold readM1 at h
    split at h
    · cases h; decide
    · unfold readM2 at h
      split at h
      · cases h; decide
      · exact readM3_err h
  · cases h; exact hl.name
theorem readM7_ok {m y : MetaD} (h : readM7 m = .ok y) : mayM y = true := by
  unfold readM7 at h
  split at h
  · rename_i h1; cases h; exact h1
  · cases h
theorem readM5_ok {g a : Bs} {i la : Tr} {y : MetaD} (h : readM5 g a i la = .ok y) : mayM y = true := by
  unfold readM5 at h
  split at h
  · cases h
  · split at h
    · cases h
    · exact readM7_ok h
theorem readM_ok {t : Tr} {y : MetaD} (h : readM t = .ok y) : mayM y = true := by
  unfold readM at h
  split at h
  · unfold readM1 at h
    split at h
    · cases h
    · unfold readM2 at h
      split at h
      · cases h
      · unfold readM3 at h
        split at h
        · cases h
        · unfold readM4 at h
          split at h
          · cases h
          · exact readM5_ok h
  · cases h
theorem mayM_len {y : MetaD} (h : mayM y = true) : y.vers.length ≤ 1024 := by
  unfold mayM at h
  simp only [Bool.and_eq_true, decide_eq_true_eq] at h
  exact h.1.1.1.2
theorem metaZ_sameR (HW : World) : Calls Tryd.prog 10 #[.agg #[.string ⟨#[]⟩, .string ⟨#[]⟩, .slice none 0 0, .string ⟨#[]⟩, .string ⟨#[]⟩], .agg #[.string ⟨#[]⟩, .string ⟨#[]⟩, .slice none 0 0, .string ⟨#[]⟩, .string ⟨#[]⟩]] HW fun e w' => e = .returned (.bool true) ∧ Below HW.heap.size HW w' := by
  have h := refMetaSame_any ⟨⟨⟨#[]⟩, ⟨#[]⟩⟩, [], ⟨#[]⟩, ⟨#[]⟩⟩ ⟨⟨⟨#[]⟩, ⟨#[]⟩⟩, [], ⟨#[]⟩, ⟨#[]⟩⟩ (.slice none 0 0) (.slice none 0 0) HW SliceOf.nil SliceOf.nil (by simp)
  rw [decide_eq_true rfl] at h
  exact h
set_option maxRecDepth 100000 in
set_option maxHeartbeats 8000000 in
theorem metaReads_of (HPT : RefPartsOk) (t : Tr) (av kv : Value) (w : World) (ht : NodeOf w t av kv) :
    Calls Tryd.prog 6 #[nodeV t av kv] w fun e w' => e = .returned (.bool true) ∧ Below w.heap.size w w' := by
  have HPT' := Lib.hid HPT
  have HN := Lib.hid ht
  obtain ⟨ao, ac, ko, kc, rfl, rfl, -, -⟩ := ht.shape
  clear ht HPT
  unfold nodeV
  go_enter Tryd.func6, Tryd.ntmps6
  go_upto_region 1 with fail
  refine wp_world ?_
  intro W hW
  have y1 : Box W w.heap.size [.string (bs t.name), .slice ao t.attrs.length ac, .slice ko t.kids.length kc, .string (bs t.text)] := by rw [hW]; exact Box.new w [.string (bs t.name), .slice ao t.attrs.length ac, .slice ko t.kids.length kc, .string (bs t.text)] _ _ rfl
  have hb : Below w.heap.size w W := by rw [hW]; exact (Below.refl _ _).alloc (Nat.le_refl _) _
  clear hW
  have HY := Lib.hid y1
  have HB := Lib.hid hb
  have HT := Lib.hid (HN.out.later hb)
  clear y1 hb HN
  have HLI := Lib.hid (lightTop_any t W _ _ HT.out)
  unfold nodeV at HLI
  have x0 := HY.out.cell 0 _ rfl
  have x1 := HY.out.cell 1 _ rfl
  have x2 := HY.out.cell 2 _ rfl
  have x3 := HY.out.cell 3 _ rfl
  have xl := HY.out.lt
  go_wp2_with fail
  refine HLI.out.mono ?_
  rintro e w1 ⟨hb, b, rfl, hl⟩
  have HL0 := Lib.hid hl
  replace HY := Lib.hid (HY.out.below hb HY.out.lt)
  replace HT := Lib.hid (HT.out.later hb)
  replace HB := Lib.hid (HB.out.trans (hb.mono HB.out.size))
  clear hb hl HLI x0 x1 x2 x3 xl
  cases b with
  | false =>
    clear HL0
    go_wp2_with fail
    refine (metaLives_any w1).mono ?_
    rintro e w2 ⟨rfl, hb⟩
    replace HB := Lib.hid (HB.out.trans (hb.mono HB.out.size))
    clear hb
    go_wp2
    go_ret
    exact ⟨rfl, HB.out⟩
  | true =>
    have HL := Lib.hid (HL0.out rfl).1
    clear HL0
    have HR1 := Lib.hid (metaRead_any t w1 _ _ HT.out HL.out)
    have HR2 : Hid (∀ W, Below w1.heap.size w1 W → Calls Tryd.prog 24 #[nodeV t (.slice ao t.attrs.length ac) (.slice ko t.kids.length kc)] W (ReadD (readM t) W)) := fun W hb => docMetaRead_of HPT'.out t W _ _ (HT.out.later hb) HL.out
    have HERR : Hid (∀ x, readM t = .error x → x.length ≤ 1000) := fun x h => readM_err h HL.out
    have HOK : Hid (∀ y, readM t = .ok y → mayM y = true) := fun y h => readM_ok h
    unfold nodeV at HR1 HR2
    clear HPT' HL HT
    generalize readM t = R at *
    have x0 := HY.out.cell 0 _ rfl
    have x1 := HY.out.cell 1 _ rfl
    have x2 := HY.out.cell 2 _ rfl
    have x3 := HY.out.cell 3 _ rfl
    have xl := HY.out.lt
    cases R with
    | error x =>
      have HXL := Lib.hid (HERR.out x rfl)
      clear HERR HOK
      go_wp2_with fail
      refine HR1.out.mono ?_
      intro e w2 hp
      obtain ⟨hb, he⟩ := hp
      obtain rfl : e = .returned (.tuple #[.agg metaZ.toArray, .int .i64 20, .string (bs x)]) := he
      replace HY := Lib.hid (HY.out.below hb HY.out.lt)
      replace HB := Lib.hid (HB.out.trans (hb.mono HB.out.size))
      have HB1 := Lib.hid hb
      clear hb x0 x1 x2 x3 xl HR1
      unfold metaZ
      go_upto_region 4 with fail
      refine wp_world ?_
      intro W2 hW
      have y1 : Box W2 w2.heap.size [.string ⟨#[]⟩, .string ⟨#[]⟩, .slice none 0 0, .string ⟨#[]⟩, .string ⟨#[]⟩] := by rw [hW]; exact Box.new w2 [.string ⟨#[]⟩, .string ⟨#[]⟩, .slice none 0 0, .string ⟨#[]⟩, .string ⟨#[]⟩] _ _ rfl
      have hb : Below w2.heap.size w2 W2 := by rw [hW]; exact (Below.refl _ _).alloc (Nat.le_refl _) _
      clear hW
      have HM := Lib.hid y1
      replace HY := Lib.hid (HY.out.below hb HY.out.lt)
      replace HB := Lib.hid (HB.out.trans (hb.mono HB.out.size))
      replace HB1 := Lib.hid (HB1.out.trans (hb.mono HB1.out.size))
      clear y1 hb
      have HR3 := Lib.hid (HR2.out W2 HB1.out)
      clear HR2 HB1
      have x0 := HY.out.cell 0 _ rfl
      have x1 := HY.out.cell 1 _ rfl
      have x2 := HY.out.cell 2 _ rfl
      have x3 := HY.out.cell 3 _ rfl
      have xl := HY.out.lt
      go_wp2_with fail
      refine HR3.out.mono ?_
      intro e w3 hp
      obtain ⟨hb, he⟩ := hp
      obtain rfl : e = .returned (.tuple #[.agg metaZ.toArray, .string (bs (x ++ [33]))]) := he
      replace HM := Lib.hid (HM.out.below hb HM.out.lt)
      replace HB := Lib.hid (HB.out.trans (hb.mono HB.out.size))
      clear hb x0 x1 x2 x3 xl HR3 HY
      have hcat : (bs x : S) ++ ⟨#[33]⟩ = bs (x ++ [33]) := bs_append x [33]
      have hsz : ¬ 9223372036854775807 < (bs x : S).size + 1 := by rw [bs_size]; have := HXL.out; omega
      have hne : ((bs (x ++ [33]) : S).toList == []) = false := by rw [bsLit]; exact decide_eq_false (by simp)
      have hne2 : ((bs (x ++ [33]) : S).toList.isEmpty) = false := by rw [ByteArray.toList_eq, bs_data]; cases x <;> rfl
      generalize (bs (x ++ [33]) : S) = Y at *
      generalize (bs x : S) = X at *
      unfold metaZ
      go_upto_region 5 with fail
      refine wp_world ?_
      intro W4 hW
      have hb : Below w3.heap.size w3 W4 := by rw [hW]; exact (Below.refl _ _).alloc (Nat.le_refl _) _
      clear hW
      replace HM := Lib.hid (HM.out.below hb HM.out.lt)
      replace HB := Lib.hid (HB.out.trans (hb.mono HB.out.size))
      clear hb
      have HZS := Lib.hid metaZ_sameR
      have m0 := HM.out.cell 0 _ rfl
      have m1 := HM.out.cell 1 _ rfl
      have m2 := HM.out.cell 2 _ rfl
      have m3 := HM.out.cell 3 _ rfl
      have m4 := HM.out.cell 4 _ rfl
      have ml := HM.out.lt
      go_wp2_with fail
      refine (HZS.out _).mono ?_
      rintro e w5 ⟨rfl, hb⟩
      replace HB := Lib.hid (HB.out.trans (hb.mono HB.out.size))
      clear hb m0 m1 m2 m3 m4 ml HM
      go_wp2_with fail
      refine (metaLives_any w5).mono ?_
      rintro e w6 ⟨rfl, hb⟩
      replace HB := Lib.hid (HB.out.trans (hb.mono HB.out.size))
      clear hb
      go_wp2
      go_ret
      exact ⟨rfl, HB.out⟩
    | ok m =>
      have HML := Lib.hid (mayM_len (HOK.out m rfl))
      clear HERR HOK
      go_wp2_with fail
      refine HR1.out.mono ?_
      intro e w2 hp
      obtain ⟨hb, v, hv, he⟩ := hp
      obtain rfl : e = .returned (.tuple #[metaAg m v, .int .i64 0, .string ⟨#[]⟩]) := he
      obtain ⟨vo, vc, rfl⟩ := hv.shape
      replace HY := Lib.hid (HY.out.below hb HY.out.lt)
      replace HB := Lib.hid (HB.out.trans (hb.mono HB.out.size))
      have HB1 := Lib.hid hb
      have HV := Lib.hid hv
      clear hb hv x0 x1 x2 x3 xl HR1
      unfold metaAg metaC
      go_upto_region 4 with fail
      refine wp_world ?_
      intro W2 hW
      have y1 : Box W2 w2.heap.size [.string m.id.group, .string m.id.artifact, .slice vo m.vers.length vc, .string m.latest, .string m.rel] := by rw [hW]; exact Box.new w2 [.string m.id.group, .string m.id.artifact, .slice vo m.vers.length vc, .string m.latest, .string m.rel] _ _ rfl
      have hb : Below w2.heap.size w2 W2 := by rw [hW]; exact (Below.refl _ _).alloc (Nat.le_refl _) _
      clear hW
      have HM := Lib.hid y1
      replace HV := Lib.hid (HV.out.below hb)
      replace HY := Lib.hid (HY.out.below hb HY.out.lt)
      replace HB := Lib.hid (HB.out.trans (hb.mono HB.out.size))
      replace HB1 := Lib.hid (HB1.out.trans (hb.mono HB1.out.size))
      clear y1 hb
      have HR3 := Lib.hid (HR2.out W2 HB1.out)
      clear HR2 HB1
      have x0 := HY.out.cell 0 _ rfl
      have x1 := HY.out.cell 1 _ rfl
      have x2 := HY.out.cell 2 _ rfl
      have x3 := HY.out.cell 3 _ rfl
      have xl := HY.out.lt
      go_wp2_with fail
      refine HR3.out.mono ?_
      intro e w3 hp
      obtain ⟨hb, v, hv, he⟩ := hp
      obtain rfl : e = .returned (.tuple #[metaAg m v, .string ⟨#[]⟩]) := he
      obtain ⟨uo, uc, rfl⟩ := hv.shape
      have HU := Lib.hid hv
      replace HV := Lib.hid (HV.out.below hb)
      replace HM := Lib.hid (HM.out.below hb HM.out.lt)
      replace HB := Lib.hid (HB.out.trans (hb.mono HB.out.size))
      clear hb hv x0 x1 x2 x3 xl HR3 HY
      unfold metaAg metaC
      go_upto_region 5 with fail
      refine wp_world ?_
      intro W4 hW
      have z1 : Box W4 w3.heap.size [.string m.id.group, .string m.id.artifact, .slice uo m.vers.length uc, .string m.latest, .string m.rel] := by rw [hW]; exact Box.new w3 [.string m.id.group, .string m.id.artifact, .slice uo m.vers.length uc, .string m.latest, .string m.rel] _ _ rfl
      have hb : Below w3.heap.size w3 W4 := by rw [hW]; exact (Below.refl _ _).alloc (Nat.le_refl _) _
      clear hW
      have HMX := Lib.hid z1
      replace HM := Lib.hid (HM.out.below hb HM.out.lt)
      replace HV := Lib.hid (HV.out.below hb)
      replace HU := Lib.hid (HU.out.below hb)
      replace HB := Lib.hid (HB.out.trans (hb.mono HB.out.size))
      clear hb z1
      have HSA : Hid (Calls Tryd.prog 10 #[.agg #[.string m.id.group, .string m.id.artifact, .slice vo m.vers.length vc, .string m.latest, .string m.rel], .agg #[.string m.id.group, .string m.id.artifact, .slice uo m.vers.length uc, .string m.latest, .string m.rel]] W4 fun e w' => e = .returned (.bool true) ∧ Below W4.heap.size W4 w') := by
        have h := refMetaSame_any m m (.slice vo m.vers.length vc) (.slice uo m.vers.length uc) W4 HV.out HU.out (by have := HML.out; omega)
        rw [decide_eq_true rfl] at h
        exact h
      clear HV HU HML
      have m0 := HM.out.cell 0 _ rfl
      have m1 := HM.out.cell 1 _ rfl
      have m2 := HM.out.cell 2 _ rfl
      have m3 := HM.out.cell 3 _ rfl
      have m4 := HM.out.cell 4 _ rfl
      have ml := HM.out.lt
      have z0 := HMX.out.cell 0 _ rfl
      have z1 := HMX.out.cell 1 _ rfl
      have z2 := HMX.out.cell 2 _ rfl
      have z3 := HMX.out.cell 3 _ rfl
      have z4 := HMX.out.cell 4 _ rfl
      have zl := HMX.out.lt
      go_wp2_with fail
      refine HSA.out.mono ?_
      rintro e w5 ⟨rfl, hb⟩
      replace HB := Lib.hid (HB.out.trans (hb.mono HB.out.size))
      clear hb m0 m1 m2 m3 m4 ml HM z0 z1 z2 z3 z4 zl HMX
      go_wp2_with fail
      refine (metaLives_any w5).mono ?_
      rintro e w6 ⟨rfl, hb⟩
      replace HB := Lib.hid (HB.out.trans (hb.mono HB.out.size))
      clear hb
      go_wp2
      go_ret
      exact ⟨rfl, HB.out⟩

end Go.Proofs.YtecffghcpknmjaaDoor

/- From the readings of the arguments to what the walks ask: a project that can be read is one in memory. -/
namespace Go.Proofs.YtecffghcpknmjaaDoor
open Go Go.RowKit

variable {H : Type} {enc : TypeId × Value → H} {W : World} {sp : Nat → Bool} {held : Bool}
/-- Whatever reads as type t are the cells of some a that is all right. -/
def Opens {α : Type} (enc : TypeId × Value → H) (W : World) (sp : Nat → Bool) (held : Bool) (t : TypeId) (C : α → List Value) (Ok : α → Prop) : Prop :=
  ∀ fuel cs x, DataW.trod enc Tryd.prog W 0 sp held fuel t cs = some x → ∃ a, cs = C a ∧ Ok a
theorem opens_string : Opens enc W sp held 9 strC (fun s => s.size ≤ maxLen) := fun _ _ _ h => by
  obtain ⟨s, h1, -, h2⟩ := DataW.trod_string Tryd.underlying9 h
  exact ⟨s, h1, h2⟩
theorem cells_of {w : World} {a : Addr} {n : Nat} {cs : List Value} (h : w.cells? 0 a n = some cs) (hn : 0 < n) : cs.length = n ∧ a.spot = none ∧ a.block < w.heap.size ∧ ∀ j u, cs[j]? = some u → w.cell? ⟨a.block, a.off + j, none⟩ = some u := by
  unfold World.cells? at h
  rw [if_pos (Nat.zero_le _)] at h
  have hl : cs.length = n := by simpa using mapM_some_length h
  have hg : ∀ j, j < n → w.cell? (a.add j) = cs[j]? := fun j hj => mapM_some_get h j j (by simp [hj])
  have h00 : w.cell? a = some cs[0] := by
    have := hg 0 hn
    rw [show a.add 0 = a from rfl] at this
    rw [this]; simp
  have hsp : a.spot = none := by
    cases hs : a.spot with
    | none => rfl
    | some x =>
      exfalso
      simp only [World.cell?, hs, Option.isSome_some, if_true] at h00
      split at h00 <;> cases h00
  obtain ⟨b, o, s⟩ := a
  cases hsp
  refine ⟨hl, rfl, World.block_lt_of_cell? w _ h00, fun j u hu => ?_⟩
  have hj : j < n := by rw [← hl]; exact (List.getElem?_eq_some_iff.1 hu).1
  have := hg j hj
  rw [Addr.add_lit, hu] at this
  exact this
theorem list_snoc {α : Type} {l : List α} {y : α} {i : Nat} {z : α} (h : (l ++ [y])[i]? = some z) : (i < l.length ∧ l[i]? = some z) ∨ (i = l.length ∧ z = y) := by
  by_cases hi : i < l.length
  · left; rw [List.getElem?_append_left hi] at h; exact ⟨hi, h⟩
  · right
    rw [List.getElem?_append_right (by omega)] at h
    by_cases h1 : i - l.length = 0
    · rw [h1] at h; simp at h; exact ⟨by omega, h.symm⟩
    · rw [List.getElem?_eq_none (by simp; omega)] at h; cases h
theorem list_of {α : Type} {len : Nat} {P : Nat → α → Prop} (h : ∀ i, i < len → ∃ y, P i y) : ∃ l : List α, l.length = len ∧ ∀ i y, l[i]? = some y → P i y := by
  induction len with
  | zero => exact ⟨[], rfl, fun i y h => by simp at h⟩
  | succ len ih =>
    obtain ⟨l, hl, hP⟩ := ih (fun i hi => h i (by omega))
    obtain ⟨y, hy⟩ := h len (by omega)
    refine ⟨l ++ [y], by simp [hl], fun i z hz => ?_⟩
    rcases list_snoc hz with ⟨-, h1⟩ | ⟨rfl, rfl⟩
    · exact hP i z h1
    · rw [hl]; exact hy
theorem opens_slice {α : Type} {t e n : Nat} {C : α → List Value} {Ok : α → Prop} (ht : Tryd.prog.underlying t = some (.slice e)) (hn : Tryd.prog.cellsOf e = n) (h0 : 0 < n) (he : Opens enc W sp held e C Ok) :
    Opens enc W sp held t (fun v : Value => [v]) (fun v => ∃ l, SliceOf n C W v l ∧ ∀ a ∈ l, Ok a) := fun fuel cs x h => by
  rcases Deep.open_slice ht h with ⟨rfl, -⟩ | ⟨a, len, cap, m, n', D, Pl, rfl, -, hlc, hcm, hm, -, hel⟩
  · exact ⟨_, rfl, [], SliceOf.nil, by simp⟩
  · rw [hn] at hel
    have hlm : len ≤ m := by rw [hm]; split <;> omega
    obtain ⟨l, hl, hP⟩ := list_of (len := len) (P := fun i y => W.cells? 0 (a.add (i * n)) n = some (C y) ∧ Ok y) (fun i hi => by
      obtain ⟨cs', h1, h2⟩ := hel i (by omega)
      obtain ⟨y, rfl, hy⟩ := he _ _ _ h2
      exact ⟨y, h1, hy⟩)
    refine ⟨_, rfl, l, ⟨some a, cap, by rw [hl], by omega, hcm, by simp, fun i y hy => ?_⟩, fun y hy => ?_⟩
    · have hil : i < len := by rw [← hl]; exact (List.getElem?_eq_some_iff.1 hy).1
      obtain ⟨y0, hy0⟩ : ∃ y0, l[0]? = some y0 := ⟨l[0]'(by omega), by simp⟩
      obtain ⟨-, hs, hb, -⟩ := cells_of (hP 0 y0 hy0).1 h0
      rw [Nat.zero_mul, show a.add 0 = a from rfl] at hs hb
      obtain ⟨b, o, s⟩ := a
      cases hs
      obtain ⟨-, -, -, hc⟩ := cells_of (hP i y hy).1 h0
      rw [Addr.add_lit] at hc
      exact ⟨b, o, rfl, hb, hc⟩
    · obtain ⟨i, hi, rfl⟩ := List.mem_iff_getElem.1 hy
      exact (hP i _ (by simp [hi])).2
theorem cellsOf_str : Tryd.prog.cellsOf 9 = 1 := by kernel_rfl
theorem len2 {l : List Value} (h : l.length = 2) : ∃ c0 c1, l = [c0, c1] := by
  match l, h with
  | [c0, c1], _ => exact ⟨c0, c1, rfl⟩

end Go.Proofs.YtecffghcpknmjaaDoor

/- From the readings of the arguments to what the walks ask: attributes and tokens that can be read are some in memory. -/
namespace Go.Proofs.YtecffghcpknmjaaDoor
open Go Go.RowKit

variable {H : Type} {enc : TypeId × Value → H} {W : World} {sp : Nat → Bool} {held : Bool}
theorem cellsOf_attr : Tryd.prog.cellsOf 142 = 2 := by kernel_rfl
theorem cellsOf_attrs : Tryd.prog.cellsOf 44 = 1 := by kernel_rfl
/-- Sizes that any memory has. -/
def AtOk (a : At2) : Prop := a.1.length ≤ maxLen ∧ a.2.length ≤ maxLen
theorem opens_attr : Opens enc W sp held 142 atC AtOk := fun fuel cs x h => by
  obtain ⟨xs, n, -, -, hl, hxs, hf⟩ := DataW.trod_struct Tryd.underlying142 h
  rw [cellsOf_attr] at hl
  obtain ⟨c0, c1, rfl⟩ := len2 hl
  have f0 : DataW.trod enc Tryd.prog W 0 sp held n 9 (([c0, c1].drop 0).take (Tryd.prog.cellsOf 9)) = xs[0]? := hf 0 _ rfl
  rw [cellsOf_str, List.getElem?_eq_getElem (by rw [hxs]; decide)] at f0
  have f1 : DataW.trod enc Tryd.prog W 0 sp held n 9 (([c0, c1].drop 1).take (Tryd.prog.cellsOf 9)) = xs[1]? := hf 1 _ rfl
  rw [cellsOf_str, List.getElem?_eq_getElem (by rw [hxs]; decide)] at f1
  obtain ⟨a0, h0, k0⟩ := opens_string _ _ _ f0
  obtain ⟨a1, h1, k1⟩ := opens_string _ _ _ f1
  clear hf f0 f1
  cases h0
  cases h1
  refine ⟨(a0.data.toList, a1.data.toList), ?_, by rw [size_data]; exact k0, by rw [size_data]; exact k1⟩
  show _ = [Value.string (bs a0.data.toList), Value.string (bs a1.data.toList)]
  rw [data_bs, data_bs]
theorem opens_attrs : Opens enc W sp held 44 (fun v : Value => [v]) (fun v => ∃ l, SliceOf 2 atC W v l ∧ ∀ a ∈ l, AtOk a) :=
  opens_slice Tryd.underlying44 cellsOf_attr (by decide) opens_attr

end Go.Proofs.YtecffghcpknmjaaDoor

/- From the reading of an argument to what the walks ask: a tree that can be read is one in memory. -/
namespace Go.Proofs.YtecffghcpknmjaaDoor
open Go Go.RowKit

variable {H : Type} {enc : TypeId × Value → H} {W : World} {sp : Nat → Bool} {held : Bool}
/-- Sizes that any memory has. -/
inductive TrOk : Tr → Prop where
  | mk {n : Bs} {ats : List At2} {ks : List Tr} {x : Bs} (hn : n.length ≤ maxLen) (hx : x.length ≤ maxLen) (ha : ∀ a ∈ ats, AtOk a) (hk : ∀ k ∈ ks, TrOk k) : TrOk (.mk n ats ks x)
theorem cellsOf_node : Tryd.prog.cellsOf 47 = 4 := by kernel_rfl
theorem cellsOf_nodes : Tryd.prog.cellsOf 45 = 1 := by kernel_rfl
theorem len4 {l : List Value} (h : l.length = 4) : ∃ c0 c1 c2 c3, l = [c0, c1, c2, c3] := by
  match l, h with
  | [c0, c1, c2, c3], _ => exact ⟨c0, c1, c2, c3, rfl⟩
/-- opens_slice at one fuel. -/
theorem opens_slice_at {α : Type} {t e n fuel : Nat} {C : α → List Value} {Ok : α → Prop} (ht : Tryd.prog.underlying t = some (.slice e)) (hn : Tryd.prog.cellsOf e = n) (h0 : 0 < n) (he : ∀ fu, fu < fuel → ∀ cs x, DataW.trod enc Tryd.prog W 0 sp held fu e cs = some x → ∃ a, cs = C a ∧ Ok a) {cs : List Value} {x : DataW H × List MemPlace} (h : DataW.trod enc Tryd.prog W 0 sp held fuel t cs = some x) :
    ∃ v, cs = [v] ∧ ∃ l, SliceOf n C W v l ∧ ∀ a ∈ l, Ok a := by
  rcases DataW.trod_slice ht h with ⟨rfl, -⟩ | ⟨a, len, cap, elems, rest, n', hfu, rfl, -, -, hlc, hcm, hel, hget, -, -⟩
  · exact ⟨_, rfl, [], SliceOf.nil, by simp⟩
  · rw [hn] at hget
    obtain ⟨l, hl, hP⟩ := list_of (len := len) (P := fun i y => W.cells? 0 (a.add (i * n)) n = some (C y) ∧ Ok y) (fun i hi => by
      have h1 := hget i hi
      rw [List.getElem?_eq_getElem (by omega)] at h1
      simp only [Option.bind_eq_some_iff] at h1
      obtain ⟨cs', h2, h3⟩ := h1
      obtain ⟨y, rfl, hy⟩ := he n' (by omega) _ _ h3
      exact ⟨y, h2, hy⟩)
    refine ⟨_, rfl, l, ⟨some a, cap, by rw [hl], by omega, hcm, by simp, fun i y hy => ?_⟩, fun y hy => ?_⟩
    · have hil : i < len := by rw [← hl]; exact (List.getElem?_eq_some_iff.1 hy).1
      obtain ⟨y0, hy0⟩ : ∃ y0, l[0]? = some y0 := ⟨l[0]'(by omega), by simp⟩
      obtain ⟨-, hs, hb, -⟩ := cells_of (hP 0 y0 hy0).1 h0
      rw [Nat.zero_mul, show a.add 0 = a from rfl] at hs hb
      obtain ⟨b, o, s⟩ := a
      cases hs
      obtain ⟨-, -, -, hc⟩ := cells_of (hP i y hy).1 h0
      rw [Addr.add_lit] at hc
      exact ⟨b, o, rfl, hb, hc⟩
    · obtain ⟨i, hi, rfl⟩ := List.mem_iff_getElem.1 hy
      exact (hP i _ (by simp [hi])).2
theorem opens_node_at : ∀ (fuel : Nat) (cs : List Value) (x : DataW H × List MemPlace), DataW.trod enc Tryd.prog W 0 sp held fuel 47 cs = some x → ∃ y : TrV, cs = trC y ∧ NodeOf W y.1 y.2.1 y.2.2 ∧ TrOk y.1 := by
  intro fuel
  induction fuel using Nat.strongRecOn with
  | _ fuel ih =>
  intro cs x h
  obtain ⟨xs, n, hfu, -, hl, hxs, hf⟩ := DataW.trod_struct Tryd.underlying47 h
  rw [cellsOf_node] at hl
  obtain ⟨c0, c1, c2, c3, rfl⟩ := len4 hl
  have f0 : DataW.trod enc Tryd.prog W 0 sp held n 9 (([c0, c1, c2, c3].drop 0).take (Tryd.prog.cellsOf 9)) = xs[0]? := hf 0 _ rfl
  rw [cellsOf_str, List.getElem?_eq_getElem (by rw [hxs]; decide)] at f0
  have f1 : DataW.trod enc Tryd.prog W 0 sp held n 44 (([c0, c1, c2, c3].drop 1).take (Tryd.prog.cellsOf 44)) = xs[1]? := hf 1 _ rfl
  rw [cellsOf_attrs, List.getElem?_eq_getElem (by rw [hxs]; decide)] at f1
  have f2 : DataW.trod enc Tryd.prog W 0 sp held n 45 (([c0, c1, c2, c3].drop 2).take (Tryd.prog.cellsOf 45)) = xs[2]? := hf 2 _ rfl
  rw [cellsOf_nodes, List.getElem?_eq_getElem (by rw [hxs]; decide)] at f2
  have f3 : DataW.trod enc Tryd.prog W 0 sp held n 9 (([c0, c1, c2, c3].drop 3).take (Tryd.prog.cellsOf 9)) = xs[3]? := hf 3 _ rfl
  rw [cellsOf_str, List.getElem?_eq_getElem (by rw [hxs]; decide)] at f3
  obtain ⟨a0, h0, k0⟩ := opens_string _ _ _ f0
  obtain ⟨a1, h1, l1, hl1, hok1⟩ := opens_attrs _ _ _ f1
  obtain ⟨a2, h2, L, hL, hokL⟩ := opens_slice_at (C := trC) (Ok := fun y : TrV => NodeOf W y.1 y.2.1 y.2.2 ∧ TrOk y.1) Tryd.underlying45 cellsOf_node (by decide) (fun fu hlt cs x hx => ih fu (by omega) cs x hx) f2
  obtain ⟨a3, h3, k3⟩ := opens_string _ _ _ f3
  clear hf f0 f1 f2 f3
  cases h0
  cases h1
  cases h2
  cases h3
  refine ⟨(.mk a0.data.toList l1 (L.map (·.1)) a3.data.toList, c1, c2), ?_, .mk L hl1.toX rfl hL.toX (fun y hy => (hokL y hy).1), .mk (by rw [size_data]; exact k0) (by rw [size_data]; exact k3) hok1 (fun k hk => ?_)⟩
  · show _ = [Value.string (bs a0.data.toList), c1, c2, Value.string (bs a3.data.toList)]
    rw [data_bs, data_bs]
  · obtain ⟨y, hy, rfl⟩ := List.mem_map.1 hk
    exact (hokL y hy).2
theorem opens_node : Opens enc W sp held 47 trC (fun y : TrV => NodeOf W y.1 y.2.1 y.2.2 ∧ TrOk y.1) := opens_node_at

end Go.Proofs.YtecffghcpknmjaaDoor

/- From a walk to a row whose library variables are laid: a law that returns true and turns nothing that was there. -/
namespace Go.Proofs.YtecffghcpknmjaaDoor
open Go Go.ChangeShapes Go.WideShapes Go.ChangeAt Go.RowKit

theorem own : ownKnob Tryd.prog.godebug = none := by kernel_rfl
theorem laidOut : laidOutB Tryd.prog = true := by kernel_rfl

theorem trodAll_below {H : Type} {enc : TypeId × Value → H} {W W' : World} (hb : Below W.heap.size W W') : ∀ {ts : List TypeId} {vs : List Value} {ds : List (DataW H)} {ps : List MemPlace},
    (∀ t ∈ ts, Tryd.prog.readableRec t = true ∧ t < Tryd.prog.types.size) → DataW.TrodAll enc Tryd.prog W 0 (fun _ => true) true ts vs ds ps → (∀ x ∈ ps, x.block < W.heap.size) →
    DataW.TrodAll enc Tryd.prog W' 0 (fun b => decide (b < W.heap.size)) true ts vs ds ps
  | [], [], [], _, _, h, _ => h
  | t :: ts, v :: vs, d :: ds, ps, hr, h, hlt => by
    obtain ⟨p, q, h1, h2, rfl⟩ := h
    exact ⟨p, q, Below.trod laidOut (hr t (by simp)).1 (hr t (by simp)).2 h1 hb (fun x hx => hlt x (by simp [hx])),
      trodAll_below hb (fun u hu => hr u (by simp [hu])) h2 (fun x hx => hlt x (by simp [hx])), rfl⟩
  | [], [], _ :: _, _, _, h, _ => h.elim
  | [], _ :: _, _, _, _, h, _ => h.elim
  | _ :: _, [], _, _, _, h, _ => h.elim
  | _ :: _, _ :: _, [], _, _, h, _ => h.elim

/-- What the listed variables hold. -/
def laidL : List (String × DataW Unit) := [("unicode/utf8.acceptRanges", Rows.laid_unicode_utf8_acceptRanges), ("unicode/utf8.first", Rows.laid_unicode_utf8_first)]

/-- The wrap of a tied row, the world's shape kept. -/
theorem handed_tied {H : Type} {enc : TypeId × Value → H} {a : Assume} {C : Checked} {os : Os} {f : FuncId} {fn : Func} {s : ChangeSpec} {conds : List PathCond} {apart fresh handsOn again : Bool} {X : World → Array Value → Prop}
    (own : ownKnob C.prog.godebug = none) (started : os.Started) (noInit : C.prog.inits.idxOf? f = none) (hfn : C.prog.funcs[f]? = some fn)
    (witness : ∃ (w : World) (tape : Tape) (i : Input), w.os = os ∧ (w.forCall tape i).Shaped C.prog ∧ i.vars = [] ∧ Input.okWide C.prog (w.forCall tape i) .any w.heap.size f i ∧
      ((s.pre enc C.prog fn conds apart (w.forCall tape i).memory i.args ∧ X (w.forCall tape i).memory i.args) ∧ sizedMet enc C.prog fn (OpenSpec.ofChange s) apart (w.forCall tape i).memory i.args) ∧ a.holds C.prog (lone (Frame.enter C.prog f i.args .normal) [] (w.forCall tape i)))
    (contract : ∀ (W : World) (base : Nat) (args : Array Value) (ds gs : List (DataW H)) (before : List MemPlace),
      (∀ (j : Nat) t v, fn.params[j]? = some t → args[j]? = some v → Value.okWide C.prog W .any base t v) →
      DataW.Whole enc C.prog fn.params.toList s.vars apart W args.toList ds gs before →
      conds.all (PathCond.test C.prog ⟨fn.params.toList, ds, s.plain.varTypes C.prog, gs⟩) = true →
      W.ShapedOpen C.prog →
      Calls C.prog f args W fun e W' => ∃ v, e = .returned v ∧ s.post enc C.prog fn apart fresh handsOn again W args v W') :
    ReturnsInHanded a C os f .any (fun w args => (s.pre enc C.prog fn conds apart w args ∧ X w args) ∧ sizedMet enc C.prog fn (OpenSpec.ofChange s) apart w args) (s.post enc C.prog fn apart fresh handsOn again) := by
  refine returnsInHanded_of_calls own started noInit witness ?_
  intro w tape i _ hsh _ hok hpre hholds
  obtain ⟨_, _, _, fn', hfn', _, _, _, _, hval⟩ := hok
  have e : fn' = fn := Option.some.inj (hfn'.symm.trans hfn)
  subst e
  obtain ⟨⟨⟨ds, gs, before, hw, hc⟩, -⟩, -⟩ := hpre
  have hw' := DataW.Whole.of_heap (w' := w.forCall tape i) (by rfl) hw
  refine (contract (w.forCall tape i) w.heap.size i.args ds gs before hval hw' hc hsh).mono fun e W' ⟨v, he, hp⟩ => ?_
  subst he
  exact ChangeSpec.post_blind hp

end Go.Proofs.YtecffghcpknmjaaDoor

/- The closed facts of the row MetaReads, one by one; no conditions. -/
namespace Go.Proofs.YtecffghcpknmjaaDoor
open Go Go.ChangeShapes Go.WideShapes Go.ChangeAt Go.RowKit Go.ChangeMaps

theorem mrJandT {a b : Bool} (ha : a = true) (hb : b = true) : (a && b) = true := by rw [ha, hb]; rfl
theorem mrJ0 : (Rows.metaReadsRow.wf (OpenSpec.ofChange Rows.metaReadsSpec)) = true := by kernel_rfl
theorem mrJ1 : (laidOutB Tryd.prog) = true := by kernel_rfl
theorem mrJ2 : (mapsRowed Tryd.prog) = true := by kernel_rfl
theorem mrJ3 : (Tryd.f6.params.all (Tryd.prog.readableRec ·)) = true := by kernel_rfl
theorem mrJ4 : (namedTie Tryd.prog Rows.metaReadsRow.named Rows.metaReadsSpec.vars) = true := by kernel_rfl
theorem mrJ5 : ((Rows.metaReadsRow.stops == [])) = true := by kernel_rfl
theorem mrJ6 : ((Tryd.prog.stops == [])) = true := by kernel_rfl
theorem mrJ7 : ((Rows.metaReadsRow.knobs == [])) = true := by kernel_rfl
theorem mrJ8 : ((Tryd.prog.stopKnobs == [])) = true := by kernel_rfl
theorem mrJ9 : ((Rows.metaReadsRow.inPlace == Tryd.prog.inPlace 6)) = true := by kernel_rfl
theorem mrJ10 : ((Rows.metaReadsRow.unfollowed == Tryd.prog.unfollowed 6)) = true := by kernel_rfl
theorem mrJ11 : ((Rows.metaReadsRow.recurses == Tryd.prog.recurses 6)) = true := by kernel_rfl
theorem mrJ12 : ((Rows.metaReadsRow.named == Tryd.prog.varsNamed 6)) = true := by kernel_rfl
theorem mrJ13 : ((Rows.metaReadsRow.maps == (Tryd.f6.params.toList ++ Rows.metaReadsSpec.plain.varTypes Tryd.prog).any (Tryd.prog.mapsRec ·))) = true := by kernel_rfl
theorem mrJ14 : ((Rows.metaReadsRow.ifaces == (Tryd.f6.params.toList ++ Rows.metaReadsSpec.plain.varTypes Tryd.prog).any (Tryd.prog.ifacesRec ·))) = true := by kernel_rfl
theorem mrJ15 : ((Rows.metaReadsRow.mapsOut == Tryd.prog.mapsAmong Tryd.f6.resultTypes.toList)) = true := by kernel_rfl
theorem mrJ16 : ((Rows.metaReadsRow.loops == (Tryd.f6.params.toList ++ Rows.metaReadsSpec.plain.varTypes Tryd.prog).any (Tryd.prog.loopsFrom ·))) = true := by kernel_rfl
theorem mrJ17 : ((Rows.metaReadsRow.wideKeys == (Tryd.f6.params.toList ++ Rows.metaReadsSpec.plain.varTypes Tryd.prog ++ Tryd.f6.resultTypes.toList).any (Tryd.prog.wideKeysFrom ·))) = true := by kernel_rfl
theorem mrJ18 : (Rows.metaReadsSpec.vars.all (Tryd.prog.varReadable ·)) = true := by kernel_rfl
theorem mrJ19 : (Tryd.f6.resultTypes.all (fun t => Tryd.prog.readableRec t && decide (t < Tryd.prog.types.size))) = true := by kernel_rfl
theorem mrJ20 : ((Rows.metaReadsRow.ifacesOut == Tryd.f6.resultTypes.toList.any (Tryd.prog.ifacesRec ·))) = true := by kernel_rfl
theorem mrJ21 : ((Rows.metaReadsRow.loopsOut == Tryd.f6.resultTypes.toList.any (Tryd.prog.loopsFrom ·))) = true := by kernel_rfl
theorem mrJ22 : ((Rows.metaReadsRow.plainKeys == Tryd.prog.plainKeys)) = true := by kernel_rfl
theorem mrJ23 : (Rows.metaReadsRow.shortTexts.isNone) = true := by kernel_rfl
theorem mrJ24 : (Tryd.prog.stopsHeard) = true := by kernel_rfl
theorem mrJ25 : (Tryd.prog.mayEnter) = true := by kernel_rfl
theorem mrJ26 : ((Rows.metaReadsRow.lifted == Tryd.prog.liftsFinal)) = true := by kernel_rfl
theorem mrJ27 : ((Tryd.prog.make == some Rows.metaReadsRow.make)) = true := by kernel_rfl
theorem mrJ28 : ((Rows.metaReadsRow.kinds == (if Rows.metaReadsRow.domain.isEmpty then [] else Tryd.f6.params.toList.map fun t => match Tryd.prog.underlying t with | some (.int k) => some k | _ => none))) = true := by kernel_rfl
theorem mrJ29 : ((Rows.metaReadsRow.pinned == Rows.metaReadsRow.pinnedBy)) = true := by kernel_rfl
theorem mrJ30 : ((Rows.metaReadsRow.veiled == (Tryd.f6.params.toList ++ Rows.metaReadsSpec.plain.varTypes Tryd.prog ++ Tryd.f6.resultTypes.toList).any (Tryd.prog.veiledRec ·))) = true := by kernel_rfl
theorem mrJ31 : (Rows.metaReadsRow.veiledFits Tryd.prog Tryd.f6.params.toList (Tryd.f6.params.toList ++ Rows.metaReadsSpec.plain.varTypes Tryd.prog ++ Tryd.f6.resultTypes.toList)) = true := by kernel_rfl
set_option maxRecDepth 100000 in
theorem metaReads_facts : joinedFacts Tryd.prog 6 Tryd.f6 Rows.metaReadsSpec Rows.metaReadsRow = true := mrJandT (mrJandT (mrJandT (mrJandT (mrJandT (mrJandT (mrJandT (mrJandT (mrJandT (mrJandT (mrJandT (mrJandT (mrJandT (mrJandT (mrJandT (mrJandT (mrJandT (mrJandT (mrJandT (mrJandT (mrJandT (mrJandT (mrJandT (mrJandT (mrJandT (mrJandT (mrJandT (mrJandT (mrJandT (mrJandT (mrJandT mrJ0 mrJ1) mrJ2) mrJ3) mrJ4) mrJ5) mrJ6) mrJ7) mrJ8) mrJ9) mrJ10) mrJ11) mrJ12) mrJ13) mrJ14) mrJ15) mrJ16) mrJ17) mrJ18) mrJ19) mrJ20) mrJ21) mrJ22) mrJ23) mrJ24) mrJ25) mrJ26) mrJ27) mrJ28) mrJ29) mrJ30) mrJ31

end Go.Proofs.YtecffghcpknmjaaDoor

/- Whatever the tree, the law MetaReads returns true, and its arguments read behind the call as before; the card ties the library variables that the row lists; no conditions. -/
namespace Go.Proofs.YtecffghcpknmjaaDoor
open Go Go.ChangeShapes Go.WideShapes Go.ChangeAt Go.RowKit Go.ChangeMaps

theorem rt_nodemetaReads : Tryd.prog.readableRec 47 = true := by kernel_rfl
theorem lt_nodemetaReads : 47 < Tryd.prog.types.size := of_decide_eq_true (by kernel_rfl)

set_option maxRecDepth 100000 in
theorem open_node {H : Type} {enc : TypeId × Value → H} {W : World} {base : Nat} {v : Value} {d : DataW H} {p : List MemPlace} (hval : Value.okWide Tryd.prog W .any base 47 v)
    (h : DataW.Trod enc Tryd.prog W 0 (fun _ => true) true 47 v d p) : ∃ t av kv, v = nodeV t av kv ∧ NodeOf W t av kv := by
  obtain ⟨fuel, hf⟩ := h
  obtain ⟨⟨t, av, kv⟩, hcs, hok, -⟩ := opens_node _ _ _ hf
  refine ⟨t, av, kv, ?_, hok⟩
  simp only [Value.okWide, Tryd.underlying47] at hval
  obtain ⟨cs, rfl, -⟩ := hval
  simp only [Value.cells] at hcs
  show Value.agg cs = Value.agg (trC (t, av, kv)).toArray
  rw [← hcs]

set_option maxRecDepth 100000 in
theorem metaReads_lifted (os : Os) (started : os.Started) (H : Type) (enc : TypeId × Value → H) :
    ReturnsInHanded {} Tryd.checked os 6 .any (fun w args => (Rows.metaReadsSpec.pre enc Tryd.prog Tryd.f6 Rows.metaReadsRow.domain false w args ∧ laidMetH Tryd.prog laidL w) ∧ sizedMet enc Tryd.prog Tryd.f6 (OpenSpec.ofChange Rows.metaReadsSpec) false w args)
      (Rows.metaReadsSpec.post enc Tryd.prog Tryd.f6 false true false false) := by
  refine handed_tied (C := Tryd.checked) (X := fun w _ => laidMetH Tryd.prog laidL w) own started (by kernel_rfl) Tryd.func6
    (ChangeSpec.witness_shaped (enc := enc) (C := Tryd.checked) (os := os) (X := fun w _ => laidMetH Tryd.prog laidL w) false (World.laidAll Tryd.prog os laidL) #[.agg #[.string .empty, .slice none 0 0, .slice none 0 0, .string .empty]] 8 (World.laidAll_os _ _ _)
      (World.shaped_of_ZipB (by kernel_rfl) (by kernel_rfl)) (by kernel_rfl) (by kernel_rfl) (by kernel_rfl)
      (by rw [MakeChecks.laidMetH_plain _ _ _ (by kernel_rfl)]; exact laidMet_laidAll _ (by kernel_rfl) (by kernel_rfl))) ?_
  intro W base args ds gs before hval0 hW _ hsh
  have hval : ∀ (j : Nat) t v, Tryd.f6.params[j]? = some t → args[j]? = some v → Value.okWide Tryd.prog W .any base t v := hval0
  have hW' := hW
  obtain ⟨p, q, hA0, hV, rfl, hfz, hnd⟩ := hW
  have hA : DataW.TrodAll enc Tryd.prog W 0 (fun _ => true) true Tryd.f6.params.toList args.toList ds p := hA0
  have hA' := hA
  rw [Tryd.params6] at hA hval
  obtain ⟨v0, d0, rfl, rfl, h0⟩ := trodAll_one hA
  obtain ⟨rfl, rfl⟩ := trodVars_none hV
  obtain ⟨t0, av0, kv0, rfl, hn0⟩ := open_node (hval 0 47 v0 rfl rfl) h0
  clear hA0 hval0
  have hlt : ∀ x ∈ p, x.block < W.heap.size := fun x hx => by simpa using hW'.lt x (by simpa using hx)
  refine (metaReads_of refParts_any t0 av0 kv0 W hn0).mono fun en W' ⟨he, hb⟩ => ?_
  subst he
  refine ⟨_, rfl, _, _, _, [], p, [], hW', trodAll_mk1 (shut_bool Tryd.underlying4 _), trodAll_below hb ?_ hA' hlt, rfl, hb.frame _, fun h => by cases h⟩
  rw [Tryd.params6]
  intro t ht
  simp at ht
  rcases ht with rfl
  · exact ⟨rt_nodemetaReads, lt_nodemetaReads⟩

theorem metaReads_row : Rows.MetaReadsSaid :=
  OpenClaim.holds_of_wide 6 Tryd.f6 rfl rfl rfl rfl rfl rfl rfl ⟨rfl, rfl, rfl, rfl, rfl⟩ rfl rfl rfl rfl rfl (by kernel_rfl) Tryd.func6 metaReads_facts
    (of_decide_eq_true (by kernel_rfl)) (by unfold Func.isWrapper; rw [if_neg (of_decide_eq_false (by kernel_rfl))]; exact ⟨rfl, rfl⟩)
    (fun os started H enc _ => metaReads_lifted os started H enc)

theorem metaReads_holds : Rows.MetaReadsCardSaid :=
  Claim7.holds_tied_plain_at .later [] [.data, .pinned] true (true, "ca75daf36b89d509da9f66e728777df19afa45d836f1bfaf4e400548447fbc23") false
    metaReads_row (fun _ h => by cases h) (by kernel_rfl) (fun _ h => by cases h) metaReads_row_tie rfl ⟨rfl, rfl⟩ (by kernel_rfl) rfl
    (fun f fn hf hfn => by
      obtain rfl : f = 6 := Option.some.inj ((show Tryd.prog.funcNamed "pomace/pomacelaw23.MetaReads" = some 6 by kernel_rfl).symm.trans hf) |>.symm
      obtain rfl : fn = Tryd.f6 := (Option.some.inj (Tryd.func6.symm.trans hfn)).symm
      exact ⟨by kernel_rfl, fun j t ht => by
        rw [Tryd.params6] at ht
        have hm : t ∈ [47] := by simpa using Array.mem_of_getElem? ht
        have hall : ([47].all fun u => !Tryd.prog.wantsStandIn u) = true := by kernel_rfl
        exact (show Tryd.prog.wantsStandIn t = false by simpa using List.all_eq_true.1 hall t hm)⟩)
    (by kernel_rfl)

#print axioms metaReads_holds

end Go.Proofs.YtecffghcpknmjaaDoor
