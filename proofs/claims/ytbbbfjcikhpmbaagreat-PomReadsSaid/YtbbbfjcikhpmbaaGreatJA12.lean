/- Walks of the tree's Attr, Kids and Text; their conditions stand in the theorems. -/
import Derived.Test.YtbbbfjcikhpmbaaGreatJA11
import Derived.Test.YtbbbfjcikhpmbaaGreatJA05
import Derived.Test.YtbbbfjcikhpmbaaGreatJA02
import Derived.Lib.Bytealg
import Derived.Lib.SplitLaws
import Derived.Test.YtbbbfjcikhpmbaaGreatShelf
import Derived.Laws.IdiomStrings
import Derived.Laws.BytesArg
import Derived.Orders
import Derived.Laws.EntriesVeiled

namespace Go.Proofs.YtbbbfjcikhpmbaaGreat
open Go Go.RowKit

/-- Is this a kid that is asked for? -/
def isKid (m : Bs) (t : Tr) : Bool := !t.name.isEmpty && (m.isEmpty || decide (t.name = m))
def kidsF (m : Bs) (l : List Tr) : List Tr := l.filter (isKid m)
/-- The texts' letters. -/
def textF : List Tr → Bs
 | [] => []
 | t :: l => (if t.name.isEmpty then t.text else []) ++ textF l
theorem kidsF_take {m : Bs} {l : List Tr} {k : Nat} (h : k < l.length) : kidsF m (l.take (k + 1)) = kidsF m (l.take k) ++ if isKid m l[k] then [l[k]] else [] := by
 unfold kidsF
 rw [List.take_succ_eq_append_getElem h, List.filter_append]
 congr 1
 by_cases hk : isKid m l[k] = true
 · simp [hk]
 · simp [hk]
theorem textF_append : ∀ (l r : List Tr), textF (l ++ r) = textF l ++ textF r
 | [], r => by simp [textF]
 | t :: l, r => by rw [List.cons_append, textF, textF, textF_append l r, List.append_assoc]
theorem textF_take {l : List Tr} {k : Nat} (h : k < l.length) : textF (l.take (k + 1)) = textF (l.take k) ++ if l[k].name.isEmpty then l[k].text else [] := by
 rw [List.take_succ_eq_append_getElem h, textF_append]; simp [textF]
theorem textF_take_le : ∀ (l : List Tr) (k : Nat), (textF (l.take k)).length ≤ (textF l).length
 | [], k => by simp
 | t :: l, 0 => by simp [textF]
 | t :: l, k + 1 => by have := textF_take_le l k; simp only [List.take_succ_cons, textF, List.length_append]; omega
/-- A list of nodes that a call has collected. -/
structure Coll (B : Nat) (w wr : World) (v : Value) (L : List TrV) : Prop where
 below : Below B w wr
 own : Owns B 25 4 trC wr v L
 nodes : ∀ y ∈ L, NodeX (fun j => B ≤ j) wr y.1 y.2.1 y.2.2
/-- The same, of nodes that lie outside of some blocks besides. -/
structure CollX (X : Nat → Prop) (B : Nat) (w wr : World) (v : Value) (L : List TrV) : Prop where
 below : Below B w wr
 own : Owns B 25 4 trC wr v L
 nodes : ∀ y ∈ L, NodeX (fun j => X j ∨ B ≤ j) wr y.1 y.2.1 y.2.2
theorem CollX.coll {X : Nat → Prop} {B : Nat} {w wr : World} {v : Value} {L : List TrV} (h : CollX X B w wr v L) : Coll B w wr v L :=
 ⟨h.below, h.own, fun y hy => (h.nodes y hy).keep (KeptX.refl _ _) (fun _ _ h => .inr h)⟩
theorem CollX.alloc {X : Nat → Prop} {B : Nat} {w wr : World} {v : Value} {L : List TrV} (h : CollX X B w wr v L) (hB : B ≤ wr.heap.size) (o : Obj) : CollX X B w (wr.alloc o) v L :=
 ⟨h.below.alloc hB o, h.own.alloc o, fun y hy => (h.nodes y hy).later ((Below.refl _ _).alloc (Nat.le_refl _) _)⟩
theorem CollX.push {X : Nat → Prop} {B : Nat} {w wr w8 : World} {v v8 : Value} {L : List TrV} {y : TrV} (h : CollX X B w wr v L) (hy : NodeX (fun j => X j ∨ B ≤ j) wr y.1 y.2.1 y.2.2) (ho : Owns B 25 4 trC w8 v8 (L ++ [y])) (hg : wr.grownBy w8 v.ownBlock) (hB : B ≤ wr.heap.size) : CollX X B w w8 v8 (L ++ [y]) := by
 have hX : ∀ g, v.ownBlock = some g → B ≤ g := fun g e => (h.own.rowOf e).1
 have hk : KeptX (fun j => X j ∨ B ≤ j) wr w8 := KeptX.grown hg (fun g e => .inr (hX g e))
 have hb : Below B wr w8 := ⟨hg.os, hg.tape, hg.output, by have := hg.size; omega, fun k hk => hg.block k (by omega) (fun e => by have := hX k e.symm; omega)⟩
 refine ⟨h.below.trans hb, ho, fun z hz => ?_⟩
 rcases List.mem_append.1 hz with hz | hz
 · exact (h.nodes z hz).keep hk (fun _ _ h => h)
 · obtain rfl := List.mem_singleton.1 hz
   exact hy.keep hk (fun _ _ h => h)
/-- The literal of one node. -/
theorem lit_one (y : TrV) (W : World) (H : Nat) (hH : W.heap.size = H) : SliceOf 4 trC (W.alloc (.cells (trC y).toArray 25)) (.slice (some ⟨H, 0, none⟩) 1 1) [y] := by
 have h := sliceLit trC_len W [y] 25 H 1 hH rfl (by unfold maxLen; simp)
 simpa using h
theorem one_one (t : Tr) (a1 a3 : Option Addr) (l1 l3 a2 a4 : Nat) : ∀ y ∈ [((t, .slice a1 l1 a2, .slice a3 l3 a4) : TrV)], ∀ u ∈ trC y, u.oneCell' = true := by
 intro y hy u hu
 obtain rfl := List.mem_singleton.1 hy
 simp only [trC, nodeC, List.mem_cons, List.not_mem_nil, or_false] at hu
 rcases hu with rfl | rfl | rfl | rfl <;> rfl
theorem filter_len (m : Bs) (l : List Tr) (k : Nat) : (kidsF m (l.take k)).length ≤ k := by
 have h1 := List.length_filter_le (isKid m) (l.take k)
 have h2 : (l.take k).length ≤ k := List.length_take_le _ _
 unfold kidsF; omega
set_option maxRecDepth 100000 in
set_option maxHeartbeats 8000000 in
theorem kids_x {X : Nat → Prop} (t : Tr) (m : Bs) (w : World) (av kv : Value) (ht : NodeX X w t av kv) (hkl : t.kids.length ≤ 100000) :
    Calls Tryz.prog 83 #[nodeV t av kv, .string (bs m)] w fun e w' => ∃ v L, e = .returned v ∧ L.map (·.1) = kidsF m t.kids ∧ CollX X w.heap.size w w' v L := by
 obtain ⟨ao, ac, ko, kc, rfl, rfl, hal, -⟩ := ht.shape
 have HT := Lib.hid ht
 clear ht
 unfold nodeV
 go_enter Tryz.func83, Tryz.ntmps83
 go_wp2
 go_loopw [4, 10] (fun v i wr => ∃ (k : Nat) (L : List TrV) (v' : Value), k ≤ t.kids.length ∧ i = .int .i64 k ∧ v = v' ∧ Hid (w.heap.size < wr.heap.size ∧ CollX X w.heap.size w wr v' L ∧ L.map (·.1) = kidsF m (t.kids.take k))) (fun _ i _ => t.kids.length - (intOf i).toNat)
 case atStart => exact ⟨0, [], _, Nat.zero_le _, rfl, rfl, by simp, ⟨(Below.refl _ w).alloc (Nat.le_refl _) _, Owns.nil, by simp⟩, by simp [kidsF]⟩
 case round =>
  obtain ⟨k, L, v, hk, rfl, rfl, HR⟩ := hrel
  obtain ⟨la, lc, hlv⟩ := HR.out.2.1.own.shape
  subst hlv
  by_cases hlt : k < t.kids.length
  · obtain ⟨g, o, a1, a2, a3, a4, rfl, hg, -, c0, c1, c2, c3, hn1⟩ := (HT.out.later HR.out.2.1.below).at k hlt
    have hnX : NodeX (fun j => X j ∨ w.heap.size ≤ j) w t (.slice ao t.attrs.length ac) (.slice (some ⟨g, o, none⟩) t.kids.length kc) := HT.out.keep (KeptX.refl _ _) (fun k h1 h2 => h2.elim id (fun h => by omega))
    obtain ⟨g', o', b1, b2, b3, b4, e1, -, -, d0, d1, d2, d3, hn2⟩ := (hnX.keep (KeptX.below HR.out.2.1.below) (fun _ _ h => h)).at k hlt
    simp only [Option.some.injEq, Addr.mk.injEq, and_true] at e1
    obtain ⟨rfl, rfl⟩ := e1
    rw [c1] at d1
    rw [c2] at d2
    simp only [Option.some.injEq, Value.slice.injEq, true_and] at d1 d2
    obtain ⟨rfl, rfl⟩ := d1
    obtain ⟨rfl, rfl⟩ := d2
    have hki : (k : Int) < (t.kids.length : Int) := by omega
    have HD := Lib.hid (kidsF_take (m := m) hlt)
    have HC := Lib.hid (fun o => HR.out.2.1.alloc (Nat.le_of_lt HR.out.1) o)
    have HZ := Lib.hid (fun o => (show w.heap.size < (wr.alloc o).heap.size by have := HR.out.1; simp; omega))
    have HN := Lib.hid hn2
    have hE := bs_beq2 t.kids[k].name m
    have hLl : L.length ≤ k := by
     have h1 := filter_len m t.kids k
     rw [← HR.out.2.2] at h1
     simpa using h1
    clear d0 d3 hn1 hn2 hnX
    by_cases hne : t.kids[k].name = []
    · have he : (bs t.kids[k].name : S).toList.isEmpty = true := by rw [empty_data, bs_size, hne]; rfl
      have he2 : (!(bs t.kids[k].name : S).toList.isEmpty) = false := by rw [he]; rfl
      have hik : isKid m t.kids[k] = false := by unfold isKid; rw [hne]; rfl
      rw [hik] at HD
      clear hne hE hik
      go_wp2
      go_roundw
      case rel => exact ⟨k + 1, L, _, hlt, by go_num, rfl, HZ.out _, HC.out _, by rw [HD.out, HR.out.2.2]; simp⟩
      case measure => simp [intOf]; omega
    · have he : (bs t.kids[k].name : S).toList.isEmpty = false := by rw [empty_data, bs_size]; simpa using hne
      have he2 : (!(bs t.kids[k].name : S).toList.isEmpty) = true := by rw [he]; rfl
      have hkE : t.kids[k].name.isEmpty = false := by simpa using hne
      have hmE : (bs m : S).toList.isEmpty = m.isEmpty := by rw [empty_data, bs_size]; cases m <;> simp
      have hik : isKid m t.kids[k] = (m.isEmpty || decide (t.kids[k].name = m)) := by unfold isKid; rw [hkE]; rfl
      clear hne
      have hcs : (isKid m t.kids[k] = false ∧ (bs m : S).toList.isEmpty = false ∧ ((bs t.kids[k].name : S).toList == (bs m : S).toList) = false) ∨ (isKid m t.kids[k] = true ∧ (bs m : S).toList.isEmpty = true) ∨ (isKid m t.kids[k] = true ∧ (bs m : S).toList.isEmpty = false ∧ ((bs t.kids[k].name : S).toList == (bs m : S).toList) = true) := by
       rw [hik, hmE, hE]
       cases m.isEmpty <;> cases decide (t.kids[k].name = m) <;> simp
      clear hik hmE hE hkE
      rcases hcs with ⟨hik, hm1, hE⟩ | hcs
      · rw [hik] at HD
        clear hik
        go_wp2
        go_roundw
        case rel => exact ⟨k + 1, L, _, hlt, by go_num, rfl, HZ.out _, HC.out _, by rw [HD.out, HR.out.2.2]; simp⟩
        case measure => simp [intOf]; omega
      · have hikt : isKid m t.kids[k] = true := by rcases hcs with ⟨h, -⟩ | ⟨h, -⟩ <;> exact h
        rw [hikt] at HD
        have HOO : Hid (∀ o o2, Owns w.heap.size 25 4 trC ((wr.alloc o).alloc o2) (.slice la L.length lc) L) := fun o o2 => ((HC.out o).own).alloc o2
        have HFI : Hid (∀ o o2 v8 w8, Owns w.heap.size 25 4 trC w8 v8 (L ++ [(t.kids[k], .slice a1 t.kids[k].attrs.length a2, .slice a3 t.kids[k].kids.length a4)]) → ((wr.alloc o).alloc o2).grownBy w8 (Value.slice la L.length lc).ownBlock → w.heap.size < w8.heap.size ∧ CollX X w.heap.size w w8 v8 (L ++ [(t.kids[k], .slice a1 t.kids[k].attrs.length a2, .slice a3 t.kids[k].kids.length a4)])) := fun o o2 v8 w8 h1 h2 =>
         ⟨by have := h2.size; have := HZ.out o; simp at *; omega, ((HC.out o).alloc (Nat.le_of_lt (HZ.out o)) o2).push ((HN.out.later ((Below.refl _ _).alloc (Nat.le_refl _) _)).later ((Below.refl _ _).alloc (Nat.le_refl _) _)) h1 h2 (by have := HZ.out o; simp at *; omega)⟩
        have HSZ2 : Hid (∀ o o2, w.heap.size ≤ ((wr.alloc o).alloc o2).heap.size) := fun o o2 => by have := HZ.out o; simp at *; omega
        have HBY : Hid (∀ y : TrV, (L.length + [y].length) * 80 ≤ 140737488355328) := fun y => by simp only [List.length_cons, List.length_nil]; omega
        have HLL := Lib.hid hLl
        have HIS := Lib.hid HR.out.2.2
        have hCS : ((bs m : S).toList.isEmpty = true) ∨ ((bs m : S).toList.isEmpty = false ∧ ((bs t.kids[k].name : S).toList == (bs m : S).toList) = true) := by
         rcases hcs with ⟨-, h⟩ | ⟨-, h⟩
         · exact .inl h
         · exact .inr h
        clear hcs hikt HR HT HN HC HZ hLl
        generalize hkk : t.kids[k] = y at *
        obtain ⟨yn, ya, yk, yx⟩ := y
        simp only [Tr.name, Tr.attrs, Tr.kids, Tr.text] at *
        rcases hCS with hm1 | ⟨hm1, hE⟩
        all_goals
         go_wp2_with (at_builtin; go_loud ((refine wpList_append_slice _ rfl _ _ 23 rfl w.heap.size 25 Tryz.underlying23 info_node rfl (by decide) trC_len (.slice la L.length lc) L rfl (HOO.out _ _) _ [((.mk yn ya yk yx, .slice a1 ya.length a2, .slice a3 yk.length a4) : TrV)] rfl (lit_one (.mk yn ya yk yx, .slice a1 ya.length a2, .slice a3 yk.length a4) _ _ (by simp)) (one_one _ _ _ _ _ _ _) (HBY.out _) (by decide) (HSZ2.out _ _) ?_; intro v8 w8 hown8 hgrow8 hloc8; have HP8 := Lib.hid (HFI.out _ _ _ _ hown8 hgrow8); clear hown8 hgrow8 hloc8)))
         go_wp2
         go_roundw
         case rel => exact ⟨k + 1, _, _, hlt, by go_num, rfl, HP8.out.1, HP8.out.2, by rw [HD.out, List.map_append, HIS.out]; rfl⟩
         case measure => simp [intOf]; omega
  · obtain rfl : k = t.kids.length := by omega
    have HF : Hid (L.map (·.1) = kidsF m t.kids) := by show _ = _; rw [HR.out.2.2, List.take_length]
    go_wp2
    go_ret
    exact ⟨_, L, rfl, HF.out, HR.out.2.1⟩
theorem kids_any (t : Tr) (m : Bs) (w : World) (av kv : Value) (ht : NodeOf w t av kv) (hkl : t.kids.length ≤ 100000) :
    Calls Tryz.prog 83 #[nodeV t av kv, .string (bs m)] w fun e w' => ∃ v L, e = .returned v ∧ L.map (·.1) = kidsF m t.kids ∧ Coll w.heap.size w w' v L :=
 (kids_x t m w av kv ht hkl).mono fun _ _ ⟨v, L, h1, h2, h3⟩ => ⟨v, L, h1, h2, h3.coll⟩
set_option maxRecDepth 100000 in
set_option maxHeartbeats 8000000 in
theorem text_any (t : Tr) (w : World) (av kv : Value) (ht : NodeOf w t av kv) (hx : (textF t.kids).length ≤ 1000000000) :
    Calls Tryz.prog 119 #[nodeV t av kv] w fun e w' => e = .returned (.string (bs (trimB (textF t.kids)))) ∧ Below w.heap.size w w' := by
 obtain ⟨ao, ac, ko, kc, rfl, rfl, -, hkl⟩ := ht.shape
 have HT := Lib.hid ht
 have HX := Lib.hid hx
 clear ht hx
 unfold nodeV
 go_enter Tryz.func119, Tryz.ntmps119
 go_wp2
 go_loopw [3, 9] (fun a i wr => ∃ (k : Nat) (s : S), k ≤ t.kids.length ∧ i = .int .i64 k ∧ a = .string s ∧ Hid (Below w.heap.size w wr ∧ s = bs (textF (t.kids.take k)))) (fun _ i _ => t.kids.length - (intOf i).toNat)
 case atStart => exact ⟨0, ⟨#[]⟩, Nat.zero_le _, rfl, rfl, (Below.refl _ w).alloc (Nat.le_refl _) _, by simp [textF]; rfl⟩
 case round =>
  obtain ⟨k, s, hk, rfl, rfl, HR⟩ := hrel
  by_cases hlt : k < t.kids.length
  · obtain ⟨g, o, a1, a2, a3, a4, rfl, hg, -, c0, c1, c2, c3, -⟩ := (HT.out.later HR.out.1).at k hlt
    have hki : (k : Int) < (t.kids.length : Int) := by omega
    have HD := Lib.hid (textF_take hlt)
    have HB := Lib.hid (fun o => HR.out.1.alloc HR.out.1.size o)
    by_cases hne : t.kids[k].name = []
    · have he : (bs t.kids[k].name : S).toList.isEmpty = true := by rw [empty_data, bs_size, hne]; rfl
      have hkE : t.kids[k].name.isEmpty = true := by rw [hne]; rfl
      rw [hkE] at HD
      obtain ⟨X, hX⟩ : ∃ X : S, X = bs t.kids[k].text := ⟨_, rfl⟩
      rw [← hX] at c3
      have HS : Hid (s ++ X = bs (textF (t.kids.take (k + 1)))) := by show _ = _; rw [HR.out.2, hX, bs_append, HD.out]; rfl
      have hsz : ¬ 9223372036854775807 < s.size + X.size := by
       have h1 := textF_take_le t.kids (k + 1)
       have h2 := HX.out
       have h3 : (s ++ X).size = (textF (t.kids.take (k + 1))).length := by rw [HS.out, bs_size]
       have h4 : (s ++ X).size = s.size + X.size := by simp
       omega
      clear hne hX hkE HD
      go_wp2
      go_roundw
      case rel => exact ⟨k + 1, s ++ X, hlt, by go_num, rfl, HB.out _, HS.out⟩
      case measure => simp [intOf]; omega
    · have he : (bs t.kids[k].name : S).toList.isEmpty = false := by rw [empty_data, bs_size]; simpa using hne
      have hkE : t.kids[k].name.isEmpty = false := by simpa using hne
      rw [hkE] at HD
      have HS : Hid (s = bs (textF (t.kids.take (k + 1)))) := by show _ = _; rw [HD.out, HR.out.2]; simp
      clear hne hkE HD
      go_wp2
      go_roundw
      case rel => exact ⟨k + 1, s, hlt, by go_num, rfl, HB.out _, HS.out⟩
      case measure => simp [intOf]; omega
  · obtain rfl : k = t.kids.length := by omega
    have hs : s = bs (textF t.kids) := by have := HR.out.2; rwa [List.take_length] at this
    have HTR := Lib.hid (trim_any s wr (by rw [hs, bs_size]; exact HX.out))
    have HS : Hid (s.data.toList = textF t.kids) := by show _ = _; rw [hs]; rfl
    clear hs
    go_wp2_with fail
    refine HTR.out.mono ?_
    rintro e w4 ⟨x, rfl, hx, rfl⟩
    have HX : Hid (x = bs (trimB (textF t.kids))) := by show _ = _; rw [← HS.out, ← hx, data_bs]
    clear hx
    go_wp2
    go_ret
    exact ⟨by rw [← HX.out]; rfl, HR.out.1⟩

end Go.Proofs.YtbbbfjcikhpmbaaGreat

/- Pins, locks, edits; which ids, versions, Keys may be; the order of Keys; no program in sight. -/
namespace Go.Proofs.YtbbbfjcikhpmbaaGreat
open Go Go.RowKit

def idByte (c : UInt8) : Bool := (decide (97 ≤ c.toNat) && decide (c.toNat ≤ 122)) || (decide (65 ≤ c.toNat) && decide (c.toNat ≤ 90)) || (decide (48 ≤ c.toNat) && decide (c.toNat ≤ 57)) || c.toNat == 46 || c.toNat == 45 || c.toNat == 95
def verByte (c : UInt8) : Bool := idByte c || c.toNat == 43
theorem idByte_iff {c : UInt8} : idByte c = true ↔ (97 ≤ c.toNat ∧ c.toNat ≤ 122) ∨ (65 ≤ c.toNat ∧ c.toNat ≤ 90) ∨ (48 ≤ c.toNat ∧ c.toNat ≤ 57) ∨ c.toNat = 46 ∨ c.toNat = 45 ∨ c.toNat = 95 := by
 simp [idByte, or_assoc]
theorem verByte_iff {c : UInt8} : verByte c = true ↔ (97 ≤ c.toNat ∧ c.toNat ≤ 122) ∨ (65 ≤ c.toNat ∧ c.toNat ≤ 90) ∨ (48 ≤ c.toNat ∧ c.toNat ≤ 57) ∨ c.toNat = 46 ∨ c.toNat = 45 ∨ c.toNat = 95 ∨ c.toNat = 43 := by
 simp [verByte, idByte, or_assoc]
theorem idByte_no {c : UInt8} (h : idByte c = false) : ¬ ((97 ≤ c.toNat ∧ c.toNat ≤ 122) ∨ (65 ≤ c.toNat ∧ c.toNat ≤ 90) ∨ (48 ≤ c.toNat ∧ c.toNat ≤ 57) ∨ c.toNat = 46 ∨ c.toNat = 45 ∨ c.toNat = 95) := by
 rw [← idByte_iff, h]; simp
theorem verByte_no {c : UInt8} (h : verByte c = false) : ¬ ((97 ≤ c.toNat ∧ c.toNat ≤ 122) ∨ (65 ≤ c.toNat ∧ c.toNat ≤ 90) ∨ (48 ≤ c.toNat ∧ c.toNat ≤ 57) ∨ c.toNat = 46 ∨ c.toNat = 45 ∨ c.toNat = 95 ∨ c.toNat = 43) := by
 rw [← verByte_iff, h]; simp
def isIdB (s : S) : Bool := s.data.toList.all idByte && decide (1 ≤ s.size) && decide (s.size ≤ 64)
def verMay (s : S) : Bool := s.data.toList.all verByte && decide (1 ≤ s.size) && decide (s.size ≤ 64)

end Go.Proofs.YtbbbfjcikhpmbaaGreat

/- Texts of locks: pieces, numbers, words, which text is which lock or which line is wrong; no program in sight. -/
namespace Go.Proofs.YtbbbfjcikhpmbaaGreat
open Go Go.RowKit

def scopeN (d : Bs) : Int :=
 if d = [99, 111, 109, 112, 105, 108, 101] then 1 else if d = [114, 117, 110, 116, 105, 109, 101] then 2 else if d = [112, 114, 111, 118, 105, 100, 101, 100] then 3
 else if d = [115, 121, 115, 116, 101, 109] then 4 else if d = [116, 101, 115, 116] then 5 else 0

end Go.Proofs.YtbbbfjcikhpmbaaGreat

/- Walks: which ids and versions may be, the program's and the document's; the conditions stand in the theorems. -/
namespace Go.Proofs.YtbbbfjcikhpmbaaGreat
open Go Go.RowKit

theorem conv_str (w : World) (xs : List Int) (l : Bs) (h : xs.map (fun n => UInt8.ofNat n.toNat) = l) (C : Array Value) (hC : C = (xs.map (Value.int .u8)).toArray) (k : Nat) (hk : k = xs.length) :
    (convert 106 9 (.slice (some ⟨w.heap.size, 0, none⟩) k k)).run Tryz.prog (w.alloc (.cells C 5)) = .ok (.string (bs l)) (w.alloc (.cells C 5)) := by
 subst hk hC
 rw [run_convert_bytes_arg (P := Tryz.prog) (w.alloc (.cells (xs.map (Value.int .u8)).toArray 5)) 106 5 Tryz.underlying106 Tryz.underlying5 w.heap.size 0 xs.length xs.length xs rfl ?_ 9 Tryz.underlying9]
 · rw [← h]; rfl
 · intro i hi
   rw [World.cell?_alloc_mark]
   simp [List.getElem?_eq_getElem hi]
def mayB (P : UInt8 → Bool) (s : S) : Bool := s.data.toList.all P && decide (1 ≤ s.size) && decide (s.size ≤ 64)
theorem eqI (n : Nat) (k : Nat) (j : Int) (h : j = k) : ((n : Int) == j) = decide (n = k) := by
 rw [h, Bool.eq_iff_iff]; simp; omega
theorem neI (n : Nat) (k : Nat) (j : Int) (h : j = k) : ((n : Int) != j) = !decide (n = k) := by
 rw [bne, eqI n k j h]
theorem mayB_bad {P : UInt8 → Bool} {s : S} {k : Nat} (h : k < s.size) (hb : P s[k] = false) : mayB P s = false := by
 have : s.data.toList.all P = false := by
  rw [List.all_eq_false]
  exact ⟨s[k], List.getElem_mem (l := s.data.toList) (n := k) (by rw [size_data]; exact h), by rw [hb]; simp⟩
 unfold mayB; rw [this]; rfl
theorem mayB_end {P : UInt8 → Bool} {s : S} (h : (s.data.toList.take s.size).all P = true) : mayB P s = (decide (1 ≤ s.size) && decide (s.size ≤ 64)) := by
 rw [List.take_of_length_le (by rw [size_data]; exact Nat.le_refl _)] at h
 unfold mayB; rw [h]; rfl
theorem all_step {P : UInt8 → Bool} {s : S} {k : Nat} (h : k < s.size) (ha : (s.data.toList.take k).all P = true) (hb : P s[k] = true) : (s.data.toList.take (k + 1)).all P = true := by
 rw [take_byte s k h, List.all_append, ha]; simpa using hb
set_option maxHeartbeats 1000000 in
theorem isByte_any (c : UInt8) (w : World) : Calls Tryz.prog 85 #[.int .u8 c.toNat] w fun e w' => e = .returned (.bool (idByte c)) ∧ w = w' := by
 have e46 := eqI c.toNat 46 46 rfl
 have e45 := eqI c.toNat 45 45 rfl
 have e95 := eqI c.toNat 95 95 rfl
 have e58 := neI c.toNat 58 58 rfl
 cases hb : idByte c
 · have h := idByte_no hb
   clear hb
   go_enter Tryz.func85, Tryz.ntmps85
   go_wp2
   all_goals first | (exfalso; omega) | (exfalso; rename_i hx; simp at hx; omega) | (go_ret; exact ⟨ret_bool (by simp <;> omega), rfl⟩)
 · have h := idByte_iff.1 hb
   clear hb
   have n58 : ¬ c.toNat = 58 := by omega
   go_enter Tryz.func85, Tryz.ntmps85
   go_wp2
   all_goals first | (exfalso; omega) | (exfalso; rename_i hx; simp at hx; omega) | (go_ret; exact ⟨ret_bool (by simp <;> omega), rfl⟩)
set_option maxRecDepth 100000 in
set_option maxHeartbeats 4000000 in
theorem refIsId_any (s : S) (w : World) (hs : s.size ≤ 9223372036854775807) : Calls Tryz.prog 92 #[.string s] w fun e w' => e = .returned (.bool (isIdB s)) ∧ w = w' := by
 rw [show isIdB s = mayB idByte s from rfl]
 go_enter Tryz.func92, Tryz.ntmps92
 go_wp2
 go_loop [3, 4] (fun i _ => ∃ k : Nat, k ≤ s.size ∧ i = .int .i64 k ∧ Hid ((s.data.toList.take k).all idByte = true)) (fun i _ => s.size - (intOf i).toNat)
 case atStart => exact ⟨0, Nat.zero_le _, rfl, rfl⟩
 case round =>
  obtain ⟨k, hk, rfl, HA⟩ := hrel
  by_cases hlt : k < s.size
  · cases hb : idByte s[k]
    · have HB : Hid (mayB idByte s = false) := mayB_bad hlt hb
      have h := idByte_no hb
      clear hb
      have e46 : (((s[k].toNat : Nat) : Int) == 46) = false := by rw [eqI _ 46 46 rfl, decide_eq_false_iff_not]; omega
      have e45 : (((s[k].toNat : Nat) : Int) == 45) = false := by rw [eqI _ 45 45 rfl, decide_eq_false_iff_not]; omega
      have e95 : (((s[k].toNat : Nat) : Int) == 95) = false := by rw [eqI _ 95 95 rfl, decide_eq_false_iff_not]; omega
      skip
      go_wp2
      all_goals first | (exfalso; omega) | (exfalso; rename_i hx; simp at hx; omega) | (go_ret; exact ⟨ret_bool HB.out.symm, rfl⟩)
    · have HB : Hid ((s.data.toList.take (k + 1)).all idByte = true) := all_step hlt HA.out hb
      have h := idByte_iff.1 hb
      clear hb
      have e46 := eqI s[k].toNat 46 46 rfl
      have e45 := eqI s[k].toNat 45 45 rfl
      have e95 := eqI s[k].toNat 95 95 rfl
      have e43 := eqI s[k].toNat 43 43 rfl
      rcases h with h | h | h | h | h | h
      all_goals
       go_wp2
       all_goals first | (exfalso; omega) | (exfalso; rename_i hx; simp at hx; omega) | skip
       go_round
       case rel => exact ⟨k + 1, by omega, by go_num, HB⟩
       case measure => simp [intOf]; omega
  · obtain rfl : k = s.size := by omega
    have HE : Hid (mayB idByte s = (decide (1 ≤ s.size) && decide (s.size ≤ 64))) := mayB_end HA.out
    by_cases h1 : 1 ≤ s.size
    · have HE2 : Hid (mayB idByte s = decide (s.size ≤ 64)) := by show _ = _; rw [HE.out, decide_eq_true h1]; rfl
      clear HE
      by_cases h2 : s.size ≤ 64
      · have HE3 : Hid (mayB idByte s = true) := by show _ = _; rw [HE2.out, decide_eq_true h2]
        clear HE2
        go_wp2
        all_goals first | (exfalso; omega) | (exfalso; rename_i hx; simp at hx; omega) | (go_ret; exact ⟨ret_bool (by rw [HE3.out] <;> (try simp) <;> (try omega)), rfl⟩)
      · have HE3 : Hid (mayB idByte s = false) := by show _ = _; rw [HE2.out, decide_eq_false h2]
        clear HE2
        go_wp2
        all_goals first | (exfalso; omega) | (exfalso; rename_i hx; simp at hx; omega) | (go_ret; exact ⟨ret_bool (by rw [HE3.out] <;> (try simp) <;> (try omega)), rfl⟩)
    · have HE3 : Hid (mayB idByte s = false) := by show _ = _; rw [HE.out, decide_eq_false h1]; rfl
      clear HE
      go_wp2
      all_goals first | (exfalso; omega) | (exfalso; rename_i hx; simp at hx; omega) | (go_ret; exact ⟨ret_bool (by rw [HE3.out] <;> (try simp) <;> (try omega)), rfl⟩)
set_option maxRecDepth 100000 in
set_option maxHeartbeats 4000000 in
theorem refVer_any (s : S) (w : World) (hs : s.size ≤ 9223372036854775807) : Calls Tryz.prog 93 #[.string s] w fun e w' => e = .returned (.bool (verMay s)) ∧ w = w' := by
 rw [show verMay s = mayB verByte s from rfl]
 go_enter Tryz.func93, Tryz.ntmps93
 go_wp2
 go_loop [3, 4] (fun i _ => ∃ k : Nat, k ≤ s.size ∧ i = .int .i64 k ∧ Hid ((s.data.toList.take k).all verByte = true)) (fun i _ => s.size - (intOf i).toNat)
 case atStart => exact ⟨0, Nat.zero_le _, rfl, rfl⟩
 case round =>
  obtain ⟨k, hk, rfl, HA⟩ := hrel
  by_cases hlt : k < s.size
  · cases hb : verByte s[k]
    · have HB : Hid (mayB verByte s = false) := mayB_bad hlt hb
      have h := verByte_no hb
      clear hb
      have e46 : (((s[k].toNat : Nat) : Int) == 46) = false := by rw [eqI _ 46 46 rfl, decide_eq_false_iff_not]; omega
      have e45 : (((s[k].toNat : Nat) : Int) == 45) = false := by rw [eqI _ 45 45 rfl, decide_eq_false_iff_not]; omega
      have e95 : (((s[k].toNat : Nat) : Int) == 95) = false := by rw [eqI _ 95 95 rfl, decide_eq_false_iff_not]; omega
      have e43 : (((s[k].toNat : Nat) : Int) == 43) = false := by rw [eqI _ 43 43 rfl, decide_eq_false_iff_not]; omega
      go_wp2
      all_goals first | (exfalso; omega) | (exfalso; rename_i hx; simp at hx; omega) | (go_ret; exact ⟨ret_bool HB.out.symm, rfl⟩)
    · have HB : Hid ((s.data.toList.take (k + 1)).all verByte = true) := all_step hlt HA.out hb
      have h := verByte_iff.1 hb
      clear hb
      have e46 := eqI s[k].toNat 46 46 rfl
      have e45 := eqI s[k].toNat 45 45 rfl
      have e95 := eqI s[k].toNat 95 95 rfl
      have e43 := eqI s[k].toNat 43 43 rfl
      rcases h with h | h | h | h | h | h | h
      all_goals
       go_wp2
       all_goals first | (exfalso; omega) | (exfalso; rename_i hx; simp at hx; omega) | skip
       go_round
       case rel => exact ⟨k + 1, by omega, by go_num, HB⟩
       case measure => simp [intOf]; omega
  · obtain rfl : k = s.size := by omega
    have HE : Hid (mayB verByte s = (decide (1 ≤ s.size) && decide (s.size ≤ 64))) := mayB_end HA.out
    by_cases h1 : 1 ≤ s.size
    · have HE2 : Hid (mayB verByte s = decide (s.size ≤ 64)) := by show _ = _; rw [HE.out, decide_eq_true h1]; rfl
      clear HE
      by_cases h2 : s.size ≤ 64
      · have HE3 : Hid (mayB verByte s = true) := by show _ = _; rw [HE2.out, decide_eq_true h2]
        clear HE2
        go_wp2
        all_goals first | (exfalso; omega) | (exfalso; rename_i hx; simp at hx; omega) | (go_ret; exact ⟨ret_bool (by rw [HE3.out] <;> (try simp) <;> (try omega)), rfl⟩)
      · have HE3 : Hid (mayB verByte s = false) := by show _ = _; rw [HE2.out, decide_eq_false h2]
        clear HE2
        go_wp2
        all_goals first | (exfalso; omega) | (exfalso; rename_i hx; simp at hx; omega) | (go_ret; exact ⟨ret_bool (by rw [HE3.out] <;> (try simp) <;> (try omega)), rfl⟩)
    · have HE3 : Hid (mayB verByte s = false) := by show _ = _; rw [HE.out, decide_eq_false h1]; rfl
      clear HE
      go_wp2
      all_goals first | (exfalso; omega) | (exfalso; rename_i hx; simp at hx; omega) | (go_ret; exact ⟨ret_bool (by rw [HE3.out] <;> (try simp) <;> (try omega)), rfl⟩)
set_option maxRecDepth 100000 in
set_option maxHeartbeats 4000000 in
theorem isId_any (s : S) (w : World) (hs : s.size ≤ 9223372036854775807) : Calls Tryz.prog 37 #[.string s] w fun e w' => e = .returned (.bool (isIdB s)) ∧ Below w.heap.size w w' := by
 rw [show isIdB s = mayB idByte s from rfl]
 have hcv := fun (w : World) => conv_bytes w s
 go_enter Tryz.func37, Tryz.ntmps37
 go_wp2_with fail
 clear hcv
 refine wp_world ?_
 intro W hW
 have hcells := fun j h => bytesW_cell w s j h
 have hbel := bytesW_below w s w.heap.size (Nat.le_refl _)
 have hsz := bytesW_size w s
 rw [← hW] at hcells hbel hsz
 have HC := Lib.hid hcells
 have HB0 := Lib.hid hbel
 have hlw : w.heap.size < W.heap.size := by omega
 clear hW hcells hbel hsz
 generalize bytesC w s = cap at *
 go_loopw [4, 8] (fun _ i wr => ∃ k : Nat, k ≤ s.size ∧ i = .int .i64 k ∧ Below W.heap.size W wr ∧ Hid ((s.data.toList.take k).all idByte = true)) (fun _ i _ => s.size - (intOf i).toNat)
 case atStart => exact ⟨0, Nat.zero_le _, rfl, Below.refl _ _, rfl⟩
 case round =>
  obtain ⟨k, hk, rfl, hb, HA⟩ := hrel
  have HBR := Lib.hid hb
  have hlr := hb.size
  have hlw2 : w.heap.size < wr.heap.size := by omega
  by_cases hlt : k < s.size
  · have c0 : wr.cell? ⟨w.heap.size, k, none⟩ = some (.int .u8 (s[k].toNat : Nat)) := (hb.cell (by exact hlw)).trans (HC.out k hlt)
    clear hb
    cases hb : idByte s[k]
    · have HB : Hid (mayB idByte s = false) := mayB_bad hlt hb
      have HI := Lib.hid (fun w => hb ▸ isByte_any s[k] w : ∀ w, Calls Tryz.prog 85 #[.int .u8 s[k].toNat] w fun e w' => e = .returned (.bool false) ∧ w = w')
      clear hb
      go_wp2_with fail
      refine (HI.out _).mono ?_
      rintro e w' ⟨rfl, rfl⟩
      go_wp2
      go_ret
      exact ⟨ret_bool HB.out.symm, HB0.out.trans (HBR.out.mono (Nat.le_of_lt hlw))⟩
    · have HB : Hid ((s.data.toList.take (k + 1)).all idByte = true) := all_step hlt HA.out hb
      have HI := Lib.hid (fun w => hb ▸ isByte_any s[k] w : ∀ w, Calls Tryz.prog 85 #[.int .u8 s[k].toNat] w fun e w' => e = .returned (.bool true) ∧ w = w')
      clear hb
      go_wp2_with fail
      refine (HI.out _).mono ?_
      rintro e w' ⟨rfl, rfl⟩
      go_wp2
      go_roundw
      case rel => exact ⟨k + 1, by omega, by go_num, HBR.out, HB⟩
      case measure => simp [intOf]; omega
  · obtain rfl : k = s.size := by omega
    clear hb
    have HE : Hid (mayB idByte s = (decide (1 ≤ s.size) && decide (s.size ≤ 64))) := mayB_end HA.out
    by_cases h1 : 1 ≤ s.size
    · have HE2 : Hid (mayB idByte s = decide (s.size ≤ 64)) := by show _ = _; rw [HE.out, decide_eq_true h1]; rfl
      clear HE
      by_cases h2 : s.size ≤ 64
      · have HE3 : Hid (mayB idByte s = true) := by show _ = _; rw [HE2.out, decide_eq_true h2]
        clear HE2
        go_wp2
        all_goals first | (exfalso; omega) | (exfalso; rename_i hx; simp at hx; omega) | (go_ret; exact ⟨ret_bool (by rw [HE3.out] <;> (try simp) <;> (try omega)), HB0.out.trans (HBR.out.mono (Nat.le_of_lt hlw))⟩)
      · have HE3 : Hid (mayB idByte s = false) := by show _ = _; rw [HE2.out, decide_eq_false h2]
        clear HE2
        go_wp2
        all_goals first | (exfalso; omega) | (exfalso; rename_i hx; simp at hx; omega) | (go_ret; exact ⟨ret_bool (by rw [HE3.out] <;> (try simp) <;> (try omega)), HB0.out.trans (HBR.out.mono (Nat.le_of_lt hlw))⟩)
    · have HE3 : Hid (mayB idByte s = false) := by show _ = _; rw [HE.out, decide_eq_false h1]; rfl
      clear HE
      go_wp2
      all_goals first | (exfalso; omega) | (exfalso; rename_i hx; simp at hx; omega) | (go_ret; exact ⟨ret_bool (by rw [HE3.out] <;> (try simp) <;> (try omega)), HB0.out.trans (HBR.out.mono (Nat.le_of_lt hlw))⟩)
theorem isDigitV_any (c : UInt8) (b : Bool) (hb : (decide (48 ≤ c.toNat) && decide (c.toNat ≤ 57)) = b) (w : World) : Calls Tryz.prog 86 #[.int .u8 c.toNat] w fun e w' => e = .returned (.bool b) ∧ w = w' := by
 subst hb
 by_cases h1 : 48 ≤ c.toNat
 all_goals
  go_enter Tryz.func86, Tryz.ntmps86
  go_wp2
  all_goals first | (exfalso; omega) | (go_ret; exact ⟨ret_bool (by simp [h1] <;> omega), rfl⟩)
theorem index_marks (c : UInt8) : decide (0 ≤ Lib.indexByte [46, 45, 95, 43] c) = (c.toNat == 46 || c.toNat == 45 || c.toNat == 95 || c.toNat == 43) := by
 have h : ∀ n : Fin 256, decide (0 ≤ Lib.indexByte [46, 45, 95, 43] (UInt8.ofNat n)) = ((UInt8.ofNat n).toNat == 46 || (UInt8.ofNat n).toNat == 45 || (UInt8.ofNat n).toNat == 95 || (UInt8.ofNat n).toNat == 43) := by decide +kernel
 have := h ⟨c.toNat, c.toNat_lt⟩
 simpa only [UInt8.ofNat_toNat] using this
theorem marks_any (c : UInt8) (b : Bool) (hb : (c.toNat == 46 || c.toNat == 45 || c.toNat == 95 || c.toNat == 43) = b) (w : World) : Calls Tryz.prog 87 #[.string ⟨#[46, 45, 95, 43]⟩, .string (bs [c])] w fun e w' => e = .returned (.bool b) ∧ w = w' :=
 (Tryz.strings_Contains_one ⟨#[46, 45, 95, 43]⟩ c w).mono fun _ _ ⟨h1, h2⟩ => ⟨by rw [h1, ← hb]; exact congrArg (fun x => Ending.returned (.bool x)) (index_marks c), h2.symm⟩
set_option maxRecDepth 100000 in
set_option maxHeartbeats 4000000 in
theorem ver_any (s : S) (w : World) (hs : s.size ≤ 9223372036854775807) : Calls Tryz.prog 38 #[.string s] w fun e w' => e = .returned (.bool (verMay s)) ∧ Below w.heap.size w w' := by
 rw [show verMay s = mayB verByte s from rfl]
 have hcv := fun (w : World) => conv_bytes w s
 go_enter Tryz.func38, Tryz.ntmps38
 go_wp2_with fail
 clear hcv
 refine wp_world ?_
 intro W hW
 have hcells := fun j h => bytesW_cell w s j h
 have hbel := bytesW_below w s w.heap.size (Nat.le_refl _)
 have hsz := bytesW_size w s
 rw [← hW] at hcells hbel hsz
 have HC := Lib.hid hcells
 have HB0 := Lib.hid hbel
 have hlw : w.heap.size < W.heap.size := by omega
 clear hW hcells hbel hsz
 generalize bytesC w s = cap at *
 go_loopw [4, 5, 9] (fun _ _ i wr => ∃ k : Nat, k ≤ s.size ∧ i = .int .i64 k ∧ Below W.heap.size W wr ∧ Hid ((s.data.toList.take k).all verByte = true)) (fun _ _ i _ => s.size - (intOf i).toNat)
 case atStart => exact ⟨0, Nat.zero_le _, rfl, Below.refl _ _, rfl⟩
 case round =>
  obtain ⟨k, hk, rfl, hb, HA⟩ := hrel
  have HBR := Lib.hid hb
  have hlr := hb.size
  have hlw2 : w.heap.size < wr.heap.size := by omega
  by_cases hlt : k < s.size
  · have c0 : wr.cell? ⟨w.heap.size, k, none⟩ = some (.int .u8 (s[k].toNat : Nat)) := (hb.cell (by exact hlw)).trans (HC.out k hlt)
    clear hb
    have hcs : (convert 106 9 (.slice (some ⟨wr.heap.size, 0, none⟩) 1 1)).run Tryz.prog (wr.alloc (.cells #[.int .u8 (s[k].toNat : Nat)] 5)) = .ok (.string (bs [s[k]])) (wr.alloc (.cells #[.int .u8 (s[k].toNat : Nat)] 5)) :=
     conv_str wr [(s[k].toNat : Int)] [s[k]] (by simp) _ rfl 1 rfl
    cases hb : verByte s[k]
    · have HB : Hid (mayB verByte s = false) := mayB_bad hlt hb
      have h := verByte_no hb
      have HM := Lib.hid (fun w => marks_any s[k] false (by rw [Bool.eq_false_iff]; intro h; simp at h; omega) w)
      have HD := Lib.hid (fun w => isDigitV_any s[k] false (by rw [Bool.eq_false_iff]; intro h; simp at h; omega) w)
      clear hb
      go_wp2_with (first | (go_at_call 86; refine (HD.out _).mono ?_; rintro e w' ⟨rfl, rfl⟩) | (go_at_call 87; refine (HM.out _).mono ?_; rintro e w' ⟨rfl, rfl⟩))
      all_goals first | (exfalso; omega) | (exfalso; rename_i hx; simp at hx; omega) | (go_ret; exact ⟨ret_bool HB.out.symm, HB0.out.trans ((HBR.out.alloc hlr _).mono (Nat.le_of_lt hlw))⟩)
    · have HB : Hid ((s.data.toList.take (k + 1)).all verByte = true) := all_step hlt HA.out hb
      have h := verByte_iff.1 hb
      clear hb
      by_cases hm : (97 ≤ s[k].toNat ∧ s[k].toNat ≤ 122) ∨ (65 ≤ s[k].toNat ∧ s[k].toNat ≤ 90)
      · clear h hcs
        rcases hm with h | h
        all_goals
         go_wp2
         all_goals first | (exfalso; omega) | (exfalso; rename_i hx; simp at hx; omega) | skip
         go_roundw
         case rel => exact ⟨k + 1, by omega, by go_num, HBR.out, HB⟩
         case measure => simp [intOf]; omega
      · by_cases hd : 48 ≤ s[k].toNat ∧ s[k].toNat ≤ 57
        · have HD := Lib.hid (fun w => isDigitV_any s[k] true (by simp; omega) w)
          clear h hcs hm
          go_wp2_with (go_at_call 86; refine (HD.out _).mono ?_; rintro e w' ⟨rfl, rfl⟩)
          all_goals first | (exfalso; omega) | (exfalso; rename_i hx; simp at hx; omega) | skip
          go_roundw
          case rel => exact ⟨k + 1, by omega, by go_num, HBR.out, HB⟩
          case measure => simp [intOf]; omega
        · have HM := Lib.hid (fun w => marks_any s[k] true (by simp; omega) w)
          have HD := Lib.hid (fun w => isDigitV_any s[k] false (by rw [Bool.eq_false_iff]; intro h; simp at h; omega) w)
          go_wp2_with (first | (go_at_call 86; refine (HD.out _).mono ?_; rintro e w' ⟨rfl, rfl⟩) | (go_at_call 87; refine (HM.out _).mono ?_; rintro e w' ⟨rfl, rfl⟩))
          all_goals first | (exfalso; omega) | (exfalso; rename_i hx; simp at hx; omega) | skip
          all_goals
           go_roundw
           case rel => exact ⟨k + 1, by omega, by go_num, HBR.out.alloc hlr _, HB⟩
           case measure => simp [intOf]; omega
  · obtain rfl : k = s.size := by omega
    clear hb
    have HE : Hid (mayB verByte s = (decide (1 ≤ s.size) && decide (s.size ≤ 64))) := mayB_end HA.out
    by_cases h1 : 1 ≤ s.size
    · have HE2 : Hid (mayB verByte s = decide (s.size ≤ 64)) := by show _ = _; rw [HE.out, decide_eq_true h1]; rfl
      clear HE
      by_cases h2 : s.size ≤ 64
      · have HE3 : Hid (mayB verByte s = true) := by show _ = _; rw [HE2.out, decide_eq_true h2]
        clear HE2
        go_wp2
        all_goals first | (exfalso; omega) | (exfalso; rename_i hx; simp at hx; omega) | (go_ret; exact ⟨ret_bool (by rw [HE3.out] <;> (try simp) <;> (try omega)), HB0.out.trans (HBR.out.mono (Nat.le_of_lt hlw))⟩)
      · have HE3 : Hid (mayB verByte s = false) := by show _ = _; rw [HE2.out, decide_eq_false h2]
        clear HE2
        go_wp2
        all_goals first | (exfalso; omega) | (exfalso; rename_i hx; simp at hx; omega) | (go_ret; exact ⟨ret_bool (by rw [HE3.out] <;> (try simp) <;> (try omega)), HB0.out.trans (HBR.out.mono (Nat.le_of_lt hlw))⟩)
    · have HE3 : Hid (mayB verByte s = false) := by show _ = _; rw [HE.out, decide_eq_false h1]; rfl
      clear HE
      go_wp2
      all_goals first | (exfalso; omega) | (exfalso; rename_i hx; simp at hx; omega) | (go_ret; exact ⟨ret_bool (by rw [HE3.out] <;> (try simp) <;> (try omega)), HB0.out.trans (HBR.out.mono (Nat.le_of_lt hlw))⟩)

end Go.Proofs.YtbbbfjcikhpmbaaGreat

/- A region that draws its order, by an invariant on what has come up; no program in sight. -/
namespace Go.Proofs.YtbbbfjcikhpmbaaGreat
open Go Go.RowKit

theorem wpAny_inv {P : Program} {md : Region.Mode} {ops : Array Oper} {Q : Exit → Act → World → Prop} {I : Nat → Array Bool → Act → World → Prop}
    (h0 : ∀ listed a w, I 0 listed a w → Region.ready md ops listed = [] ∧ Q .normal a w)
    (hr : ∀ n listed a w, I (n + 1) listed a w → Region.ready md ops listed ≠ [])
    (hs : ∀ n listed a w, I (n + 1) listed a w → ∀ i ∈ Region.ready md ops listed, wpOp P ops Q i (fun a' w' => I n (listed.setIfInBounds i true) a' w') a w) :
    ∀ n listed a w, I n listed a w → wpAny P md ops Q n listed a w
 | 0, listed, a, w, h => h0 listed a w h
 | n + 1, listed, a, w, h => ⟨fun e => absurd e (hr n listed a w h), fun i hi => wpOp_mono (fun a' w' h' => wpAny_inv h0 hr hs n _ a' w' h') (hs n listed a w h i hi)⟩
theorem wp_region_inv {P : Program} {ops : Array Oper} {Q : Exit → Act → World → Prop} {id : Nat} {a : Act} {w : World} (I : Nat → Array Bool → Act → World → Prop) (hm : P.follows .mixedOrders = true) (k : Nat) (hk : ops.size = k)
    (hi : I k (Array.replicate k false) a w.drew)
    (h0 : ∀ listed a w, I 0 listed a w → Region.ready .any ops listed = [] ∧ Q .normal a w)
    (hr : ∀ n listed a w, I (n + 1) listed a w → Region.ready .any ops listed ≠ [])
    (hs : ∀ n listed a w, I (n + 1) listed a w → ∀ i ∈ Region.ready .any ops listed, wpOp P ops Q i (fun a' w' => I n (listed.setIfInBounds i true) a' w') a w) :
    (Code.region id ops true).wp P Q a w :=
 wp_region_any hm (by subst hk; exact wpAny_inv h0 hr hs _ _ _ _ hi)

end Go.Proofs.YtbbbfjcikhpmbaaGreat

/- Walks: the words of scopes, the program's and the document's; the scope of a word; the texts of keys; the conditions stand in the theorems. -/
namespace Go.Proofs.YtbbbfjcikhpmbaaGreat
open Go Go.RowKit

def wordB (n : Int) : Bs :=
 if n = 1 then [99, 111, 109, 112, 105, 108, 101] else if n = 2 then [114, 117, 110, 116, 105, 109, 101] else if n = 3 then [112, 114, 111, 118, 105, 100, 101, 100] else if n = 4 then [115, 121, 115, 116, 101, 109]
 else if n = 5 then [116, 101, 115, 116] else if n = 6 then [105, 109, 112, 111, 114, 116] else []
theorem word_any (n : Int) (w : World) : Calls Tryz.prog 96 #[.int .i64 n] w fun e w' => e = .returned (.string (bs (wordB n))) ∧ w = w' := by
 go_enter Tryz.func96, Tryz.ntmps96
 by_cases h1 : n = 1
 · subst h1
   go_wp2
   go_ret
   exact ⟨rfl, rfl⟩
 by_cases h2 : n = 2
 · subst h2
   go_wp2
   go_ret
   exact ⟨rfl, rfl⟩
 by_cases h3 : n = 3
 · subst h3
   go_wp2
   go_ret
   exact ⟨rfl, rfl⟩
 by_cases h4 : n = 4
 · subst h4
   go_wp2
   go_ret
   exact ⟨rfl, rfl⟩
 by_cases h5 : n = 5
 · subst h5
   go_wp2
   go_ret
   exact ⟨rfl, rfl⟩
 by_cases h6 : n = 6
 · subst h6
   go_wp2
   go_ret
   exact ⟨rfl, rfl⟩
 have HW : Hid (wordB n = []) := by show _ = _; unfold wordB; rw [if_neg h1, if_neg h2, if_neg h3, if_neg h4, if_neg h5, if_neg h6]
 go_wp2
 go_ret
 exact ⟨by rw [HW.out]; rfl, rfl⟩
set_option maxRecDepth 100000 in
set_option maxHeartbeats 4000000 in
theorem refWord_any (n : Int) (w : World) : Calls Tryz.prog 97 #[.int .i64 n] w fun e w' => e = .returned (.string (bs (wordB n))) ∧ Below w.heap.size w w' := by
 have HB : Hid (∀ o, Below w.heap.size w (w.alloc o)) := fun o => (Below.refl _ w).alloc (Nat.le_refl _) _
 go_enter Tryz.func97, Tryz.ntmps97
 by_cases h0 : n < 0
 · have HW : Hid (wordB n = []) := by show _ = _; unfold wordB; rw [if_neg (by omega), if_neg (by omega), if_neg (by omega), if_neg (by omega), if_neg (by omega), if_neg (by omega)]
   go_wp2
   go_ret
   exact ⟨by rw [HW.out]; rfl, HB.out _⟩
 · by_cases h6 : 6 < n
   · have HW : Hid (wordB n = []) := by show _ = _; unfold wordB; rw [if_neg (by omega), if_neg (by omega), if_neg (by omega), if_neg (by omega), if_neg (by omega), if_neg (by omega)]
     go_wp2
     go_ret
     exact ⟨by rw [HW.out]; rfl, HB.out _⟩
   · rcases (by omega : n = 0 ∨ n = 1 ∨ n = 2 ∨ n = 3 ∨ n = 4 ∨ n = 5 ∨ n = 6) with rfl | rfl | rfl | rfl | rfl | rfl | rfl
     all_goals
      go_wp2
      go_ret
      exact ⟨rfl, HB.out _⟩
/-- The scope of a word, 6 the import's; 0: it is none. -/
def scopeW (d : Bs) : Int := if scopeN d ≠ 0 then scopeN d else if d = [105, 109, 112, 111, 114, 116] then 6 else 0
theorem bs_eqb (a b : Bs) : ((bs a).toList == (bs b).toList) = decide (a = b) := bs_beq a b
set_option maxRecDepth 100000 in
set_option maxHeartbeats 4000000 in
theorem scope_any (d : Bs) (w : World) : Calls Tryz.prog 124 #[.string (bs d)] w fun e w' => e = .returned (.tuple #[.int .i64 (scopeW d), .bool (decide (scopeW d ≠ 0))]) ∧ w = w' := by
 go_enter Tryz.func124, Tryz.ntmps124
 go_wp2_with fail
 go_loop [5] (fun iv => ∃ i : Nat, i ≤ 7 ∧ iv = .int .i64 i ∧ ∀ j : Nat, 1 ≤ j → j < i → wordB j ≠ d) (fun iv => 7 - (intOf iv).toNat)
 case atStart => exact ⟨0, by omega, rfl, fun j h1 h2 => by omega⟩
 case round =>
  obtain ⟨i, hi, rfl, hno⟩ := hrel
  have HNO := Lib.hid hno
  clear hno
  rcases (by omega : i = 0 ∨ i = 1 ∨ i = 2 ∨ i = 3 ∨ i = 4 ∨ i = 5 ∨ i = 6 ∨ i = 7) with rfl | rfl | rfl | rfl | rfl | rfl | rfl | rfl
  · go_wp2
    go_round
    case rel => exact ⟨1, by omega, rfl, fun j h1 h2 => by omega⟩
    case measure => simp [intOf]
  · have HC := Lib.hid (word_any 1 w)
    go_wp2_with fail
    refine HC.out.mono ?_
    rintro e w' ⟨rfl, rfl⟩
    by_cases hd : wordB 1 = d
    · have HS : Hid (scopeW d = 1) := by show _ = _; rw [← hd]; rfl
      have he := bs_eqb (wordB 1) d
      rw [decide_eq_true hd] at he
      clear hd
      go_wp2
      go_ret2
      exact ⟨by rw [HS.out]; rfl, rfl⟩
    · have HD := Lib.hid hd
      have he := bs_eqb (wordB 1) d
      rw [decide_eq_false hd] at he
      clear hd
      go_wp2
      go_round
      case rel => exact ⟨2, by omega, rfl, fun j h1 h2 => by
       by_cases hj : j = 1
       · subst hj; exact HD.out
       · exact HNO.out j h1 (by omega)⟩
      case measure => simp [intOf]
  · have HC := Lib.hid (word_any 2 w)
    go_wp2_with fail
    refine HC.out.mono ?_
    rintro e w' ⟨rfl, rfl⟩
    by_cases hd : wordB 2 = d
    · have HS : Hid (scopeW d = 2) := by show _ = _; rw [← hd]; rfl
      have he := bs_eqb (wordB 2) d
      rw [decide_eq_true hd] at he
      clear hd
      go_wp2
      go_ret2
      exact ⟨by rw [HS.out]; rfl, rfl⟩
    · have HD := Lib.hid hd
      have he := bs_eqb (wordB 2) d
      rw [decide_eq_false hd] at he
      clear hd
      go_wp2
      go_round
      case rel => exact ⟨3, by omega, rfl, fun j h1 h2 => by
       by_cases hj : j = 2
       · subst hj; exact HD.out
       · exact HNO.out j h1 (by omega)⟩
      case measure => simp [intOf]
  · have HC := Lib.hid (word_any 3 w)
    go_wp2_with fail
    refine HC.out.mono ?_
    rintro e w' ⟨rfl, rfl⟩
    by_cases hd : wordB 3 = d
    · have HS : Hid (scopeW d = 3) := by show _ = _; rw [← hd]; rfl
      have he := bs_eqb (wordB 3) d
      rw [decide_eq_true hd] at he
      clear hd
      go_wp2
      go_ret2
      exact ⟨by rw [HS.out]; rfl, rfl⟩
    · have HD := Lib.hid hd
      have he := bs_eqb (wordB 3) d
      rw [decide_eq_false hd] at he
      clear hd
      go_wp2
      go_round
      case rel => exact ⟨4, by omega, rfl, fun j h1 h2 => by
       by_cases hj : j = 3
       · subst hj; exact HD.out
       · exact HNO.out j h1 (by omega)⟩
      case measure => simp [intOf]
  · have HC := Lib.hid (word_any 4 w)
    go_wp2_with fail
    refine HC.out.mono ?_
    rintro e w' ⟨rfl, rfl⟩
    by_cases hd : wordB 4 = d
    · have HS : Hid (scopeW d = 4) := by show _ = _; rw [← hd]; rfl
      have he := bs_eqb (wordB 4) d
      rw [decide_eq_true hd] at he
      clear hd
      go_wp2
      go_ret2
      exact ⟨by rw [HS.out]; rfl, rfl⟩
    · have HD := Lib.hid hd
      have he := bs_eqb (wordB 4) d
      rw [decide_eq_false hd] at he
      clear hd
      go_wp2
      go_round
      case rel => exact ⟨5, by omega, rfl, fun j h1 h2 => by
       by_cases hj : j = 4
       · subst hj; exact HD.out
       · exact HNO.out j h1 (by omega)⟩
      case measure => simp [intOf]
  · have HC := Lib.hid (word_any 5 w)
    go_wp2_with fail
    refine HC.out.mono ?_
    rintro e w' ⟨rfl, rfl⟩
    by_cases hd : wordB 5 = d
    · have HS : Hid (scopeW d = 5) := by show _ = _; rw [← hd]; rfl
      have he := bs_eqb (wordB 5) d
      rw [decide_eq_true hd] at he
      clear hd
      go_wp2
      go_ret2
      exact ⟨by rw [HS.out]; rfl, rfl⟩
    · have HD := Lib.hid hd
      have he := bs_eqb (wordB 5) d
      rw [decide_eq_false hd] at he
      clear hd
      go_wp2
      go_round
      case rel => exact ⟨6, by omega, rfl, fun j h1 h2 => by
       by_cases hj : j = 5
       · subst hj; exact HD.out
       · exact HNO.out j h1 (by omega)⟩
      case measure => simp [intOf]
  · have HC := Lib.hid (word_any 6 w)
    go_wp2_with fail
    refine HC.out.mono ?_
    rintro e w' ⟨rfl, rfl⟩
    by_cases hd : wordB 6 = d
    · have HS : Hid (scopeW d = 6) := by show _ = _; rw [← hd]; rfl
      have he := bs_eqb (wordB 6) d
      rw [decide_eq_true hd] at he
      clear hd
      go_wp2
      go_ret2
      exact ⟨by rw [HS.out]; rfl, rfl⟩
    · have HD := Lib.hid hd
      have he := bs_eqb (wordB 6) d
      rw [decide_eq_false hd] at he
      clear hd
      go_wp2
      go_round
      case rel => exact ⟨7, by omega, rfl, fun j h1 h2 => by
       by_cases hj : j = 6
       · subst hj; exact HD.out
       · exact HNO.out j h1 (by omega)⟩
      case measure => simp [intOf]
  · have HS : Hid (scopeW d = 0) := by
     show _ = _
     have h1 := HNO.out 1 (by omega) (by omega)
     have h2 := HNO.out 2 (by omega) (by omega)
     have h3 := HNO.out 3 (by omega) (by omega)
     have h4 := HNO.out 4 (by omega) (by omega)
     have h5 := HNO.out 5 (by omega) (by omega)
     have h6 := HNO.out 6 (by omega) (by omega)
     have hn : scopeN d = 0 := by
      unfold scopeN
      rw [if_neg (fun e => h1 e.symm), if_neg (fun e => h2 e.symm), if_neg (fun e => h3 e.symm), if_neg (fun e => h4 e.symm), if_neg (fun e => h5 e.symm)]
     unfold scopeW
     rw [hn, if_neg (by simp), if_neg (fun e => h6 e.symm)]
    go_wp2
    go_ret2
    exact ⟨by rw [HS.out]; rfl, rfl⟩

end Go.Proofs.YtbbbfjcikhpmbaaGreat

/- What a project's tree says whatever is wrong, and its first error and where, as plain functions on trees; no program in sight. -/

namespace Go.Proofs.YtbbbfjcikhpmbaaGreat
open Go Go.RowKit

abbrev Er := Int × Bs
def numP (n : Nat) : Bs := if n < 10 then [UInt8.ofNat (48 + n)] else numP (n / 10) ++ [UInt8.ofNat (48 + n % 10)]
/-- A path's next step; a place in a list; the second one. -/
def sl (w m : Bs) : Bs := w ++ 47 :: m
def atI (w : Bs) (i : Nat) : Bs := w ++ 91 :: (numP i ++ [93])
def two (w : Bs) : Bs := w ++ [91, 50, 93]
def textBad (t : Tr) (e : Bool) : Bool := !(kidsF [] t.kids).isEmpty || decide (1024 < (trimB (textF t.kids)).length) || ((trimB (textF t.kids)).isEmpty && !e)
def freeB : Bs → Bool := fun _ => true
def bGroup : Bs := [103, 114, 111, 117, 112, 73, 100]
def bArtifact : Bs := [97, 114, 116, 105, 102, 97, 99, 116, 73, 100]
def bVersion : Bs := [118, 101, 114, 115, 105, 111, 110]
def bType : Bs := [116, 121, 112, 101]
def bClassifier : Bs := [99, 108, 97, 115, 115, 105, 102, 105, 101, 114]
def bScope : Bs := [115, 99, 111, 112, 101]
def bOptional : Bs := [111, 112, 116, 105, 111, 110, 97, 108]
def bExclusions : Bs := [101, 120, 99, 108, 117, 115, 105, 111, 110, 115]
def bExclusion : Bs := [101, 120, 99, 108, 117, 115, 105, 111, 110]
def bDependencies : Bs := [100, 101, 112, 101, 110, 100, 101, 110, 99, 105, 101, 115]
def bDependency : Bs := [100, 101, 112, 101, 110, 100, 101, 110, 99, 121]
def bProperties : Bs := [112, 114, 111, 112, 101, 114, 116, 105, 101, 115]
def bManagement : Bs := [100, 101, 112, 101, 110, 100, 101, 110, 99, 121, 77, 97, 110, 97, 103, 101, 109, 101, 110, 116]
def bParent : Bs := [112, 97, 114, 101, 110, 116]
def bPackaging : Bs := [112, 97, 99, 107, 97, 103, 105, 110, 103]
def bProject : Bs := [112, 114, 111, 106, 101, 99, 116]
def bTrue : Bs := [116, 114, 117, 101]
def bFalse : Bs := [102, 97, 108, 115, 101]
def isTruthB (s : Bs) : Bool := decide (s = bTrue) || decide (s = bFalse)
/-! What the fields' texts must be. -/
def isIdQ (s : Bs) : Bool := isIdB (bs s)
def verQ (s : Bs) : Bool := verMay (bs s)
def isPartQ (s : Bs) : Bool := decide (s = [42]) || isIdQ s
def isScopeQ (managed : Bool) (s : Bs) : Bool := decide (scopeW s ≠ 0) && (managed || decide (scopeW s ≠ 6))
def optQ (s : Bs) : Int := if s = bTrue then 1 else if s = bFalse then 2 else 0
/-! Of each part: what it says, and its first error. -/
def manyE (t : Tr) (w m : Bs) : Option Er := if 1 < (kidsF m t.kids).length then some (20, two (sl w m)) else none
def textV (t : Tr) : Bs := trimB (textF t.kids)
def textE (t : Tr) (w : Bs) (e : Bool) : Option Er := if textBad t e then some (20, w) else none
def oneV (t : Tr) (m : Bs) : Option Tr := (kidsF m t.kids).head?
def wordV (t : Tr) (m : Bs) : Bs := match oneV t m with
 | none => []
 | some k => textV k
def wordE (t : Tr) (w m : Bs) (must : Bool) (r : Bs → Bool) : Option Er := (manyE t w m).or (match oneV t m with
 | none => if must then some (20, sl w m) else none
 | some k => (textE k (sl w m) false).or (if r (textV k) then none else some (20, sl w m)))
def eachE (f : Tr → Bs → Option Er) (w : Bs) : List Tr → Nat → Option Er
 | [], _ => none
 | t :: r, i => (f t (atI w (i + 1))).or (eachE f w r (i + 1))
def listE (f : Tr → Bs → Option Er) (t : Tr) (w m : Bs) : Option Er := (if 1024 < (kidsF m t.kids).length then some (2, w) else none).or (eachE f (sl w m) (kidsF m t.kids) 0)
def exclV (t : Tr) : Id := ⟨bs (wordV t bGroup), bs (wordV t bArtifact)⟩
def exclE (t : Tr) (w : Bs) : Option Er := (wordE t w bGroup true isPartQ).or (wordE t w bArtifact true isPartQ)
def exclsV (t : Tr) : List Id := match oneV t bExclusions with
 | none => []
 | some f => (kidsF bExclusion f.kids).map exclV
def exclsE (t : Tr) (w : Bs) : Option Er := (manyE t w bExclusions).or (match oneV t bExclusions with
 | none => none
 | some f => listE exclE f (sl w bExclusions) bExclusion)
def depV (t : Tr) : Dep := ⟨bs (wordV t bGroup), bs (wordV t bArtifact), bs (wordV t bVersion), bs (wordV t bType), bs (wordV t bClassifier), scopeW (wordV t bScope), optQ (wordV t bOptional), exclsV t⟩
def depE (managed : Bool) (t : Tr) (w : Bs) : Option Er := (wordE t w bGroup true freeB).or ((wordE t w bArtifact true freeB).or ((wordE t w bVersion false freeB).or ((wordE t w bType false freeB).or ((wordE t w bClassifier false freeB).or
 ((wordE t w bScope false (isScopeQ managed)).or ((wordE t w bOptional false isTruthB).or (exclsE t w)))))))
def depsV (t : Tr) : List Dep := match oneV t bDependencies with
 | none => []
 | some f => (kidsF bDependency f.kids).map depV
def depsE (managed : Bool) (t : Tr) (w : Bs) : Option Er := (manyE t w bDependencies).or (match oneV t bDependencies with
 | none => none
 | some f => listE (depE managed) f (sl w bDependencies) bDependency)
def prpV (t : Tr) : Prp := ⟨bs t.name, bs (textV t)⟩
def propsEgo (w : Bs) : List Tr → List Tr → Option Er
 | [], _ => none
 | t :: r, d => (if d.any (fun x => decide (x.name = t.name)) then some (20, two (sl w t.name)) else none).or ((textE t (sl w t.name) true).or (propsEgo w r (d ++ [t])))
def propsV (t : Tr) : List Prp := match oneV t bProperties with
 | none => []
 | some f => (kidsF [] f.kids).map prpV
def propsE (t : Tr) (w : Bs) : Option Er := (manyE t w bProperties).or (match oneV t bProperties with
 | none => none
 | some f => (if 1024 < (kidsF [] f.kids).length then some (2, sl w bProperties) else none).or (propsEgo (sl w bProperties) (kidsF [] f.kids) []))
def parentV (t : Tr) : Bool × Gav := match oneV t bParent with
 | none => (false, ⟨⟨#[]⟩, ⟨#[]⟩, ⟨#[]⟩⟩)
 | some f => (true, ⟨bs (wordV f bGroup), bs (wordV f bArtifact), bs (wordV f bVersion)⟩)
def parentE (t : Tr) (w : Bs) : Option Er := (manyE t w bParent).or (match oneV t bParent with
 | none => none
 | some f => (wordE f (sl w bParent) bGroup true isIdQ).or ((wordE f (sl w bParent) bArtifact true isIdQ).or (wordE f (sl w bParent) bVersion true verQ)))
def managedV (t : Tr) : List Dep := match oneV t bManagement with
 | none => []
 | some f => depsV f
def managedE (t : Tr) (w : Bs) : Option Er := (manyE t w bManagement).or (match oneV t bManagement with
 | none => none
 | some f => depsE true f (sl w bManagement))
def readV (t : Tr) : Pom := ⟨(parentV t).1, (parentV t).2, bs (wordV t bGroup), bs (wordV t bArtifact), bs (wordV t bVersion), bs (wordV t bPackaging), propsV t, managedV t, depsV t⟩
def readE (t : Tr) : Option Er := (if t.name = bProject then none else some (20, t.name)).or ((parentE t bProject).or ((wordE t bProject bGroup false freeB).or ((wordE t bProject bArtifact true freeB).or ((wordE t bProject bVersion false freeB).or
 ((wordE t bProject bPackaging false freeB).or ((propsE t bProject).or ((managedE t bProject).or (depsE false t bProject))))))))

end Go.Proofs.YtbbbfjcikhpmbaaGreat
