/- From the readings of the arguments to what the walks ask: attributes and tokens that can be read are some in memory. -/
import Derived.Test.YtbbbfjcikhpmbaaGreatJH25
import Derived.Test.YtbbbfjcikhpmbaaGreatJH06
import Derived.ProofKit
import Derived.Deep.Slices
import Derived.Test.YtbbbfjcikhpmbaaGreatJH04
import Derived.Test.YtbbbfjcikhpmbaaGreatRows
import Derived.Test.YtbbbfjcikhpmbaaGreatJH03
import Derived.Test.YtbbbfjcikhpmbaaGreatShelf
import Derived.WalkKit
import Derived.OpenShut
import Derived.HandedShaped
namespace Go.Proofs.YtbbbfjcikhpmbaaGreat
open Go Go.RowKit

variable {H : Type} {enc : TypeId × Value → H} {W : World} {sp : Nat → Bool} {held : Bool}
theorem cellsOf_attr : Tryz.prog.cellsOf 100 = 2 := by kernel_rfl
theorem cellsOf_attrs : Tryz.prog.cellsOf 22 = 1 := by kernel_rfl
/-- Sizes that any memory has. -/
def AtOk (a : At2) : Prop := a.1.length ≤ maxLen ∧ a.2.length ≤ maxLen
theorem opens_attr : Opens enc W sp held 100 atC AtOk := fun fuel cs x h => by
 obtain ⟨xs, n, -, -, hl, hxs, hf⟩ := DataW.trod_struct Tryz.underlying100 h
 rw [cellsOf_attr] at hl
 obtain ⟨c0, c1, rfl⟩ := len2 hl
 have f0 : DataW.trod enc Tryz.prog W 0 sp held n 9 (([c0, c1].drop 0).take (Tryz.prog.cellsOf 9)) = xs[0]? := hf 0 _ rfl
 rw [cellsOf_str, List.getElem?_eq_getElem (by rw [hxs]; decide)] at f0
 have f1 : DataW.trod enc Tryz.prog W 0 sp held n 9 (([c0, c1].drop 1).take (Tryz.prog.cellsOf 9)) = xs[1]? := hf 1 _ rfl
 rw [cellsOf_str, List.getElem?_eq_getElem (by rw [hxs]; decide)] at f1
 obtain ⟨a0, h0, k0⟩ := opens_string _ _ _ f0
 obtain ⟨a1, h1, k1⟩ := opens_string _ _ _ f1
 clear hf f0 f1
 cases h0
 cases h1
 refine ⟨(a0.data.toList, a1.data.toList), ?_, by rw [size_data]; exact k0, by rw [size_data]; exact k1⟩
 show _ = [Value.string (bs a0.data.toList), Value.string (bs a1.data.toList)]
 rw [data_bs, data_bs]
theorem opens_attrs : Opens enc W sp held 22 (fun v : Value => [v]) (fun v => ∃ l, SliceOf 2 atC W v l ∧ ∀ a ∈ l, AtOk a) :=
 opens_slice Tryz.underlying22 cellsOf_attr (by decide) opens_attr

end Go.Proofs.YtbbbfjcikhpmbaaGreat

/- From the reading of an argument to what the walks ask: a tree that can be read is one in memory. -/

namespace Go.Proofs.YtbbbfjcikhpmbaaGreat
open Go Go.RowKit

variable {H : Type} {enc : TypeId × Value → H} {W : World} {sp : Nat → Bool} {held : Bool}
/-- Sizes that any memory has. -/
inductive TrOk : Tr → Prop where
 | mk {n : Bs} {ats : List At2} {ks : List Tr} {x : Bs} (hn : n.length ≤ maxLen) (hx : x.length ≤ maxLen) (ha : ∀ a ∈ ats, AtOk a) (hk : ∀ k ∈ ks, TrOk k) : TrOk (.mk n ats ks x)
theorem cellsOf_node : Tryz.prog.cellsOf 25 = 4 := by kernel_rfl
theorem cellsOf_nodes : Tryz.prog.cellsOf 23 = 1 := by kernel_rfl
theorem len4 {l : List Value} (h : l.length = 4) : ∃ c0 c1 c2 c3, l = [c0, c1, c2, c3] := by
 match l, h with
 | [c0, c1, c2, c3], _ => exact ⟨c0, c1, c2, c3, rfl⟩
/-- opens_slice at one fuel. -/
theorem opens_slice_at {α : Type} {t e n fuel : Nat} {C : α → List Value} {Ok : α → Prop} (ht : Tryz.prog.underlying t = some (.slice e)) (hn : Tryz.prog.cellsOf e = n) (h0 : 0 < n) (he : ∀ fu, fu < fuel → ∀ cs x, DataW.trod enc Tryz.prog W 0 sp held fu e cs = some x → ∃ a, cs = C a ∧ Ok a) {cs : List Value} {x : DataW H × List MemPlace} (h : DataW.trod enc Tryz.prog W 0 sp held fuel t cs = some x) :
    ∃ v, cs = [v] ∧ ∃ l, SliceOf n C W v l ∧ ∀ a ∈ l, Ok a := by
 rcases DataW.trod_slice ht h with ⟨rfl, -⟩ | ⟨a, len, cap, elems, rest, n', hfu, rfl, -, -, hlc, hcm, hel, hget, -, -⟩
 · exact ⟨_, rfl, [], SliceOf.nil, by simp⟩
 · rw [hn] at hget
   obtain ⟨l, hl, hP⟩ := list_of (len := len) (P := fun i y => W.cells? 0 (a.add (i * n)) n = some (C y) ∧ Ok y) (fun i hi => by
    have h1 := hget i hi
    rw [List.getElem?_eq_getElem (by omega)] at h1
    simp only [Option.bind_eq_some_iff] at h1
    obtain ⟨cs', h2, h3⟩ := h1
    obtain ⟨y, rfl, hy⟩ := he n' (by omega) _ _ h3
    exact ⟨y, h2, hy⟩)
   refine ⟨_, rfl, l, ⟨some a, cap, by rw [hl], by omega, hcm, by simp, fun i y hy => ?_⟩, fun y hy => ?_⟩
   · have hil : i < len := by rw [← hl]; exact (List.getElem?_eq_some_iff.1 hy).1
     obtain ⟨y0, hy0⟩ : ∃ y0, l[0]? = some y0 := ⟨l[0]'(by omega), by simp⟩
     obtain ⟨-, hs, hb, -⟩ := cells_of (hP 0 y0 hy0).1 h0
     rw [Nat.zero_mul, show a.add 0 = a from rfl] at hs hb
     obtain ⟨b, o, s⟩ := a
     cases hs
     obtain ⟨-, -, -, hc⟩ := cells_of (hP i y hy).1 h0
     rw [Addr.add_lit] at hc
     exact ⟨b, o, rfl, hb, hc⟩
   · obtain ⟨i, hi, rfl⟩ := List.mem_iff_getElem.1 hy
     exact (hP i _ (by simp [hi])).2
theorem opens_node_at : ∀ (fuel : Nat) (cs : List Value) (x : DataW H × List MemPlace), DataW.trod enc Tryz.prog W 0 sp held fuel 25 cs = some x → ∃ y : TrV, cs = trC y ∧ NodeOf W y.1 y.2.1 y.2.2 ∧ TrOk y.1 := by
 intro fuel
 induction fuel using Nat.strongRecOn with
 | _ fuel ih =>
 intro cs x h
 obtain ⟨xs, n, hfu, -, hl, hxs, hf⟩ := DataW.trod_struct Tryz.underlying25 h
 rw [cellsOf_node] at hl
 obtain ⟨c0, c1, c2, c3, rfl⟩ := len4 hl
 have f0 : DataW.trod enc Tryz.prog W 0 sp held n 9 (([c0, c1, c2, c3].drop 0).take (Tryz.prog.cellsOf 9)) = xs[0]? := hf 0 _ rfl
 rw [cellsOf_str, List.getElem?_eq_getElem (by rw [hxs]; decide)] at f0
 have f1 : DataW.trod enc Tryz.prog W 0 sp held n 22 (([c0, c1, c2, c3].drop 1).take (Tryz.prog.cellsOf 22)) = xs[1]? := hf 1 _ rfl
 rw [cellsOf_attrs, List.getElem?_eq_getElem (by rw [hxs]; decide)] at f1
 have f2 : DataW.trod enc Tryz.prog W 0 sp held n 23 (([c0, c1, c2, c3].drop 2).take (Tryz.prog.cellsOf 23)) = xs[2]? := hf 2 _ rfl
 rw [cellsOf_nodes, List.getElem?_eq_getElem (by rw [hxs]; decide)] at f2
 have f3 : DataW.trod enc Tryz.prog W 0 sp held n 9 (([c0, c1, c2, c3].drop 3).take (Tryz.prog.cellsOf 9)) = xs[3]? := hf 3 _ rfl
 rw [cellsOf_str, List.getElem?_eq_getElem (by rw [hxs]; decide)] at f3
 obtain ⟨a0, h0, k0⟩ := opens_string _ _ _ f0
 obtain ⟨a1, h1, l1, hl1, hok1⟩ := opens_attrs _ _ _ f1
 obtain ⟨a2, h2, L, hL, hokL⟩ := opens_slice_at (C := trC) (Ok := fun y : TrV => NodeOf W y.1 y.2.1 y.2.2 ∧ TrOk y.1) Tryz.underlying23 cellsOf_node (by decide) (fun fu hlt cs x hx => ih fu (by omega) cs x hx) f2
 obtain ⟨a3, h3, k3⟩ := opens_string _ _ _ f3
 clear hf f0 f1 f2 f3
 cases h0
 cases h1
 cases h2
 cases h3
 refine ⟨(.mk a0.data.toList l1 (L.map (·.1)) a3.data.toList, c1, c2), ?_, .mk L hl1.toX rfl hL.toX (fun y hy => (hokL y hy).1), .mk (by rw [size_data]; exact k0) (by rw [size_data]; exact k3) hok1 (fun k hk => ?_)⟩
 · show _ = [Value.string (bs a0.data.toList), c1, c2, Value.string (bs a3.data.toList)]
   rw [data_bs, data_bs]
 · obtain ⟨y, hy, rfl⟩ := List.mem_map.1 hk
   exact (hokL y hy).2
theorem opens_node : Opens enc W sp held 25 trC (fun y : TrV => NodeOf W y.1 y.2.1 y.2.2 ∧ TrOk y.1) := opens_node_at

end Go.Proofs.YtbbbfjcikhpmbaaGreat

/- From a walk to a row: a law that returns true and turns nothing that was there. -/
namespace Go.Proofs.YtbbbfjcikhpmbaaGreat
open Go Go.ChangeShapes Go.WideShapes Go.ChangeAt Go.RowKit

theorem own : ownKnob Tryz.prog.godebug = none := by kernel_rfl
theorem laidOut : laidOutB Tryz.prog = true := by kernel_rfl
theorem trodAll_below {H : Type} {enc : TypeId × Value → H} {W W' : World} (hb : Below W.heap.size W W') : ∀ {ts : List TypeId} {vs : List Value} {ds : List (DataW H)} {ps : List MemPlace},
    (∀ t ∈ ts, Tryz.prog.readableRec t = true ∧ t < Tryz.prog.types.size) → DataW.TrodAll enc Tryz.prog W 0 (fun _ => true) true ts vs ds ps → (∀ x ∈ ps, x.block < W.heap.size) →
    DataW.TrodAll enc Tryz.prog W' 0 (fun b => decide (b < W.heap.size)) true ts vs ds ps
 | [], [], [], _, _, h, _ => h
 | t :: ts, v :: vs, d :: ds, ps, hr, h, hlt => by
  obtain ⟨p, q, h1, h2, rfl⟩ := h
  exact ⟨p, q, Below.trod laidOut (hr t (by simp)).1 (hr t (by simp)).2 h1 hb (fun x hx => hlt x (by simp [hx])),
   trodAll_below hb (fun u hu => hr u (by simp [hu])) h2 (fun x hx => hlt x (by simp [hx])), rfl⟩
 | [], [], _ :: _, _, _, h, _ => h.elim
 | [], _ :: _, _, _, _, h, _ => h.elim
 | _ :: _, [], _, _, _, h, _ => h.elim
 | _ :: _, _ :: _, [], _, _, h, _ => h.elim

end Go.Proofs.YtbbbfjcikhpmbaaGreat

/- Whatever the input, the law PomBeside returns true, and its arguments read behind the call as before; no conditions. -/
namespace Go.Proofs.YtbbbfjcikhpmbaaGreat
open Go Go.ChangeShapes Go.WideShapes Go.ChangeAt Go.RowKit Go.ChangeMaps

theorem rt_pom : Tryz.prog.readableRec 33 = true := by kernel_rfl
theorem lt_pom : 33 < Tryz.prog.types.size := of_decide_eq_true (by kernel_rfl)
set_option maxRecDepth 100000 in
theorem open_pom {H : Type} {enc : TypeId × Value → H} {W : World} {base : Nat} {v : Value} {d : DataW H} {p : List MemPlace} (hval : Value.okWide Tryz.prog W .any base 33 v)
    (h : DataW.Trod enc Tryz.prog W 0 (fun _ => true) true 33 v d p) : ∃ c pv mv dv, v = .agg (pomC c pv mv dv).toArray ∧ PomOf W (.agg (pomC c pv mv dv).toArray) c pv mv dv := by
 obtain ⟨fuel, hf⟩ := h
 obtain ⟨⟨c, pv, mv, dv⟩, hcs, hok⟩ := opens_pom _ _ _ hf
 refine ⟨c, pv, mv, dv, ?_, hok⟩
 simp only [Value.okWide, Tryz.underlying33] at hval
 obtain ⟨cs, rfl, -⟩ := hval
 simp only [Value.cells] at hcs
 rw [← hcs]
theorem rt_node : Tryz.prog.readableRec 25 = true := by kernel_rfl
theorem lt_node : 25 < Tryz.prog.types.size := of_decide_eq_true (by kernel_rfl)
set_option maxRecDepth 100000 in
theorem open_node {H : Type} {enc : TypeId × Value → H} {W : World} {base : Nat} {v : Value} {d : DataW H} {p : List MemPlace} (hval : Value.okWide Tryz.prog W .any base 25 v)
    (h : DataW.Trod enc Tryz.prog W 0 (fun _ => true) true 25 v d p) : ∃ t av kv, v = nodeV t av kv ∧ NodeOf W t av kv ∧ TrOk t := by
 obtain ⟨fuel, hf⟩ := h
 obtain ⟨⟨t, av, kv⟩, hcs, hok, ho2⟩ := opens_node _ _ _ hf
 refine ⟨t, av, kv, ?_, hok, ho2⟩
 simp only [Value.okWide, Tryz.underlying25] at hval
 obtain ⟨cs, rfl, -⟩ := hval
 simp only [Value.cells] at hcs
 show Value.agg cs = Value.agg (trC (t, av, kv)).toArray
 rw [← hcs]
theorem rt_string : Tryz.prog.readableRec 9 = true := by kernel_rfl
theorem lt_string : 9 < Tryz.prog.types.size := of_decide_eq_true (by kernel_rfl)
set_option maxRecDepth 100000 in
theorem pomBeside_lifted (os : Os) (started : os.Started) (H : Type) (enc : TypeId × Value → H) :
    ReturnsInHanded {} Tryz.checked os 5 .any (Rows.pomBesideSpec.pre6 enc Tryz.prog Tryz.f5 Rows.pomBesideRow.domain false) (Rows.pomBesideSpec.post enc Tryz.prog Tryz.f5 false true false false) := by
 refine returnsInHanded_of_change_shaped (C := Tryz.checked) own started (by kernel_rfl) Tryz.func5
  (ChangeSpec.witness6 (enc := enc) (C := Tryz.checked) false ⟨#[], #[.agg #[.bool false, .string .empty, .string .empty, .string .empty, .string .empty, .string .empty, .string .empty, .string .empty, .slice none 0 0, .slice none 0 0, .slice none 0 0], .string .empty, .agg #[.string .empty, .slice none 0 0, .slice none 0 0, .string .empty]], []⟩ 8 (by kernel_rfl) (by kernel_rfl) (by kernel_rfl) (by kernel_rfl)) ?_
 intro W base args ds gs before hval0 hW hcnd _ hsh _
 have hval : ∀ (j : Nat) t v, Tryz.f5.params[j]? = some t → args[j]? = some v → Value.okWide Tryz.prog W .any base t v := hval0
 have hW' := hW
 obtain ⟨p, q, hA0, hV, rfl, hfz, hnd⟩ := hW
 have hA : DataW.TrodAll enc Tryz.prog W 0 (fun _ => true) true Tryz.f5.params.toList args.toList ds p := hA0
 have hA' := hA
 rw [Tryz.params5] at hA hval
 obtain ⟨v0, v1, v2, d0, d1, d2, p0, p1, p2, rfl, rfl, rfl, h0, h1, h2⟩ := trodAll_three hA
 obtain ⟨rfl, rfl⟩ := trodVars_none hV
 obtain ⟨c0, pv0, mv0, dv0, rfl, hc0⟩ := open_pom (hval 0 33 v0 rfl rfl) h0
 obtain ⟨s1, rfl, rfl, -, ws1⟩ := open_string Tryz.underlying9 (hval 1 9 v1 rfl rfl) h1
 obtain ⟨t2, av2, kv2, rfl, hn2, ho2⟩ := open_node (hval 2 25 v2 rfl rfl) h2
 clear hA0 hval0
 obtain ⟨m, hm⟩ : ∃ m, W.cell? ⟨0, 0, none⟩ = some (.int .i64 m) := Tryz.laysM219.s1_3 W hsh
 have hlt : ∀ x ∈ p0 ++ p1 ++ p2, x.block < W.heap.size := fun x hx => by simpa using hW'.lt x (by simpa using hx)
 refine (pomBesideLaw_any c0 pv0 mv0 dv0 s1 t2 av2 kv2 m W hc0 hn2 hm).mono fun en W' ⟨he, hb⟩ => ?_
 subst he
 refine ⟨_, rfl, _, _, _, [], p0 ++ p1 ++ p2, [], hW', trodAll_mk1 (shut_bool Tryz.underlying4 _), trodAll_below hb ?_ hA' hlt, rfl, hb.frame _, fun h => by cases h⟩
 rw [Tryz.params5]
 intro t ht
 simp at ht
 rcases ht with rfl | rfl | rfl
 · exact ⟨rt_pom, lt_pom⟩
 · exact ⟨rt_string, lt_string⟩
 · exact ⟨rt_node, lt_node⟩
theorem pomBeside_holds : Rows.PomBesideSaid :=
 OpenClaim.holds_of_wide 5 Tryz.f5 rfl rfl rfl rfl rfl rfl rfl ⟨rfl, rfl, rfl, rfl, rfl⟩ rfl rfl rfl rfl rfl (by kernel_rfl) Tryz.func5 (by kernel_rfl)
  (of_decide_eq_true (by kernel_rfl)) (by unfold Func.isWrapper; rw [if_neg (of_decide_eq_false (by kernel_rfl))]; exact ⟨rfl, rfl⟩)
  (fun os started H enc _ => pomBeside_lifted os started H enc)

#print axioms pomBeside_holds

end Go.Proofs.YtbbbfjcikhpmbaaGreat
