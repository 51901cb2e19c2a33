/- The shelf contracts of the library at this dump, laid by the kit tool in plain words; each condition stands in its theorem. -/
import Derived.Shelf.Strings.Builder1
import Derived.Shelf.Strings.BuilderF
import Derived.Shelf.Strings.BuilderK
import Derived.Shelf.Strings.Search1
import Derived.Shelf.Strings.Search2
import Derived.Shelf.Strings.Search3
import Derived.Shelf.Strings.Count
import Derived.Shelf.LaysM
import Derived.Shelf.Strings.Shaped
import Derived.Shelf.Strings.LastIndex
import Derived.Shelf.Strings.LastIndexAll
import Derived.Shelf.Strings.Prefix
import Derived.Test.YtpchljiiappmnaaProg
import Derived.Test.YtpchljiiappmnaaG1
namespace Go.Proofs
open Go.Shelf
def Try.lays169_ren : Go.Shelf.Ren := ⟨fun | 169 => 62 | n => n, fun | 70 => 85 | 9 => 9 | 0 => 0 | 72 => 87 | 37 => 47 | 127 => 122 | 3 => 3 | 5 => 5 | n => n, fun | n => n⟩
theorem Try.lays169 : Go.Proofs.Lays.n169 Try.prog Try.lays169_ren := {
  mixed := by kernel_rfl
  f169 := Try.func62.trans (congrArg some (by kernel_rfl))
  t0 := Try.underlying0
  a0 := Try.isAgg0
  z0 := Try.sizeOf0
  v0 := Try.zeroValue0
  t3 := Try.underlying3
  a3 := Try.isAgg3
  z3 := Try.sizeOf3
  v3 := Try.zeroValue3
  t9 := Try.underlying9
  a9 := Try.isAgg9
  z9 := Try.sizeOf9
  v9 := Try.zeroValue9
  t37 := Try.underlying47
  a37 := Try.isAgg47
  z37 := Try.sizeOf47
  v37 := Try.zeroValue47
  t70 := Try.underlying85
  a70 := Try.isAgg85
  z70 := Try.sizeOf85
  v70 := Try.zeroValue85
  t72 := Try.underlying87
  a72 := Try.isAgg87
  z72 := Try.sizeOf87
  v72 := Try.zeroValue87
  t127 := Try.underlying122
  a127 := Try.isAgg122
  z127 := Try.sizeOf122
  v127 := Try.zeroValue122 }
theorem Try.Builder_Extra_169 : Builder.Extra Try.prog Try.lays169_ren := {
  sizeBuilder := by kernel_rfl
  liesBuilder := by kernel_rfl
  t5 := Try.underlying5
  a5 := Try.isAgg5
  z5 := Try.sizeOf5
  v5 := Try.zeroValue5
  infoByte := by kernel_rfl
  cellsByte := by kernel_rfl
  sizeByte := by kernel_rfl
  neB5 := by decide }
open Go.RowKit in
theorem Try.Builder_String (B b : Nat) (l : List UInt8) (w : World) (h : Lib.IsBuilder 87 5 B b (Lib.byteCells l) w) (h0 : l ≠ []) :
    Calls Try.prog 62 #[.pointer (some ⟨b, 0, none⟩)] w fun e w' => e = .returned (.string ⟨l.toArray⟩) ∧ Below B w w' := Any.Builder_String Try.lays169 Try.Builder_Extra_169 B b l w h h0
open Go.RowKit in
theorem Try.Builder_String_empty (B b : Nat) (w : World) (h : Lib.IsBuilder 87 5 B b [] w) (hBw : B ≤ w.heap.size) :
    Calls Try.prog 62 #[.pointer (some ⟨b, 0, none⟩)] w fun e w' => e = .returned (.string ⟨#[]⟩) ∧ Below B w w' := Any.Builder_String_empty Try.lays169 Try.Builder_Extra_169 B b w h hBw
open Go.RowKit in
theorem Try.Builder_String_any (B b : Nat) (l : List UInt8) (w : World) (h : Lib.IsBuilder 87 5 B b (Lib.byteCells l) w) (hBw : B ≤ w.heap.size) :
    Calls Try.prog 62 #[.pointer (some ⟨b, 0, none⟩)] w fun e w' => e = .returned (.string ⟨l.toArray⟩) ∧ Below B w w' := Any.Builder_String_any Try.lays169 Try.Builder_Extra_169 B b l w h hBw
open Go.RowKit in
theorem Try.Builder_String_f (B b : Nat) (l : List UInt8) (w : World) (h : Lib.IsBuilderF 87 5 B b (Lib.byteCells l) w) (h0 : l ≠ []) :
    Calls Try.prog 62 #[.pointer (some ⟨b, 0, none⟩)] w fun e w' => e = .returned (.string ⟨l.toArray⟩) ∧ (Lib.IsBuilderF 87 5 B b (Lib.byteCells l) w' ∧ Below B w w') := Any.Builder_String_f Try.lays169 Try.Builder_Extra_169 B b l w h h0
open Go.RowKit in
theorem Try.Builder_String_empty_f (B b : Nat) (w : World) (h : Lib.IsBuilderF 87 5 B b [] w) (hBw : B ≤ w.heap.size) :
    Calls Try.prog 62 #[.pointer (some ⟨b, 0, none⟩)] w fun e w' => e = .returned (.string ⟨#[]⟩) ∧ (Lib.IsBuilderF 87 5 B b [] w' ∧ Below B w w') := Any.Builder_String_empty_f Try.lays169 Try.Builder_Extra_169 B b w h hBw
open Go.RowKit in
theorem Try.Builder_String_any_f (B b : Nat) (l : List UInt8) (w : World) (h : Lib.IsBuilderF 87 5 B b (Lib.byteCells l) w) (hBw : B ≤ w.heap.size) :
    Calls Try.prog 62 #[.pointer (some ⟨b, 0, none⟩)] w fun e w' => e = .returned (.string ⟨l.toArray⟩) ∧ (Lib.IsBuilderF 87 5 B b (Lib.byteCells l) w' ∧ Below B w w') := Any.Builder_String_any_f Try.lays169 Try.Builder_Extra_169 B b l w h hBw
open Go.RowKit in
theorem Try.Builder_String_k (B b : Nat) (l : List UInt8) (w : World) (h : Lib.IsBuilderF 87 5 B b (Lib.byteCells l) w) (h0 : l ≠ []) :
    Calls Try.prog 62 #[.pointer (some ⟨b, 0, none⟩)] w fun e w' => e = .returned (.string ⟨l.toArray⟩) ∧ (Lib.IsBuilderF 87 5 B b (Lib.byteCells l) w' ∧ Below B w w' ∧ Lib.OthersKept 5 (some b) w w') := Any.Builder_String_k Try.lays169 Try.Builder_Extra_169 B b l w h h0
open Go.RowKit in
theorem Try.Builder_String_empty_k (B b : Nat) (w : World) (h : Lib.IsBuilderF 87 5 B b [] w) (hBw : B ≤ w.heap.size) :
    Calls Try.prog 62 #[.pointer (some ⟨b, 0, none⟩)] w fun e w' => e = .returned (.string ⟨#[]⟩) ∧ (Lib.IsBuilderF 87 5 B b [] w' ∧ Below B w w' ∧ Lib.OthersKept 5 (some b) w w') := Any.Builder_String_empty_k Try.lays169 Try.Builder_Extra_169 B b w h hBw
open Go.RowKit in
theorem Try.Builder_String_any_k (B b : Nat) (l : List UInt8) (w : World) (h : Lib.IsBuilderF 87 5 B b (Lib.byteCells l) w) (hBw : B ≤ w.heap.size) :
    Calls Try.prog 62 #[.pointer (some ⟨b, 0, none⟩)] w fun e w' => e = .returned (.string ⟨l.toArray⟩) ∧ (Lib.IsBuilderF 87 5 B b (Lib.byteCells l) w' ∧ Below B w w' ∧ Lib.OthersKept 5 (some b) w w') := Any.Builder_String_any_k Try.lays169 Try.Builder_Extra_169 B b l w h hBw
def Try.lays217_ren : Go.Shelf.Ren := ⟨fun | 217 => 136 | 266 => 143 | n => n, fun | 9 => 9 | 5 => 5 | 3 => 3 | n => n, fun | n => n⟩
theorem Try.lays217 : Go.Proofs.Lays.n217 Try.prog Try.lays217_ren := {
  mixed := by kernel_rfl
  f217 := Try.func136.trans (congrArg some (by kernel_rfl))
  f266 := Try.func143.trans (congrArg some (by kernel_rfl))
  t3 := Try.underlying3
  a3 := Try.isAgg3
  z3 := Try.sizeOf3
  v3 := Try.zeroValue3
  t5 := Try.underlying5
  a5 := Try.isAgg5
  z5 := Try.sizeOf5
  v5 := Try.zeroValue5
  t9 := Try.underlying9
  a9 := Try.isAgg9
  z9 := Try.sizeOf9
  v9 := Try.zeroValue9 }
open Go.RowKit Go.Lib in
theorem Try.stringslite_IndexByte (s : ByteArray) (c : Int) (w : World) :
    Calls Try.prog 136 #[.string s, .int .u8 c] w fun e w' => e = .returned (.int .i64 (Lib.indexByte s.data.toList c.toNat.toUInt8)) ∧ w' = w := Any.stringslite_IndexByte Try.lays217 s c w
def Try.lays224_ren : Go.Shelf.Ren := ⟨fun | 224 => 138 | n => n, fun | 3 => 3 | n => n, fun | n => n⟩
theorem Try.lays224 : Go.Proofs.Lays.n224 Try.prog Try.lays224_ren := {
  mixed := by kernel_rfl
  f224 := Try.func138.trans (congrArg some (by kernel_rfl))
  t3 := Try.underlying3
  a3 := Try.isAgg3
  z3 := Try.sizeOf3
  v3 := Try.zeroValue3 }
open Go.RowKit Go.Lib in
theorem Try.bytealg_Cutover (n : Int) (h0 : 0 ≤ n) (h1 : n < 4611686018427387904) (w : World) :
    Calls Try.prog 138 #[.int .i64 n] w fun e w' => e = .returned (.int .i64 ((n + 16) / 8)) ∧ w' = w := Any.bytealg_Cutover Try.lays224 n h0 h1 w
def Try.lays314_ren : Go.Shelf.Ren := ⟨fun | 314 => 144 | n => n, fun | 9 => 9 | 51 => 137 | 3 => 3 | 4 => 4 | 5 => 5 | 46 => 41 | n => n, fun | n => n⟩
theorem Try.lays314 : Go.Proofs.Lays.n314 Try.prog Try.lays314_ren := {
  mixed := by kernel_rfl
  f314 := Try.func144.trans (congrArg some (by kernel_rfl))
  t3 := Try.underlying3
  a3 := Try.isAgg3
  z3 := Try.sizeOf3
  v3 := Try.zeroValue3
  t4 := Try.underlying4
  a4 := Try.isAgg4
  z4 := Try.sizeOf4
  v4 := Try.zeroValue4
  t5 := Try.underlying5
  a5 := Try.isAgg5
  z5 := Try.sizeOf5
  v5 := Try.zeroValue5
  t9 := Try.underlying9
  a9 := Try.isAgg9
  z9 := Try.sizeOf9
  v9 := Try.zeroValue9
  t46 := Try.underlying41
  a46 := Try.isAgg41
  z46 := Try.sizeOf41
  v46 := Try.zeroValue41
  t51 := Try.underlying137
  a51 := Try.isAgg137
  z51 := Try.sizeOf137
  v51 := Try.zeroValue137 }
open Go.RowKit Go.Lib in
theorem Try.bytealg_hashStr (sep : ByteArray) (hs : sep.size < 4294967281) (w : World) :
    Calls Try.prog 144 #[.string sep] w fun e w' => e = .returned (.tuple #[.int .u32 (RK.H sep.data.toList % 4294967296), .int .u32 (16777619 ^ sep.size % 4294967296)]) ∧ w' = w := Any.bytealg_hashStr Try.lays314 sep hs w
def Try.lays267_ren : Go.Shelf.Ren := ⟨fun | 267 => 139 | 314 => 144 | n => n, fun | 9 => 9 | 3 => 3 | 146 => 138 | 51 => 137 | 4 => 4 | 5 => 5 | 46 => 41 | n => n, fun | n => n⟩
theorem Try.lays267 : Go.Proofs.Lays.n267 Try.prog Try.lays267_ren := {
  mixed := by kernel_rfl
  f267 := Try.func139.trans (congrArg some (by kernel_rfl))
  f314 := Try.func144.trans (congrArg some (by kernel_rfl))
  t3 := Try.underlying3
  a3 := Try.isAgg3
  z3 := Try.sizeOf3
  v3 := Try.zeroValue3
  t4 := Try.underlying4
  a4 := Try.isAgg4
  z4 := Try.sizeOf4
  v4 := Try.zeroValue4
  t5 := Try.underlying5
  a5 := Try.isAgg5
  z5 := Try.sizeOf5
  v5 := Try.zeroValue5
  t9 := Try.underlying9
  a9 := Try.isAgg9
  z9 := Try.sizeOf9
  v9 := Try.zeroValue9
  t46 := Try.underlying41
  a46 := Try.isAgg41
  z46 := Try.sizeOf41
  v46 := Try.zeroValue41
  t51 := Try.underlying137
  a51 := Try.isAgg137
  z51 := Try.sizeOf137
  v51 := Try.zeroValue137
  t146 := Try.underlying138
  a146 := Try.isAgg138
  z146 := Try.sizeOf138
  v146 := Try.zeroValue138 }
open Go.RowKit Go.Lib in
theorem Try.bytealg_IndexRabinKarp (s sep : ByteArray) (h1 : 1 ≤ sep.size) (h2 : sep.size ≤ s.size) (hs : s.size < 4294967281) (w : World) :
    Calls Try.prog 139 #[.string s, .string sep] w fun e w' => e = .returned (.int .i64 (Lib.index s.data.toList sep.data.toList)) ∧ w' = w := Any.bytealg_IndexRabinKarp Try.lays267 s sep h1 h2 hs w
def Try.lays219_ren : Go.Shelf.Ren := ⟨fun | 219 => 127 | 217 => 136 | 225 => 137 | 224 => 138 | 267 => 139 | 266 => 143 | 314 => 144 | n => n, fun | 9 => 9 | 3 => 3 | 4 => 4 | 5 => 5 | 46 => 41 | 146 => 138 | 51 => 137 | n => n, fun | 1 => 0 | n => n⟩
theorem Try.lays219 : Go.Proofs.Lays.n219 Try.prog Try.lays219_ren := {
  mixed := by kernel_rfl
  f217 := Try.func136.trans (congrArg some (by kernel_rfl))
  f219 := Try.func127.trans (congrArg some (by kernel_rfl))
  f224 := Try.func138.trans (congrArg some (by kernel_rfl))
  f225 := Try.func137.trans (congrArg some (by kernel_rfl))
  f266 := Try.func143.trans (congrArg some (by kernel_rfl))
  f267 := Try.func139.trans (congrArg some (by kernel_rfl))
  f314 := Try.func144.trans (congrArg some (by kernel_rfl))
  t3 := Try.underlying3
  a3 := Try.isAgg3
  z3 := Try.sizeOf3
  v3 := Try.zeroValue3
  t4 := Try.underlying4
  a4 := Try.isAgg4
  z4 := Try.sizeOf4
  v4 := Try.zeroValue4
  t5 := Try.underlying5
  a5 := Try.isAgg5
  z5 := Try.sizeOf5
  v5 := Try.zeroValue5
  t9 := Try.underlying9
  a9 := Try.isAgg9
  z9 := Try.sizeOf9
  v9 := Try.zeroValue9
  t46 := Try.underlying41
  a46 := Try.isAgg41
  z46 := Try.sizeOf41
  v46 := Try.zeroValue41
  t51 := Try.underlying137
  a51 := Try.isAgg137
  z51 := Try.sizeOf137
  v51 := Try.zeroValue137
  t146 := Try.underlying138
  a146 := Try.isAgg138
  z146 := Try.sizeOf138
  v146 := Try.zeroValue138
  g1 := by kernel_rfl }
open Go.RowKit Go.Lib in
theorem Try.stringslite_Index_one (s : ByteArray) (c : UInt8) (w : World) :
    Calls Try.prog 127 #[.string s, .string ⟨#[c]⟩] w fun e w' => e = .returned (.int .i64 (Lib.indexByte s.data.toList c)) ∧ w' = w := Any.stringslite_Index_one Try.lays219 s c w
open Go.RowKit Go.Lib in
theorem Try.stringslite_Index (s sub : ByteArray) (m : Int) (w : World) (hs : s.size < 4294967281) (hm : w.cell? ⟨0, 0, none⟩ = some (.int .i64 m)) :
    Calls Try.prog 127 #[.string s, .string sub] w fun e w' => e = .returned (.int .i64 (Lib.index s.data.toList sub.data.toList)) ∧ w' = w := Any.stringslite_Index Try.lays219 s sub m w hs hm
def Try.lays143_ren : Go.Shelf.Ren := ⟨fun | 143 => 111 | 219 => 127 | 217 => 136 | 225 => 137 | 224 => 138 | 267 => 139 | 266 => 143 | 314 => 144 | n => n, fun | 9 => 9 | 3 => 3 | 4 => 4 | 5 => 5 | 46 => 41 | 146 => 138 | 51 => 137 | n => n, fun | 1 => 0 | n => n⟩
theorem Try.lays143 : Go.Proofs.Lays.n143 Try.prog Try.lays143_ren := {
  mixed := by kernel_rfl
  f143 := Try.func111.trans (congrArg some (by kernel_rfl))
  f217 := Try.func136.trans (congrArg some (by kernel_rfl))
  f219 := Try.func127.trans (congrArg some (by kernel_rfl))
  f224 := Try.func138.trans (congrArg some (by kernel_rfl))
  f225 := Try.func137.trans (congrArg some (by kernel_rfl))
  f266 := Try.func143.trans (congrArg some (by kernel_rfl))
  f267 := Try.func139.trans (congrArg some (by kernel_rfl))
  f314 := Try.func144.trans (congrArg some (by kernel_rfl))
  t3 := Try.underlying3
  a3 := Try.isAgg3
  z3 := Try.sizeOf3
  v3 := Try.zeroValue3
  t4 := Try.underlying4
  a4 := Try.isAgg4
  z4 := Try.sizeOf4
  v4 := Try.zeroValue4
  t5 := Try.underlying5
  a5 := Try.isAgg5
  z5 := Try.sizeOf5
  v5 := Try.zeroValue5
  t9 := Try.underlying9
  a9 := Try.isAgg9
  z9 := Try.sizeOf9
  v9 := Try.zeroValue9
  t46 := Try.underlying41
  a46 := Try.isAgg41
  z46 := Try.sizeOf41
  v46 := Try.zeroValue41
  t51 := Try.underlying137
  a51 := Try.isAgg137
  z51 := Try.sizeOf137
  v51 := Try.zeroValue137
  t146 := Try.underlying138
  a146 := Try.isAgg138
  z146 := Try.sizeOf138
  v146 := Try.zeroValue138
  g1 := by kernel_rfl }
open Go.RowKit Go.Lib in
theorem Try.strings_Index_one (s : ByteArray) (c : UInt8) (w : World) :
    Calls Try.prog 111 #[.string s, .string ⟨#[c]⟩] w fun e w' => e = .returned (.int .i64 (Lib.indexByte s.data.toList c)) ∧ w' = w := Any.strings_Index_one Try.lays143 s c w
open Go.RowKit Go.Lib in
theorem Try.strings_Index (s sub : ByteArray) (m : Int) (w : World) (hs : s.size < 4294967281) (hm : w.cell? ⟨0, 0, none⟩ = some (.int .i64 m)) :
    Calls Try.prog 111 #[.string s, .string sub] w fun e w' => e = .returned (.int .i64 (Lib.index s.data.toList sub.data.toList)) ∧ w' = w := Any.strings_Index Try.lays143 s sub m w hs hm
def Try.lays138_ren : Go.Shelf.Ren := ⟨fun | 138 => 76 | 195 => 109 | 218 => 110 | 143 => 111 | 219 => 127 | 217 => 136 | 225 => 137 | 224 => 138 | 267 => 139 | 266 => 143 | 314 => 144 | n => n, fun | 9 => 9 | 3 => 3 | 4 => 4 | 5 => 5 | 0 => 0 | 46 => 41 | 146 => 138 | 51 => 137 | n => n, fun | 1 => 0 | n => n⟩
theorem Try.lays138 : Go.Proofs.Lays.n138 Try.prog Try.lays138_ren := {
  mixed := by kernel_rfl
  f138 := Try.func76.trans (congrArg some (by kernel_rfl))
  f143 := Try.func111.trans (congrArg some (by kernel_rfl))
  f195 := Try.func109.trans (congrArg some (by kernel_rfl))
  f217 := Try.func136.trans (congrArg some (by kernel_rfl))
  f218 := Try.func110.trans (congrArg some (by kernel_rfl))
  f219 := Try.func127.trans (congrArg some (by kernel_rfl))
  f224 := Try.func138.trans (congrArg some (by kernel_rfl))
  f225 := Try.func137.trans (congrArg some (by kernel_rfl))
  f266 := Try.func143.trans (congrArg some (by kernel_rfl))
  f267 := Try.func139.trans (congrArg some (by kernel_rfl))
  f314 := Try.func144.trans (congrArg some (by kernel_rfl))
  t0 := Try.underlying0
  a0 := Try.isAgg0
  z0 := Try.sizeOf0
  v0 := Try.zeroValue0
  t3 := Try.underlying3
  a3 := Try.isAgg3
  z3 := Try.sizeOf3
  v3 := Try.zeroValue3
  t4 := Try.underlying4
  a4 := Try.isAgg4
  z4 := Try.sizeOf4
  v4 := Try.zeroValue4
  t5 := Try.underlying5
  a5 := Try.isAgg5
  z5 := Try.sizeOf5
  v5 := Try.zeroValue5
  t9 := Try.underlying9
  a9 := Try.isAgg9
  z9 := Try.sizeOf9
  v9 := Try.zeroValue9
  t46 := Try.underlying41
  a46 := Try.isAgg41
  z46 := Try.sizeOf41
  v46 := Try.zeroValue41
  t51 := Try.underlying137
  a51 := Try.isAgg137
  z51 := Try.sizeOf137
  v51 := Try.zeroValue137
  t146 := Try.underlying138
  a146 := Try.isAgg138
  z146 := Try.sizeOf138
  v146 := Try.zeroValue138
  g1 := by kernel_rfl }
open Go.RowKit Go.Lib in
theorem Try.strings_Count_one (s : ByteArray) (c : UInt8) (w : World) :
    Calls Try.prog 76 #[.string s, .string ⟨#[c]⟩] w fun e w' => e = .returned (.int .i64 (Lib.countByte s.data.toList c)) ∧ w' = w := Any.strings_Count_one Try.lays138 s c w
open Go.RowKit Go.Lib in
theorem Try.strings_Count (s sub : ByteArray) (m : Int) (w : World) (hs : s.size < 4294967281) (hm : w.cell? ⟨0, 0, none⟩ = some (.int .i64 m)) (h2 : 2 ≤ sub.size) :
    Calls Try.prog 76 #[.string s, .string sub] w fun e w' => e = .returned (.int .i64 (Lib.countB s sub)) ∧ w' = w := Any.strings_Count Try.lays138 s sub m w hs hm h2
def Try.laysM219_ren : Go.Shelf.Ren := ⟨fun | 219 => 127 | 217 => 136 | 225 => 137 | 224 => 138 | 267 => 139 | 266 => 143 | 314 => 144 | n => n, fun | 9 => 9 | 3 => 3 | 4 => 4 | 5 => 5 | 46 => 41 | 146 => 138 | 51 => 137 | n => n, fun | 1 => 0 | n => n⟩
theorem Try.laysM219 : Go.Proofs.LaysM.n219 Try.prog Try.laysM219_ren := {
  mixed := by kernel_rfl
  f217 := Try.func136.trans (congrArg some (by kernel_rfl))
  f219 := Try.func127.trans (congrArg some (by kernel_rfl))
  f224 := Try.func138.trans (congrArg some (by kernel_rfl))
  f225 := Try.func137.trans (congrArg some (by kernel_rfl))
  f266 := Try.func143.trans (congrArg some (by kernel_rfl))
  f267 := Try.func139.trans (congrArg some (by kernel_rfl))
  f314 := Try.func144.trans (congrArg some (by kernel_rfl))
  t3 := Try.underlying3
  a3 := Try.isAgg3
  z3 := Try.sizeOf3
  v3 := Try.zeroValue3
  t4 := Try.underlying4
  a4 := Try.isAgg4
  z4 := Try.sizeOf4
  v4 := Try.zeroValue4
  t5 := Try.underlying5
  a5 := Try.isAgg5
  z5 := Try.sizeOf5
  v5 := Try.zeroValue5
  t9 := Try.underlying9
  a9 := Try.isAgg9
  z9 := Try.sizeOf9
  v9 := Try.zeroValue9
  t46 := Try.underlying41
  a46 := Try.isAgg41
  z46 := Try.sizeOf41
  v46 := Try.zeroValue41
  t51 := Try.underlying137
  a51 := Try.isAgg137
  z51 := Try.sizeOf137
  v51 := Try.zeroValue137
  t146 := Try.underlying138
  a146 := Try.isAgg138
  z146 := Try.sizeOf138
  v146 := Try.zeroValue138
  g1 := by kernel_rfl
  i3 := by kernel_rfl
  i4 := by kernel_rfl
  i5 := by kernel_rfl
  i9 := by kernel_rfl
  i46 := by kernel_rfl
  i51 := by kernel_rfl
  i146 := by kernel_rfl
  m1 := by kernel_rfl
  s1_3 := fun w h => Go.Proofs.cell_of_shapedOpen_int (zero := #[.int .i64 0]) (t := 3) h (of_decide_eq_true (by kernel_rfl)) (by kernel_rfl) rfl (by kernel_rfl) (by kernel_rfl) Try.underlying3 }
open Go.RowKit Go.Lib in
theorem Try.stringslite_Index_shaped (s sub : ByteArray) (w : World) (h : w.ShapedOpen Try.prog) (hs : s.size < 4294967281) :
    Calls Try.prog 127 #[.string s, .string sub] w fun e w' => e = .returned (.int .i64 (Lib.index s.data.toList sub.data.toList)) ∧ w' = w := Any.stringslite_Index_shaped Try.laysM219 s sub w h hs
def Try.laysM143_ren : Go.Shelf.Ren := ⟨fun | 143 => 111 | 219 => 127 | 217 => 136 | 225 => 137 | 224 => 138 | 267 => 139 | 266 => 143 | 314 => 144 | n => n, fun | 9 => 9 | 3 => 3 | 4 => 4 | 5 => 5 | 46 => 41 | 146 => 138 | 51 => 137 | n => n, fun | 1 => 0 | n => n⟩
theorem Try.laysM143 : Go.Proofs.LaysM.n143 Try.prog Try.laysM143_ren := {
  mixed := by kernel_rfl
  f143 := Try.func111.trans (congrArg some (by kernel_rfl))
  f217 := Try.func136.trans (congrArg some (by kernel_rfl))
  f219 := Try.func127.trans (congrArg some (by kernel_rfl))
  f224 := Try.func138.trans (congrArg some (by kernel_rfl))
  f225 := Try.func137.trans (congrArg some (by kernel_rfl))
  f266 := Try.func143.trans (congrArg some (by kernel_rfl))
  f267 := Try.func139.trans (congrArg some (by kernel_rfl))
  f314 := Try.func144.trans (congrArg some (by kernel_rfl))
  t3 := Try.underlying3
  a3 := Try.isAgg3
  z3 := Try.sizeOf3
  v3 := Try.zeroValue3
  t4 := Try.underlying4
  a4 := Try.isAgg4
  z4 := Try.sizeOf4
  v4 := Try.zeroValue4
  t5 := Try.underlying5
  a5 := Try.isAgg5
  z5 := Try.sizeOf5
  v5 := Try.zeroValue5
  t9 := Try.underlying9
  a9 := Try.isAgg9
  z9 := Try.sizeOf9
  v9 := Try.zeroValue9
  t46 := Try.underlying41
  a46 := Try.isAgg41
  z46 := Try.sizeOf41
  v46 := Try.zeroValue41
  t51 := Try.underlying137
  a51 := Try.isAgg137
  z51 := Try.sizeOf137
  v51 := Try.zeroValue137
  t146 := Try.underlying138
  a146 := Try.isAgg138
  z146 := Try.sizeOf138
  v146 := Try.zeroValue138
  g1 := by kernel_rfl
  i3 := by kernel_rfl
  i4 := by kernel_rfl
  i5 := by kernel_rfl
  i9 := by kernel_rfl
  i46 := by kernel_rfl
  i51 := by kernel_rfl
  i146 := by kernel_rfl
  m1 := by kernel_rfl
  s1_3 := fun w h => Go.Proofs.cell_of_shapedOpen_int (zero := #[.int .i64 0]) (t := 3) h (of_decide_eq_true (by kernel_rfl)) (by kernel_rfl) rfl (by kernel_rfl) (by kernel_rfl) Try.underlying3 }
open Go.RowKit Go.Lib in
theorem Try.strings_Index_shaped (s sub : ByteArray) (w : World) (h : w.ShapedOpen Try.prog) (hs : s.size < 4294967281) :
    Calls Try.prog 111 #[.string s, .string sub] w fun e w' => e = .returned (.int .i64 (Lib.index s.data.toList sub.data.toList)) ∧ w' = w := Any.strings_Index_shaped Try.laysM143 s sub w h hs
def Try.laysM138_ren : Go.Shelf.Ren := ⟨fun | 138 => 76 | 195 => 109 | 218 => 110 | 143 => 111 | 219 => 127 | 217 => 136 | 225 => 137 | 224 => 138 | 267 => 139 | 266 => 143 | 314 => 144 | n => n, fun | 9 => 9 | 3 => 3 | 4 => 4 | 5 => 5 | 0 => 0 | 46 => 41 | 146 => 138 | 51 => 137 | n => n, fun | 1 => 0 | n => n⟩
theorem Try.laysM138 : Go.Proofs.LaysM.n138 Try.prog Try.laysM138_ren := {
  mixed := by kernel_rfl
  f138 := Try.func76.trans (congrArg some (by kernel_rfl))
  f143 := Try.func111.trans (congrArg some (by kernel_rfl))
  f195 := Try.func109.trans (congrArg some (by kernel_rfl))
  f217 := Try.func136.trans (congrArg some (by kernel_rfl))
  f218 := Try.func110.trans (congrArg some (by kernel_rfl))
  f219 := Try.func127.trans (congrArg some (by kernel_rfl))
  f224 := Try.func138.trans (congrArg some (by kernel_rfl))
  f225 := Try.func137.trans (congrArg some (by kernel_rfl))
  f266 := Try.func143.trans (congrArg some (by kernel_rfl))
  f267 := Try.func139.trans (congrArg some (by kernel_rfl))
  f314 := Try.func144.trans (congrArg some (by kernel_rfl))
  t0 := Try.underlying0
  a0 := Try.isAgg0
  z0 := Try.sizeOf0
  v0 := Try.zeroValue0
  t3 := Try.underlying3
  a3 := Try.isAgg3
  z3 := Try.sizeOf3
  v3 := Try.zeroValue3
  t4 := Try.underlying4
  a4 := Try.isAgg4
  z4 := Try.sizeOf4
  v4 := Try.zeroValue4
  t5 := Try.underlying5
  a5 := Try.isAgg5
  z5 := Try.sizeOf5
  v5 := Try.zeroValue5
  t9 := Try.underlying9
  a9 := Try.isAgg9
  z9 := Try.sizeOf9
  v9 := Try.zeroValue9
  t46 := Try.underlying41
  a46 := Try.isAgg41
  z46 := Try.sizeOf41
  v46 := Try.zeroValue41
  t51 := Try.underlying137
  a51 := Try.isAgg137
  z51 := Try.sizeOf137
  v51 := Try.zeroValue137
  t146 := Try.underlying138
  a146 := Try.isAgg138
  z146 := Try.sizeOf138
  v146 := Try.zeroValue138
  g1 := by kernel_rfl
  i0 := by kernel_rfl
  i3 := by kernel_rfl
  i4 := by kernel_rfl
  i5 := by kernel_rfl
  i9 := by kernel_rfl
  i46 := by kernel_rfl
  i51 := by kernel_rfl
  i146 := by kernel_rfl
  m1 := by kernel_rfl
  s1_3 := fun w h => Go.Proofs.cell_of_shapedOpen_int (zero := #[.int .i64 0]) (t := 3) h (of_decide_eq_true (by kernel_rfl)) (by kernel_rfl) rfl (by kernel_rfl) (by kernel_rfl) Try.underlying3 }
open Go.RowKit Go.Lib in
theorem Try.strings_Count_shaped (s sub : ByteArray) (w : World) (h : w.ShapedOpen Try.prog) (hs : s.size < 4294967281) (h2 : 2 ≤ sub.size) :
    Calls Try.prog 76 #[.string s, .string sub] w fun e w' => e = .returned (.int .i64 (Lib.countB s sub)) ∧ w' = w := Any.strings_Count_shaped Try.laysM138 s sub w h hs h2
def Try.lays222_ren : Go.Shelf.Ren := ⟨fun | 222 => 86 | n => n, fun | 9 => 9 | 5 => 5 | 3 => 3 | 4 => 4 | n => n, fun | n => n⟩
theorem Try.lays222 : Go.Proofs.Lays.n222 Try.prog Try.lays222_ren := {
  mixed := by kernel_rfl
  f222 := Try.func86.trans (congrArg some (by kernel_rfl))
  t3 := Try.underlying3
  a3 := Try.isAgg3
  z3 := Try.sizeOf3
  v3 := Try.zeroValue3
  t4 := Try.underlying4
  a4 := Try.isAgg4
  z4 := Try.sizeOf4
  v4 := Try.zeroValue4
  t5 := Try.underlying5
  a5 := Try.isAgg5
  z5 := Try.sizeOf5
  v5 := Try.zeroValue5
  t9 := Try.underlying9
  a9 := Try.isAgg9
  z9 := Try.sizeOf9
  v9 := Try.zeroValue9 }
open Go.RowKit Go.Lib in
theorem Try.bytealg_LastIndexByteString_nm (s : ByteArray) (c : Int) (hs : s.size < 4611686018427387904) (w : World) :
    Calls Try.prog 86 #[.string s, .int .u8 c] w fun e w' => e = .returned (.int .i64 (Lib.lastIndexByte s c)) ∧ w' = w := Any.bytealg_LastIndexByteString_nm Try.lays222 s c hs w
def Try.lays149_ren : Go.Shelf.Ren := ⟨fun | 149 => 55 | 222 => 86 | n => n, fun | 9 => 9 | 5 => 5 | 3 => 3 | 4 => 4 | n => n, fun | n => n⟩
theorem Try.lays149 : Go.Proofs.Lays.n149 Try.prog Try.lays149_ren := {
  mixed := by kernel_rfl
  f149 := Try.func55.trans (congrArg some (by kernel_rfl))
  f222 := Try.func86.trans (congrArg some (by kernel_rfl))
  t3 := Try.underlying3
  a3 := Try.isAgg3
  z3 := Try.sizeOf3
  v3 := Try.zeroValue3
  t4 := Try.underlying4
  a4 := Try.isAgg4
  z4 := Try.sizeOf4
  v4 := Try.zeroValue4
  t5 := Try.underlying5
  a5 := Try.isAgg5
  z5 := Try.sizeOf5
  v5 := Try.zeroValue5
  t9 := Try.underlying9
  a9 := Try.isAgg9
  z9 := Try.sizeOf9
  v9 := Try.zeroValue9 }
open Go.RowKit Go.Lib in
theorem Try.strings_LastIndexByte (s : ByteArray) (c : Int) (hs : s.size < 4611686018427387904) (w : World) :
    Calls Try.prog 55 #[.string s, .int .u8 c] w fun e w' => e = .returned (.int .i64 (Lib.lastIndexByte s c)) ∧ w' = w := Any.strings_LastIndexByte Try.lays149 s c hs w
def Try.lays148_ren : Go.Shelf.Ren := ⟨fun | 148 => 77 | 222 => 86 | 223 => 112 | 269 => 128 | n => n, fun | 9 => 9 | 3 => 3 | 4 => 4 | 5 => 5 | 146 => 138 | 51 => 137 | 46 => 41 | n => n, fun | n => n⟩
theorem Try.lays148 : Go.Proofs.Lays.n148 Try.prog Try.lays148_ren := {
  mixed := by kernel_rfl
  f148 := Try.func77.trans (congrArg some (by kernel_rfl))
  f222 := Try.func86.trans (congrArg some (by kernel_rfl))
  f223 := Try.func112.trans (congrArg some (by kernel_rfl))
  f269 := Try.func128.trans (congrArg some (by kernel_rfl))
  t3 := Try.underlying3
  a3 := Try.isAgg3
  z3 := Try.sizeOf3
  v3 := Try.zeroValue3
  t4 := Try.underlying4
  a4 := Try.isAgg4
  z4 := Try.sizeOf4
  v4 := Try.zeroValue4
  t5 := Try.underlying5
  a5 := Try.isAgg5
  z5 := Try.sizeOf5
  v5 := Try.zeroValue5
  t9 := Try.underlying9
  a9 := Try.isAgg9
  z9 := Try.sizeOf9
  v9 := Try.zeroValue9
  t46 := Try.underlying41
  a46 := Try.isAgg41
  z46 := Try.sizeOf41
  v46 := Try.zeroValue41
  t51 := Try.underlying137
  a51 := Try.isAgg137
  z51 := Try.sizeOf137
  v51 := Try.zeroValue137
  t146 := Try.underlying138
  a146 := Try.isAgg138
  z146 := Try.sizeOf138
  v146 := Try.zeroValue138 }
open Go.RowKit Go.Lib in
theorem Try.strings_LastIndex_one (s sub : ByteArray) (h1 : sub.size = 1) (hs : s.size < 4611686018427387904) (w : World) :
    Calls Try.prog 77 #[.string s, .string sub] w fun e w' => e = .returned (.int .i64 (Lib.lastIndexByte s ((sub[0]'(by omega)).toNat : Int))) ∧ w' = w := Any.strings_LastIndex_one Try.lays148 s sub h1 hs w
open Go.RowKit Go.Lib in
theorem Try.strings_LastIndex_empty (s sub : ByteArray) (h0 : sub.size = 0) (w : World) :
    Calls Try.prog 77 #[.string s, .string sub] w fun e w' => e = .returned (.int .i64 s.size) ∧ w' = w := Any.strings_LastIndex_empty Try.lays148 s sub h0 w
open Go.RowKit Go.Lib in
theorem Try.strings_LastIndex_longer (s sub : ByteArray) (h2 : 2 ≤ sub.size) (hl : s.size < sub.size) (w : World) :
    Calls Try.prog 77 #[.string s, .string sub] w fun e w' => e = .returned (.int .i64 (-1)) ∧ w' = w := Any.strings_LastIndex_longer Try.lays148 s sub h2 hl w
open Go.RowKit Go.Lib in
theorem Try.strings_LastIndex_whole (s sub : ByteArray) (h2 : 2 ≤ sub.size) (hl : sub.size = s.size) (w : World) :
    Calls Try.prog 77 #[.string s, .string sub] w fun e w' => e = .returned (.int .i64 (if sub = s then 0 else -1)) ∧ w' = w := Any.strings_LastIndex_whole Try.lays148 s sub h2 hl w
def Try.lays269_ren : Go.Shelf.Ren := ⟨fun | 269 => 128 | n => n, fun | 9 => 9 | 51 => 137 | 3 => 3 | 4 => 4 | 5 => 5 | 46 => 41 | n => n, fun | n => n⟩
theorem Try.lays269 : Go.Proofs.Lays.n269 Try.prog Try.lays269_ren := {
  mixed := by kernel_rfl
  f269 := Try.func128.trans (congrArg some (by kernel_rfl))
  t3 := Try.underlying3
  a3 := Try.isAgg3
  z3 := Try.sizeOf3
  v3 := Try.zeroValue3
  t4 := Try.underlying4
  a4 := Try.isAgg4
  z4 := Try.sizeOf4
  v4 := Try.zeroValue4
  t5 := Try.underlying5
  a5 := Try.isAgg5
  z5 := Try.sizeOf5
  v5 := Try.zeroValue5
  t9 := Try.underlying9
  a9 := Try.isAgg9
  z9 := Try.sizeOf9
  v9 := Try.zeroValue9
  t46 := Try.underlying41
  a46 := Try.isAgg41
  z46 := Try.sizeOf41
  v46 := Try.zeroValue41
  t51 := Try.underlying137
  a51 := Try.isAgg137
  z51 := Try.sizeOf137
  v51 := Try.zeroValue137 }
open Go.RowKit Go.Lib in
theorem Try.bytealg_hashStrRev (sep : ByteArray) (hs : sep.size < 4611686018427387904) (w : World) :
    Calls Try.prog 128 #[.string sep] w fun e w' => e = .returned (.tuple #[.int .u32 (RK.H sep.data.toList.reverse % 4294967296), .int .u32 (16777619 ^ sep.size % 4294967296)]) ∧ w' = w := Any.bytealg_hashStrRev Try.lays269 sep hs w
def Try.lays223_ren : Go.Shelf.Ren := ⟨fun | 223 => 112 | 269 => 128 | n => n, fun | 9 => 9 | 3 => 3 | 146 => 138 | 51 => 137 | 4 => 4 | 5 => 5 | 46 => 41 | n => n, fun | n => n⟩
theorem Try.lays223 : Go.Proofs.Lays.n223 Try.prog Try.lays223_ren := {
  mixed := by kernel_rfl
  f223 := Try.func112.trans (congrArg some (by kernel_rfl))
  f269 := Try.func128.trans (congrArg some (by kernel_rfl))
  t3 := Try.underlying3
  a3 := Try.isAgg3
  z3 := Try.sizeOf3
  v3 := Try.zeroValue3
  t4 := Try.underlying4
  a4 := Try.isAgg4
  z4 := Try.sizeOf4
  v4 := Try.zeroValue4
  t5 := Try.underlying5
  a5 := Try.isAgg5
  z5 := Try.sizeOf5
  v5 := Try.zeroValue5
  t9 := Try.underlying9
  a9 := Try.isAgg9
  z9 := Try.sizeOf9
  v9 := Try.zeroValue9
  t46 := Try.underlying41
  a46 := Try.isAgg41
  z46 := Try.sizeOf41
  v46 := Try.zeroValue41
  t51 := Try.underlying137
  a51 := Try.isAgg137
  z51 := Try.sizeOf137
  v51 := Try.zeroValue137
  t146 := Try.underlying138
  a146 := Try.isAgg138
  z146 := Try.sizeOf138
  v146 := Try.zeroValue138 }
open Go.RowKit Go.Lib in
theorem Try.bytealg_LastIndexRabinKarp (s sep : ByteArray) (h1 : 1 ≤ sep.size) (h2 : sep.size ≤ s.size) (hs : s.size < 4611686018427387904) (w : World) :
    Calls Try.prog 112 #[.string s, .string sep] w fun e w' => e = .returned (.int .i64 (Lib.lastIndex s.data.toList sep.data.toList)) ∧ w' = w := Any.bytealg_LastIndexRabinKarp Try.lays223 s sep h1 h2 hs w
open Go.RowKit Go.Lib in
theorem Try.strings_LastIndex_hash (s sub : ByteArray) (h2 : 2 ≤ sub.size) (hl : sub.size < s.size) (hs : s.size < 4611686018427387904) (w : World) :
    Calls Try.prog 77 #[.string s, .string sub] w fun e w' => e = .returned (.int .i64 (Lib.lastIndex s.data.toList sub.data.toList)) ∧ w' = w := Any.strings_LastIndex_hash Try.lays148 s sub h2 hl hs w
open Go.RowKit Go.Lib in
theorem Try.strings_LastIndex (s sub : ByteArray) (hs : s.size < 4611686018427387904) (w : World) :
    Calls Try.prog 77 #[.string s, .string sub] w fun e w' => e = .returned (.int .i64 (Lib.lastIndex s.data.toList sub.data.toList)) ∧ w' = w := Any.strings_LastIndex Try.lays148 s sub hs w
def Try.lays206_ren : Go.Shelf.Ren := ⟨fun | 206 => 129 | n => n, fun | 9 => 9 | 4 => 4 | 3 => 3 | n => n, fun | n => n⟩
theorem Try.lays206 : Go.Proofs.Lays.n206 Try.prog Try.lays206_ren := {
  mixed := by kernel_rfl
  f206 := Try.func129.trans (congrArg some (by kernel_rfl))
  t3 := Try.underlying3
  a3 := Try.isAgg3
  z3 := Try.sizeOf3
  v3 := Try.zeroValue3
  t4 := Try.underlying4
  a4 := Try.isAgg4
  z4 := Try.sizeOf4
  v4 := Try.zeroValue4
  t9 := Try.underlying9
  a9 := Try.isAgg9
  z9 := Try.sizeOf9
  v9 := Try.zeroValue9 }
open Go.RowKit Go.Lib in
theorem Try.stringslite_HasPrefix (s p : ByteArray) (w : World) :
    Calls Try.prog 129 #[.string s, .string p] w fun e w' => e = .returned (.bool (Lib.hasPrefix s.data.toList p.data.toList)) ∧ w' = w := Any.stringslite_HasPrefix Try.lays206 s p w
def Try.lays99_ren : Go.Shelf.Ren := ⟨fun | 99 => 113 | 206 => 129 | n => n, fun | 9 => 9 | 4 => 4 | 3 => 3 | n => n, fun | n => n⟩
theorem Try.lays99 : Go.Proofs.Lays.n99 Try.prog Try.lays99_ren := {
  mixed := by kernel_rfl
  f99 := Try.func113.trans (congrArg some (by kernel_rfl))
  f206 := Try.func129.trans (congrArg some (by kernel_rfl))
  t3 := Try.underlying3
  a3 := Try.isAgg3
  z3 := Try.sizeOf3
  v3 := Try.zeroValue3
  t4 := Try.underlying4
  a4 := Try.isAgg4
  z4 := Try.sizeOf4
  v4 := Try.zeroValue4
  t9 := Try.underlying9
  a9 := Try.isAgg9
  z9 := Try.sizeOf9
  v9 := Try.zeroValue9 }
open Go.RowKit Go.Lib in
theorem Try.strings_HasPrefix (s p : ByteArray) (w : World) :
    Calls Try.prog 113 #[.string s, .string p] w fun e w' => e = .returned (.bool (Lib.hasPrefix s.data.toList p.data.toList)) ∧ w' = w := Any.strings_HasPrefix Try.lays99 s p w
end Go.Proofs

/- Walks of number and its closure; their conditions stand in the theorems. -/
namespace Go.Proofs.Ytpchljiiappmnaa
open Go Go.RowKit

set_option maxHeartbeats 1000000 in
theorem isDig_any (c : UInt8) (hex : Bool) (b : Nat) (w : World) (hc : w.cell? ⟨b, 0, none⟩ = some (.int .i64 (baseOf hex))) :
    Calls Try.prog 140 #[.int .u8 c.toNat, .pointer (some ⟨b, 0, none⟩)] w fun e w' => e = .returned (.bool (isDig hex c)) ∧ w = w' := by
  go_enter Try.func140, Try.ntmps140
  go_wp2_with (go_at_call 141; refine (digit_any c hex _).mono ?_; rintro e w' ⟨rfl, rfl⟩)
  go_ret
  exact ⟨rfl, rfl⟩

set_option maxHeartbeats 1000000 in
theorem spanDig_any (s : S) (w : World) (hex : Bool) (b : Nat) (hc : w.cell? ⟨b, 0, none⟩ = some (.int .i64 (baseOf hex))) (hs : s.size ≤ 9223372036854775807) :
    Calls Try.prog 103 #[.string s, .func (.func 140) #[] #[.pointer (some ⟨b, 0, none⟩)]] w fun e w' => e = .returned (.int .i64 (span (isDig hex) s.data.toList)) ∧ w = w' := by
  have hsp := span_le (isDig hex) s.data.toList
  rw [size_data] at hsp
  go_enter Try.func103, Try.ntmps103
  go_wp2
  go_loop [5] (fun i => ∃ k : Nat, k ≤ s.size ∧ i = .int .i64 k ∧ Hid (span (isDig hex) s.data.toList = k + span (isDig hex) (s.data.toList.drop k))) (fun i => s.size - (intOf i).toNat)
  case atStart => exact ⟨0, Nat.zero_le _, rfl, by show _ = _; simp⟩
  case round =>
    obtain ⟨k, hk, rfl, H⟩ := hrel
    by_cases hlt : k < s.size
    · have HD := Lib.hid (drop_byte s k hlt)
      cases hp : isDig hex s[k]
      all_goals
        have HP := Lib.hid hp
        clear hp
        go_wp2_with (go_at_call 140; refine (isDig_any _ hex b _ hc).mono ?_; rintro e w' ⟨rfl, rfl⟩; rw [HP.out])
      · go_ret
        exact ⟨ret_int (by rw [H.out, HD.out]; simp [span, HP.out]), rfl⟩
      · go_round
        case rel => exact ⟨k + 1, by omega, by go_num, by show _ = _; rw [H.out, HD.out]; simp only [span, HP.out, if_true]; omega⟩
        case measure => simp [intOf]; omega
    · go_wp2
      go_ret
      exact ⟨ret_int (by rw [H.out, List.drop_of_length_le (by rw [size_data]; omega)]; simp [span]), rfl⟩

def refTuple : RefR → Value
  | .ok t n => .tuple #[.string (bs t), .int .i64 n, .int .i64 0]
  | .bad e => .tuple #[.string (bs []), .int .i64 0, .int .i64 e]

theorem numV_snoc (hex : Bool) (l : Bs) (c : UInt8) : numV hex (l ++ [c]) = numV hex l * baseOf hex + digitV c hex := by
  unfold numV; rw [List.foldl_append]; rfl
theorem numV_bd (hex : Bool) (l : Bs) (h : ∀ c ∈ l, isDig hex c = true) : 0 ≤ numV hex l ∧ numV hex l < 16 ^ l.length := by
  induction l using snoc_ind with
  | h0 => simp [numV]
  | h1 l c ih =>
    obtain ⟨h1, h2⟩ := ih fun d hd => h d (by simp [hd])
    have h3 := h c (by simp)
    have h4 := digitV_le c hex
    simp only [isDig, decide_eq_true_eq] at h3
    rw [numV_snoc, List.length_append, List.length_singleton, Int.pow_succ]
    generalize (16 : Int) ^ l.length = q at *
    cases hex <;> simp only [baseOf, if_true, Bool.false_eq_true, if_false] <;> omega

theorem numV_small (hex : Bool) (l : Bs) (h : ∀ c ∈ l, isDig hex c = true) (hl : l.length ≤ 8) : 0 ≤ numV hex l ∧ numV hex l < 4294967296 := by
  obtain ⟨h1, h2⟩ := numV_bd hex l h
  have h3 : (16 : Int) ^ l.length ≤ 4294967296 := by
    generalize l.length = n at hl
    match n, hl with
    | 0, _ => decide
    | 1, _ => decide
    | 2, _ => decide
    | 3, _ => decide
    | 4, _ => decide
    | 5, _ => decide
    | 6, _ => decide
    | 7, _ => decide
    | 8, _ => decide
  omega

theorem belowN {B : Nat} {w w' : World} (h : Below B w w') (n : Nat) : Below B w (w'.drewN n) := ⟨h.os, h.tape, h.output, h.size, fun k hk => h.block k hk⟩

end Go.Proofs.Ytpchljiiappmnaa

/- Plain law of references: the document's way to cut one and the program's are the same; no program in sight. -/
namespace Go.Proofs.Ytpchljiiappmnaa
open Go Go.RowKit

def refWords : List (Bs × UInt8) := [(wLt, 60), (wGt, 62), (wAmp, 38), (wQuot, 34), (wApos, 39)]
/-- The document's loop over the words. -/
def refW : List (Bs × UInt8) → Bs → Option RefR
  | [], _ => none
  | (w, t) :: ws, s => if (38 :: (w ++ [59])).isPrefixOf s then some (.ok [t] (w.length + 2)) else if s.isPrefixOf (38 :: (w ++ [59])) then some (.bad 13) else refW ws s
/-- The document's digits: nine at most are looked at. -/
def refN (hex : Bool) (ahead : Nat) (s : Bs) : RefR :=
  if 8 < min 9 (span (isDig hex) s) then .bad 12
  else if min 9 (span (isDig hex) s) = s.length then .bad 13
  else if s[min 9 (span (isDig hex) s)]? ≠ some 59 ∨ min 9 (span (isDig hex) s) = 0 ∨ okLetter (numV hex (s.take (min 9 (span (isDig hex) s)))) = false then .bad 12
  else .ok (letterB (numV hex (s.take (min 9 (span (isDig hex) s))))) (ahead + min 9 (span (isDig hex) s) + 1)
def refDoc (s : Bs) : RefR :=
  match refW refWords s with
  | some r => r
  | none =>
    if s = [38, 35] ∨ s = [38, 35, 120] then .bad 13
    else if !([38, 35] : Bs).isPrefixOf s then .bad 12
    else if ([38, 35, 120] : Bs).isPrefixOf s then refN true 3 (s.drop 3) else refN false 2 (s.drop 2)

theorem refN_eq (hex : Bool) (ahead : Nat) (s : Bs) : refN hex ahead s = numRef hex ahead s := by
  unfold refN numRef
  by_cases h : 8 < span (isDig hex) s
  · rw [if_pos (by omega), if_pos h]
  · rw [show min 9 (span (isDig hex) s) = span (isDig hex) s by omega, if_neg h, if_neg h]
    by_cases h2 : span (isDig hex) s = s.length
    · rw [if_pos h2, if_pos h2]
    · rw [if_neg h2, if_neg h2]
      by_cases h3 : span (isDig hex) s = 0 ∨ s[span (isDig hex) s]? ≠ some 59
      · rw [if_pos h3, if_pos (by rcases h3 with h | h; exact .inr (.inl h); exact .inl h)]
      · rw [if_neg h3]
        cases h4 : okLetter (numV hex (s.take (span (isDig hex) s)))
        · simp
        · rw [if_neg (by simp only [not_or] at h3; simp [h3])]; simp

/-- A word with its end at the front. -/
theorem pre_word {w r : Bs} (hw : ∀ c ∈ w, cLower c = true) : (w ++ [59]).isPrefixOf r = (decide (r.take (span cLower r) = w) && decide (r[span cLower r]? = some 59)) := by
  have h59 : cLower 59 = false := by decide
  induction w generalizing r with
  | nil =>
    cases r with
    | nil => rfl
    | cons c r =>
      by_cases hc : cLower c
      · have : c ≠ 59 := fun e => by rw [e, h59] at hc; cases hc
        simp [span, hc, List.isPrefixOf, Ne.symm this]
      · by_cases e : c = 59
        · subst e; simp [span, h59, List.isPrefixOf]
        · simp [span, hc, List.isPrefixOf, e, Ne.symm e]
  | cons x w ih =>
    have hx := hw x (by simp)
    cases r with
    | nil => simp [span]
    | cons c r =>
      simp only [List.cons_append, List.isPrefixOf]
      rw [ih fun d hd => hw d (by simp [hd])]
      by_cases e : x = c
      · subst e; simp [span, hx]
      · have e' : (x == c) = false := by simpa using e
        rw [e', Bool.false_and]
        by_cases hc : cLower c
        · simp [span, hc, Ne.symm e]
        · simp [span, hc]

/-- An end of a text that is a beginning of a word with its end. -/
theorem pre_of_word {w r : Bs} (hw : ∀ c ∈ w, cLower c = true) : r.isPrefixOf (w ++ [59]) = ((decide (span cLower r = r.length) && r.isPrefixOf w) || decide (r = w ++ [59])) := by
  have h59 : cLower 59 = false := by decide
  induction w generalizing r with
  | nil =>
    cases r with
    | nil => simp [span]
    | cons c r =>
      by_cases hc : cLower c
      · have : c ≠ 59 := fun e => by rw [e, h59] at hc; cases hc
        simp [List.isPrefixOf, this]
      · simp [List.isPrefixOf]
        by_cases e : c = 59
        · subst e; cases r <;> simp
        · simp [e]
  | cons x w ih =>
    have hx := hw x (by simp)
    cases r with
    | nil => simp [span]
    | cons c r =>
      simp only [List.cons_append, List.isPrefixOf]
      rw [ih fun d hd => hw d (by simp [hd])]
      by_cases e : c = x
      · subst e; simp [span, hx]
      · have e' : (c == x) = false := by simpa using e
        simp [e']
        exact fun h => absurd h e

theorem lower_words : ∀ p ∈ refWords, ∀ c ∈ p.1, cLower c = true := by decide

/-- The document's loop over the words, at a text that begins with & and no #. -/
theorem refW_all (r : Bs) (hr : r.head? ≠ some 35) : (match refW refWords (38 :: r) with
    | some x => x
    | none => .bad 12) = refSpec (38 :: r) := by
  have key : ∀ ws : List (Bs × UInt8), (∀ p ∈ ws, ∀ c ∈ p.1, cLower c = true) → refW ws (38 :: r) =
      (if span cLower r = r.length then (if ws.any (fun p => r.isPrefixOf p.1) then some (.bad 13) else none)
       else (match ws.find? (fun p => decide (r.take (span cLower r) = p.1) && decide (r[span cLower r]? = some 59)) with
        | some p => some (.ok [p.2] (p.1.length + 2))
        | none => none)) := by
    intro ws
    induction ws with
    | nil => intro _; simp [refW]
    | cons p ws ih =>
      intro hp
      obtain ⟨w, t⟩ := p
      have hw := hp (w, t) (by simp)
      simp only [refW, List.isPrefixOf, beq_self_eq_true, Bool.true_and]
      rw [pre_word hw, pre_of_word hw, ih fun q hq => hp q (by simp [hq])]
      by_cases hl : span cLower r = r.length
      · rw [if_pos hl]
        have h1 : r[span cLower r]? = none := by rw [hl]; simp
        have h2 : r ≠ w ++ [59] := by
          rintro rfl
          rw [hl] at h1
          have : cLower 59 = true := by
            obtain ⟨c, hc1, hc2⟩ := span_lt (p := cLower) (l := w ++ [59]) (i := w.length) (by rw [hl]; simp)
            simp at hc1; rw [hc1]; exact hc2
          revert this; decide
        have h3 : (decide (r.take (span cLower r) = w) && decide (r[span cLower r]? = some 59)) = false := by rw [h1]; simp
        rw [h3]
        simp only [hl, decide_true, Bool.true_and, h2, decide_false, Bool.or_false, List.any_cons, Bool.false_eq_true, if_false, if_true]
        by_cases h4 : r.isPrefixOf w = true
        · simp [h4]
        · have h5 : r.isPrefixOf w = false := Bool.eq_false_iff.2 h4
          simp only [h5, Bool.false_or, Bool.false_eq_true, if_false]
      · rw [if_neg hl]
        simp only [hl, decide_false, Bool.false_and, Bool.false_or, List.find?_cons]
        cases hd : decide (r.take (span cLower r) = w) && decide (r[span cLower r]? = some 59)
        · have h2 : r ≠ w ++ [59] := by
            rintro rfl
            have hs : span cLower (w ++ [59]) = w.length := span_eq (fun i c hi hc => by
              rw [List.getElem?_append_left hi] at hc
              exact hw c (List.mem_of_getElem? hc)) (fun c hc => by simp at hc; subst hc; decide) (by simp)
            rw [hs] at hd
            simp at hd
          simp [h2]
        · simp
  rw [key _ lower_words]
  have hsp : refSpec (38 :: r) = (if span cLower r = r.length then
        if r.isPrefixOf wLt || r.isPrefixOf wGt || r.isPrefixOf wAmp || r.isPrefixOf wQuot || r.isPrefixOf wApos then .bad 13 else .bad 12
      else match named (r.take (span cLower r)) with
        | some t => if r[span cLower r]? = some 59 then .ok [t] (span cLower r + 2) else .bad 12
        | none => .bad 12) := by
    unfold refSpec
    simp only [ne_eq, not_true_eq_false, if_false]
    split
    · simp at hr
    · rfl
  rw [hsp]
  by_cases hl : span cLower r = r.length
  · rw [if_pos hl, if_pos hl]
    simp only [refWords, List.any_cons, List.any_nil, Bool.or_false, Bool.or_assoc]
    split <;> rename_i h
    · split at h
      · cases h; rw [if_pos ‹_›]
      · cases h
    · split at h
      · cases h
      · rw [if_neg ‹_›]
  · rw [if_neg hl, if_neg hl]
    have hlen : (r.take (span cLower r)).length = span cLower r := by rw [List.length_take]; have := span_le cLower r; omega
    generalize ht : r.take (span cLower r) = u at *
    rw [← hlen]
    by_cases h59 : r[u.length]? = some 59
    · simp only [h59, decide_true, Bool.and_true, if_true]
      simp only [refWords, List.find?_cons, List.find?_nil, named]
      by_cases e1 : u = wLt
      · subst e1; simp
      · by_cases e2 : u = wGt
        · subst e2; simp [e1]
        · by_cases e3 : u = wAmp
          · subst e3; simp [e1, e2]
          · by_cases e4 : u = wQuot
            · subst e4; simp [e1, e2, e3]
            · by_cases e5 : u = wApos
              · subst e5; simp [e1, e2, e3, e4]
              · simp [e1, e2, e3, e4, e5]
    · simp only [h59, decide_false, Bool.and_false, if_false]
      simp only [refWords, List.find?_cons, List.find?_nil]
      cases named u <;> rfl

theorem refDoc_eq (s : Bs) : refDoc s = refSpec s := by
  cases s with
  | nil => rfl
  | cons c r =>
    by_cases hc : c = 38
    · subst hc
      by_cases hr : r.head? = some 35
      · cases r with
        | nil => cases hr
        | cons x r =>
          simp only [List.head?_cons, Option.some.injEq] at hr
          subst hr
          have hw : refW refWords (38 :: 35 :: r) = none := by simp [refW, refWords, wLt, wGt, wAmp, wQuot, wApos, List.isPrefixOf]
          unfold refDoc
          rw [hw]
          simp only
          cases r with
          | nil => rw [if_pos (.inl rfl)]; simp [refSpec, numRef, span]
          | cons y r =>
            by_cases hy : y = 120
            · subst hy
              cases r with
              | nil => rw [if_pos (.inr rfl)]; simp [refSpec, numRef, span]
              | cons z r =>
                rw [if_neg (by simp), if_neg (by simp [List.isPrefixOf]), if_pos (by simp [List.isPrefixOf]), refN_eq]
                simp [refSpec]
            · rw [if_neg (by simp [hy]), if_neg (by simp [List.isPrefixOf]), if_neg (by simp [List.isPrefixOf, Ne.symm hy]), refN_eq]
              simp [refSpec, hy]
      · rw [← refW_all r hr]
        unfold refDoc
        cases refW refWords (38 :: r) with
        | some x => rfl
        | none =>
          simp only
          have h1 : ([38, 35] : Bs).isPrefixOf (38 :: r) = false := by
            cases r with
            | nil => rfl
            | cons x r => simp only [List.head?_cons, Option.some.injEq] at hr; simp [List.isPrefixOf, Ne.symm hr]
          rw [if_neg (by rintro (h | h) <;> (simp at h; rw [h] at hr; simp at hr)), h1]; rfl
    · have hw : refW refWords (c :: r) = none := by simp [refW, refWords, List.isPrefixOf, hc, Ne.symm hc]
      unfold refDoc
      rw [hw]
      simp only
      rw [if_neg (by simp [hc]), show ([38, 35] : Bs).isPrefixOf (c :: r) = false by simp [List.isPrefixOf, Ne.symm hc]]
      simp [refSpec, hc]

/-- A reference takes a byte or more, and no more than there are. -/
theorem refSpec_size {s t : Bs} {n : Nat} (h : refSpec s = .ok t n) : 1 ≤ n ∧ n ≤ s.length := by
  have hn : ∀ hex a d, numRef hex a d = .ok t n → n ≤ a + d.length ∧ a + 1 ≤ n := by
    intro hex a d h
    unfold numRef at h
    have := span_le (isDig hex) d
    by_cases h1 : 8 < span (isDig hex) d
    · rw [if_pos h1] at h; cases h
    · rw [if_neg h1] at h
      by_cases h2 : span (isDig hex) d = d.length
      · rw [if_pos h2] at h; cases h
      · rw [if_neg h2] at h
        by_cases h3 : span (isDig hex) d = 0 ∨ d[span (isDig hex) d]? ≠ some 59
        · rw [if_pos h3] at h; cases h
        · rw [if_neg h3] at h
          split at h
          · cases h; omega
          · cases h
  cases s with
  | nil => cases h
  | cons c r =>
    simp only [refSpec] at h
    by_cases hc : c = 38
    · rw [if_neg (by simp [hc])] at h
      split at h
      · split at h
        · have := hn _ _ _ h; simp only [List.length_cons]; omega
        · have := hn _ _ _ h; simp only [List.length_cons]; omega
      · by_cases hl : span cLower r = r.length
        · rw [if_pos hl] at h
          split at h <;> cases h
        · rw [if_neg hl] at h
          have := span_le cLower r
          split at h
          · split at h
            · cases h; simp only [List.length_cons]; omega
            · cases h
          · cases h
    · rw [if_pos hc] at h; cases h

end Go.Proofs.Ytpchljiiappmnaa
