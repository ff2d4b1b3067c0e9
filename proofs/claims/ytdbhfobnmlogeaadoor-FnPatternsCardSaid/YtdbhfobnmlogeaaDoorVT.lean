import Derived.Test.YtdbhfobnmlogeaaDoorProg
import Derived.Test.YtdbhfobnmlogeaaDoorW6
import Derived.KernelRfl
/- What is known of the types of this seat's translation. By a program of this repository (gentypes.py). -/
namespace Go.Proofs.YtdbhfobnmlogeaaDoor
open Go.V
set_option maxRecDepth 10000

/-- Tables that this claim's row lists. -/
def globTab : Nat → Option (List Value)
  | _ => none
theorem globFlat : ∀ g xs, globTab g = some xs → Flat (.agg ⟨xs⟩) = true := by
  intro g xs h
  unfold globTab at h
  cases h
/-- Variables that hold some value of their type. -/
def globAny : Nat → Option (List Value → Prop)
  | 0 => some fun xs => ∃ m : Int, xs = [.int .i64 m]
  | _ => none
instance globs : Globs := ⟨globTab, globFlat, globAny⟩
def ti1 : TI := ⟨.func, 1, 8, .nilFunc⟩
theorem tiOk1 : TIOk Tryd.prog 1 ti1 := ⟨⟨_, _, _, Tryd.underlying1⟩, ⟨_, rfl, rfl, rfl, rfl⟩, rfl, rfl⟩
@[simp] theorem ti1_size : ti1.size = 1 := rfl
@[simp] theorem ti1_bytes : ti1.bytes = 8 := rfl
def ti2 : TI := ⟨.int .i64, 1, 8, (.int .i64 0)⟩
theorem tiOk2 : TIOk Tryd.prog 2 ti2 := ⟨Tryd.underlying2, ⟨_, rfl, rfl, rfl, rfl⟩, rfl, rfl⟩
@[simp] theorem ti2_size : ti2.size = 1 := rfl
@[simp] theorem ti2_bytes : ti2.bytes = 8 := rfl
def ti3 : TI := ⟨.int .i64, 1, 8, (.int .i64 0)⟩
theorem tiOk3 : TIOk Tryd.prog 3 ti3 := ⟨Tryd.underlying3, ⟨_, rfl, rfl, rfl, rfl⟩, rfl, rfl⟩
@[simp] theorem ti3_size : ti3.size = 1 := rfl
@[simp] theorem ti3_bytes : ti3.bytes = 8 := rfl
def ti4 : TI := ⟨.bool, 1, 1, (.bool false)⟩
theorem tiOk4 : TIOk Tryd.prog 4 ti4 := ⟨Tryd.underlying4, ⟨_, rfl, rfl, rfl, rfl⟩, rfl, rfl⟩
@[simp] theorem ti4_size : ti4.size = 1 := rfl
@[simp] theorem ti4_bytes : ti4.bytes = 1 := rfl
def ti5 : TI := ⟨.int .u8, 1, 1, (.int .u8 0)⟩
theorem tiOk5 : TIOk Tryd.prog 5 ti5 := ⟨Tryd.underlying5, ⟨_, rfl, rfl, rfl, rfl⟩, rfl, rfl⟩
@[simp] theorem ti5_size : ti5.size = 1 := rfl
@[simp] theorem ti5_bytes : ti5.bytes = 1 := rfl
def ti6 : TI := ⟨.int .u8, 1, 1, (.int .u8 0)⟩
theorem tiOk6 : TIOk Tryd.prog 6 ti6 := ⟨Tryd.underlying6, ⟨_, rfl, rfl, rfl, rfl⟩, rfl, rfl⟩
@[simp] theorem ti6_size : ti6.size = 1 := rfl
@[simp] theorem ti6_bytes : ti6.bytes = 1 := rfl
def ti7 : TI := ⟨.struct [(0, 2), (1, 3), (2, 4), (3, 6)], 4, 24, (.agg ⟨[(.int .i64 0), (.int .i64 0)] ++ [(.bool false)] ++ [(.int .u8 0)]⟩)⟩
theorem tiOk7 : TIOk Tryd.prog 7 ti7 := ⟨⟨_, Tryd.underlying7, rfl⟩, ⟨_, rfl, rfl, rfl, rfl⟩, rfl, rfl⟩
@[simp] theorem ti7_size : ti7.size = 4 := rfl
@[simp] theorem ti7_bytes : ti7.bytes = 24 := rfl
def ti8 : TI := ⟨.struct [(0, 2), (1, 3), (2, 4), (3, 6)], 4, 24, (.agg ⟨[(.int .i64 0), (.int .i64 0)] ++ [(.bool false)] ++ [(.int .u8 0)]⟩)⟩
theorem tiOk8 : TIOk Tryd.prog 8 ti8 := ⟨⟨_, Tryd.underlying8, rfl⟩, ⟨_, rfl, rfl, rfl, rfl⟩, rfl, rfl⟩
@[simp] theorem ti8_size : ti8.size = 4 := rfl
@[simp] theorem ti8_bytes : ti8.bytes = 24 := rfl
def ti9 : TI := ⟨.str, 1, 16, (.string ⟨#[]⟩)⟩
theorem tiOk9 : TIOk Tryd.prog 9 ti9 := ⟨Tryd.underlying9, ⟨_, rfl, rfl, rfl, rfl⟩, rfl, rfl⟩
@[simp] theorem ti9_size : ti9.size = 1 := rfl
@[simp] theorem ti9_bytes : ti9.bytes = 16 := rfl
def ti10 : TI := ⟨.str, 1, 16, (.string ⟨#[]⟩)⟩
theorem tiOk10 : TIOk Tryd.prog 10 ti10 := ⟨Tryd.underlying10, ⟨_, rfl, rfl, rfl, rfl⟩, rfl, rfl⟩
@[simp] theorem ti10_size : ti10.size = 1 := rfl
@[simp] theorem ti10_bytes : ti10.bytes = 16 := rfl
def ti11 : TI := ⟨.str, 1, 16, (.string ⟨#[]⟩)⟩
theorem tiOk11 : TIOk Tryd.prog 11 ti11 := ⟨Tryd.underlying11, ⟨_, rfl, rfl, rfl, rfl⟩, rfl, rfl⟩
@[simp] theorem ti11_size : ti11.size = 1 := rfl
@[simp] theorem ti11_bytes : ti11.bytes = 16 := rfl
def ti12 : TI := ⟨.int .u64, 1, 8, (.int .u64 0)⟩
theorem tiOk12 : TIOk Tryd.prog 12 ti12 := ⟨Tryd.underlying12, ⟨_, rfl, rfl, rfl, rfl⟩, rfl, rfl⟩
@[simp] theorem ti12_size : ti12.size = 1 := rfl
@[simp] theorem ti12_bytes : ti12.bytes = 8 := rfl
def ti13 : TI := ⟨.struct [(0, 9), (1, 12)], 2, 24, (.agg ⟨[(.string ⟨#[]⟩)] ++ [(.int .u64 0)]⟩)⟩
theorem tiOk13 : TIOk Tryd.prog 13 ti13 := ⟨⟨_, Tryd.underlying13, rfl⟩, ⟨_, rfl, rfl, rfl, rfl⟩, rfl, rfl⟩
@[simp] theorem ti13_size : ti13.size = 2 := rfl
@[simp] theorem ti13_bytes : ti13.bytes = 24 := rfl
def ti14 : TI := ⟨.struct [(0, 9), (1, 12)], 2, 24, (.agg ⟨[(.string ⟨#[]⟩)] ++ [(.int .u64 0)]⟩)⟩
theorem tiOk14 : TIOk Tryd.prog 14 ti14 := ⟨⟨_, Tryd.underlying14, rfl⟩, ⟨_, rfl, rfl, rfl, rfl⟩, rfl, rfl⟩
@[simp] theorem ti14_size : ti14.size = 2 := rfl
@[simp] theorem ti14_bytes : ti14.bytes = 24 := rfl
def ti15 : TI := ⟨.ptr, 1, 8, (.pointer none)⟩
theorem tiOk15 : TIOk Tryd.prog 15 ti15 := ⟨⟨_, Tryd.underlying15⟩, ⟨_, rfl, rfl, rfl, rfl⟩, rfl, rfl⟩
@[simp] theorem ti15_size : ti15.size = 1 := rfl
@[simp] theorem ti15_bytes : ti15.bytes = 8 := rfl
def ti16 : TI := ⟨.ptr, 1, 8, (.pointer none)⟩
theorem tiOk16 : TIOk Tryd.prog 16 ti16 := ⟨⟨_, Tryd.underlying16⟩, ⟨_, rfl, rfl, rfl, rfl⟩, rfl, rfl⟩
@[simp] theorem ti16_size : ti16.size = 1 := rfl
@[simp] theorem ti16_bytes : ti16.bytes = 8 := rfl
def ti17 : TI := ⟨.ptr, 1, 8, (.pointer none)⟩
theorem tiOk17 : TIOk Tryd.prog 17 ti17 := ⟨⟨_, Tryd.underlying17⟩, ⟨_, rfl, rfl, rfl, rfl⟩, rfl, rfl⟩
@[simp] theorem ti17_size : ti17.size = 1 := rfl
@[simp] theorem ti17_bytes : ti17.bytes = 8 := rfl
def ti18 : TI := ⟨.struct [(0, 17)], 1, 8, (.agg ⟨[(.pointer none)]⟩)⟩
theorem tiOk18 : TIOk Tryd.prog 18 ti18 := ⟨⟨_, Tryd.underlying18, rfl⟩, ⟨_, rfl, rfl, rfl, rfl⟩, rfl, rfl⟩
@[simp] theorem ti18_size : ti18.size = 1 := rfl
@[simp] theorem ti18_bytes : ti18.bytes = 8 := rfl
def ti19 : TI := ⟨.struct [(0, 17)], 1, 8, (.agg ⟨[(.pointer none)]⟩)⟩
theorem tiOk19 : TIOk Tryd.prog 19 ti19 := ⟨⟨_, Tryd.underlying19, rfl⟩, ⟨_, rfl, rfl, rfl, rfl⟩, rfl, rfl⟩
@[simp] theorem ti19_size : ti19.size = 1 := rfl
@[simp] theorem ti19_bytes : ti19.bytes = 8 := rfl
def ti21 : TI := ⟨.int .i32, 1, 4, (.int .i32 0)⟩
theorem tiOk21 : TIOk Tryd.prog 21 ti21 := ⟨Tryd.underlying21, ⟨_, rfl, rfl, rfl, rfl⟩, rfl, rfl⟩
@[simp] theorem ti21_size : ti21.size = 1 := rfl
@[simp] theorem ti21_bytes : ti21.bytes = 4 := rfl
def ti22 : TI := ⟨.int .i8, 1, 1, (.int .i8 0)⟩
theorem tiOk22 : TIOk Tryd.prog 22 ti22 := ⟨Tryd.underlying22, ⟨_, rfl, rfl, rfl, rfl⟩, rfl, rfl⟩
@[simp] theorem ti22_size : ti22.size = 1 := rfl
@[simp] theorem ti22_bytes : ti22.bytes = 1 := rfl
def ti23 : TI := ⟨.arr 8 5, 8, 8, (.agg ⟨List.replicate 8 (.int .u8 0)⟩)⟩
theorem tiOk23 : TIOk Tryd.prog 23 ti23 := ⟨Tryd.underlying23, ⟨_, rfl, rfl, rfl, rfl⟩, rfl, rfl⟩
@[simp] theorem ti23_size : ti23.size = 8 := rfl
@[simp] theorem ti23_bytes : ti23.bytes = 8 := rfl
def ti24 : TI := ⟨.arr 8 23, 64, 64, (.agg ⟨List.replicate 64 (.int .u8 0)⟩)⟩
theorem tiOk24 : TIOk Tryd.prog 24 ti24 := ⟨Tryd.underlying24, ⟨_, rfl, rfl, rfl, rfl⟩, rfl, rfl⟩
@[simp] theorem ti24_size : ti24.size = 64 := rfl
@[simp] theorem ti24_bytes : ti24.bytes = 64 := rfl
def ti25 : TI := ⟨.struct [(0, 22), (1, 22), (2, 5), (3, 24)], 67, 67, (.agg ⟨[(.int .i8 0), (.int .i8 0)] ++ List.replicate 65 (.int .u8 0)⟩)⟩
theorem tiOk25 : TIOk Tryd.prog 25 ti25 := ⟨⟨_, Tryd.underlying25, rfl⟩, ⟨_, rfl, rfl, rfl, rfl⟩, rfl, rfl⟩
@[simp] theorem ti25_size : ti25.size = 67 := rfl
@[simp] theorem ti25_bytes : ti25.bytes = 67 := rfl
def ti26 : TI := ⟨.struct [(0, 22), (1, 22), (2, 5), (3, 24)], 67, 67, (.agg ⟨[(.int .i8 0), (.int .i8 0)] ++ List.replicate 65 (.int .u8 0)⟩)⟩
theorem tiOk26 : TIOk Tryd.prog 26 ti26 := ⟨⟨_, Tryd.underlying26, rfl⟩, ⟨_, rfl, rfl, rfl, rfl⟩, rfl, rfl⟩
@[simp] theorem ti26_size : ti26.size = 67 := rfl
@[simp] theorem ti26_bytes : ti26.bytes = 67 := rfl
def ti27 : TI := ⟨.arr 8 5, 8, 8, (.agg ⟨List.replicate 8 (.int .u8 0)⟩)⟩
theorem tiOk27 : TIOk Tryd.prog 27 ti27 := ⟨Tryd.underlying27, ⟨_, rfl, rfl, rfl, rfl⟩, rfl, rfl⟩
@[simp] theorem ti27_size : ti27.size = 8 := rfl
@[simp] theorem ti27_bytes : ti27.bytes = 8 := rfl
def ti29 : TI := ⟨.func, 1, 8, .nilFunc⟩
theorem tiOk29 : TIOk Tryd.prog 29 ti29 := ⟨⟨_, _, _, Tryd.underlying29⟩, ⟨_, rfl, rfl, rfl, rfl⟩, rfl, rfl⟩
@[simp] theorem ti29_size : ti29.size = 1 := rfl
@[simp] theorem ti29_bytes : ti29.bytes = 8 := rfl
def ti30 : TI := ⟨.struct [(0, 22), (1, 22), (2, 5), (3, 24)], 67, 67, (.agg ⟨[(.int .i8 0), (.int .i8 0)] ++ List.replicate 65 (.int .u8 0)⟩)⟩
theorem tiOk30 : TIOk Tryd.prog 30 ti30 := ⟨⟨_, Tryd.underlying30, rfl⟩, ⟨_, rfl, rfl, rfl, rfl⟩, rfl, rfl⟩
@[simp] theorem ti30_size : ti30.size = 67 := rfl
@[simp] theorem ti30_bytes : ti30.bytes = 67 := rfl
def ti31 : TI := ⟨.func, 1, 8, .nilFunc⟩
theorem tiOk31 : TIOk Tryd.prog 31 ti31 := ⟨⟨_, _, _, Tryd.underlying31⟩, ⟨_, rfl, rfl, rfl, rfl⟩, rfl, rfl⟩
@[simp] theorem ti31_size : ti31.size = 1 := rfl
@[simp] theorem ti31_bytes : ti31.bytes = 8 := rfl
def ti32 : TI := ⟨.func, 1, 8, .nilFunc⟩
theorem tiOk32 : TIOk Tryd.prog 32 ti32 := ⟨⟨_, _, _, Tryd.underlying32⟩, ⟨_, rfl, rfl, rfl, rfl⟩, rfl, rfl⟩
@[simp] theorem ti32_size : ti32.size = 1 := rfl
@[simp] theorem ti32_bytes : ti32.bytes = 8 := rfl
def ti33 : TI := ⟨.func, 1, 8, .nilFunc⟩
theorem tiOk33 : TIOk Tryd.prog 33 ti33 := ⟨⟨_, _, _, Tryd.underlying33⟩, ⟨_, rfl, rfl, rfl, rfl⟩, rfl, rfl⟩
@[simp] theorem ti33_size : ti33.size = 1 := rfl
@[simp] theorem ti33_bytes : ti33.bytes = 8 := rfl
def ti34 : TI := ⟨.int .i16, 1, 2, (.int .i16 0)⟩
theorem tiOk34 : TIOk Tryd.prog 34 ti34 := ⟨Tryd.underlying34, ⟨_, rfl, rfl, rfl, rfl⟩, rfl, rfl⟩
@[simp] theorem ti34_size : ti34.size = 1 := rfl
@[simp] theorem ti34_bytes : ti34.bytes = 2 := rfl
def ti35 : TI := ⟨.arr 17 22, 17, 17, (.agg ⟨List.replicate 17 (.int .i8 0)⟩)⟩
theorem tiOk35 : TIOk Tryd.prog 35 ti35 := ⟨Tryd.underlying35, ⟨_, rfl, rfl, rfl, rfl⟩, rfl, rfl⟩
@[simp] theorem ti35_size : ti35.size = 17 := rfl
@[simp] theorem ti35_bytes : ti35.bytes = 17 := rfl
def ti36 : TI := ⟨.int .u32, 1, 4, (.int .u32 0)⟩
theorem tiOk36 : TIOk Tryd.prog 36 ti36 := ⟨Tryd.underlying36, ⟨_, rfl, rfl, rfl, rfl⟩, rfl, rfl⟩
@[simp] theorem ti36_size : ti36.size = 1 := rfl
@[simp] theorem ti36_bytes : ti36.bytes = 4 := rfl
def ti37 : TI := ⟨.slice 161, 1, 24, (.slice none 0 0)⟩
theorem tiOk37 : TIOk Tryd.prog 37 ti37 := ⟨Tryd.underlying37, ⟨_, rfl, rfl, rfl, rfl⟩, rfl, rfl⟩
@[simp] theorem ti37_size : ti37.size = 1 := rfl
@[simp] theorem ti37_bytes : ti37.bytes = 24 := rfl
def ti38 : TI := ⟨.struct [(0, 22), (1, 34), (2, 35), (19, 36), (20, 37)], 21, 56, (.agg ⟨[(.int .i8 0)] ++ [(.int .i16 0)] ++ List.replicate 17 (.int .i8 0) ++ [(.int .u32 0)] ++ [(.slice none 0 0)]⟩)⟩
theorem tiOk38 : TIOk Tryd.prog 38 ti38 := ⟨⟨_, Tryd.underlying38, rfl⟩, ⟨_, rfl, rfl, rfl, rfl⟩, rfl, rfl⟩
@[simp] theorem ti38_size : ti38.size = 21 := rfl
@[simp] theorem ti38_bytes : ti38.bytes = 56 := rfl
def ti39 : TI := ⟨.struct [(0, 22), (1, 34), (2, 35), (19, 36), (20, 37)], 21, 56, (.agg ⟨[(.int .i8 0)] ++ [(.int .i16 0)] ++ List.replicate 17 (.int .i8 0) ++ [(.int .u32 0)] ++ [(.slice none 0 0)]⟩)⟩
theorem tiOk39 : TIOk Tryd.prog 39 ti39 := ⟨⟨_, Tryd.underlying39, rfl⟩, ⟨_, rfl, rfl, rfl, rfl⟩, rfl, rfl⟩
@[simp] theorem ti39_size : ti39.size = 21 := rfl
@[simp] theorem ti39_bytes : ti39.bytes = 56 := rfl
def ti40 : TI := ⟨.func, 1, 8, .nilFunc⟩
theorem tiOk40 : TIOk Tryd.prog 40 ti40 := ⟨⟨_, _, _, Tryd.underlying40⟩, ⟨_, rfl, rfl, rfl, rfl⟩, rfl, rfl⟩
@[simp] theorem ti40_size : ti40.size = 1 := rfl
@[simp] theorem ti40_bytes : ti40.bytes = 8 := rfl
def ti41 : TI := ⟨.func, 1, 8, .nilFunc⟩
theorem tiOk41 : TIOk Tryd.prog 41 ti41 := ⟨⟨_, _, _, Tryd.underlying41⟩, ⟨_, rfl, rfl, rfl, rfl⟩, rfl, rfl⟩
@[simp] theorem ti41_size : ti41.size = 1 := rfl
@[simp] theorem ti41_bytes : ti41.bytes = 8 := rfl
def ti42 : TI := ⟨.slice 128, 1, 24, (.slice none 0 0)⟩
theorem tiOk42 : TIOk Tryd.prog 42 ti42 := ⟨Tryd.underlying42, ⟨_, rfl, rfl, rfl, rfl⟩, rfl, rfl⟩
@[simp] theorem ti42_size : ti42.size = 1 := rfl
@[simp] theorem ti42_bytes : ti42.bytes = 24 := rfl
def ti43 : TI := ⟨.struct [(0, 22), (1, 34), (2, 35), (19, 36), (20, 42)], 21, 56, (.agg ⟨[(.int .i8 0)] ++ [(.int .i16 0)] ++ List.replicate 17 (.int .i8 0) ++ [(.int .u32 0)] ++ [(.slice none 0 0)]⟩)⟩
theorem tiOk43 : TIOk Tryd.prog 43 ti43 := ⟨⟨_, Tryd.underlying43, rfl⟩, ⟨_, rfl, rfl, rfl, rfl⟩, rfl, rfl⟩
@[simp] theorem ti43_size : ti43.size = 21 := rfl
@[simp] theorem ti43_bytes : ti43.bytes = 56 := rfl
def ti44 : TI := ⟨.struct [(0, 22), (1, 34), (2, 35), (19, 36), (20, 42)], 21, 56, (.agg ⟨[(.int .i8 0)] ++ [(.int .i16 0)] ++ List.replicate 17 (.int .i8 0) ++ [(.int .u32 0)] ++ [(.slice none 0 0)]⟩)⟩
theorem tiOk44 : TIOk Tryd.prog 44 ti44 := ⟨⟨_, Tryd.underlying44, rfl⟩, ⟨_, rfl, rfl, rfl, rfl⟩, rfl, rfl⟩
@[simp] theorem ti44_size : ti44.size = 21 := rfl
@[simp] theorem ti44_bytes : ti44.bytes = 56 := rfl
def ti45 : TI := ⟨.func, 1, 8, .nilFunc⟩
theorem tiOk45 : TIOk Tryd.prog 45 ti45 := ⟨⟨_, _, _, Tryd.underlying45⟩, ⟨_, rfl, rfl, rfl, rfl⟩, rfl, rfl⟩
@[simp] theorem ti45_size : ti45.size = 1 := rfl
@[simp] theorem ti45_bytes : ti45.bytes = 8 := rfl
def ti46 : TI := ⟨.func, 1, 8, .nilFunc⟩
theorem tiOk46 : TIOk Tryd.prog 46 ti46 := ⟨⟨_, _, _, Tryd.underlying46⟩, ⟨_, rfl, rfl, rfl, rfl⟩, rfl, rfl⟩
@[simp] theorem ti46_size : ti46.size = 1 := rfl
@[simp] theorem ti46_bytes : ti46.bytes = 8 := rfl
def ti47 : TI := ⟨.func, 1, 8, .nilFunc⟩
theorem tiOk47 : TIOk Tryd.prog 47 ti47 := ⟨⟨_, _, _, Tryd.underlying47⟩, ⟨_, rfl, rfl, rfl, rfl⟩, rfl, rfl⟩
@[simp] theorem ti47_size : ti47.size = 1 := rfl
@[simp] theorem ti47_bytes : ti47.bytes = 8 := rfl
def ti48 : TI := ⟨.arr 17 34, 17, 34, (.agg ⟨List.replicate 17 (.int .i16 0)⟩)⟩
theorem tiOk48 : TIOk Tryd.prog 48 ti48 := ⟨Tryd.underlying48, ⟨_, rfl, rfl, rfl, rfl⟩, rfl, rfl⟩
@[simp] theorem ti48_size : ti48.size = 17 := rfl
@[simp] theorem ti48_bytes : ti48.bytes = 34 := rfl
def ti49 : TI := ⟨.func, 1, 8, .nilFunc⟩
theorem tiOk49 : TIOk Tryd.prog 49 ti49 := ⟨⟨_, _, _, Tryd.underlying49⟩, ⟨_, rfl, rfl, rfl, rfl⟩, rfl, rfl⟩
@[simp] theorem ti49_size : ti49.size = 1 := rfl
@[simp] theorem ti49_bytes : ti49.bytes = 8 := rfl
def ti50 : TI := ⟨.arr 17 34, 17, 34, (.agg ⟨List.replicate 17 (.int .i16 0)⟩)⟩
theorem tiOk50 : TIOk Tryd.prog 50 ti50 := ⟨Tryd.underlying50, ⟨_, rfl, rfl, rfl, rfl⟩, rfl, rfl⟩
@[simp] theorem ti50_size : ti50.size = 17 := rfl
@[simp] theorem ti50_bytes : ti50.bytes = 34 := rfl
def ti51 : TI := ⟨.func, 1, 8, .nilFunc⟩
theorem tiOk51 : TIOk Tryd.prog 51 ti51 := ⟨⟨_, _, _, Tryd.underlying51⟩, ⟨_, rfl, rfl, rfl, rfl⟩, rfl, rfl⟩
@[simp] theorem ti51_size : ti51.size = 1 := rfl
@[simp] theorem ti51_bytes : ti51.bytes = 8 := rfl
def ti52 : TI := ⟨.func, 1, 8, .nilFunc⟩
theorem tiOk52 : TIOk Tryd.prog 52 ti52 := ⟨⟨_, _, _, Tryd.underlying52⟩, ⟨_, rfl, rfl, rfl, rfl⟩, rfl, rfl⟩
@[simp] theorem ti52_size : ti52.size = 1 := rfl
@[simp] theorem ti52_bytes : ti52.bytes = 8 := rfl
def ti53 : TI := ⟨.arr 17 21, 17, 68, (.agg ⟨List.replicate 17 (.int .i32 0)⟩)⟩
theorem tiOk53 : TIOk Tryd.prog 53 ti53 := ⟨Tryd.underlying53, ⟨_, rfl, rfl, rfl, rfl⟩, rfl, rfl⟩
@[simp] theorem ti53_size : ti53.size = 17 := rfl
@[simp] theorem ti53_bytes : ti53.bytes = 68 := rfl
def ti54 : TI := ⟨.arr 8 53, 136, 544, (.agg ⟨List.replicate 136 (.int .i32 0)⟩)⟩
theorem tiOk54 : TIOk Tryd.prog 54 ti54 := ⟨Tryd.underlying54, ⟨_, rfl, rfl, rfl, rfl⟩, rfl, rfl⟩
@[simp] theorem ti54_size : ti54.size = 136 := rfl
@[simp] theorem ti54_bytes : ti54.bytes = 544 := rfl
def ti55 : TI := ⟨.func, 1, 8, .nilFunc⟩
theorem tiOk55 : TIOk Tryd.prog 55 ti55 := ⟨⟨_, _, _, Tryd.underlying55⟩, ⟨_, rfl, rfl, rfl, rfl⟩, rfl, rfl⟩
@[simp] theorem ti55_size : ti55.size = 1 := rfl
@[simp] theorem ti55_bytes : ti55.bytes = 8 := rfl
def ti56 : TI := ⟨.arr 8 53, 136, 544, (.agg ⟨List.replicate 136 (.int .i32 0)⟩)⟩
theorem tiOk56 : TIOk Tryd.prog 56 ti56 := ⟨Tryd.underlying56, ⟨_, rfl, rfl, rfl, rfl⟩, rfl, rfl⟩
@[simp] theorem ti56_size : ti56.size = 136 := rfl
@[simp] theorem ti56_bytes : ti56.bytes = 544 := rfl
def ti57 : TI := ⟨.func, 1, 8, .nilFunc⟩
theorem tiOk57 : TIOk Tryd.prog 57 ti57 := ⟨⟨_, _, _, Tryd.underlying57⟩, ⟨_, rfl, rfl, rfl, rfl⟩, rfl, rfl⟩
@[simp] theorem ti57_size : ti57.size = 1 := rfl
@[simp] theorem ti57_bytes : ti57.bytes = 8 := rfl
def ti58 : TI := ⟨.func, 1, 8, .nilFunc⟩
theorem tiOk58 : TIOk Tryd.prog 58 ti58 := ⟨⟨_, _, _, Tryd.underlying58⟩, ⟨_, rfl, rfl, rfl, rfl⟩, rfl, rfl⟩
@[simp] theorem ti58_size : ti58.size = 1 := rfl
@[simp] theorem ti58_bytes : ti58.bytes = 8 := rfl
def ti60 : TI := ⟨.func, 1, 8, .nilFunc⟩
theorem tiOk60 : TIOk Tryd.prog 60 ti60 := ⟨⟨_, _, _, Tryd.underlying60⟩, ⟨_, rfl, rfl, rfl, rfl⟩, rfl, rfl⟩
@[simp] theorem ti60_size : ti60.size = 1 := rfl
@[simp] theorem ti60_bytes : ti60.bytes = 8 := rfl
def ti61 : TI := ⟨.func, 1, 8, .nilFunc⟩
theorem tiOk61 : TIOk Tryd.prog 61 ti61 := ⟨⟨_, _, _, Tryd.underlying61⟩, ⟨_, rfl, rfl, rfl, rfl⟩, rfl, rfl⟩
@[simp] theorem ti61_size : ti61.size = 1 := rfl
@[simp] theorem ti61_bytes : ti61.bytes = 8 := rfl
def ti63 : TI := ⟨.func, 1, 8, .nilFunc⟩
theorem tiOk63 : TIOk Tryd.prog 63 ti63 := ⟨⟨_, _, _, Tryd.underlying63⟩, ⟨_, rfl, rfl, rfl, rfl⟩, rfl, rfl⟩
@[simp] theorem ti63_size : ti63.size = 1 := rfl
@[simp] theorem ti63_bytes : ti63.bytes = 8 := rfl
def ti64 : TI := ⟨.func, 1, 8, .nilFunc⟩
theorem tiOk64 : TIOk Tryd.prog 64 ti64 := ⟨⟨_, _, _, Tryd.underlying64⟩, ⟨_, rfl, rfl, rfl, rfl⟩, rfl, rfl⟩
@[simp] theorem ti64_size : ti64.size = 1 := rfl
@[simp] theorem ti64_bytes : ti64.bytes = 8 := rfl
def ti65 : TI := ⟨.func, 1, 8, .nilFunc⟩
theorem tiOk65 : TIOk Tryd.prog 65 ti65 := ⟨⟨_, _, _, Tryd.underlying65⟩, ⟨_, rfl, rfl, rfl, rfl⟩, rfl, rfl⟩
@[simp] theorem ti65_size : ti65.size = 1 := rfl
@[simp] theorem ti65_bytes : ti65.bytes = 8 := rfl
def ti67 : TI := ⟨.func, 1, 8, .nilFunc⟩
theorem tiOk67 : TIOk Tryd.prog 67 ti67 := ⟨⟨_, _, _, Tryd.underlying67⟩, ⟨_, rfl, rfl, rfl, rfl⟩, rfl, rfl⟩
@[simp] theorem ti67_size : ti67.size = 1 := rfl
@[simp] theorem ti67_bytes : ti67.bytes = 8 := rfl
def ti68 : TI := ⟨.func, 1, 8, .nilFunc⟩
theorem tiOk68 : TIOk Tryd.prog 68 ti68 := ⟨⟨_, _, _, Tryd.underlying68⟩, ⟨_, rfl, rfl, rfl, rfl⟩, rfl, rfl⟩
@[simp] theorem ti68_size : ti68.size = 1 := rfl
@[simp] theorem ti68_bytes : ti68.bytes = 8 := rfl
def ti69 : TI := ⟨.slice 5, 1, 24, (.slice none 0 0)⟩
theorem tiOk69 : TIOk Tryd.prog 69 ti69 := ⟨Tryd.underlying69, ⟨_, rfl, rfl, rfl, rfl⟩, rfl, rfl⟩
@[simp] theorem ti69_size : ti69.size = 1 := rfl
@[simp] theorem ti69_bytes : ti69.bytes = 24 := rfl
def ti70 : TI := ⟨.func, 1, 8, .nilFunc⟩
theorem tiOk70 : TIOk Tryd.prog 70 ti70 := ⟨⟨_, _, _, Tryd.underlying70⟩, ⟨_, rfl, rfl, rfl, rfl⟩, rfl, rfl⟩
@[simp] theorem ti70_size : ti70.size = 1 := rfl
@[simp] theorem ti70_bytes : ti70.bytes = 8 := rfl
def ti71 : TI := ⟨.func, 1, 8, .nilFunc⟩
theorem tiOk71 : TIOk Tryd.prog 71 ti71 := ⟨⟨_, _, _, Tryd.underlying71⟩, ⟨_, rfl, rfl, rfl, rfl⟩, rfl, rfl⟩
@[simp] theorem ti71_size : ti71.size = 1 := rfl
@[simp] theorem ti71_bytes : ti71.bytes = 8 := rfl
def ti72 : TI := ⟨.func, 1, 8, .nilFunc⟩
theorem tiOk72 : TIOk Tryd.prog 72 ti72 := ⟨⟨_, _, _, Tryd.underlying72⟩, ⟨_, rfl, rfl, rfl, rfl⟩, rfl, rfl⟩
@[simp] theorem ti72_size : ti72.size = 1 := rfl
@[simp] theorem ti72_bytes : ti72.bytes = 8 := rfl
def ti73 : TI := ⟨.func, 1, 8, .nilFunc⟩
theorem tiOk73 : TIOk Tryd.prog 73 ti73 := ⟨⟨_, _, _, Tryd.underlying73⟩, ⟨_, rfl, rfl, rfl, rfl⟩, rfl, rfl⟩
@[simp] theorem ti73_size : ti73.size = 1 := rfl
@[simp] theorem ti73_bytes : ti73.bytes = 8 := rfl
def ti74 : TI := ⟨.func, 1, 8, .nilFunc⟩
theorem tiOk74 : TIOk Tryd.prog 74 ti74 := ⟨⟨_, _, _, Tryd.underlying74⟩, ⟨_, rfl, rfl, rfl, rfl⟩, rfl, rfl⟩
@[simp] theorem ti74_size : ti74.size = 1 := rfl
@[simp] theorem ti74_bytes : ti74.bytes = 8 := rfl
def ti75 : TI := ⟨.func, 1, 8, .nilFunc⟩
theorem tiOk75 : TIOk Tryd.prog 75 ti75 := ⟨⟨_, _, _, Tryd.underlying75⟩, ⟨_, rfl, rfl, rfl, rfl⟩, rfl, rfl⟩
@[simp] theorem ti75_size : ti75.size = 1 := rfl
@[simp] theorem ti75_bytes : ti75.bytes = 8 := rfl
def ti77 : TI := ⟨.func, 1, 8, .nilFunc⟩
theorem tiOk77 : TIOk Tryd.prog 77 ti77 := ⟨⟨_, _, _, Tryd.underlying77⟩, ⟨_, rfl, rfl, rfl, rfl⟩, rfl, rfl⟩
@[simp] theorem ti77_size : ti77.size = 1 := rfl
@[simp] theorem ti77_bytes : ti77.bytes = 8 := rfl
def ti78 : TI := ⟨.func, 1, 8, .nilFunc⟩
theorem tiOk78 : TIOk Tryd.prog 78 ti78 := ⟨⟨_, _, _, Tryd.underlying78⟩, ⟨_, rfl, rfl, rfl, rfl⟩, rfl, rfl⟩
@[simp] theorem ti78_size : ti78.size = 1 := rfl
@[simp] theorem ti78_bytes : ti78.bytes = 8 := rfl
def ti79 : TI := ⟨.func, 1, 8, .nilFunc⟩
theorem tiOk79 : TIOk Tryd.prog 79 ti79 := ⟨⟨_, _, _, Tryd.underlying79⟩, ⟨_, rfl, rfl, rfl, rfl⟩, rfl, rfl⟩
@[simp] theorem ti79_size : ti79.size = 1 := rfl
@[simp] theorem ti79_bytes : ti79.bytes = 8 := rfl
def ti80 : TI := ⟨.func, 1, 8, .nilFunc⟩
theorem tiOk80 : TIOk Tryd.prog 80 ti80 := ⟨⟨_, _, _, Tryd.underlying80⟩, ⟨_, rfl, rfl, rfl, rfl⟩, rfl, rfl⟩
@[simp] theorem ti80_size : ti80.size = 1 := rfl
@[simp] theorem ti80_bytes : ti80.bytes = 8 := rfl
def ti81 : TI := ⟨.int .u64, 1, 8, (.int .u64 0)⟩
theorem tiOk81 : TIOk Tryd.prog 81 ti81 := ⟨Tryd.underlying81, ⟨_, rfl, rfl, rfl, rfl⟩, rfl, rfl⟩
@[simp] theorem ti81_size : ti81.size = 1 := rfl
@[simp] theorem ti81_bytes : ti81.bytes = 8 := rfl
def ti82 : TI := ⟨.slice 9, 1, 24, (.slice none 0 0)⟩
theorem tiOk82 : TIOk Tryd.prog 82 ti82 := ⟨Tryd.underlying82, ⟨_, rfl, rfl, rfl, rfl⟩, rfl, rfl⟩
@[simp] theorem ti82_size : ti82.size = 1 := rfl
@[simp] theorem ti82_bytes : ti82.bytes = 24 := rfl
def ti84 : TI := ⟨.func, 1, 8, .nilFunc⟩
theorem tiOk84 : TIOk Tryd.prog 84 ti84 := ⟨⟨_, _, _, Tryd.underlying84⟩, ⟨_, rfl, rfl, rfl, rfl⟩, rfl, rfl⟩
@[simp] theorem ti84_size : ti84.size = 1 := rfl
@[simp] theorem ti84_bytes : ti84.bytes = 8 := rfl
def ti86 : TI := ⟨.func, 1, 8, .nilFunc⟩
theorem tiOk86 : TIOk Tryd.prog 86 ti86 := ⟨⟨_, _, _, Tryd.underlying86⟩, ⟨_, rfl, rfl, rfl, rfl⟩, rfl, rfl⟩
@[simp] theorem ti86_size : ti86.size = 1 := rfl
@[simp] theorem ti86_bytes : ti86.bytes = 8 := rfl
def ti87 : TI := ⟨.func, 1, 8, .nilFunc⟩
theorem tiOk87 : TIOk Tryd.prog 87 ti87 := ⟨⟨_, _, _, Tryd.underlying87⟩, ⟨_, rfl, rfl, rfl, rfl⟩, rfl, rfl⟩
@[simp] theorem ti87_size : ti87.size = 1 := rfl
@[simp] theorem ti87_bytes : ti87.bytes = 8 := rfl
def ti88 : TI := ⟨.ptr, 1, 8, (.pointer none)⟩
theorem tiOk88 : TIOk Tryd.prog 88 ti88 := ⟨⟨_, Tryd.underlying88⟩, ⟨_, rfl, rfl, rfl, rfl⟩, rfl, rfl⟩
@[simp] theorem ti88_size : ti88.size = 1 := rfl
@[simp] theorem ti88_bytes : ti88.bytes = 8 := rfl
def ti89 : TI := ⟨.func, 1, 8, .nilFunc⟩
theorem tiOk89 : TIOk Tryd.prog 89 ti89 := ⟨⟨_, _, _, Tryd.underlying89⟩, ⟨_, rfl, rfl, rfl, rfl⟩, rfl, rfl⟩
@[simp] theorem ti89_size : ti89.size = 1 := rfl
@[simp] theorem ti89_bytes : ti89.bytes = 8 := rfl
def ti90 : TI := ⟨.func, 1, 8, .nilFunc⟩
theorem tiOk90 : TIOk Tryd.prog 90 ti90 := ⟨⟨_, _, _, Tryd.underlying90⟩, ⟨_, rfl, rfl, rfl, rfl⟩, rfl, rfl⟩
@[simp] theorem ti90_size : ti90.size = 1 := rfl
@[simp] theorem ti90_bytes : ti90.bytes = 8 := rfl
def ti91 : TI := ⟨.func, 1, 8, .nilFunc⟩
theorem tiOk91 : TIOk Tryd.prog 91 ti91 := ⟨⟨_, _, _, Tryd.underlying91⟩, ⟨_, rfl, rfl, rfl, rfl⟩, rfl, rfl⟩
@[simp] theorem ti91_size : ti91.size = 1 := rfl
@[simp] theorem ti91_bytes : ti91.bytes = 8 := rfl
def ti93 : TI := ⟨.func, 1, 8, .nilFunc⟩
theorem tiOk93 : TIOk Tryd.prog 93 ti93 := ⟨⟨_, _, _, Tryd.underlying93⟩, ⟨_, rfl, rfl, rfl, rfl⟩, rfl, rfl⟩
@[simp] theorem ti93_size : ti93.size = 1 := rfl
@[simp] theorem ti93_bytes : ti93.bytes = 8 := rfl
def ti94 : TI := ⟨.func, 1, 8, .nilFunc⟩
theorem tiOk94 : TIOk Tryd.prog 94 ti94 := ⟨⟨_, _, _, Tryd.underlying94⟩, ⟨_, rfl, rfl, rfl, rfl⟩, rfl, rfl⟩
@[simp] theorem ti94_size : ti94.size = 1 := rfl
@[simp] theorem ti94_bytes : ti94.bytes = 8 := rfl
def ti95 : TI := ⟨.func, 1, 8, .nilFunc⟩
theorem tiOk95 : TIOk Tryd.prog 95 ti95 := ⟨⟨_, _, _, Tryd.underlying95⟩, ⟨_, rfl, rfl, rfl, rfl⟩, rfl, rfl⟩
@[simp] theorem ti95_size : ti95.size = 1 := rfl
@[simp] theorem ti95_bytes : ti95.bytes = 8 := rfl
def ti96 : TI := ⟨.ptr, 1, 8, (.pointer none)⟩
theorem tiOk96 : TIOk Tryd.prog 96 ti96 := ⟨⟨_, Tryd.underlying96⟩, ⟨_, rfl, rfl, rfl, rfl⟩, rfl, rfl⟩
@[simp] theorem ti96_size : ti96.size = 1 := rfl
@[simp] theorem ti96_bytes : ti96.bytes = 8 := rfl
def ti97 : TI := ⟨.func, 1, 8, .nilFunc⟩
theorem tiOk97 : TIOk Tryd.prog 97 ti97 := ⟨⟨_, _, _, Tryd.underlying97⟩, ⟨_, rfl, rfl, rfl, rfl⟩, rfl, rfl⟩
@[simp] theorem ti97_size : ti97.size = 1 := rfl
@[simp] theorem ti97_bytes : ti97.bytes = 8 := rfl
def ti98 : TI := ⟨.func, 1, 8, .nilFunc⟩
theorem tiOk98 : TIOk Tryd.prog 98 ti98 := ⟨⟨_, _, _, Tryd.underlying98⟩, ⟨_, rfl, rfl, rfl, rfl⟩, rfl, rfl⟩
@[simp] theorem ti98_size : ti98.size = 1 := rfl
@[simp] theorem ti98_bytes : ti98.bytes = 8 := rfl
def ti99 : TI := ⟨.func, 1, 8, .nilFunc⟩
theorem tiOk99 : TIOk Tryd.prog 99 ti99 := ⟨⟨_, _, _, Tryd.underlying99⟩, ⟨_, rfl, rfl, rfl, rfl⟩, rfl, rfl⟩
@[simp] theorem ti99_size : ti99.size = 1 := rfl
@[simp] theorem ti99_bytes : ti99.bytes = 8 := rfl
def ti100 : TI := ⟨.func, 1, 8, .nilFunc⟩
theorem tiOk100 : TIOk Tryd.prog 100 ti100 := ⟨⟨_, _, _, Tryd.underlying100⟩, ⟨_, rfl, rfl, rfl, rfl⟩, rfl, rfl⟩
@[simp] theorem ti100_size : ti100.size = 1 := rfl
@[simp] theorem ti100_bytes : ti100.bytes = 8 := rfl
def ti101 : TI := ⟨.func, 1, 8, .nilFunc⟩
theorem tiOk101 : TIOk Tryd.prog 101 ti101 := ⟨⟨_, _, _, Tryd.underlying101⟩, ⟨_, rfl, rfl, rfl, rfl⟩, rfl, rfl⟩
@[simp] theorem ti101_size : ti101.size = 1 := rfl
@[simp] theorem ti101_bytes : ti101.bytes = 8 := rfl
def ti102 : TI := ⟨.func, 1, 8, .nilFunc⟩
theorem tiOk102 : TIOk Tryd.prog 102 ti102 := ⟨⟨_, _, _, Tryd.underlying102⟩, ⟨_, rfl, rfl, rfl, rfl⟩, rfl, rfl⟩
@[simp] theorem ti102_size : ti102.size = 1 := rfl
@[simp] theorem ti102_bytes : ti102.bytes = 8 := rfl
def ti103 : TI := ⟨.func, 1, 8, .nilFunc⟩
theorem tiOk103 : TIOk Tryd.prog 103 ti103 := ⟨⟨_, _, _, Tryd.underlying103⟩, ⟨_, rfl, rfl, rfl, rfl⟩, rfl, rfl⟩
@[simp] theorem ti103_size : ti103.size = 1 := rfl
@[simp] theorem ti103_bytes : ti103.bytes = 8 := rfl
def ti104 : TI := ⟨.ptr, 1, 8, (.pointer none)⟩
theorem tiOk104 : TIOk Tryd.prog 104 ti104 := ⟨⟨_, Tryd.underlying104⟩, ⟨_, rfl, rfl, rfl, rfl⟩, rfl, rfl⟩
@[simp] theorem ti104_size : ti104.size = 1 := rfl
@[simp] theorem ti104_bytes : ti104.bytes = 8 := rfl
def ti105 : TI := ⟨.func, 1, 8, .nilFunc⟩
theorem tiOk105 : TIOk Tryd.prog 105 ti105 := ⟨⟨_, _, _, Tryd.underlying105⟩, ⟨_, rfl, rfl, rfl, rfl⟩, rfl, rfl⟩
@[simp] theorem ti105_size : ti105.size = 1 := rfl
@[simp] theorem ti105_bytes : ti105.bytes = 8 := rfl
def ti106 : TI := ⟨.func, 1, 8, .nilFunc⟩
theorem tiOk106 : TIOk Tryd.prog 106 ti106 := ⟨⟨_, _, _, Tryd.underlying106⟩, ⟨_, rfl, rfl, rfl, rfl⟩, rfl, rfl⟩
@[simp] theorem ti106_size : ti106.size = 1 := rfl
@[simp] theorem ti106_bytes : ti106.bytes = 8 := rfl
def ti107 : TI := ⟨.func, 1, 8, .nilFunc⟩
theorem tiOk107 : TIOk Tryd.prog 107 ti107 := ⟨⟨_, _, _, Tryd.underlying107⟩, ⟨_, rfl, rfl, rfl, rfl⟩, rfl, rfl⟩
@[simp] theorem ti107_size : ti107.size = 1 := rfl
@[simp] theorem ti107_bytes : ti107.bytes = 8 := rfl
def ti108 : TI := ⟨.func, 1, 8, .nilFunc⟩
theorem tiOk108 : TIOk Tryd.prog 108 ti108 := ⟨⟨_, _, _, Tryd.underlying108⟩, ⟨_, rfl, rfl, rfl, rfl⟩, rfl, rfl⟩
@[simp] theorem ti108_size : ti108.size = 1 := rfl
@[simp] theorem ti108_bytes : ti108.bytes = 8 := rfl
def ti109 : TI := ⟨.slice 34, 1, 24, (.slice none 0 0)⟩
theorem tiOk109 : TIOk Tryd.prog 109 ti109 := ⟨Tryd.underlying109, ⟨_, rfl, rfl, rfl, rfl⟩, rfl, rfl⟩
@[simp] theorem ti109_size : ti109.size = 1 := rfl
@[simp] theorem ti109_bytes : ti109.bytes = 24 := rfl
def ti110 : TI := ⟨.func, 1, 8, .nilFunc⟩
theorem tiOk110 : TIOk Tryd.prog 110 ti110 := ⟨⟨_, _, _, Tryd.underlying110⟩, ⟨_, rfl, rfl, rfl, rfl⟩, rfl, rfl⟩
@[simp] theorem ti110_size : ti110.size = 1 := rfl
@[simp] theorem ti110_bytes : ti110.bytes = 8 := rfl
def ti111 : TI := ⟨.func, 1, 8, .nilFunc⟩
theorem tiOk111 : TIOk Tryd.prog 111 ti111 := ⟨⟨_, _, _, Tryd.underlying111⟩, ⟨_, rfl, rfl, rfl, rfl⟩, rfl, rfl⟩
@[simp] theorem ti111_size : ti111.size = 1 := rfl
@[simp] theorem ti111_bytes : ti111.bytes = 8 := rfl
def ti112 : TI := ⟨.func, 1, 8, .nilFunc⟩
theorem tiOk112 : TIOk Tryd.prog 112 ti112 := ⟨⟨_, _, _, Tryd.underlying112⟩, ⟨_, rfl, rfl, rfl, rfl⟩, rfl, rfl⟩
@[simp] theorem ti112_size : ti112.size = 1 := rfl
@[simp] theorem ti112_bytes : ti112.bytes = 8 := rfl
def ti113 : TI := ⟨.ptr, 1, 8, (.pointer none)⟩
theorem tiOk113 : TIOk Tryd.prog 113 ti113 := ⟨⟨_, Tryd.underlying113⟩, ⟨_, rfl, rfl, rfl, rfl⟩, rfl, rfl⟩
@[simp] theorem ti113_size : ti113.size = 1 := rfl
@[simp] theorem ti113_bytes : ti113.bytes = 8 := rfl
def ti114 : TI := ⟨.func, 1, 8, .nilFunc⟩
theorem tiOk114 : TIOk Tryd.prog 114 ti114 := ⟨⟨_, _, _, Tryd.underlying114⟩, ⟨_, rfl, rfl, rfl, rfl⟩, rfl, rfl⟩
@[simp] theorem ti114_size : ti114.size = 1 := rfl
@[simp] theorem ti114_bytes : ti114.bytes = 8 := rfl
def ti115 : TI := ⟨.func, 1, 8, .nilFunc⟩
theorem tiOk115 : TIOk Tryd.prog 115 ti115 := ⟨⟨_, _, _, Tryd.underlying115⟩, ⟨_, rfl, rfl, rfl, rfl⟩, rfl, rfl⟩
@[simp] theorem ti115_size : ti115.size = 1 := rfl
@[simp] theorem ti115_bytes : ti115.bytes = 8 := rfl
def ti116 : TI := ⟨.func, 1, 8, .nilFunc⟩
theorem tiOk116 : TIOk Tryd.prog 116 ti116 := ⟨⟨_, _, _, Tryd.underlying116⟩, ⟨_, rfl, rfl, rfl, rfl⟩, rfl, rfl⟩
@[simp] theorem ti116_size : ti116.size = 1 := rfl
@[simp] theorem ti116_bytes : ti116.bytes = 8 := rfl
def ti117 : TI := ⟨.func, 1, 8, .nilFunc⟩
theorem tiOk117 : TIOk Tryd.prog 117 ti117 := ⟨⟨_, _, _, Tryd.underlying117⟩, ⟨_, rfl, rfl, rfl, rfl⟩, rfl, rfl⟩
@[simp] theorem ti117_size : ti117.size = 1 := rfl
@[simp] theorem ti117_bytes : ti117.bytes = 8 := rfl
def ti118 : TI := ⟨.func, 1, 8, .nilFunc⟩
theorem tiOk118 : TIOk Tryd.prog 118 ti118 := ⟨⟨_, _, _, Tryd.underlying118⟩, ⟨_, rfl, rfl, rfl, rfl⟩, rfl, rfl⟩
@[simp] theorem ti118_size : ti118.size = 1 := rfl
@[simp] theorem ti118_bytes : ti118.bytes = 8 := rfl
def ti119 : TI := ⟨.func, 1, 8, .nilFunc⟩
theorem tiOk119 : TIOk Tryd.prog 119 ti119 := ⟨⟨_, _, _, Tryd.underlying119⟩, ⟨_, rfl, rfl, rfl, rfl⟩, rfl, rfl⟩
@[simp] theorem ti119_size : ti119.size = 1 := rfl
@[simp] theorem ti119_bytes : ti119.bytes = 8 := rfl
def ti121 : TI := ⟨.func, 1, 8, .nilFunc⟩
theorem tiOk121 : TIOk Tryd.prog 121 ti121 := ⟨⟨_, _, _, Tryd.underlying121⟩, ⟨_, rfl, rfl, rfl, rfl⟩, rfl, rfl⟩
@[simp] theorem ti121_size : ti121.size = 1 := rfl
@[simp] theorem ti121_bytes : ti121.bytes = 8 := rfl
def ti122 : TI := ⟨.func, 1, 8, .nilFunc⟩
theorem tiOk122 : TIOk Tryd.prog 122 ti122 := ⟨⟨_, _, _, Tryd.underlying122⟩, ⟨_, rfl, rfl, rfl, rfl⟩, rfl, rfl⟩
@[simp] theorem ti122_size : ti122.size = 1 := rfl
@[simp] theorem ti122_bytes : ti122.bytes = 8 := rfl
def ti123 : TI := ⟨.func, 1, 8, .nilFunc⟩
theorem tiOk123 : TIOk Tryd.prog 123 ti123 := ⟨⟨_, _, _, Tryd.underlying123⟩, ⟨_, rfl, rfl, rfl, rfl⟩, rfl, rfl⟩
@[simp] theorem ti123_size : ti123.size = 1 := rfl
@[simp] theorem ti123_bytes : ti123.bytes = 8 := rfl
def ti125 : TI := ⟨.func, 1, 8, .nilFunc⟩
theorem tiOk125 : TIOk Tryd.prog 125 ti125 := ⟨⟨_, _, _, Tryd.underlying125⟩, ⟨_, rfl, rfl, rfl, rfl⟩, rfl, rfl⟩
@[simp] theorem ti125_size : ti125.size = 1 := rfl
@[simp] theorem ti125_bytes : ti125.bytes = 8 := rfl
def ti126 : TI := ⟨.func, 1, 8, .nilFunc⟩
theorem tiOk126 : TIOk Tryd.prog 126 ti126 := ⟨⟨_, _, _, Tryd.underlying126⟩, ⟨_, rfl, rfl, rfl, rfl⟩, rfl, rfl⟩
@[simp] theorem ti126_size : ti126.size = 1 := rfl
@[simp] theorem ti126_bytes : ti126.bytes = 8 := rfl
def ti127 : TI := ⟨.struct [(0, 22), (1, 34)], 2, 4, (.agg ⟨[(.int .i8 0)] ++ [(.int .i16 0)]⟩)⟩
theorem tiOk127 : TIOk Tryd.prog 127 ti127 := ⟨⟨_, Tryd.underlying127, rfl⟩, ⟨_, rfl, rfl, rfl, rfl⟩, rfl, rfl⟩
@[simp] theorem ti127_size : ti127.size = 2 := rfl
@[simp] theorem ti127_bytes : ti127.bytes = 4 := rfl
def ti128 : TI := ⟨.struct [(0, 22), (1, 34)], 2, 4, (.agg ⟨[(.int .i8 0)] ++ [(.int .i16 0)]⟩)⟩
theorem tiOk128 : TIOk Tryd.prog 128 ti128 := ⟨⟨_, Tryd.underlying128, rfl⟩, ⟨_, rfl, rfl, rfl, rfl⟩, rfl, rfl⟩
@[simp] theorem ti128_size : ti128.size = 2 := rfl
@[simp] theorem ti128_bytes : ti128.bytes = 4 := rfl
def ti129 : TI := ⟨.func, 1, 8, .nilFunc⟩
theorem tiOk129 : TIOk Tryd.prog 129 ti129 := ⟨⟨_, _, _, Tryd.underlying129⟩, ⟨_, rfl, rfl, rfl, rfl⟩, rfl, rfl⟩
@[simp] theorem ti129_size : ti129.size = 1 := rfl
@[simp] theorem ti129_bytes : ti129.bytes = 8 := rfl
def ti130 : TI := ⟨.func, 1, 8, .nilFunc⟩
theorem tiOk130 : TIOk Tryd.prog 130 ti130 := ⟨⟨_, _, _, Tryd.underlying130⟩, ⟨_, rfl, rfl, rfl, rfl⟩, rfl, rfl⟩
@[simp] theorem ti130_size : ti130.size = 1 := rfl
@[simp] theorem ti130_bytes : ti130.bytes = 8 := rfl
def ti132 : TI := ⟨.func, 1, 8, .nilFunc⟩
theorem tiOk132 : TIOk Tryd.prog 132 ti132 := ⟨⟨_, _, _, Tryd.underlying132⟩, ⟨_, rfl, rfl, rfl, rfl⟩, rfl, rfl⟩
@[simp] theorem ti132_size : ti132.size = 1 := rfl
@[simp] theorem ti132_bytes : ti132.bytes = 8 := rfl
def ti133 : TI := ⟨.func, 1, 8, .nilFunc⟩
theorem tiOk133 : TIOk Tryd.prog 133 ti133 := ⟨⟨_, _, _, Tryd.underlying133⟩, ⟨_, rfl, rfl, rfl, rfl⟩, rfl, rfl⟩
@[simp] theorem ti133_size : ti133.size = 1 := rfl
@[simp] theorem ti133_bytes : ti133.bytes = 8 := rfl
def ti134 : TI := ⟨.func, 1, 8, .nilFunc⟩
theorem tiOk134 : TIOk Tryd.prog 134 ti134 := ⟨⟨_, _, _, Tryd.underlying134⟩, ⟨_, rfl, rfl, rfl, rfl⟩, rfl, rfl⟩
@[simp] theorem ti134_size : ti134.size = 1 := rfl
@[simp] theorem ti134_bytes : ti134.bytes = 8 := rfl
def ti135 : TI := ⟨.ptr, 1, 8, (.pointer none)⟩
theorem tiOk135 : TIOk Tryd.prog 135 ti135 := ⟨⟨_, Tryd.underlying135⟩, ⟨_, rfl, rfl, rfl, rfl⟩, rfl, rfl⟩
@[simp] theorem ti135_size : ti135.size = 1 := rfl
@[simp] theorem ti135_bytes : ti135.bytes = 8 := rfl
def ti136 : TI := ⟨.func, 1, 8, .nilFunc⟩
theorem tiOk136 : TIOk Tryd.prog 136 ti136 := ⟨⟨_, _, _, Tryd.underlying136⟩, ⟨_, rfl, rfl, rfl, rfl⟩, rfl, rfl⟩
@[simp] theorem ti136_size : ti136.size = 1 := rfl
@[simp] theorem ti136_bytes : ti136.bytes = 8 := rfl
def ti137 : TI := ⟨.func, 1, 8, .nilFunc⟩
theorem tiOk137 : TIOk Tryd.prog 137 ti137 := ⟨⟨_, _, _, Tryd.underlying137⟩, ⟨_, rfl, rfl, rfl, rfl⟩, rfl, rfl⟩
@[simp] theorem ti137_size : ti137.size = 1 := rfl
@[simp] theorem ti137_bytes : ti137.bytes = 8 := rfl
def ti138 : TI := ⟨.func, 1, 8, .nilFunc⟩
theorem tiOk138 : TIOk Tryd.prog 138 ti138 := ⟨⟨_, _, _, Tryd.underlying138⟩, ⟨_, rfl, rfl, rfl, rfl⟩, rfl, rfl⟩
@[simp] theorem ti138_size : ti138.size = 1 := rfl
@[simp] theorem ti138_bytes : ti138.bytes = 8 := rfl
def ti139 : TI := ⟨.func, 1, 8, .nilFunc⟩
theorem tiOk139 : TIOk Tryd.prog 139 ti139 := ⟨⟨_, _, _, Tryd.underlying139⟩, ⟨_, rfl, rfl, rfl, rfl⟩, rfl, rfl⟩
@[simp] theorem ti139_size : ti139.size = 1 := rfl
@[simp] theorem ti139_bytes : ti139.bytes = 8 := rfl
def ti140 : TI := ⟨.func, 1, 8, .nilFunc⟩
theorem tiOk140 : TIOk Tryd.prog 140 ti140 := ⟨⟨_, _, _, Tryd.underlying140⟩, ⟨_, rfl, rfl, rfl, rfl⟩, rfl, rfl⟩
@[simp] theorem ti140_size : ti140.size = 1 := rfl
@[simp] theorem ti140_bytes : ti140.bytes = 8 := rfl
def ti141 : TI := ⟨.func, 1, 8, .nilFunc⟩
theorem tiOk141 : TIOk Tryd.prog 141 ti141 := ⟨⟨_, _, _, Tryd.underlying141⟩, ⟨_, rfl, rfl, rfl, rfl⟩, rfl, rfl⟩
@[simp] theorem ti141_size : ti141.size = 1 := rfl
@[simp] theorem ti141_bytes : ti141.bytes = 8 := rfl
def ti142 : TI := ⟨.func, 1, 8, .nilFunc⟩
theorem tiOk142 : TIOk Tryd.prog 142 ti142 := ⟨⟨_, _, _, Tryd.underlying142⟩, ⟨_, rfl, rfl, rfl, rfl⟩, rfl, rfl⟩
@[simp] theorem ti142_size : ti142.size = 1 := rfl
@[simp] theorem ti142_bytes : ti142.bytes = 8 := rfl
def ti143 : TI := ⟨.func, 1, 8, .nilFunc⟩
theorem tiOk143 : TIOk Tryd.prog 143 ti143 := ⟨⟨_, _, _, Tryd.underlying143⟩, ⟨_, rfl, rfl, rfl, rfl⟩, rfl, rfl⟩
@[simp] theorem ti143_size : ti143.size = 1 := rfl
@[simp] theorem ti143_bytes : ti143.bytes = 8 := rfl
def ti144 : TI := ⟨.func, 1, 8, .nilFunc⟩
theorem tiOk144 : TIOk Tryd.prog 144 ti144 := ⟨⟨_, _, _, Tryd.underlying144⟩, ⟨_, rfl, rfl, rfl, rfl⟩, rfl, rfl⟩
@[simp] theorem ti144_size : ti144.size = 1 := rfl
@[simp] theorem ti144_bytes : ti144.bytes = 8 := rfl
def ti145 : TI := ⟨.ptr, 1, 8, (.pointer none)⟩
theorem tiOk145 : TIOk Tryd.prog 145 ti145 := ⟨⟨_, Tryd.underlying145⟩, ⟨_, rfl, rfl, rfl, rfl⟩, rfl, rfl⟩
@[simp] theorem ti145_size : ti145.size = 1 := rfl
@[simp] theorem ti145_bytes : ti145.bytes = 8 := rfl
def ti146 : TI := ⟨.func, 1, 8, .nilFunc⟩
theorem tiOk146 : TIOk Tryd.prog 146 ti146 := ⟨⟨_, _, _, Tryd.underlying146⟩, ⟨_, rfl, rfl, rfl, rfl⟩, rfl, rfl⟩
@[simp] theorem ti146_size : ti146.size = 1 := rfl
@[simp] theorem ti146_bytes : ti146.bytes = 8 := rfl
def ti147 : TI := ⟨.func, 1, 8, .nilFunc⟩
theorem tiOk147 : TIOk Tryd.prog 147 ti147 := ⟨⟨_, _, _, Tryd.underlying147⟩, ⟨_, rfl, rfl, rfl, rfl⟩, rfl, rfl⟩
@[simp] theorem ti147_size : ti147.size = 1 := rfl
@[simp] theorem ti147_bytes : ti147.bytes = 8 := rfl
def ti148 : TI := ⟨.func, 1, 8, .nilFunc⟩
theorem tiOk148 : TIOk Tryd.prog 148 ti148 := ⟨⟨_, _, _, Tryd.underlying148⟩, ⟨_, rfl, rfl, rfl, rfl⟩, rfl, rfl⟩
@[simp] theorem ti148_size : ti148.size = 1 := rfl
@[simp] theorem ti148_bytes : ti148.bytes = 8 := rfl
def ti149 : TI := ⟨.func, 1, 8, .nilFunc⟩
theorem tiOk149 : TIOk Tryd.prog 149 ti149 := ⟨⟨_, _, _, Tryd.underlying149⟩, ⟨_, rfl, rfl, rfl, rfl⟩, rfl, rfl⟩
@[simp] theorem ti149_size : ti149.size = 1 := rfl
@[simp] theorem ti149_bytes : ti149.bytes = 8 := rfl
def ti150 : TI := ⟨.func, 1, 8, .nilFunc⟩
theorem tiOk150 : TIOk Tryd.prog 150 ti150 := ⟨⟨_, _, _, Tryd.underlying150⟩, ⟨_, rfl, rfl, rfl, rfl⟩, rfl, rfl⟩
@[simp] theorem ti150_size : ti150.size = 1 := rfl
@[simp] theorem ti150_bytes : ti150.bytes = 8 := rfl
def ti151 : TI := ⟨.func, 1, 8, .nilFunc⟩
theorem tiOk151 : TIOk Tryd.prog 151 ti151 := ⟨⟨_, _, _, Tryd.underlying151⟩, ⟨_, rfl, rfl, rfl, rfl⟩, rfl, rfl⟩
@[simp] theorem ti151_size : ti151.size = 1 := rfl
@[simp] theorem ti151_bytes : ti151.bytes = 8 := rfl
def ti152 : TI := ⟨.struct [(0, 22), (1, 22)], 2, 2, (.agg ⟨[(.int .i8 0), (.int .i8 0)]⟩)⟩
theorem tiOk152 : TIOk Tryd.prog 152 ti152 := ⟨⟨_, Tryd.underlying152, rfl⟩, ⟨_, rfl, rfl, rfl, rfl⟩, rfl, rfl⟩
@[simp] theorem ti152_size : ti152.size = 2 := rfl
@[simp] theorem ti152_bytes : ti152.bytes = 2 := rfl
def ti153 : TI := ⟨.struct [(0, 22), (1, 22)], 2, 2, (.agg ⟨[(.int .i8 0), (.int .i8 0)]⟩)⟩
theorem tiOk153 : TIOk Tryd.prog 153 ti153 := ⟨⟨_, Tryd.underlying153, rfl⟩, ⟨_, rfl, rfl, rfl, rfl⟩, rfl, rfl⟩
@[simp] theorem ti153_size : ti153.size = 2 := rfl
@[simp] theorem ti153_bytes : ti153.bytes = 2 := rfl
def ti154 : TI := ⟨.func, 1, 8, .nilFunc⟩
theorem tiOk154 : TIOk Tryd.prog 154 ti154 := ⟨⟨_, _, _, Tryd.underlying154⟩, ⟨_, rfl, rfl, rfl, rfl⟩, rfl, rfl⟩
@[simp] theorem ti154_size : ti154.size = 1 := rfl
@[simp] theorem ti154_bytes : ti154.bytes = 8 := rfl
def ti155 : TI := ⟨.func, 1, 8, .nilFunc⟩
theorem tiOk155 : TIOk Tryd.prog 155 ti155 := ⟨⟨_, _, _, Tryd.underlying155⟩, ⟨_, rfl, rfl, rfl, rfl⟩, rfl, rfl⟩
@[simp] theorem ti155_size : ti155.size = 1 := rfl
@[simp] theorem ti155_bytes : ti155.bytes = 8 := rfl
def ti157 : TI := ⟨.func, 1, 8, .nilFunc⟩
theorem tiOk157 : TIOk Tryd.prog 157 ti157 := ⟨⟨_, _, _, Tryd.underlying157⟩, ⟨_, rfl, rfl, rfl, rfl⟩, rfl, rfl⟩
@[simp] theorem ti157_size : ti157.size = 1 := rfl
@[simp] theorem ti157_bytes : ti157.bytes = 8 := rfl
def ti158 : TI := ⟨.func, 1, 8, .nilFunc⟩
theorem tiOk158 : TIOk Tryd.prog 158 ti158 := ⟨⟨_, _, _, Tryd.underlying158⟩, ⟨_, rfl, rfl, rfl, rfl⟩, rfl, rfl⟩
@[simp] theorem ti158_size : ti158.size = 1 := rfl
@[simp] theorem ti158_bytes : ti158.bytes = 8 := rfl
def ti159 : TI := ⟨.func, 1, 8, .nilFunc⟩
theorem tiOk159 : TIOk Tryd.prog 159 ti159 := ⟨⟨_, _, _, Tryd.underlying159⟩, ⟨_, rfl, rfl, rfl, rfl⟩, rfl, rfl⟩
@[simp] theorem ti159_size : ti159.size = 1 := rfl
@[simp] theorem ti159_bytes : ti159.bytes = 8 := rfl
def ti160 : TI := ⟨.func, 1, 8, .nilFunc⟩
theorem tiOk160 : TIOk Tryd.prog 160 ti160 := ⟨⟨_, _, _, Tryd.underlying160⟩, ⟨_, rfl, rfl, rfl, rfl⟩, rfl, rfl⟩
@[simp] theorem ti160_size : ti160.size = 1 := rfl
@[simp] theorem ti160_bytes : ti160.bytes = 8 := rfl
def ti161 : TI := ⟨.struct [(0, 22), (1, 34)], 2, 4, (.agg ⟨[(.int .i8 0)] ++ [(.int .i16 0)]⟩)⟩
theorem tiOk161 : TIOk Tryd.prog 161 ti161 := ⟨⟨_, Tryd.underlying161, rfl⟩, ⟨_, rfl, rfl, rfl, rfl⟩, rfl, rfl⟩
@[simp] theorem ti161_size : ti161.size = 2 := rfl
@[simp] theorem ti161_bytes : ti161.bytes = 4 := rfl
def ti162 : TI := ⟨.func, 1, 8, .nilFunc⟩
theorem tiOk162 : TIOk Tryd.prog 162 ti162 := ⟨⟨_, _, _, Tryd.underlying162⟩, ⟨_, rfl, rfl, rfl, rfl⟩, rfl, rfl⟩
@[simp] theorem ti162_size : ti162.size = 1 := rfl
@[simp] theorem ti162_bytes : ti162.bytes = 8 := rfl
def ti163 : TI := ⟨.func, 1, 8, .nilFunc⟩
theorem tiOk163 : TIOk Tryd.prog 163 ti163 := ⟨⟨_, _, _, Tryd.underlying163⟩, ⟨_, rfl, rfl, rfl, rfl⟩, rfl, rfl⟩
@[simp] theorem ti163_size : ti163.size = 1 := rfl
@[simp] theorem ti163_bytes : ti163.bytes = 8 := rfl
def ti164 : TI := ⟨.slice 3, 1, 24, (.slice none 0 0)⟩
theorem tiOk164 : TIOk Tryd.prog 164 ti164 := ⟨Tryd.underlying164, ⟨_, rfl, rfl, rfl, rfl⟩, rfl, rfl⟩
@[simp] theorem ti164_size : ti164.size = 1 := rfl
@[simp] theorem ti164_bytes : ti164.bytes = 24 := rfl
def ti165 : TI := ⟨.func, 1, 8, .nilFunc⟩
theorem tiOk165 : TIOk Tryd.prog 165 ti165 := ⟨⟨_, _, _, Tryd.underlying165⟩, ⟨_, rfl, rfl, rfl, rfl⟩, rfl, rfl⟩
@[simp] theorem ti165_size : ti165.size = 1 := rfl
@[simp] theorem ti165_bytes : ti165.bytes = 8 := rfl
def ti166 : TI := ⟨.func, 1, 8, .nilFunc⟩
theorem tiOk166 : TIOk Tryd.prog 166 ti166 := ⟨⟨_, _, _, Tryd.underlying166⟩, ⟨_, rfl, rfl, rfl, rfl⟩, rfl, rfl⟩
@[simp] theorem ti166_size : ti166.size = 1 := rfl
@[simp] theorem ti166_bytes : ti166.bytes = 8 := rfl
def ti167 : TI := ⟨.func, 1, 8, .nilFunc⟩
theorem tiOk167 : TIOk Tryd.prog 167 ti167 := ⟨⟨_, _, _, Tryd.underlying167⟩, ⟨_, rfl, rfl, rfl, rfl⟩, rfl, rfl⟩
@[simp] theorem ti167_size : ti167.size = 1 := rfl
@[simp] theorem ti167_bytes : ti167.bytes = 8 := rfl
def ti168 : TI := ⟨.func, 1, 8, .nilFunc⟩
theorem tiOk168 : TIOk Tryd.prog 168 ti168 := ⟨⟨_, _, _, Tryd.underlying168⟩, ⟨_, rfl, rfl, rfl, rfl⟩, rfl, rfl⟩
@[simp] theorem ti168_size : ti168.size = 1 := rfl
@[simp] theorem ti168_bytes : ti168.bytes = 8 := rfl
def ti169 : TI := ⟨.ptr, 1, 8, (.pointer none)⟩
theorem tiOk169 : TIOk Tryd.prog 169 ti169 := ⟨⟨_, Tryd.underlying169⟩, ⟨_, rfl, rfl, rfl, rfl⟩, rfl, rfl⟩
@[simp] theorem ti169_size : ti169.size = 1 := rfl
@[simp] theorem ti169_bytes : ti169.bytes = 8 := rfl
def ti170 : TI := ⟨.struct [(0, 169), (1, 69)], 2, 32, (.agg ⟨[(.pointer none)] ++ [(.slice none 0 0)]⟩)⟩
theorem tiOk170 : TIOk Tryd.prog 170 ti170 := ⟨⟨_, Tryd.underlying170, rfl⟩, ⟨_, rfl, rfl, rfl, rfl⟩, rfl, rfl⟩
@[simp] theorem ti170_size : ti170.size = 2 := rfl
@[simp] theorem ti170_bytes : ti170.bytes = 32 := rfl
def ti171 : TI := ⟨.struct [(0, 169), (1, 69)], 2, 32, (.agg ⟨[(.pointer none)] ++ [(.slice none 0 0)]⟩)⟩
theorem tiOk171 : TIOk Tryd.prog 171 ti171 := ⟨⟨_, Tryd.underlying171, rfl⟩, ⟨_, rfl, rfl, rfl, rfl⟩, rfl, rfl⟩
@[simp] theorem ti171_size : ti171.size = 2 := rfl
@[simp] theorem ti171_bytes : ti171.bytes = 32 := rfl
def ti172 : TI := ⟨.func, 1, 8, .nilFunc⟩
theorem tiOk172 : TIOk Tryd.prog 172 ti172 := ⟨⟨_, _, _, Tryd.underlying172⟩, ⟨_, rfl, rfl, rfl, rfl⟩, rfl, rfl⟩
@[simp] theorem ti172_size : ti172.size = 1 := rfl
@[simp] theorem ti172_bytes : ti172.bytes = 8 := rfl
def ti176 : TI := ⟨.func, 1, 8, .nilFunc⟩
theorem tiOk176 : TIOk Tryd.prog 176 ti176 := ⟨⟨_, _, _, Tryd.underlying176⟩, ⟨_, rfl, rfl, rfl, rfl⟩, rfl, rfl⟩
@[simp] theorem ti176_size : ti176.size = 1 := rfl
@[simp] theorem ti176_bytes : ti176.bytes = 8 := rfl
def ti177 : TI := ⟨.func, 1, 8, .nilFunc⟩
theorem tiOk177 : TIOk Tryd.prog 177 ti177 := ⟨⟨_, _, _, Tryd.underlying177⟩, ⟨_, rfl, rfl, rfl, rfl⟩, rfl, rfl⟩
@[simp] theorem ti177_size : ti177.size = 1 := rfl
@[simp] theorem ti177_bytes : ti177.bytes = 8 := rfl
def ti178 : TI := ⟨.func, 1, 8, .nilFunc⟩
theorem tiOk178 : TIOk Tryd.prog 178 ti178 := ⟨⟨_, _, _, Tryd.underlying178⟩, ⟨_, rfl, rfl, rfl, rfl⟩, rfl, rfl⟩
@[simp] theorem ti178_size : ti178.size = 1 := rfl
@[simp] theorem ti178_bytes : ti178.bytes = 8 := rfl
def ti179 : TI := ⟨.func, 1, 8, .nilFunc⟩
theorem tiOk179 : TIOk Tryd.prog 179 ti179 := ⟨⟨_, _, _, Tryd.underlying179⟩, ⟨_, rfl, rfl, rfl, rfl⟩, rfl, rfl⟩
@[simp] theorem ti179_size : ti179.size = 1 := rfl
@[simp] theorem ti179_bytes : ti179.bytes = 8 := rfl
def ti180 : TI := ⟨.func, 1, 8, .nilFunc⟩
theorem tiOk180 : TIOk Tryd.prog 180 ti180 := ⟨⟨_, _, _, Tryd.underlying180⟩, ⟨_, rfl, rfl, rfl, rfl⟩, rfl, rfl⟩
@[simp] theorem ti180_size : ti180.size = 1 := rfl
@[simp] theorem ti180_bytes : ti180.bytes = 8 := rfl
def ti181 : TI := ⟨.func, 1, 8, .nilFunc⟩
theorem tiOk181 : TIOk Tryd.prog 181 ti181 := ⟨⟨_, _, _, Tryd.underlying181⟩, ⟨_, rfl, rfl, rfl, rfl⟩, rfl, rfl⟩
@[simp] theorem ti181_size : ti181.size = 1 := rfl
@[simp] theorem ti181_bytes : ti181.bytes = 8 := rfl
def ti182 : TI := ⟨.func, 1, 8, .nilFunc⟩
theorem tiOk182 : TIOk Tryd.prog 182 ti182 := ⟨⟨_, _, _, Tryd.underlying182⟩, ⟨_, rfl, rfl, rfl, rfl⟩, rfl, rfl⟩
@[simp] theorem ti182_size : ti182.size = 1 := rfl
@[simp] theorem ti182_bytes : ti182.bytes = 8 := rfl
def ti183 : TI := ⟨.func, 1, 8, .nilFunc⟩
theorem tiOk183 : TIOk Tryd.prog 183 ti183 := ⟨⟨_, _, _, Tryd.underlying183⟩, ⟨_, rfl, rfl, rfl, rfl⟩, rfl, rfl⟩
@[simp] theorem ti183_size : ti183.size = 1 := rfl
@[simp] theorem ti183_bytes : ti183.bytes = 8 := rfl
def ti185 : TI := ⟨.func, 1, 8, .nilFunc⟩
theorem tiOk185 : TIOk Tryd.prog 185 ti185 := ⟨⟨_, _, _, Tryd.underlying185⟩, ⟨_, rfl, rfl, rfl, rfl⟩, rfl, rfl⟩
@[simp] theorem ti185_size : ti185.size = 1 := rfl
@[simp] theorem ti185_bytes : ti185.bytes = 8 := rfl
def ti186 : TI := ⟨.slice 153, 1, 24, (.slice none 0 0)⟩
theorem tiOk186 : TIOk Tryd.prog 186 ti186 := ⟨Tryd.underlying186, ⟨_, rfl, rfl, rfl, rfl⟩, rfl, rfl⟩
@[simp] theorem ti186_size : ti186.size = 1 := rfl
@[simp] theorem ti186_bytes : ti186.bytes = 24 := rfl
def ti187 : TI := ⟨.func, 1, 8, .nilFunc⟩
theorem tiOk187 : TIOk Tryd.prog 187 ti187 := ⟨⟨_, _, _, Tryd.underlying187⟩, ⟨_, rfl, rfl, rfl, rfl⟩, rfl, rfl⟩
@[simp] theorem ti187_size : ti187.size = 1 := rfl
@[simp] theorem ti187_bytes : ti187.bytes = 8 := rfl
def ti188 : TI := ⟨.int .u64, 1, 8, (.int .u64 0)⟩
theorem tiOk188 : TIOk Tryd.prog 188 ti188 := ⟨Tryd.underlying188, ⟨_, rfl, rfl, rfl, rfl⟩, rfl, rfl⟩
@[simp] theorem ti188_size : ti188.size = 1 := rfl
@[simp] theorem ti188_bytes : ti188.bytes = 8 := rfl
def ti189 : TI := ⟨.struct [(0, 69), (1, 3), (2, 188)], 3, 40, (.agg ⟨[(.slice none 0 0)] ++ [(.int .i64 0)] ++ [(.int .u64 0)]⟩)⟩
theorem tiOk189 : TIOk Tryd.prog 189 ti189 := ⟨⟨_, Tryd.underlying189, rfl⟩, ⟨_, rfl, rfl, rfl, rfl⟩, rfl, rfl⟩
@[simp] theorem ti189_size : ti189.size = 3 := rfl
@[simp] theorem ti189_bytes : ti189.bytes = 40 := rfl
def ti190 : TI := ⟨.struct [(0, 69), (1, 3), (2, 188)], 3, 40, (.agg ⟨[(.slice none 0 0)] ++ [(.int .i64 0)] ++ [(.int .u64 0)]⟩)⟩
theorem tiOk190 : TIOk Tryd.prog 190 ti190 := ⟨⟨_, Tryd.underlying190, rfl⟩, ⟨_, rfl, rfl, rfl, rfl⟩, rfl, rfl⟩
@[simp] theorem ti190_size : ti190.size = 3 := rfl
@[simp] theorem ti190_bytes : ti190.bytes = 40 := rfl
def ti191 : TI := ⟨.func, 1, 8, .nilFunc⟩
theorem tiOk191 : TIOk Tryd.prog 191 ti191 := ⟨⟨_, _, _, Tryd.underlying191⟩, ⟨_, rfl, rfl, rfl, rfl⟩, rfl, rfl⟩
@[simp] theorem ti191_size : ti191.size = 1 := rfl
@[simp] theorem ti191_bytes : ti191.bytes = 8 := rfl
def ti192 : TI := ⟨.func, 1, 8, .nilFunc⟩
theorem tiOk192 : TIOk Tryd.prog 192 ti192 := ⟨⟨_, _, _, Tryd.underlying192⟩, ⟨_, rfl, rfl, rfl, rfl⟩, rfl, rfl⟩
@[simp] theorem ti192_size : ti192.size = 1 := rfl
@[simp] theorem ti192_bytes : ti192.bytes = 8 := rfl
def ti193 : TI := ⟨.func, 1, 8, .nilFunc⟩
theorem tiOk193 : TIOk Tryd.prog 193 ti193 := ⟨⟨_, _, _, Tryd.underlying193⟩, ⟨_, rfl, rfl, rfl, rfl⟩, rfl, rfl⟩
@[simp] theorem ti193_size : ti193.size = 1 := rfl
@[simp] theorem ti193_bytes : ti193.bytes = 8 := rfl
def ti194 : TI := ⟨.func, 1, 8, .nilFunc⟩
theorem tiOk194 : TIOk Tryd.prog 194 ti194 := ⟨⟨_, _, _, Tryd.underlying194⟩, ⟨_, rfl, rfl, rfl, rfl⟩, rfl, rfl⟩
@[simp] theorem ti194_size : ti194.size = 1 := rfl
@[simp] theorem ti194_bytes : ti194.bytes = 8 := rfl
def ti195 : TI := ⟨.func, 1, 8, .nilFunc⟩
theorem tiOk195 : TIOk Tryd.prog 195 ti195 := ⟨⟨_, _, _, Tryd.underlying195⟩, ⟨_, rfl, rfl, rfl, rfl⟩, rfl, rfl⟩
@[simp] theorem ti195_size : ti195.size = 1 := rfl
@[simp] theorem ti195_bytes : ti195.bytes = 8 := rfl
def ti196 : TI := ⟨.func, 1, 8, .nilFunc⟩
theorem tiOk196 : TIOk Tryd.prog 196 ti196 := ⟨⟨_, _, _, Tryd.underlying196⟩, ⟨_, rfl, rfl, rfl, rfl⟩, rfl, rfl⟩
@[simp] theorem ti196_size : ti196.size = 1 := rfl
@[simp] theorem ti196_bytes : ti196.bytes = 8 := rfl
def ti197 : TI := ⟨.func, 1, 8, .nilFunc⟩
theorem tiOk197 : TIOk Tryd.prog 197 ti197 := ⟨⟨_, _, _, Tryd.underlying197⟩, ⟨_, rfl, rfl, rfl, rfl⟩, rfl, rfl⟩
@[simp] theorem ti197_size : ti197.size = 1 := rfl
@[simp] theorem ti197_bytes : ti197.bytes = 8 := rfl
def ti198 : TI := ⟨.ptr, 1, 8, (.pointer none)⟩
theorem tiOk198 : TIOk Tryd.prog 198 ti198 := ⟨⟨_, Tryd.underlying198⟩, ⟨_, rfl, rfl, rfl, rfl⟩, rfl, rfl⟩
@[simp] theorem ti198_size : ti198.size = 1 := rfl
@[simp] theorem ti198_bytes : ti198.bytes = 8 := rfl
def ti199 : TI := ⟨.func, 1, 8, .nilFunc⟩
theorem tiOk199 : TIOk Tryd.prog 199 ti199 := ⟨⟨_, _, _, Tryd.underlying199⟩, ⟨_, rfl, rfl, rfl, rfl⟩, rfl, rfl⟩
@[simp] theorem ti199_size : ti199.size = 1 := rfl
@[simp] theorem ti199_bytes : ti199.bytes = 8 := rfl
def ti200 : TI := ⟨.func, 1, 8, .nilFunc⟩
theorem tiOk200 : TIOk Tryd.prog 200 ti200 := ⟨⟨_, _, _, Tryd.underlying200⟩, ⟨_, rfl, rfl, rfl, rfl⟩, rfl, rfl⟩
@[simp] theorem ti200_size : ti200.size = 1 := rfl
@[simp] theorem ti200_bytes : ti200.bytes = 8 := rfl
def ti201 : TI := ⟨.func, 1, 8, .nilFunc⟩
theorem tiOk201 : TIOk Tryd.prog 201 ti201 := ⟨⟨_, _, _, Tryd.underlying201⟩, ⟨_, rfl, rfl, rfl, rfl⟩, rfl, rfl⟩
@[simp] theorem ti201_size : ti201.size = 1 := rfl
@[simp] theorem ti201_bytes : ti201.bytes = 8 := rfl
def ti202 : TI := ⟨.func, 1, 8, .nilFunc⟩
theorem tiOk202 : TIOk Tryd.prog 202 ti202 := ⟨⟨_, _, _, Tryd.underlying202⟩, ⟨_, rfl, rfl, rfl, rfl⟩, rfl, rfl⟩
@[simp] theorem ti202_size : ti202.size = 1 := rfl
@[simp] theorem ti202_bytes : ti202.bytes = 8 := rfl
def ti203 : TI := ⟨.func, 1, 8, .nilFunc⟩
theorem tiOk203 : TIOk Tryd.prog 203 ti203 := ⟨⟨_, _, _, Tryd.underlying203⟩, ⟨_, rfl, rfl, rfl, rfl⟩, rfl, rfl⟩
@[simp] theorem ti203_size : ti203.size = 1 := rfl
@[simp] theorem ti203_bytes : ti203.bytes = 8 := rfl
def ti204 : TI := ⟨.func, 1, 8, .nilFunc⟩
theorem tiOk204 : TIOk Tryd.prog 204 ti204 := ⟨⟨_, _, _, Tryd.underlying204⟩, ⟨_, rfl, rfl, rfl, rfl⟩, rfl, rfl⟩
@[simp] theorem ti204_size : ti204.size = 1 := rfl
@[simp] theorem ti204_bytes : ti204.bytes = 8 := rfl
def ti206 : TI := ⟨.func, 1, 8, .nilFunc⟩
theorem tiOk206 : TIOk Tryd.prog 206 ti206 := ⟨⟨_, _, _, Tryd.underlying206⟩, ⟨_, rfl, rfl, rfl, rfl⟩, rfl, rfl⟩
@[simp] theorem ti206_size : ti206.size = 1 := rfl
@[simp] theorem ti206_bytes : ti206.bytes = 8 := rfl
def ti207 : TI := ⟨.func, 1, 8, .nilFunc⟩
theorem tiOk207 : TIOk Tryd.prog 207 ti207 := ⟨⟨_, _, _, Tryd.underlying207⟩, ⟨_, rfl, rfl, rfl, rfl⟩, rfl, rfl⟩
@[simp] theorem ti207_size : ti207.size = 1 := rfl
@[simp] theorem ti207_bytes : ti207.bytes = 8 := rfl
def ti208 : TI := ⟨.arr 24 5, 24, 24, (.agg ⟨List.replicate 24 (.int .u8 0)⟩)⟩
theorem tiOk208 : TIOk Tryd.prog 208 ti208 := ⟨Tryd.underlying208, ⟨_, rfl, rfl, rfl, rfl⟩, rfl, rfl⟩
@[simp] theorem ti208_size : ti208.size = 24 := rfl
@[simp] theorem ti208_bytes : ti208.bytes = 24 := rfl
def ti209 : TI := ⟨.func, 1, 8, .nilFunc⟩
theorem tiOk209 : TIOk Tryd.prog 209 ti209 := ⟨⟨_, _, _, Tryd.underlying209⟩, ⟨_, rfl, rfl, rfl, rfl⟩, rfl, rfl⟩
@[simp] theorem ti209_size : ti209.size = 1 := rfl
@[simp] theorem ti209_bytes : ti209.bytes = 8 := rfl
def ti210 : TI := ⟨.func, 1, 8, .nilFunc⟩
theorem tiOk210 : TIOk Tryd.prog 210 ti210 := ⟨⟨_, _, _, Tryd.underlying210⟩, ⟨_, rfl, rfl, rfl, rfl⟩, rfl, rfl⟩
@[simp] theorem ti210_size : ti210.size = 1 := rfl
@[simp] theorem ti210_bytes : ti210.bytes = 8 := rfl
def ti212 : TI := ⟨.func, 1, 8, .nilFunc⟩
theorem tiOk212 : TIOk Tryd.prog 212 ti212 := ⟨⟨_, _, _, Tryd.underlying212⟩, ⟨_, rfl, rfl, rfl, rfl⟩, rfl, rfl⟩
@[simp] theorem ti212_size : ti212.size = 1 := rfl
@[simp] theorem ti212_bytes : ti212.bytes = 8 := rfl
def ti213 : TI := ⟨.func, 1, 8, .nilFunc⟩
theorem tiOk213 : TIOk Tryd.prog 213 ti213 := ⟨⟨_, _, _, Tryd.underlying213⟩, ⟨_, rfl, rfl, rfl, rfl⟩, rfl, rfl⟩
@[simp] theorem ti213_size : ti213.size = 1 := rfl
@[simp] theorem ti213_bytes : ti213.bytes = 8 := rfl
def ti215 : TI := ⟨.func, 1, 8, .nilFunc⟩
theorem tiOk215 : TIOk Tryd.prog 215 ti215 := ⟨⟨_, _, _, Tryd.underlying215⟩, ⟨_, rfl, rfl, rfl, rfl⟩, rfl, rfl⟩
@[simp] theorem ti215_size : ti215.size = 1 := rfl
@[simp] theorem ti215_bytes : ti215.bytes = 8 := rfl
def ti216 : TI := ⟨.func, 1, 8, .nilFunc⟩
theorem tiOk216 : TIOk Tryd.prog 216 ti216 := ⟨⟨_, _, _, Tryd.underlying216⟩, ⟨_, rfl, rfl, rfl, rfl⟩, rfl, rfl⟩
@[simp] theorem ti216_size : ti216.size = 1 := rfl
@[simp] theorem ti216_bytes : ti216.bytes = 8 := rfl
def ti217 : TI := ⟨.int .i64, 1, 8, (.int .i64 0)⟩
theorem tiOk217 : TIOk Tryd.prog 217 ti217 := ⟨Tryd.underlying217, ⟨_, rfl, rfl, rfl, rfl⟩, rfl, rfl⟩
@[simp] theorem ti217_size : ti217.size = 1 := rfl
@[simp] theorem ti217_bytes : ti217.bytes = 8 := rfl
def ti219 : TI := ⟨.func, 1, 8, .nilFunc⟩
theorem tiOk219 : TIOk Tryd.prog 219 ti219 := ⟨⟨_, _, _, Tryd.underlying219⟩, ⟨_, rfl, rfl, rfl, rfl⟩, rfl, rfl⟩
@[simp] theorem ti219_size : ti219.size = 1 := rfl
@[simp] theorem ti219_bytes : ti219.bytes = 8 := rfl
def ti220 : TI := ⟨.ptr, 1, 8, (.pointer none)⟩
theorem tiOk220 : TIOk Tryd.prog 220 ti220 := ⟨⟨_, Tryd.underlying220⟩, ⟨_, rfl, rfl, rfl, rfl⟩, rfl, rfl⟩
@[simp] theorem ti220_size : ti220.size = 1 := rfl
@[simp] theorem ti220_bytes : ti220.bytes = 8 := rfl
def ti221 : TI := ⟨.func, 1, 8, .nilFunc⟩
theorem tiOk221 : TIOk Tryd.prog 221 ti221 := ⟨⟨_, _, _, Tryd.underlying221⟩, ⟨_, rfl, rfl, rfl, rfl⟩, rfl, rfl⟩
@[simp] theorem ti221_size : ti221.size = 1 := rfl
@[simp] theorem ti221_bytes : ti221.bytes = 8 := rfl
def ti222 : TI := ⟨.func, 1, 8, .nilFunc⟩
theorem tiOk222 : TIOk Tryd.prog 222 ti222 := ⟨⟨_, _, _, Tryd.underlying222⟩, ⟨_, rfl, rfl, rfl, rfl⟩, rfl, rfl⟩
@[simp] theorem ti222_size : ti222.size = 1 := rfl
@[simp] theorem ti222_bytes : ti222.bytes = 8 := rfl
def ti223 : TI := ⟨.func, 1, 8, .nilFunc⟩
theorem tiOk223 : TIOk Tryd.prog 223 ti223 := ⟨⟨_, _, _, Tryd.underlying223⟩, ⟨_, rfl, rfl, rfl, rfl⟩, rfl, rfl⟩
@[simp] theorem ti223_size : ti223.size = 1 := rfl
@[simp] theorem ti223_bytes : ti223.bytes = 8 := rfl
def ti224 : TI := ⟨.func, 1, 8, .nilFunc⟩
theorem tiOk224 : TIOk Tryd.prog 224 ti224 := ⟨⟨_, _, _, Tryd.underlying224⟩, ⟨_, rfl, rfl, rfl, rfl⟩, rfl, rfl⟩
@[simp] theorem ti224_size : ti224.size = 1 := rfl
@[simp] theorem ti224_bytes : ti224.bytes = 8 := rfl
def ti225 : TI := ⟨.arr 20 188, 20, 160, (.agg ⟨List.replicate 20 (.int .u64 0)⟩)⟩
theorem tiOk225 : TIOk Tryd.prog 225 ti225 := ⟨Tryd.underlying225, ⟨_, rfl, rfl, rfl, rfl⟩, rfl, rfl⟩
@[simp] theorem ti225_size : ti225.size = 20 := rfl
@[simp] theorem ti225_bytes : ti225.bytes = 160 := rfl
def ti226 : TI := ⟨.arr 65 5, 65, 65, (.agg ⟨List.replicate 65 (.int .u8 0)⟩)⟩
theorem tiOk226 : TIOk Tryd.prog 226 ti226 := ⟨Tryd.underlying226, ⟨_, rfl, rfl, rfl, rfl⟩, rfl, rfl⟩
@[simp] theorem ti226_size : ti226.size = 65 := rfl
@[simp] theorem ti226_bytes : ti226.bytes = 65 := rfl
def ti227 : TI := ⟨.func, 1, 8, .nilFunc⟩
theorem tiOk227 : TIOk Tryd.prog 227 ti227 := ⟨⟨_, _, _, Tryd.underlying227⟩, ⟨_, rfl, rfl, rfl, rfl⟩, rfl, rfl⟩
@[simp] theorem ti227_size : ti227.size = 1 := rfl
@[simp] theorem ti227_bytes : ti227.bytes = 8 := rfl
def ti228 : TI := ⟨.func, 1, 8, .nilFunc⟩
theorem tiOk228 : TIOk Tryd.prog 228 ti228 := ⟨⟨_, _, _, Tryd.underlying228⟩, ⟨_, rfl, rfl, rfl, rfl⟩, rfl, rfl⟩
@[simp] theorem ti228_size : ti228.size = 1 := rfl
@[simp] theorem ti228_bytes : ti228.bytes = 8 := rfl
def ti229 : TI := ⟨.func, 1, 8, .nilFunc⟩
theorem tiOk229 : TIOk Tryd.prog 229 ti229 := ⟨⟨_, _, _, Tryd.underlying229⟩, ⟨_, rfl, rfl, rfl, rfl⟩, rfl, rfl⟩
@[simp] theorem ti229_size : ti229.size = 1 := rfl
@[simp] theorem ti229_bytes : ti229.bytes = 8 := rfl
def ti230 : TI := ⟨.struct [(0, 9), (1, 9), (2, 174)], 3, 48, (.agg ⟨[(.string ⟨#[]⟩), (.string ⟨#[]⟩)] ++ [.nilIface]⟩)⟩
theorem tiOk230 : TIOk Tryd.prog 230 ti230 := ⟨⟨_, Tryd.underlying230, rfl⟩, ⟨_, rfl, rfl, rfl, rfl⟩, rfl, rfl⟩
@[simp] theorem ti230_size : ti230.size = 3 := rfl
@[simp] theorem ti230_bytes : ti230.bytes = 48 := rfl
def ti231 : TI := ⟨.struct [(0, 9), (1, 9), (2, 174)], 3, 48, (.agg ⟨[(.string ⟨#[]⟩), (.string ⟨#[]⟩)] ++ [.nilIface]⟩)⟩
theorem tiOk231 : TIOk Tryd.prog 231 ti231 := ⟨⟨_, Tryd.underlying231, rfl⟩, ⟨_, rfl, rfl, rfl, rfl⟩, rfl, rfl⟩
@[simp] theorem ti231_size : ti231.size = 3 := rfl
@[simp] theorem ti231_bytes : ti231.bytes = 48 := rfl
def ti232 : TI := ⟨.func, 1, 8, .nilFunc⟩
theorem tiOk232 : TIOk Tryd.prog 232 ti232 := ⟨⟨_, _, _, Tryd.underlying232⟩, ⟨_, rfl, rfl, rfl, rfl⟩, rfl, rfl⟩
@[simp] theorem ti232_size : ti232.size = 1 := rfl
@[simp] theorem ti232_bytes : ti232.bytes = 8 := rfl
def ti234 : TI := ⟨.func, 1, 8, .nilFunc⟩
theorem tiOk234 : TIOk Tryd.prog 234 ti234 := ⟨⟨_, _, _, Tryd.underlying234⟩, ⟨_, rfl, rfl, rfl, rfl⟩, rfl, rfl⟩
@[simp] theorem ti234_size : ti234.size = 1 := rfl
@[simp] theorem ti234_bytes : ti234.bytes = 8 := rfl
def ti235 : TI := ⟨.func, 1, 8, .nilFunc⟩
theorem tiOk235 : TIOk Tryd.prog 235 ti235 := ⟨⟨_, _, _, Tryd.underlying235⟩, ⟨_, rfl, rfl, rfl, rfl⟩, rfl, rfl⟩
@[simp] theorem ti235_size : ti235.size = 1 := rfl
@[simp] theorem ti235_bytes : ti235.bytes = 8 := rfl
def ti236 : TI := ⟨.arr 256 5, 256, 256, (.agg ⟨List.replicate 256 (.int .u8 0)⟩)⟩
theorem tiOk236 : TIOk Tryd.prog 236 ti236 := ⟨Tryd.underlying236, ⟨_, rfl, rfl, rfl, rfl⟩, rfl, rfl⟩
@[simp] theorem ti236_size : ti236.size = 256 := rfl
@[simp] theorem ti236_bytes : ti236.bytes = 256 := rfl
def ti237 : TI := ⟨.struct [(0, 5), (1, 5)], 2, 2, (.agg ⟨[(.int .u8 0), (.int .u8 0)]⟩)⟩
theorem tiOk237 : TIOk Tryd.prog 237 ti237 := ⟨⟨_, Tryd.underlying237, rfl⟩, ⟨_, rfl, rfl, rfl, rfl⟩, rfl, rfl⟩
@[simp] theorem ti237_size : ti237.size = 2 := rfl
@[simp] theorem ti237_bytes : ti237.bytes = 2 := rfl
def ti238 : TI := ⟨.struct [(0, 5), (1, 5)], 2, 2, (.agg ⟨[(.int .u8 0), (.int .u8 0)]⟩)⟩
theorem tiOk238 : TIOk Tryd.prog 238 ti238 := ⟨⟨_, Tryd.underlying238, rfl⟩, ⟨_, rfl, rfl, rfl, rfl⟩, rfl, rfl⟩
@[simp] theorem ti238_size : ti238.size = 2 := rfl
@[simp] theorem ti238_bytes : ti238.bytes = 2 := rfl
def ti239 : TI := ⟨.arr 16 238, 32, 32, (.agg ⟨List.replicate 32 (.int .u8 0)⟩)⟩
theorem tiOk239 : TIOk Tryd.prog 239 ti239 := ⟨Tryd.underlying239, ⟨_, rfl, rfl, rfl, rfl⟩, rfl, rfl⟩
@[simp] theorem ti239_size : ti239.size = 32 := rfl
@[simp] theorem ti239_bytes : ti239.bytes = 32 := rfl
def ti240 : TI := ⟨.ptr, 1, 8, (.pointer none)⟩
theorem tiOk240 : TIOk Tryd.prog 240 ti240 := ⟨⟨_, Tryd.underlying240⟩, ⟨_, rfl, rfl, rfl, rfl⟩, rfl, rfl⟩
@[simp] theorem ti240_size : ti240.size = 1 := rfl
@[simp] theorem ti240_bytes : ti240.bytes = 8 := rfl
def ti241 : TI := ⟨.struct [(0, 9)], 1, 16, (.agg ⟨[(.string ⟨#[]⟩)]⟩)⟩
theorem tiOk241 : TIOk Tryd.prog 241 ti241 := ⟨⟨_, Tryd.underlying241, rfl⟩, ⟨_, rfl, rfl, rfl, rfl⟩, rfl, rfl⟩
@[simp] theorem ti241_size : ti241.size = 1 := rfl
@[simp] theorem ti241_bytes : ti241.bytes = 16 := rfl
def ti242 : TI := ⟨.struct [(0, 9)], 1, 16, (.agg ⟨[(.string ⟨#[]⟩)]⟩)⟩
theorem tiOk242 : TIOk Tryd.prog 242 ti242 := ⟨⟨_, Tryd.underlying242, rfl⟩, ⟨_, rfl, rfl, rfl, rfl⟩, rfl, rfl⟩
@[simp] theorem ti242_size : ti242.size = 1 := rfl
@[simp] theorem ti242_bytes : ti242.bytes = 16 := rfl
def ti243 : TI := ⟨.arr 32 5, 32, 32, (.agg ⟨List.replicate 32 (.int .u8 0)⟩)⟩
theorem tiOk243 : TIOk Tryd.prog 243 ti243 := ⟨Tryd.underlying243, ⟨_, rfl, rfl, rfl, rfl⟩, rfl, rfl⟩
@[simp] theorem ti243_size : ti243.size = 32 := rfl
@[simp] theorem ti243_bytes : ti243.bytes = 32 := rfl
def ti244 : TI := ⟨.arr 64 5, 64, 64, (.agg ⟨List.replicate 64 (.int .u8 0)⟩)⟩
theorem tiOk244 : TIOk Tryd.prog 244 ti244 := ⟨Tryd.underlying244, ⟨_, rfl, rfl, rfl, rfl⟩, rfl, rfl⟩
@[simp] theorem ti244_size : ti244.size = 64 := rfl
@[simp] theorem ti244_bytes : ti244.bytes = 64 := rfl
def ti245 : TI := ⟨.struct [(0, 17), (1, 17), (2, 17), (3, 9)], 4, 40, (.agg ⟨[(.pointer none), (.pointer none), (.pointer none)] ++ [(.string ⟨#[]⟩)]⟩)⟩
theorem tiOk245 : TIOk Tryd.prog 245 ti245 := ⟨⟨_, Tryd.underlying245, rfl⟩, ⟨_, rfl, rfl, rfl, rfl⟩, rfl, rfl⟩
@[simp] theorem ti245_size : ti245.size = 4 := rfl
@[simp] theorem ti245_bytes : ti245.bytes = 40 := rfl
def ti246 : TI := ⟨.struct [(0, 17), (1, 17), (2, 17), (3, 9)], 4, 40, (.agg ⟨[(.pointer none), (.pointer none), (.pointer none)] ++ [(.string ⟨#[]⟩)]⟩)⟩
theorem tiOk246 : TIOk Tryd.prog 246 ti246 := ⟨⟨_, Tryd.underlying246, rfl⟩, ⟨_, rfl, rfl, rfl, rfl⟩, rfl, rfl⟩
@[simp] theorem ti246_size : ti246.size = 4 := rfl
@[simp] theorem ti246_bytes : ti246.bytes = 40 := rfl
def ti247 : TI := ⟨.arr 0 16, 0, 0, (.agg ⟨[]⟩)⟩
theorem tiOk247 : TIOk Tryd.prog 247 ti247 := ⟨Tryd.underlying247, ⟨_, rfl, rfl, rfl, rfl⟩, rfl, rfl⟩
@[simp] theorem ti247_size : ti247.size = 0 := rfl
@[simp] theorem ti247_bytes : ti247.bytes = 0 := rfl
def ti248 : TI := ⟨.struct [(0, 247)], 0, 0, (.agg ⟨[]⟩)⟩
theorem tiOk248 : TIOk Tryd.prog 248 ti248 := ⟨⟨_, Tryd.underlying248, rfl⟩, ⟨_, rfl, rfl, rfl, rfl⟩, rfl, rfl⟩
@[simp] theorem ti248_size : ti248.size = 0 := rfl
@[simp] theorem ti248_bytes : ti248.bytes = 0 := rfl
def ti249 : TI := ⟨.struct [(0, 247)], 0, 0, (.agg ⟨[]⟩)⟩
theorem tiOk249 : TIOk Tryd.prog 249 ti249 := ⟨⟨_, Tryd.underlying249, rfl⟩, ⟨_, rfl, rfl, rfl, rfl⟩, rfl, rfl⟩
@[simp] theorem ti249_size : ti249.size = 0 := rfl
@[simp] theorem ti249_bytes : ti249.bytes = 0 := rfl
def ti250 : TI := ⟨.int .u8, 1, 1, (.int .u8 0)⟩
theorem tiOk250 : TIOk Tryd.prog 250 ti250 := ⟨Tryd.underlying250, ⟨_, rfl, rfl, rfl, rfl⟩, rfl, rfl⟩
@[simp] theorem ti250_size : ti250.size = 1 := rfl
@[simp] theorem ti250_bytes : ti250.bytes = 1 := rfl
def ti251 : TI := ⟨.int .u8, 1, 1, (.int .u8 0)⟩
theorem tiOk251 : TIOk Tryd.prog 251 ti251 := ⟨Tryd.underlying251, ⟨_, rfl, rfl, rfl, rfl⟩, rfl, rfl⟩
@[simp] theorem ti251_size : ti251.size = 1 := rfl
@[simp] theorem ti251_bytes : ti251.bytes = 1 := rfl
def ti252 : TI := ⟨.func, 1, 8, .nilFunc⟩
theorem tiOk252 : TIOk Tryd.prog 252 ti252 := ⟨⟨_, _, _, Tryd.underlying252⟩, ⟨_, rfl, rfl, rfl, rfl⟩, rfl, rfl⟩
@[simp] theorem ti252_size : ti252.size = 1 := rfl
@[simp] theorem ti252_bytes : ti252.bytes = 8 := rfl
def ti253 : TI := ⟨.int .i32, 1, 4, (.int .i32 0)⟩
theorem tiOk253 : TIOk Tryd.prog 253 ti253 := ⟨Tryd.underlying253, ⟨_, rfl, rfl, rfl, rfl⟩, rfl, rfl⟩
@[simp] theorem ti253_size : ti253.size = 1 := rfl
@[simp] theorem ti253_bytes : ti253.bytes = 4 := rfl
def ti254 : TI := ⟨.int .i32, 1, 4, (.int .i32 0)⟩
theorem tiOk254 : TIOk Tryd.prog 254 ti254 := ⟨Tryd.underlying254, ⟨_, rfl, rfl, rfl, rfl⟩, rfl, rfl⟩
@[simp] theorem ti254_size : ti254.size = 1 := rfl
@[simp] theorem ti254_bytes : ti254.bytes = 4 := rfl
def ti255 : TI := ⟨.struct [(0, 12), (1, 12), (2, 36), (3, 250), (4, 5), (5, 5), (6, 251), (7, 252), (8, 198), (9, 253), (10, 254)], 11, 48, (.agg ⟨[(.int .u64 0), (.int .u64 0)] ++ [(.int .u32 0)] ++ [(.int .u8 0), (.int .u8 0), (.int .u8 0), (.int .u8 0)] ++ [.nilFunc] ++ [(.pointer none)] ++ [(.int .i32 0), (.int .i32 0)]⟩)⟩
theorem tiOk255 : TIOk Tryd.prog 255 ti255 := ⟨⟨_, Tryd.underlying255, rfl⟩, ⟨_, rfl, rfl, rfl, rfl⟩, rfl, rfl⟩
@[simp] theorem ti255_size : ti255.size = 11 := rfl
@[simp] theorem ti255_bytes : ti255.bytes = 48 := rfl
def ti256 : TI := ⟨.struct [(0, 12), (1, 12), (2, 36), (3, 250), (4, 5), (5, 5), (6, 251), (7, 252), (8, 198), (9, 253), (10, 254)], 11, 48, (.agg ⟨[(.int .u64 0), (.int .u64 0)] ++ [(.int .u32 0)] ++ [(.int .u8 0), (.int .u8 0), (.int .u8 0), (.int .u8 0)] ++ [.nilFunc] ++ [(.pointer none)] ++ [(.int .i32 0), (.int .i32 0)]⟩)⟩
theorem tiOk256 : TIOk Tryd.prog 256 ti256 := ⟨⟨_, Tryd.underlying256, rfl⟩, ⟨_, rfl, rfl, rfl, rfl⟩, rfl, rfl⟩
@[simp] theorem ti256_size : ti256.size = 11 := rfl
@[simp] theorem ti256_bytes : ti256.bytes = 48 := rfl
def tlist : List (Nat × TI) := [(1, ti1), (2, ti2), (3, ti3), (4, ti4), (5, ti5), (6, ti6), (7, ti7), (8, ti8), (9, ti9), (10, ti10), (11, ti11), (12, ti12), (13, ti13), (14, ti14), (15, ti15), (16, ti16), (17, ti17), (18, ti18), (19, ti19), (21, ti21), (22, ti22), (23, ti23), (24, ti24), (25, ti25), (26, ti26), (27, ti27), (29, ti29), (30, ti30), (31, ti31), (32, ti32), (33, ti33), (34, ti34), (35, ti35), (36, ti36), (37, ti37), (38, ti38), (39, ti39), (40, ti40), (41, ti41), (42, ti42), (43, ti43), (44, ti44), (45, ti45), (46, ti46), (47, ti47), (48, ti48), (49, ti49), (50, ti50), (51, ti51), (52, ti52), (53, ti53), (54, ti54), (55, ti55), (56, ti56), (57, ti57), (58, ti58), (60, ti60), (61, ti61), (63, ti63), (64, ti64), (65, ti65), (67, ti67), (68, ti68), (69, ti69), (70, ti70), (71, ti71), (72, ti72), (73, ti73), (74, ti74), (75, ti75), (77, ti77), (78, ti78), (79, ti79), (80, ti80), (81, ti81), (82, ti82), (84, ti84), (86, ti86), (87, ti87), (88, ti88), (89, ti89), (90, ti90), (91, ti91), (93, ti93), (94, ti94), (95, ti95), (96, ti96), (97, ti97), (98, ti98), (99, ti99), (100, ti100), (101, ti101), (102, ti102), (103, ti103), (104, ti104), (105, ti105), (106, ti106), (107, ti107), (108, ti108), (109, ti109), (110, ti110), (111, ti111), (112, ti112), (113, ti113), (114, ti114), (115, ti115), (116, ti116), (117, ti117), (118, ti118), (119, ti119), (121, ti121), (122, ti122), (123, ti123), (125, ti125), (126, ti126), (127, ti127), (128, ti128), (129, ti129), (130, ti130), (132, ti132), (133, ti133), (134, ti134), (135, ti135), (136, ti136), (137, ti137), (138, ti138), (139, ti139), (140, ti140), (141, ti141), (142, ti142), (143, ti143), (144, ti144), (145, ti145), (146, ti146), (147, ti147), (148, ti148), (149, ti149), (150, ti150), (151, ti151), (152, ti152), (153, ti153), (154, ti154), (155, ti155), (157, ti157), (158, ti158), (159, ti159), (160, ti160), (161, ti161), (162, ti162), (163, ti163), (164, ti164), (165, ti165), (166, ti166), (167, ti167), (168, ti168), (169, ti169), (170, ti170), (171, ti171), (172, ti172), (176, ti176), (177, ti177), (178, ti178), (179, ti179), (180, ti180), (181, ti181), (182, ti182), (183, ti183), (185, ti185), (186, ti186), (187, ti187), (188, ti188), (189, ti189), (190, ti190), (191, ti191), (192, ti192), (193, ti193), (194, ti194), (195, ti195), (196, ti196), (197, ti197), (198, ti198), (199, ti199), (200, ti200), (201, ti201), (202, ti202), (203, ti203), (204, ti204), (206, ti206), (207, ti207), (208, ti208), (209, ti209), (210, ti210), (212, ti212), (213, ti213), (215, ti215), (216, ti216), (217, ti217), (219, ti219), (220, ti220), (221, ti221), (222, ti222), (223, ti223), (224, ti224), (225, ti225), (226, ti226), (227, ti227), (228, ti228), (229, ti229), (230, ti230), (231, ti231), (232, ti232), (234, ti234), (235, ti235), (236, ti236), (237, ti237), (238, ti238), (239, ti239), (240, ti240), (241, ti241), (242, ti242), (243, ti243), (244, ti244), (245, ti245), (246, ti246), (247, ti247), (248, ti248), (249, ti249), (250, ti250), (251, ti251), (252, ti252), (253, ti253), (254, ti254), (255, ti255), (256, ti256)]
def tt : Types := lk tlist
theorem tOk : TOk Tryd.prog tt := TOk.of_list (by
  simp only [tlist, ListOk]
  exact ⟨tiOk1, tiOk2, tiOk3, tiOk4, tiOk5, tiOk6, tiOk7, tiOk8, tiOk9, tiOk10, tiOk11, tiOk12, tiOk13, tiOk14, tiOk15, tiOk16, tiOk17, tiOk18, tiOk19, tiOk21, tiOk22, tiOk23, tiOk24, tiOk25, tiOk26, tiOk27, tiOk29, tiOk30, tiOk31, tiOk32, tiOk33, tiOk34, tiOk35, tiOk36, tiOk37, tiOk38, tiOk39, tiOk40, tiOk41, tiOk42, tiOk43, tiOk44, tiOk45, tiOk46, tiOk47, tiOk48, tiOk49, tiOk50, tiOk51, tiOk52, tiOk53, tiOk54, tiOk55, tiOk56, tiOk57, tiOk58, tiOk60, tiOk61, tiOk63, tiOk64, tiOk65, tiOk67, tiOk68, tiOk69, tiOk70, tiOk71, tiOk72, tiOk73, tiOk74, tiOk75, tiOk77, tiOk78, tiOk79, tiOk80, tiOk81, tiOk82, tiOk84, tiOk86, tiOk87, tiOk88, tiOk89, tiOk90, tiOk91, tiOk93, tiOk94, tiOk95, tiOk96, tiOk97, tiOk98, tiOk99, tiOk100, tiOk101, tiOk102, tiOk103, tiOk104, tiOk105, tiOk106, tiOk107, tiOk108, tiOk109, tiOk110, tiOk111, tiOk112, tiOk113, tiOk114, tiOk115, tiOk116, tiOk117, tiOk118, tiOk119, tiOk121, tiOk122, tiOk123, tiOk125, tiOk126, tiOk127, tiOk128, tiOk129, tiOk130, tiOk132, tiOk133, tiOk134, tiOk135, tiOk136, tiOk137, tiOk138, tiOk139, tiOk140, tiOk141, tiOk142, tiOk143, tiOk144, tiOk145, tiOk146, tiOk147, tiOk148, tiOk149, tiOk150, tiOk151, tiOk152, tiOk153, tiOk154, tiOk155, tiOk157, tiOk158, tiOk159, tiOk160, tiOk161, tiOk162, tiOk163, tiOk164, tiOk165, tiOk166, tiOk167, tiOk168, tiOk169, tiOk170, tiOk171, tiOk172, tiOk176, tiOk177, tiOk178, tiOk179, tiOk180, tiOk181, tiOk182, tiOk183, tiOk185, tiOk186, tiOk187, tiOk188, tiOk189, tiOk190, tiOk191, tiOk192, tiOk193, tiOk194, tiOk195, tiOk196, tiOk197, tiOk198, tiOk199, tiOk200, tiOk201, tiOk202, tiOk203, tiOk204, tiOk206, tiOk207, tiOk208, tiOk209, tiOk210, tiOk212, tiOk213, tiOk215, tiOk216, tiOk217, tiOk219, tiOk220, tiOk221, tiOk222, tiOk223, tiOk224, tiOk225, tiOk226, tiOk227, tiOk228, tiOk229, tiOk230, tiOk231, tiOk232, tiOk234, tiOk235, tiOk236, tiOk237, tiOk238, tiOk239, tiOk240, tiOk241, tiOk242, tiOk243, tiOk244, tiOk245, tiOk246, tiOk247, tiOk248, tiOk249, tiOk250, tiOk251, tiOk252, tiOk253, tiOk254, tiOk255, tiOk256, trivial⟩)
theorem hMix : Tryd.prog.follows .mixedOrders = true := by kernel_rfl
end Go.Proofs.YtdbhfobnmlogeaaDoor
