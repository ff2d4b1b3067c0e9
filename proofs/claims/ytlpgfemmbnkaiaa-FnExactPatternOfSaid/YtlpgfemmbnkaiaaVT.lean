/- What is known of the types of this seat's translation. By a program of this repository (gentypes.py). -/
import Derived.Test.YtlpgfemmbnkaiaaProg
import Derived.Test.YtlpgfemmbnkaiaaV14
import Derived.KernelRfl
namespace Go.Proofs.Ytlpgfemmbnkaiaa
open Go.V
set_option maxRecDepth 10000

def ti1 : TI := ⟨.func, 1, 8, .nilFunc⟩
theorem tiOk1 : TIOk Try.prog 1 ti1 := ⟨⟨_, _, _, Try.underlying1⟩, ⟨_, rfl, rfl, rfl, rfl⟩, rfl, rfl⟩
@[simp] theorem ti1_size : ti1.size = 1 := rfl
@[simp] theorem ti1_bytes : ti1.bytes = 8 := rfl
def ti2 : TI := ⟨.int .i64, 1, 8, (.int .i64 0)⟩
theorem tiOk2 : TIOk Try.prog 2 ti2 := ⟨Try.underlying2, ⟨_, rfl, rfl, rfl, rfl⟩, rfl, rfl⟩
@[simp] theorem ti2_size : ti2.size = 1 := rfl
@[simp] theorem ti2_bytes : ti2.bytes = 8 := rfl
def ti3 : TI := ⟨.int .i64, 1, 8, (.int .i64 0)⟩
theorem tiOk3 : TIOk Try.prog 3 ti3 := ⟨Try.underlying3, ⟨_, rfl, rfl, rfl, rfl⟩, rfl, rfl⟩
@[simp] theorem ti3_size : ti3.size = 1 := rfl
@[simp] theorem ti3_bytes : ti3.bytes = 8 := rfl
def ti4 : TI := ⟨.bool, 1, 1, (.bool false)⟩
theorem tiOk4 : TIOk Try.prog 4 ti4 := ⟨Try.underlying4, ⟨_, rfl, rfl, rfl, rfl⟩, rfl, rfl⟩
@[simp] theorem ti4_size : ti4.size = 1 := rfl
@[simp] theorem ti4_bytes : ti4.bytes = 1 := rfl
def ti5 : TI := ⟨.int .u8, 1, 1, (.int .u8 0)⟩
theorem tiOk5 : TIOk Try.prog 5 ti5 := ⟨Try.underlying5, ⟨_, rfl, rfl, rfl, rfl⟩, rfl, rfl⟩
@[simp] theorem ti5_size : ti5.size = 1 := rfl
@[simp] theorem ti5_bytes : ti5.bytes = 1 := rfl
def ti6 : TI := ⟨.int .u8, 1, 1, (.int .u8 0)⟩
theorem tiOk6 : TIOk Try.prog 6 ti6 := ⟨Try.underlying6, ⟨_, rfl, rfl, rfl, rfl⟩, rfl, rfl⟩
@[simp] theorem ti6_size : ti6.size = 1 := rfl
@[simp] theorem ti6_bytes : ti6.bytes = 1 := rfl
def ti7 : TI := ⟨.struct [(0, 2), (1, 3), (2, 4), (3, 6)], 4, 24, (.agg ⟨[(.int .i64 0), (.int .i64 0)] ++ [(.bool false)] ++ [(.int .u8 0)]⟩)⟩
theorem tiOk7 : TIOk Try.prog 7 ti7 := ⟨⟨_, Try.underlying7, rfl⟩, ⟨_, rfl, rfl, rfl, rfl⟩, rfl, rfl⟩
@[simp] theorem ti7_size : ti7.size = 4 := rfl
@[simp] theorem ti7_bytes : ti7.bytes = 24 := rfl
def ti8 : TI := ⟨.struct [(0, 2), (1, 3), (2, 4), (3, 6)], 4, 24, (.agg ⟨[(.int .i64 0), (.int .i64 0)] ++ [(.bool false)] ++ [(.int .u8 0)]⟩)⟩
theorem tiOk8 : TIOk Try.prog 8 ti8 := ⟨⟨_, Try.underlying8, rfl⟩, ⟨_, rfl, rfl, rfl, rfl⟩, rfl, rfl⟩
@[simp] theorem ti8_size : ti8.size = 4 := rfl
@[simp] theorem ti8_bytes : ti8.bytes = 24 := rfl
def ti9 : TI := ⟨.str, 1, 16, (.string ⟨#[]⟩)⟩
theorem tiOk9 : TIOk Try.prog 9 ti9 := ⟨Try.underlying9, ⟨_, rfl, rfl, rfl, rfl⟩, rfl, rfl⟩
@[simp] theorem ti9_size : ti9.size = 1 := rfl
@[simp] theorem ti9_bytes : ti9.bytes = 16 := rfl
def ti10 : TI := ⟨.str, 1, 16, (.string ⟨#[]⟩)⟩
theorem tiOk10 : TIOk Try.prog 10 ti10 := ⟨Try.underlying10, ⟨_, rfl, rfl, rfl, rfl⟩, rfl, rfl⟩
@[simp] theorem ti10_size : ti10.size = 1 := rfl
@[simp] theorem ti10_bytes : ti10.bytes = 16 := rfl
def ti11 : TI := ⟨.str, 1, 16, (.string ⟨#[]⟩)⟩
theorem tiOk11 : TIOk Try.prog 11 ti11 := ⟨Try.underlying11, ⟨_, rfl, rfl, rfl, rfl⟩, rfl, rfl⟩
@[simp] theorem ti11_size : ti11.size = 1 := rfl
@[simp] theorem ti11_bytes : ti11.bytes = 16 := rfl
def ti12 : TI := ⟨.int .u64, 1, 8, (.int .u64 0)⟩
theorem tiOk12 : TIOk Try.prog 12 ti12 := ⟨Try.underlying12, ⟨_, rfl, rfl, rfl, rfl⟩, rfl, rfl⟩
@[simp] theorem ti12_size : ti12.size = 1 := rfl
@[simp] theorem ti12_bytes : ti12.bytes = 8 := rfl
def ti13 : TI := ⟨.struct [(0, 9), (1, 12)], 2, 24, (.agg ⟨[(.string ⟨#[]⟩)] ++ [(.int .u64 0)]⟩)⟩
theorem tiOk13 : TIOk Try.prog 13 ti13 := ⟨⟨_, Try.underlying13, rfl⟩, ⟨_, rfl, rfl, rfl, rfl⟩, rfl, rfl⟩
@[simp] theorem ti13_size : ti13.size = 2 := rfl
@[simp] theorem ti13_bytes : ti13.bytes = 24 := rfl
def ti14 : TI := ⟨.struct [(0, 9), (1, 12)], 2, 24, (.agg ⟨[(.string ⟨#[]⟩)] ++ [(.int .u64 0)]⟩)⟩
theorem tiOk14 : TIOk Try.prog 14 ti14 := ⟨⟨_, Try.underlying14, rfl⟩, ⟨_, rfl, rfl, rfl, rfl⟩, rfl, rfl⟩
@[simp] theorem ti14_size : ti14.size = 2 := rfl
@[simp] theorem ti14_bytes : ti14.bytes = 24 := rfl
def ti15 : TI := ⟨.ptr, 1, 8, (.pointer none)⟩
theorem tiOk15 : TIOk Try.prog 15 ti15 := ⟨⟨_, Try.underlying15⟩, ⟨_, rfl, rfl, rfl, rfl⟩, rfl, rfl⟩
@[simp] theorem ti15_size : ti15.size = 1 := rfl
@[simp] theorem ti15_bytes : ti15.bytes = 8 := rfl
def ti16 : TI := ⟨.ptr, 1, 8, (.pointer none)⟩
theorem tiOk16 : TIOk Try.prog 16 ti16 := ⟨⟨_, Try.underlying16⟩, ⟨_, rfl, rfl, rfl, rfl⟩, rfl, rfl⟩
@[simp] theorem ti16_size : ti16.size = 1 := rfl
@[simp] theorem ti16_bytes : ti16.bytes = 8 := rfl
def ti17 : TI := ⟨.ptr, 1, 8, (.pointer none)⟩
theorem tiOk17 : TIOk Try.prog 17 ti17 := ⟨⟨_, Try.underlying17⟩, ⟨_, rfl, rfl, rfl, rfl⟩, rfl, rfl⟩
@[simp] theorem ti17_size : ti17.size = 1 := rfl
@[simp] theorem ti17_bytes : ti17.bytes = 8 := rfl
def ti18 : TI := ⟨.struct [(0, 17)], 1, 8, (.agg ⟨[(.pointer none)]⟩)⟩
theorem tiOk18 : TIOk Try.prog 18 ti18 := ⟨⟨_, Try.underlying18, rfl⟩, ⟨_, rfl, rfl, rfl, rfl⟩, rfl, rfl⟩
@[simp] theorem ti18_size : ti18.size = 1 := rfl
@[simp] theorem ti18_bytes : ti18.bytes = 8 := rfl
def ti19 : TI := ⟨.struct [(0, 17)], 1, 8, (.agg ⟨[(.pointer none)]⟩)⟩
theorem tiOk19 : TIOk Try.prog 19 ti19 := ⟨⟨_, Try.underlying19, rfl⟩, ⟨_, rfl, rfl, rfl, rfl⟩, rfl, rfl⟩
@[simp] theorem ti19_size : ti19.size = 1 := rfl
@[simp] theorem ti19_bytes : ti19.bytes = 8 := rfl
def ti21 : TI := ⟨.int .i32, 1, 4, (.int .i32 0)⟩
theorem tiOk21 : TIOk Try.prog 21 ti21 := ⟨Try.underlying21, ⟨_, rfl, rfl, rfl, rfl⟩, rfl, rfl⟩
@[simp] theorem ti21_size : ti21.size = 1 := rfl
@[simp] theorem ti21_bytes : ti21.bytes = 4 := rfl
def ti22 : TI := ⟨.func, 1, 8, .nilFunc⟩
theorem tiOk22 : TIOk Try.prog 22 ti22 := ⟨⟨_, _, _, Try.underlying22⟩, ⟨_, rfl, rfl, rfl, rfl⟩, rfl, rfl⟩
@[simp] theorem ti22_size : ti22.size = 1 := rfl
@[simp] theorem ti22_bytes : ti22.bytes = 8 := rfl
def ti23 : TI := ⟨.int .i8, 1, 1, (.int .i8 0)⟩
theorem tiOk23 : TIOk Try.prog 23 ti23 := ⟨Try.underlying23, ⟨_, rfl, rfl, rfl, rfl⟩, rfl, rfl⟩
@[simp] theorem ti23_size : ti23.size = 1 := rfl
@[simp] theorem ti23_bytes : ti23.bytes = 1 := rfl
def ti24 : TI := ⟨.arr 8 5, 8, 8, (.agg ⟨List.replicate 8 (.int .u8 0)⟩)⟩
theorem tiOk24 : TIOk Try.prog 24 ti24 := ⟨Try.underlying24, ⟨_, rfl, rfl, rfl, rfl⟩, rfl, rfl⟩
@[simp] theorem ti24_size : ti24.size = 8 := rfl
@[simp] theorem ti24_bytes : ti24.bytes = 8 := rfl
def ti25 : TI := ⟨.arr 8 24, 64, 64, (.agg ⟨List.replicate 64 (.int .u8 0)⟩)⟩
theorem tiOk25 : TIOk Try.prog 25 ti25 := ⟨Try.underlying25, ⟨_, rfl, rfl, rfl, rfl⟩, rfl, rfl⟩
@[simp] theorem ti25_size : ti25.size = 64 := rfl
@[simp] theorem ti25_bytes : ti25.bytes = 64 := rfl
def ti26 : TI := ⟨.struct [(0, 23), (1, 23), (2, 5), (3, 25)], 67, 67, (.agg ⟨[(.int .i8 0), (.int .i8 0)] ++ List.replicate 65 (.int .u8 0)⟩)⟩
theorem tiOk26 : TIOk Try.prog 26 ti26 := ⟨⟨_, Try.underlying26, rfl⟩, ⟨_, rfl, rfl, rfl, rfl⟩, rfl, rfl⟩
@[simp] theorem ti26_size : ti26.size = 67 := rfl
@[simp] theorem ti26_bytes : ti26.bytes = 67 := rfl
def ti27 : TI := ⟨.struct [(0, 23), (1, 23), (2, 5), (3, 25)], 67, 67, (.agg ⟨[(.int .i8 0), (.int .i8 0)] ++ List.replicate 65 (.int .u8 0)⟩)⟩
theorem tiOk27 : TIOk Try.prog 27 ti27 := ⟨⟨_, Try.underlying27, rfl⟩, ⟨_, rfl, rfl, rfl, rfl⟩, rfl, rfl⟩
@[simp] theorem ti27_size : ti27.size = 67 := rfl
@[simp] theorem ti27_bytes : ti27.bytes = 67 := rfl
def ti28 : TI := ⟨.func, 1, 8, .nilFunc⟩
theorem tiOk28 : TIOk Try.prog 28 ti28 := ⟨⟨_, _, _, Try.underlying28⟩, ⟨_, rfl, rfl, rfl, rfl⟩, rfl, rfl⟩
@[simp] theorem ti28_size : ti28.size = 1 := rfl
@[simp] theorem ti28_bytes : ti28.bytes = 8 := rfl
def ti29 : TI := ⟨.struct [(0, 23), (1, 23), (2, 5), (3, 25)], 67, 67, (.agg ⟨[(.int .i8 0), (.int .i8 0)] ++ List.replicate 65 (.int .u8 0)⟩)⟩
theorem tiOk29 : TIOk Try.prog 29 ti29 := ⟨⟨_, Try.underlying29, rfl⟩, ⟨_, rfl, rfl, rfl, rfl⟩, rfl, rfl⟩
@[simp] theorem ti29_size : ti29.size = 67 := rfl
@[simp] theorem ti29_bytes : ti29.bytes = 67 := rfl
def ti30 : TI := ⟨.func, 1, 8, .nilFunc⟩
theorem tiOk30 : TIOk Try.prog 30 ti30 := ⟨⟨_, _, _, Try.underlying30⟩, ⟨_, rfl, rfl, rfl, rfl⟩, rfl, rfl⟩
@[simp] theorem ti30_size : ti30.size = 1 := rfl
@[simp] theorem ti30_bytes : ti30.bytes = 8 := rfl
def ti31 : TI := ⟨.arr 8 5, 8, 8, (.agg ⟨List.replicate 8 (.int .u8 0)⟩)⟩
theorem tiOk31 : TIOk Try.prog 31 ti31 := ⟨Try.underlying31, ⟨_, rfl, rfl, rfl, rfl⟩, rfl, rfl⟩
@[simp] theorem ti31_size : ti31.size = 8 := rfl
@[simp] theorem ti31_bytes : ti31.bytes = 8 := rfl
def ti32 : TI := ⟨.func, 1, 8, .nilFunc⟩
theorem tiOk32 : TIOk Try.prog 32 ti32 := ⟨⟨_, _, _, Try.underlying32⟩, ⟨_, rfl, rfl, rfl, rfl⟩, rfl, rfl⟩
@[simp] theorem ti32_size : ti32.size = 1 := rfl
@[simp] theorem ti32_bytes : ti32.bytes = 8 := rfl
def ti33 : TI := ⟨.func, 1, 8, .nilFunc⟩
theorem tiOk33 : TIOk Try.prog 33 ti33 := ⟨⟨_, _, _, Try.underlying33⟩, ⟨_, rfl, rfl, rfl, rfl⟩, rfl, rfl⟩
@[simp] theorem ti33_size : ti33.size = 1 := rfl
@[simp] theorem ti33_bytes : ti33.bytes = 8 := rfl
def ti34 : TI := ⟨.func, 1, 8, .nilFunc⟩
theorem tiOk34 : TIOk Try.prog 34 ti34 := ⟨⟨_, _, _, Try.underlying34⟩, ⟨_, rfl, rfl, rfl, rfl⟩, rfl, rfl⟩
@[simp] theorem ti34_size : ti34.size = 1 := rfl
@[simp] theorem ti34_bytes : ti34.bytes = 8 := rfl
def ti35 : TI := ⟨.arr 8 24, 64, 64, (.agg ⟨List.replicate 64 (.int .u8 0)⟩)⟩
theorem tiOk35 : TIOk Try.prog 35 ti35 := ⟨Try.underlying35, ⟨_, rfl, rfl, rfl, rfl⟩, rfl, rfl⟩
@[simp] theorem ti35_size : ti35.size = 64 := rfl
@[simp] theorem ti35_bytes : ti35.bytes = 64 := rfl
def ti36 : TI := ⟨.func, 1, 8, .nilFunc⟩
theorem tiOk36 : TIOk Try.prog 36 ti36 := ⟨⟨_, _, _, Try.underlying36⟩, ⟨_, rfl, rfl, rfl, rfl⟩, rfl, rfl⟩
@[simp] theorem ti36_size : ti36.size = 1 := rfl
@[simp] theorem ti36_bytes : ti36.bytes = 8 := rfl
def ti37 : TI := ⟨.func, 1, 8, .nilFunc⟩
theorem tiOk37 : TIOk Try.prog 37 ti37 := ⟨⟨_, _, _, Try.underlying37⟩, ⟨_, rfl, rfl, rfl, rfl⟩, rfl, rfl⟩
@[simp] theorem ti37_size : ti37.size = 1 := rfl
@[simp] theorem ti37_bytes : ti37.bytes = 8 := rfl
def ti39 : TI := ⟨.func, 1, 8, .nilFunc⟩
theorem tiOk39 : TIOk Try.prog 39 ti39 := ⟨⟨_, _, _, Try.underlying39⟩, ⟨_, rfl, rfl, rfl, rfl⟩, rfl, rfl⟩
@[simp] theorem ti39_size : ti39.size = 1 := rfl
@[simp] theorem ti39_bytes : ti39.bytes = 8 := rfl
def ti40 : TI := ⟨.func, 1, 8, .nilFunc⟩
theorem tiOk40 : TIOk Try.prog 40 ti40 := ⟨⟨_, _, _, Try.underlying40⟩, ⟨_, rfl, rfl, rfl, rfl⟩, rfl, rfl⟩
@[simp] theorem ti40_size : ti40.size = 1 := rfl
@[simp] theorem ti40_bytes : ti40.bytes = 8 := rfl
def ti41 : TI := ⟨.func, 1, 8, .nilFunc⟩
theorem tiOk41 : TIOk Try.prog 41 ti41 := ⟨⟨_, _, _, Try.underlying41⟩, ⟨_, rfl, rfl, rfl, rfl⟩, rfl, rfl⟩
@[simp] theorem ti41_size : ti41.size = 1 := rfl
@[simp] theorem ti41_bytes : ti41.bytes = 8 := rfl
def ti43 : TI := ⟨.func, 1, 8, .nilFunc⟩
theorem tiOk43 : TIOk Try.prog 43 ti43 := ⟨⟨_, _, _, Try.underlying43⟩, ⟨_, rfl, rfl, rfl, rfl⟩, rfl, rfl⟩
@[simp] theorem ti43_size : ti43.size = 1 := rfl
@[simp] theorem ti43_bytes : ti43.bytes = 8 := rfl
def ti44 : TI := ⟨.func, 1, 8, .nilFunc⟩
theorem tiOk44 : TIOk Try.prog 44 ti44 := ⟨⟨_, _, _, Try.underlying44⟩, ⟨_, rfl, rfl, rfl, rfl⟩, rfl, rfl⟩
@[simp] theorem ti44_size : ti44.size = 1 := rfl
@[simp] theorem ti44_bytes : ti44.bytes = 8 := rfl
def ti45 : TI := ⟨.func, 1, 8, .nilFunc⟩
theorem tiOk45 : TIOk Try.prog 45 ti45 := ⟨⟨_, _, _, Try.underlying45⟩, ⟨_, rfl, rfl, rfl, rfl⟩, rfl, rfl⟩
@[simp] theorem ti45_size : ti45.size = 1 := rfl
@[simp] theorem ti45_bytes : ti45.bytes = 8 := rfl
def ti46 : TI := ⟨.func, 1, 8, .nilFunc⟩
theorem tiOk46 : TIOk Try.prog 46 ti46 := ⟨⟨_, _, _, Try.underlying46⟩, ⟨_, rfl, rfl, rfl, rfl⟩, rfl, rfl⟩
@[simp] theorem ti46_size : ti46.size = 1 := rfl
@[simp] theorem ti46_bytes : ti46.bytes = 8 := rfl
def ti47 : TI := ⟨.func, 1, 8, .nilFunc⟩
theorem tiOk47 : TIOk Try.prog 47 ti47 := ⟨⟨_, _, _, Try.underlying47⟩, ⟨_, rfl, rfl, rfl, rfl⟩, rfl, rfl⟩
@[simp] theorem ti47_size : ti47.size = 1 := rfl
@[simp] theorem ti47_bytes : ti47.bytes = 8 := rfl
def ti49 : TI := ⟨.func, 1, 8, .nilFunc⟩
theorem tiOk49 : TIOk Try.prog 49 ti49 := ⟨⟨_, _, _, Try.underlying49⟩, ⟨_, rfl, rfl, rfl, rfl⟩, rfl, rfl⟩
@[simp] theorem ti49_size : ti49.size = 1 := rfl
@[simp] theorem ti49_bytes : ti49.bytes = 8 := rfl
def ti50 : TI := ⟨.func, 1, 8, .nilFunc⟩
theorem tiOk50 : TIOk Try.prog 50 ti50 := ⟨⟨_, _, _, Try.underlying50⟩, ⟨_, rfl, rfl, rfl, rfl⟩, rfl, rfl⟩
@[simp] theorem ti50_size : ti50.size = 1 := rfl
@[simp] theorem ti50_bytes : ti50.bytes = 8 := rfl
def ti51 : TI := ⟨.struct [(0, 23), (1, 23)], 2, 2, (.agg ⟨[(.int .i8 0), (.int .i8 0)]⟩)⟩
theorem tiOk51 : TIOk Try.prog 51 ti51 := ⟨⟨_, Try.underlying51, rfl⟩, ⟨_, rfl, rfl, rfl, rfl⟩, rfl, rfl⟩
@[simp] theorem ti51_size : ti51.size = 2 := rfl
@[simp] theorem ti51_bytes : ti51.bytes = 2 := rfl
def ti52 : TI := ⟨.struct [(0, 23), (1, 23)], 2, 2, (.agg ⟨[(.int .i8 0), (.int .i8 0)]⟩)⟩
theorem tiOk52 : TIOk Try.prog 52 ti52 := ⟨⟨_, Try.underlying52, rfl⟩, ⟨_, rfl, rfl, rfl, rfl⟩, rfl, rfl⟩
@[simp] theorem ti52_size : ti52.size = 2 := rfl
@[simp] theorem ti52_bytes : ti52.bytes = 2 := rfl
def ti54 : TI := ⟨.func, 1, 8, .nilFunc⟩
theorem tiOk54 : TIOk Try.prog 54 ti54 := ⟨⟨_, _, _, Try.underlying54⟩, ⟨_, rfl, rfl, rfl, rfl⟩, rfl, rfl⟩
@[simp] theorem ti54_size : ti54.size = 1 := rfl
@[simp] theorem ti54_bytes : ti54.bytes = 8 := rfl
def ti55 : TI := ⟨.func, 1, 8, .nilFunc⟩
theorem tiOk55 : TIOk Try.prog 55 ti55 := ⟨⟨_, _, _, Try.underlying55⟩, ⟨_, rfl, rfl, rfl, rfl⟩, rfl, rfl⟩
@[simp] theorem ti55_size : ti55.size = 1 := rfl
@[simp] theorem ti55_bytes : ti55.bytes = 8 := rfl
def ti56 : TI := ⟨.func, 1, 8, .nilFunc⟩
theorem tiOk56 : TIOk Try.prog 56 ti56 := ⟨⟨_, _, _, Try.underlying56⟩, ⟨_, rfl, rfl, rfl, rfl⟩, rfl, rfl⟩
@[simp] theorem ti56_size : ti56.size = 1 := rfl
@[simp] theorem ti56_bytes : ti56.bytes = 8 := rfl
def ti57 : TI := ⟨.func, 1, 8, .nilFunc⟩
theorem tiOk57 : TIOk Try.prog 57 ti57 := ⟨⟨_, _, _, Try.underlying57⟩, ⟨_, rfl, rfl, rfl, rfl⟩, rfl, rfl⟩
@[simp] theorem ti57_size : ti57.size = 1 := rfl
@[simp] theorem ti57_bytes : ti57.bytes = 8 := rfl
def ti58 : TI := ⟨.slice 52, 1, 24, (.slice none 0 0)⟩
theorem tiOk58 : TIOk Try.prog 58 ti58 := ⟨Try.underlying58, ⟨_, rfl, rfl, rfl, rfl⟩, rfl, rfl⟩
@[simp] theorem ti58_size : ti58.size = 1 := rfl
@[simp] theorem ti58_bytes : ti58.bytes = 24 := rfl
def ti60 : TI := ⟨.func, 1, 8, .nilFunc⟩
theorem tiOk60 : TIOk Try.prog 60 ti60 := ⟨⟨_, _, _, Try.underlying60⟩, ⟨_, rfl, rfl, rfl, rfl⟩, rfl, rfl⟩
@[simp] theorem ti60_size : ti60.size = 1 := rfl
@[simp] theorem ti60_bytes : ti60.bytes = 8 := rfl
def ti61 : TI := ⟨.func, 1, 8, .nilFunc⟩
theorem tiOk61 : TIOk Try.prog 61 ti61 := ⟨⟨_, _, _, Try.underlying61⟩, ⟨_, rfl, rfl, rfl, rfl⟩, rfl, rfl⟩
@[simp] theorem ti61_size : ti61.size = 1 := rfl
@[simp] theorem ti61_bytes : ti61.bytes = 8 := rfl
def ti62 : TI := ⟨.func, 1, 8, .nilFunc⟩
theorem tiOk62 : TIOk Try.prog 62 ti62 := ⟨⟨_, _, _, Try.underlying62⟩, ⟨_, rfl, rfl, rfl, rfl⟩, rfl, rfl⟩
@[simp] theorem ti62_size : ti62.size = 1 := rfl
@[simp] theorem ti62_bytes : ti62.bytes = 8 := rfl
def ti64 : TI := ⟨.func, 1, 8, .nilFunc⟩
theorem tiOk64 : TIOk Try.prog 64 ti64 := ⟨⟨_, _, _, Try.underlying64⟩, ⟨_, rfl, rfl, rfl, rfl⟩, rfl, rfl⟩
@[simp] theorem ti64_size : ti64.size = 1 := rfl
@[simp] theorem ti64_bytes : ti64.bytes = 8 := rfl
def ti65 : TI := ⟨.func, 1, 8, .nilFunc⟩
theorem tiOk65 : TIOk Try.prog 65 ti65 := ⟨⟨_, _, _, Try.underlying65⟩, ⟨_, rfl, rfl, rfl, rfl⟩, rfl, rfl⟩
@[simp] theorem ti65_size : ti65.size = 1 := rfl
@[simp] theorem ti65_bytes : ti65.bytes = 8 := rfl
def ti66 : TI := ⟨.func, 1, 8, .nilFunc⟩
theorem tiOk66 : TIOk Try.prog 66 ti66 := ⟨⟨_, _, _, Try.underlying66⟩, ⟨_, rfl, rfl, rfl, rfl⟩, rfl, rfl⟩
@[simp] theorem ti66_size : ti66.size = 1 := rfl
@[simp] theorem ti66_bytes : ti66.bytes = 8 := rfl
def ti68 : TI := ⟨.func, 1, 8, .nilFunc⟩
theorem tiOk68 : TIOk Try.prog 68 ti68 := ⟨⟨_, _, _, Try.underlying68⟩, ⟨_, rfl, rfl, rfl, rfl⟩, rfl, rfl⟩
@[simp] theorem ti68_size : ti68.size = 1 := rfl
@[simp] theorem ti68_bytes : ti68.bytes = 8 := rfl
def ti69 : TI := ⟨.func, 1, 8, .nilFunc⟩
theorem tiOk69 : TIOk Try.prog 69 ti69 := ⟨⟨_, _, _, Try.underlying69⟩, ⟨_, rfl, rfl, rfl, rfl⟩, rfl, rfl⟩
@[simp] theorem ti69_size : ti69.size = 1 := rfl
@[simp] theorem ti69_bytes : ti69.bytes = 8 := rfl
def ti70 : TI := ⟨.slice 2, 1, 24, (.slice none 0 0)⟩
theorem tiOk70 : TIOk Try.prog 70 ti70 := ⟨Try.underlying70, ⟨_, rfl, rfl, rfl, rfl⟩, rfl, rfl⟩
@[simp] theorem ti70_size : ti70.size = 1 := rfl
@[simp] theorem ti70_bytes : ti70.bytes = 24 := rfl
def ti72 : TI := ⟨.func, 1, 8, .nilFunc⟩
theorem tiOk72 : TIOk Try.prog 72 ti72 := ⟨⟨_, _, _, Try.underlying72⟩, ⟨_, rfl, rfl, rfl, rfl⟩, rfl, rfl⟩
@[simp] theorem ti72_size : ti72.size = 1 := rfl
@[simp] theorem ti72_bytes : ti72.bytes = 8 := rfl
def ti73 : TI := ⟨.func, 1, 8, .nilFunc⟩
theorem tiOk73 : TIOk Try.prog 73 ti73 := ⟨⟨_, _, _, Try.underlying73⟩, ⟨_, rfl, rfl, rfl, rfl⟩, rfl, rfl⟩
@[simp] theorem ti73_size : ti73.size = 1 := rfl
@[simp] theorem ti73_bytes : ti73.bytes = 8 := rfl
def ti74 : TI := ⟨.func, 1, 8, .nilFunc⟩
theorem tiOk74 : TIOk Try.prog 74 ti74 := ⟨⟨_, _, _, Try.underlying74⟩, ⟨_, rfl, rfl, rfl, rfl⟩, rfl, rfl⟩
@[simp] theorem ti74_size : ti74.size = 1 := rfl
@[simp] theorem ti74_bytes : ti74.bytes = 8 := rfl
def ti75 : TI := ⟨.func, 1, 8, .nilFunc⟩
theorem tiOk75 : TIOk Try.prog 75 ti75 := ⟨⟨_, _, _, Try.underlying75⟩, ⟨_, rfl, rfl, rfl, rfl⟩, rfl, rfl⟩
@[simp] theorem ti75_size : ti75.size = 1 := rfl
@[simp] theorem ti75_bytes : ti75.bytes = 8 := rfl
def ti77 : TI := ⟨.func, 1, 8, .nilFunc⟩
theorem tiOk77 : TIOk Try.prog 77 ti77 := ⟨⟨_, _, _, Try.underlying77⟩, ⟨_, rfl, rfl, rfl, rfl⟩, rfl, rfl⟩
@[simp] theorem ti77_size : ti77.size = 1 := rfl
@[simp] theorem ti77_bytes : ti77.bytes = 8 := rfl
def ti78 : TI := ⟨.func, 1, 8, .nilFunc⟩
theorem tiOk78 : TIOk Try.prog 78 ti78 := ⟨⟨_, _, _, Try.underlying78⟩, ⟨_, rfl, rfl, rfl, rfl⟩, rfl, rfl⟩
@[simp] theorem ti78_size : ti78.size = 1 := rfl
@[simp] theorem ti78_bytes : ti78.bytes = 8 := rfl
def ti79 : TI := ⟨.func, 1, 8, .nilFunc⟩
theorem tiOk79 : TIOk Try.prog 79 ti79 := ⟨⟨_, _, _, Try.underlying79⟩, ⟨_, rfl, rfl, rfl, rfl⟩, rfl, rfl⟩
@[simp] theorem ti79_size : ti79.size = 1 := rfl
@[simp] theorem ti79_bytes : ti79.bytes = 8 := rfl
def ti80 : TI := ⟨.func, 1, 8, .nilFunc⟩
theorem tiOk80 : TIOk Try.prog 80 ti80 := ⟨⟨_, _, _, Try.underlying80⟩, ⟨_, rfl, rfl, rfl, rfl⟩, rfl, rfl⟩
@[simp] theorem ti80_size : ti80.size = 1 := rfl
@[simp] theorem ti80_bytes : ti80.bytes = 8 := rfl
def ti81 : TI := ⟨.slice 5, 1, 24, (.slice none 0 0)⟩
theorem tiOk81 : TIOk Try.prog 81 ti81 := ⟨Try.underlying81, ⟨_, rfl, rfl, rfl, rfl⟩, rfl, rfl⟩
@[simp] theorem ti81_size : ti81.size = 1 := rfl
@[simp] theorem ti81_bytes : ti81.bytes = 24 := rfl
def ti82 : TI := ⟨.func, 1, 8, .nilFunc⟩
theorem tiOk82 : TIOk Try.prog 82 ti82 := ⟨⟨_, _, _, Try.underlying82⟩, ⟨_, rfl, rfl, rfl, rfl⟩, rfl, rfl⟩
@[simp] theorem ti82_size : ti82.size = 1 := rfl
@[simp] theorem ti82_bytes : ti82.bytes = 8 := rfl
def ti83 : TI := ⟨.func, 1, 8, .nilFunc⟩
theorem tiOk83 : TIOk Try.prog 83 ti83 := ⟨⟨_, _, _, Try.underlying83⟩, ⟨_, rfl, rfl, rfl, rfl⟩, rfl, rfl⟩
@[simp] theorem ti83_size : ti83.size = 1 := rfl
@[simp] theorem ti83_bytes : ti83.bytes = 8 := rfl
def ti84 : TI := ⟨.ptr, 1, 8, (.pointer none)⟩
theorem tiOk84 : TIOk Try.prog 84 ti84 := ⟨⟨_, Try.underlying84⟩, ⟨_, rfl, rfl, rfl, rfl⟩, rfl, rfl⟩
@[simp] theorem ti84_size : ti84.size = 1 := rfl
@[simp] theorem ti84_bytes : ti84.bytes = 8 := rfl
def ti85 : TI := ⟨.ptr, 1, 8, (.pointer none)⟩
theorem tiOk85 : TIOk Try.prog 85 ti85 := ⟨⟨_, Try.underlying85⟩, ⟨_, rfl, rfl, rfl, rfl⟩, rfl, rfl⟩
@[simp] theorem ti85_size : ti85.size = 1 := rfl
@[simp] theorem ti85_bytes : ti85.bytes = 8 := rfl
def ti86 : TI := ⟨.func, 1, 8, .nilFunc⟩
theorem tiOk86 : TIOk Try.prog 86 ti86 := ⟨⟨_, _, _, Try.underlying86⟩, ⟨_, rfl, rfl, rfl, rfl⟩, rfl, rfl⟩
@[simp] theorem ti86_size : ti86.size = 1 := rfl
@[simp] theorem ti86_bytes : ti86.bytes = 8 := rfl
def ti87 : TI := ⟨.func, 1, 8, .nilFunc⟩
theorem tiOk87 : TIOk Try.prog 87 ti87 := ⟨⟨_, _, _, Try.underlying87⟩, ⟨_, rfl, rfl, rfl, rfl⟩, rfl, rfl⟩
@[simp] theorem ti87_size : ti87.size = 1 := rfl
@[simp] theorem ti87_bytes : ti87.bytes = 8 := rfl
def ti88 : TI := ⟨.func, 1, 8, .nilFunc⟩
theorem tiOk88 : TIOk Try.prog 88 ti88 := ⟨⟨_, _, _, Try.underlying88⟩, ⟨_, rfl, rfl, rfl, rfl⟩, rfl, rfl⟩
@[simp] theorem ti88_size : ti88.size = 1 := rfl
@[simp] theorem ti88_bytes : ti88.bytes = 8 := rfl
def ti89 : TI := ⟨.ptr, 1, 8, (.pointer none)⟩
theorem tiOk89 : TIOk Try.prog 89 ti89 := ⟨⟨_, Try.underlying89⟩, ⟨_, rfl, rfl, rfl, rfl⟩, rfl, rfl⟩
@[simp] theorem ti89_size : ti89.size = 1 := rfl
@[simp] theorem ti89_bytes : ti89.bytes = 8 := rfl
def ti90 : TI := ⟨.func, 1, 8, .nilFunc⟩
theorem tiOk90 : TIOk Try.prog 90 ti90 := ⟨⟨_, _, _, Try.underlying90⟩, ⟨_, rfl, rfl, rfl, rfl⟩, rfl, rfl⟩
@[simp] theorem ti90_size : ti90.size = 1 := rfl
@[simp] theorem ti90_bytes : ti90.bytes = 8 := rfl
def ti91 : TI := ⟨.func, 1, 8, .nilFunc⟩
theorem tiOk91 : TIOk Try.prog 91 ti91 := ⟨⟨_, _, _, Try.underlying91⟩, ⟨_, rfl, rfl, rfl, rfl⟩, rfl, rfl⟩
@[simp] theorem ti91_size : ti91.size = 1 := rfl
@[simp] theorem ti91_bytes : ti91.bytes = 8 := rfl
def ti92 : TI := ⟨.int .u64, 1, 8, (.int .u64 0)⟩
theorem tiOk92 : TIOk Try.prog 92 ti92 := ⟨Try.underlying92, ⟨_, rfl, rfl, rfl, rfl⟩, rfl, rfl⟩
@[simp] theorem ti92_size : ti92.size = 1 := rfl
@[simp] theorem ti92_bytes : ti92.bytes = 8 := rfl
def ti93 : TI := ⟨.func, 1, 8, .nilFunc⟩
theorem tiOk93 : TIOk Try.prog 93 ti93 := ⟨⟨_, _, _, Try.underlying93⟩, ⟨_, rfl, rfl, rfl, rfl⟩, rfl, rfl⟩
@[simp] theorem ti93_size : ti93.size = 1 := rfl
@[simp] theorem ti93_bytes : ti93.bytes = 8 := rfl
def ti94 : TI := ⟨.func, 1, 8, .nilFunc⟩
theorem tiOk94 : TIOk Try.prog 94 ti94 := ⟨⟨_, _, _, Try.underlying94⟩, ⟨_, rfl, rfl, rfl, rfl⟩, rfl, rfl⟩
@[simp] theorem ti94_size : ti94.size = 1 := rfl
@[simp] theorem ti94_bytes : ti94.bytes = 8 := rfl
def ti95 : TI := ⟨.func, 1, 8, .nilFunc⟩
theorem tiOk95 : TIOk Try.prog 95 ti95 := ⟨⟨_, _, _, Try.underlying95⟩, ⟨_, rfl, rfl, rfl, rfl⟩, rfl, rfl⟩
@[simp] theorem ti95_size : ti95.size = 1 := rfl
@[simp] theorem ti95_bytes : ti95.bytes = 8 := rfl
def ti96 : TI := ⟨.func, 1, 8, .nilFunc⟩
theorem tiOk96 : TIOk Try.prog 96 ti96 := ⟨⟨_, _, _, Try.underlying96⟩, ⟨_, rfl, rfl, rfl, rfl⟩, rfl, rfl⟩
@[simp] theorem ti96_size : ti96.size = 1 := rfl
@[simp] theorem ti96_bytes : ti96.bytes = 8 := rfl
def ti97 : TI := ⟨.func, 1, 8, .nilFunc⟩
theorem tiOk97 : TIOk Try.prog 97 ti97 := ⟨⟨_, _, _, Try.underlying97⟩, ⟨_, rfl, rfl, rfl, rfl⟩, rfl, rfl⟩
@[simp] theorem ti97_size : ti97.size = 1 := rfl
@[simp] theorem ti97_bytes : ti97.bytes = 8 := rfl
def ti98 : TI := ⟨.func, 1, 8, .nilFunc⟩
theorem tiOk98 : TIOk Try.prog 98 ti98 := ⟨⟨_, _, _, Try.underlying98⟩, ⟨_, rfl, rfl, rfl, rfl⟩, rfl, rfl⟩
@[simp] theorem ti98_size : ti98.size = 1 := rfl
@[simp] theorem ti98_bytes : ti98.bytes = 8 := rfl
def ti99 : TI := ⟨.func, 1, 8, .nilFunc⟩
theorem tiOk99 : TIOk Try.prog 99 ti99 := ⟨⟨_, _, _, Try.underlying99⟩, ⟨_, rfl, rfl, rfl, rfl⟩, rfl, rfl⟩
@[simp] theorem ti99_size : ti99.size = 1 := rfl
@[simp] theorem ti99_bytes : ti99.bytes = 8 := rfl
def ti100 : TI := ⟨.func, 1, 8, .nilFunc⟩
theorem tiOk100 : TIOk Try.prog 100 ti100 := ⟨⟨_, _, _, Try.underlying100⟩, ⟨_, rfl, rfl, rfl, rfl⟩, rfl, rfl⟩
@[simp] theorem ti100_size : ti100.size = 1 := rfl
@[simp] theorem ti100_bytes : ti100.bytes = 8 := rfl
def ti101 : TI := ⟨.func, 1, 8, .nilFunc⟩
theorem tiOk101 : TIOk Try.prog 101 ti101 := ⟨⟨_, _, _, Try.underlying101⟩, ⟨_, rfl, rfl, rfl, rfl⟩, rfl, rfl⟩
@[simp] theorem ti101_size : ti101.size = 1 := rfl
@[simp] theorem ti101_bytes : ti101.bytes = 8 := rfl
def ti102 : TI := ⟨.func, 1, 8, .nilFunc⟩
theorem tiOk102 : TIOk Try.prog 102 ti102 := ⟨⟨_, _, _, Try.underlying102⟩, ⟨_, rfl, rfl, rfl, rfl⟩, rfl, rfl⟩
@[simp] theorem ti102_size : ti102.size = 1 := rfl
@[simp] theorem ti102_bytes : ti102.bytes = 8 := rfl
def ti103 : TI := ⟨.slice 9, 1, 24, (.slice none 0 0)⟩
theorem tiOk103 : TIOk Try.prog 103 ti103 := ⟨Try.underlying103, ⟨_, rfl, rfl, rfl, rfl⟩, rfl, rfl⟩
@[simp] theorem ti103_size : ti103.size = 1 := rfl
@[simp] theorem ti103_bytes : ti103.bytes = 24 := rfl
def ti104 : TI := ⟨.func, 1, 8, .nilFunc⟩
theorem tiOk104 : TIOk Try.prog 104 ti104 := ⟨⟨_, _, _, Try.underlying104⟩, ⟨_, rfl, rfl, rfl, rfl⟩, rfl, rfl⟩
@[simp] theorem ti104_size : ti104.size = 1 := rfl
@[simp] theorem ti104_bytes : ti104.bytes = 8 := rfl
def ti106 : TI := ⟨.func, 1, 8, .nilFunc⟩
theorem tiOk106 : TIOk Try.prog 106 ti106 := ⟨⟨_, _, _, Try.underlying106⟩, ⟨_, rfl, rfl, rfl, rfl⟩, rfl, rfl⟩
@[simp] theorem ti106_size : ti106.size = 1 := rfl
@[simp] theorem ti106_bytes : ti106.bytes = 8 := rfl
def ti107 : TI := ⟨.func, 1, 8, .nilFunc⟩
theorem tiOk107 : TIOk Try.prog 107 ti107 := ⟨⟨_, _, _, Try.underlying107⟩, ⟨_, rfl, rfl, rfl, rfl⟩, rfl, rfl⟩
@[simp] theorem ti107_size : ti107.size = 1 := rfl
@[simp] theorem ti107_bytes : ti107.bytes = 8 := rfl
def ti108 : TI := ⟨.func, 1, 8, .nilFunc⟩
theorem tiOk108 : TIOk Try.prog 108 ti108 := ⟨⟨_, _, _, Try.underlying108⟩, ⟨_, rfl, rfl, rfl, rfl⟩, rfl, rfl⟩
@[simp] theorem ti108_size : ti108.size = 1 := rfl
@[simp] theorem ti108_bytes : ti108.bytes = 8 := rfl
def ti109 : TI := ⟨.func, 1, 8, .nilFunc⟩
theorem tiOk109 : TIOk Try.prog 109 ti109 := ⟨⟨_, _, _, Try.underlying109⟩, ⟨_, rfl, rfl, rfl, rfl⟩, rfl, rfl⟩
@[simp] theorem ti109_size : ti109.size = 1 := rfl
@[simp] theorem ti109_bytes : ti109.bytes = 8 := rfl
def ti110 : TI := ⟨.func, 1, 8, .nilFunc⟩
theorem tiOk110 : TIOk Try.prog 110 ti110 := ⟨⟨_, _, _, Try.underlying110⟩, ⟨_, rfl, rfl, rfl, rfl⟩, rfl, rfl⟩
@[simp] theorem ti110_size : ti110.size = 1 := rfl
@[simp] theorem ti110_bytes : ti110.bytes = 8 := rfl
def ti111 : TI := ⟨.func, 1, 8, .nilFunc⟩
theorem tiOk111 : TIOk Try.prog 111 ti111 := ⟨⟨_, _, _, Try.underlying111⟩, ⟨_, rfl, rfl, rfl, rfl⟩, rfl, rfl⟩
@[simp] theorem ti111_size : ti111.size = 1 := rfl
@[simp] theorem ti111_bytes : ti111.bytes = 8 := rfl
def ti112 : TI := ⟨.func, 1, 8, .nilFunc⟩
theorem tiOk112 : TIOk Try.prog 112 ti112 := ⟨⟨_, _, _, Try.underlying112⟩, ⟨_, rfl, rfl, rfl, rfl⟩, rfl, rfl⟩
@[simp] theorem ti112_size : ti112.size = 1 := rfl
@[simp] theorem ti112_bytes : ti112.bytes = 8 := rfl
def ti113 : TI := ⟨.func, 1, 8, .nilFunc⟩
theorem tiOk113 : TIOk Try.prog 113 ti113 := ⟨⟨_, _, _, Try.underlying113⟩, ⟨_, rfl, rfl, rfl, rfl⟩, rfl, rfl⟩
@[simp] theorem ti113_size : ti113.size = 1 := rfl
@[simp] theorem ti113_bytes : ti113.bytes = 8 := rfl
def ti114 : TI := ⟨.func, 1, 8, .nilFunc⟩
theorem tiOk114 : TIOk Try.prog 114 ti114 := ⟨⟨_, _, _, Try.underlying114⟩, ⟨_, rfl, rfl, rfl, rfl⟩, rfl, rfl⟩
@[simp] theorem ti114_size : ti114.size = 1 := rfl
@[simp] theorem ti114_bytes : ti114.bytes = 8 := rfl
def ti115 : TI := ⟨.func, 1, 8, .nilFunc⟩
theorem tiOk115 : TIOk Try.prog 115 ti115 := ⟨⟨_, _, _, Try.underlying115⟩, ⟨_, rfl, rfl, rfl, rfl⟩, rfl, rfl⟩
@[simp] theorem ti115_size : ti115.size = 1 := rfl
@[simp] theorem ti115_bytes : ti115.bytes = 8 := rfl
def ti116 : TI := ⟨.func, 1, 8, .nilFunc⟩
theorem tiOk116 : TIOk Try.prog 116 ti116 := ⟨⟨_, _, _, Try.underlying116⟩, ⟨_, rfl, rfl, rfl, rfl⟩, rfl, rfl⟩
@[simp] theorem ti116_size : ti116.size = 1 := rfl
@[simp] theorem ti116_bytes : ti116.bytes = 8 := rfl
def ti117 : TI := ⟨.func, 1, 8, .nilFunc⟩
theorem tiOk117 : TIOk Try.prog 117 ti117 := ⟨⟨_, _, _, Try.underlying117⟩, ⟨_, rfl, rfl, rfl, rfl⟩, rfl, rfl⟩
@[simp] theorem ti117_size : ti117.size = 1 := rfl
@[simp] theorem ti117_bytes : ti117.bytes = 8 := rfl
def ti118 : TI := ⟨.func, 1, 8, .nilFunc⟩
theorem tiOk118 : TIOk Try.prog 118 ti118 := ⟨⟨_, _, _, Try.underlying118⟩, ⟨_, rfl, rfl, rfl, rfl⟩, rfl, rfl⟩
@[simp] theorem ti118_size : ti118.size = 1 := rfl
@[simp] theorem ti118_bytes : ti118.bytes = 8 := rfl
def ti119 : TI := ⟨.func, 1, 8, .nilFunc⟩
theorem tiOk119 : TIOk Try.prog 119 ti119 := ⟨⟨_, _, _, Try.underlying119⟩, ⟨_, rfl, rfl, rfl, rfl⟩, rfl, rfl⟩
@[simp] theorem ti119_size : ti119.size = 1 := rfl
@[simp] theorem ti119_bytes : ti119.bytes = 8 := rfl
def ti121 : TI := ⟨.func, 1, 8, .nilFunc⟩
theorem tiOk121 : TIOk Try.prog 121 ti121 := ⟨⟨_, _, _, Try.underlying121⟩, ⟨_, rfl, rfl, rfl, rfl⟩, rfl, rfl⟩
@[simp] theorem ti121_size : ti121.size = 1 := rfl
@[simp] theorem ti121_bytes : ti121.bytes = 8 := rfl
def ti122 : TI := ⟨.func, 1, 8, .nilFunc⟩
theorem tiOk122 : TIOk Try.prog 122 ti122 := ⟨⟨_, _, _, Try.underlying122⟩, ⟨_, rfl, rfl, rfl, rfl⟩, rfl, rfl⟩
@[simp] theorem ti122_size : ti122.size = 1 := rfl
@[simp] theorem ti122_bytes : ti122.bytes = 8 := rfl
def ti123 : TI := ⟨.func, 1, 8, .nilFunc⟩
theorem tiOk123 : TIOk Try.prog 123 ti123 := ⟨⟨_, _, _, Try.underlying123⟩, ⟨_, rfl, rfl, rfl, rfl⟩, rfl, rfl⟩
@[simp] theorem ti123_size : ti123.size = 1 := rfl
@[simp] theorem ti123_bytes : ti123.bytes = 8 := rfl
def ti124 : TI := ⟨.func, 1, 8, .nilFunc⟩
theorem tiOk124 : TIOk Try.prog 124 ti124 := ⟨⟨_, _, _, Try.underlying124⟩, ⟨_, rfl, rfl, rfl, rfl⟩, rfl, rfl⟩
@[simp] theorem ti124_size : ti124.size = 1 := rfl
@[simp] theorem ti124_bytes : ti124.bytes = 8 := rfl
def ti125 : TI := ⟨.func, 1, 8, .nilFunc⟩
theorem tiOk125 : TIOk Try.prog 125 ti125 := ⟨⟨_, _, _, Try.underlying125⟩, ⟨_, rfl, rfl, rfl, rfl⟩, rfl, rfl⟩
@[simp] theorem ti125_size : ti125.size = 1 := rfl
@[simp] theorem ti125_bytes : ti125.bytes = 8 := rfl
def ti126 : TI := ⟨.func, 1, 8, .nilFunc⟩
theorem tiOk126 : TIOk Try.prog 126 ti126 := ⟨⟨_, _, _, Try.underlying126⟩, ⟨_, rfl, rfl, rfl, rfl⟩, rfl, rfl⟩
@[simp] theorem ti126_size : ti126.size = 1 := rfl
@[simp] theorem ti126_bytes : ti126.bytes = 8 := rfl
def ti127 : TI := ⟨.slice 3, 1, 24, (.slice none 0 0)⟩
theorem tiOk127 : TIOk Try.prog 127 ti127 := ⟨Try.underlying127, ⟨_, rfl, rfl, rfl, rfl⟩, rfl, rfl⟩
@[simp] theorem ti127_size : ti127.size = 1 := rfl
@[simp] theorem ti127_bytes : ti127.bytes = 24 := rfl
def ti128 : TI := ⟨.func, 1, 8, .nilFunc⟩
theorem tiOk128 : TIOk Try.prog 128 ti128 := ⟨⟨_, _, _, Try.underlying128⟩, ⟨_, rfl, rfl, rfl, rfl⟩, rfl, rfl⟩
@[simp] theorem ti128_size : ti128.size = 1 := rfl
@[simp] theorem ti128_bytes : ti128.bytes = 8 := rfl
def ti129 : TI := ⟨.func, 1, 8, .nilFunc⟩
theorem tiOk129 : TIOk Try.prog 129 ti129 := ⟨⟨_, _, _, Try.underlying129⟩, ⟨_, rfl, rfl, rfl, rfl⟩, rfl, rfl⟩
@[simp] theorem ti129_size : ti129.size = 1 := rfl
@[simp] theorem ti129_bytes : ti129.bytes = 8 := rfl
def ti130 : TI := ⟨.func, 1, 8, .nilFunc⟩
theorem tiOk130 : TIOk Try.prog 130 ti130 := ⟨⟨_, _, _, Try.underlying130⟩, ⟨_, rfl, rfl, rfl, rfl⟩, rfl, rfl⟩
@[simp] theorem ti130_size : ti130.size = 1 := rfl
@[simp] theorem ti130_bytes : ti130.bytes = 8 := rfl
def ti131 : TI := ⟨.func, 1, 8, .nilFunc⟩
theorem tiOk131 : TIOk Try.prog 131 ti131 := ⟨⟨_, _, _, Try.underlying131⟩, ⟨_, rfl, rfl, rfl, rfl⟩, rfl, rfl⟩
@[simp] theorem ti131_size : ti131.size = 1 := rfl
@[simp] theorem ti131_bytes : ti131.bytes = 8 := rfl
def ti132 : TI := ⟨.func, 1, 8, .nilFunc⟩
theorem tiOk132 : TIOk Try.prog 132 ti132 := ⟨⟨_, _, _, Try.underlying132⟩, ⟨_, rfl, rfl, rfl, rfl⟩, rfl, rfl⟩
@[simp] theorem ti132_size : ti132.size = 1 := rfl
@[simp] theorem ti132_bytes : ti132.bytes = 8 := rfl
def ti133 : TI := ⟨.func, 1, 8, .nilFunc⟩
theorem tiOk133 : TIOk Try.prog 133 ti133 := ⟨⟨_, _, _, Try.underlying133⟩, ⟨_, rfl, rfl, rfl, rfl⟩, rfl, rfl⟩
@[simp] theorem ti133_size : ti133.size = 1 := rfl
@[simp] theorem ti133_bytes : ti133.bytes = 8 := rfl
def ti134 : TI := ⟨.func, 1, 8, .nilFunc⟩
theorem tiOk134 : TIOk Try.prog 134 ti134 := ⟨⟨_, _, _, Try.underlying134⟩, ⟨_, rfl, rfl, rfl, rfl⟩, rfl, rfl⟩
@[simp] theorem ti134_size : ti134.size = 1 := rfl
@[simp] theorem ti134_bytes : ti134.bytes = 8 := rfl
def ti135 : TI := ⟨.func, 1, 8, .nilFunc⟩
theorem tiOk135 : TIOk Try.prog 135 ti135 := ⟨⟨_, _, _, Try.underlying135⟩, ⟨_, rfl, rfl, rfl, rfl⟩, rfl, rfl⟩
@[simp] theorem ti135_size : ti135.size = 1 := rfl
@[simp] theorem ti135_bytes : ti135.bytes = 8 := rfl
def ti136 : TI := ⟨.struct [(0, 17), (1, 17), (2, 17), (3, 9)], 4, 40, (.agg ⟨[(.pointer none), (.pointer none), (.pointer none)] ++ [(.string ⟨#[]⟩)]⟩)⟩
theorem tiOk136 : TIOk Try.prog 136 ti136 := ⟨⟨_, Try.underlying136, rfl⟩, ⟨_, rfl, rfl, rfl, rfl⟩, rfl, rfl⟩
@[simp] theorem ti136_size : ti136.size = 4 := rfl
@[simp] theorem ti136_bytes : ti136.bytes = 40 := rfl
def ti137 : TI := ⟨.struct [(0, 17), (1, 17), (2, 17), (3, 9)], 4, 40, (.agg ⟨[(.pointer none), (.pointer none), (.pointer none)] ++ [(.string ⟨#[]⟩)]⟩)⟩
theorem tiOk137 : TIOk Try.prog 137 ti137 := ⟨⟨_, Try.underlying137, rfl⟩, ⟨_, rfl, rfl, rfl, rfl⟩, rfl, rfl⟩
@[simp] theorem ti137_size : ti137.size = 4 := rfl
@[simp] theorem ti137_bytes : ti137.bytes = 40 := rfl
def ti138 : TI := ⟨.arr 0 16, 0, 0, (.agg ⟨[]⟩)⟩
theorem tiOk138 : TIOk Try.prog 138 ti138 := ⟨Try.underlying138, ⟨_, rfl, rfl, rfl, rfl⟩, rfl, rfl⟩
@[simp] theorem ti138_size : ti138.size = 0 := rfl
@[simp] theorem ti138_bytes : ti138.bytes = 0 := rfl
def ti139 : TI := ⟨.struct [(0, 138)], 0, 0, (.agg ⟨[]⟩)⟩
theorem tiOk139 : TIOk Try.prog 139 ti139 := ⟨⟨_, Try.underlying139, rfl⟩, ⟨_, rfl, rfl, rfl, rfl⟩, rfl, rfl⟩
@[simp] theorem ti139_size : ti139.size = 0 := rfl
@[simp] theorem ti139_bytes : ti139.bytes = 0 := rfl
def ti140 : TI := ⟨.struct [(0, 138)], 0, 0, (.agg ⟨[]⟩)⟩
theorem tiOk140 : TIOk Try.prog 140 ti140 := ⟨⟨_, Try.underlying140, rfl⟩, ⟨_, rfl, rfl, rfl, rfl⟩, rfl, rfl⟩
@[simp] theorem ti140_size : ti140.size = 0 := rfl
@[simp] theorem ti140_bytes : ti140.bytes = 0 := rfl
def ti141 : TI := ⟨.func, 1, 8, .nilFunc⟩
theorem tiOk141 : TIOk Try.prog 141 ti141 := ⟨⟨_, _, _, Try.underlying141⟩, ⟨_, rfl, rfl, rfl, rfl⟩, rfl, rfl⟩
@[simp] theorem ti141_size : ti141.size = 1 := rfl
@[simp] theorem ti141_bytes : ti141.bytes = 8 := rfl
def ti142 : TI := ⟨.int .u32, 1, 4, (.int .u32 0)⟩
theorem tiOk142 : TIOk Try.prog 142 ti142 := ⟨Try.underlying142, ⟨_, rfl, rfl, rfl, rfl⟩, rfl, rfl⟩
@[simp] theorem ti142_size : ti142.size = 1 := rfl
@[simp] theorem ti142_bytes : ti142.bytes = 4 := rfl
def ti143 : TI := ⟨.int .u8, 1, 1, (.int .u8 0)⟩
theorem tiOk143 : TIOk Try.prog 143 ti143 := ⟨Try.underlying143, ⟨_, rfl, rfl, rfl, rfl⟩, rfl, rfl⟩
@[simp] theorem ti143_size : ti143.size = 1 := rfl
@[simp] theorem ti143_bytes : ti143.bytes = 1 := rfl
def ti144 : TI := ⟨.int .u8, 1, 1, (.int .u8 0)⟩
theorem tiOk144 : TIOk Try.prog 144 ti144 := ⟨Try.underlying144, ⟨_, rfl, rfl, rfl, rfl⟩, rfl, rfl⟩
@[simp] theorem ti144_size : ti144.size = 1 := rfl
@[simp] theorem ti144_bytes : ti144.bytes = 1 := rfl
def ti145 : TI := ⟨.func, 1, 8, .nilFunc⟩
theorem tiOk145 : TIOk Try.prog 145 ti145 := ⟨⟨_, _, _, Try.underlying145⟩, ⟨_, rfl, rfl, rfl, rfl⟩, rfl, rfl⟩
@[simp] theorem ti145_size : ti145.size = 1 := rfl
@[simp] theorem ti145_bytes : ti145.bytes = 8 := rfl
def ti146 : TI := ⟨.ptr, 1, 8, (.pointer none)⟩
theorem tiOk146 : TIOk Try.prog 146 ti146 := ⟨⟨_, Try.underlying146⟩, ⟨_, rfl, rfl, rfl, rfl⟩, rfl, rfl⟩
@[simp] theorem ti146_size : ti146.size = 1 := rfl
@[simp] theorem ti146_bytes : ti146.bytes = 8 := rfl
def ti147 : TI := ⟨.int .i32, 1, 4, (.int .i32 0)⟩
theorem tiOk147 : TIOk Try.prog 147 ti147 := ⟨Try.underlying147, ⟨_, rfl, rfl, rfl, rfl⟩, rfl, rfl⟩
@[simp] theorem ti147_size : ti147.size = 1 := rfl
@[simp] theorem ti147_bytes : ti147.bytes = 4 := rfl
def ti148 : TI := ⟨.int .i32, 1, 4, (.int .i32 0)⟩
theorem tiOk148 : TIOk Try.prog 148 ti148 := ⟨Try.underlying148, ⟨_, rfl, rfl, rfl, rfl⟩, rfl, rfl⟩
@[simp] theorem ti148_size : ti148.size = 1 := rfl
@[simp] theorem ti148_bytes : ti148.bytes = 4 := rfl
def ti149 : TI := ⟨.struct [(0, 12), (1, 12), (2, 142), (3, 143), (4, 5), (5, 5), (6, 144), (7, 145), (8, 146), (9, 147), (10, 148)], 11, 48, (.agg ⟨[(.int .u64 0), (.int .u64 0)] ++ [(.int .u32 0)] ++ [(.int .u8 0), (.int .u8 0), (.int .u8 0), (.int .u8 0)] ++ [.nilFunc] ++ [(.pointer none)] ++ [(.int .i32 0), (.int .i32 0)]⟩)⟩
theorem tiOk149 : TIOk Try.prog 149 ti149 := ⟨⟨_, Try.underlying149, rfl⟩, ⟨_, rfl, rfl, rfl, rfl⟩, rfl, rfl⟩
@[simp] theorem ti149_size : ti149.size = 11 := rfl
@[simp] theorem ti149_bytes : ti149.bytes = 48 := rfl
def ti150 : TI := ⟨.struct [(0, 12), (1, 12), (2, 142), (3, 143), (4, 5), (5, 5), (6, 144), (7, 145), (8, 146), (9, 147), (10, 148)], 11, 48, (.agg ⟨[(.int .u64 0), (.int .u64 0)] ++ [(.int .u32 0)] ++ [(.int .u8 0), (.int .u8 0), (.int .u8 0), (.int .u8 0)] ++ [.nilFunc] ++ [(.pointer none)] ++ [(.int .i32 0), (.int .i32 0)]⟩)⟩
theorem tiOk150 : TIOk Try.prog 150 ti150 := ⟨⟨_, Try.underlying150, rfl⟩, ⟨_, rfl, rfl, rfl, rfl⟩, rfl, rfl⟩
@[simp] theorem ti150_size : ti150.size = 11 := rfl
@[simp] theorem ti150_bytes : ti150.bytes = 48 := rfl
def tlist : List (Nat × TI) := [(1, ti1), (2, ti2), (3, ti3), (4, ti4), (5, ti5), (6, ti6), (7, ti7), (8, ti8), (9, ti9), (10, ti10), (11, ti11), (12, ti12), (13, ti13), (14, ti14), (15, ti15), (16, ti16), (17, ti17), (18, ti18), (19, ti19), (21, ti21), (22, ti22), (23, ti23), (24, ti24), (25, ti25), (26, ti26), (27, ti27), (28, ti28), (29, ti29), (30, ti30), (31, ti31), (32, ti32), (33, ti33), (34, ti34), (35, ti35), (36, ti36), (37, ti37), (39, ti39), (40, ti40), (41, ti41), (43, ti43), (44, ti44), (45, ti45), (46, ti46), (47, ti47), (49, ti49), (50, ti50), (51, ti51), (52, ti52), (54, ti54), (55, ti55), (56, ti56), (57, ti57), (58, ti58), (60, ti60), (61, ti61), (62, ti62), (64, ti64), (65, ti65), (66, ti66), (68, ti68), (69, ti69), (70, ti70), (72, ti72), (73, ti73), (74, ti74), (75, ti75), (77, ti77), (78, ti78), (79, ti79), (80, ti80), (81, ti81), (82, ti82), (83, ti83), (84, ti84), (85, ti85), (86, ti86), (87, ti87), (88, ti88), (89, ti89), (90, ti90), (91, ti91), (92, ti92), (93, ti93), (94, ti94), (95, ti95), (96, ti96), (97, ti97), (98, ti98), (99, ti99), (100, ti100), (101, ti101), (102, ti102), (103, ti103), (104, ti104), (106, ti106), (107, ti107), (108, ti108), (109, ti109), (110, ti110), (111, ti111), (112, ti112), (113, ti113), (114, ti114), (115, ti115), (116, ti116), (117, ti117), (118, ti118), (119, ti119), (121, ti121), (122, ti122), (123, ti123), (124, ti124), (125, ti125), (126, ti126), (127, ti127), (128, ti128), (129, ti129), (130, ti130), (131, ti131), (132, ti132), (133, ti133), (134, ti134), (135, ti135), (136, ti136), (137, ti137), (138, ti138), (139, ti139), (140, ti140), (141, ti141), (142, ti142), (143, ti143), (144, ti144), (145, ti145), (146, ti146), (147, ti147), (148, ti148), (149, ti149), (150, ti150)]
def tt : Types := lk tlist
theorem tOk : TOk Try.prog tt := TOk.of_list (by
  simp only [tlist, ListOk]
  exact ⟨tiOk1, tiOk2, tiOk3, tiOk4, tiOk5, tiOk6, tiOk7, tiOk8, tiOk9, tiOk10, tiOk11, tiOk12, tiOk13, tiOk14, tiOk15, tiOk16, tiOk17, tiOk18, tiOk19, tiOk21, tiOk22, tiOk23, tiOk24, tiOk25, tiOk26, tiOk27, tiOk28, tiOk29, tiOk30, tiOk31, tiOk32, tiOk33, tiOk34, tiOk35, tiOk36, tiOk37, tiOk39, tiOk40, tiOk41, tiOk43, tiOk44, tiOk45, tiOk46, tiOk47, tiOk49, tiOk50, tiOk51, tiOk52, tiOk54, tiOk55, tiOk56, tiOk57, tiOk58, tiOk60, tiOk61, tiOk62, tiOk64, tiOk65, tiOk66, tiOk68, tiOk69, tiOk70, tiOk72, tiOk73, tiOk74, tiOk75, tiOk77, tiOk78, tiOk79, tiOk80, tiOk81, tiOk82, tiOk83, tiOk84, tiOk85, tiOk86, tiOk87, tiOk88, tiOk89, tiOk90, tiOk91, tiOk92, tiOk93, tiOk94, tiOk95, tiOk96, tiOk97, tiOk98, tiOk99, tiOk100, tiOk101, tiOk102, tiOk103, tiOk104, tiOk106, tiOk107, tiOk108, tiOk109, tiOk110, tiOk111, tiOk112, tiOk113, tiOk114, tiOk115, tiOk116, tiOk117, tiOk118, tiOk119, tiOk121, tiOk122, tiOk123, tiOk124, tiOk125, tiOk126, tiOk127, tiOk128, tiOk129, tiOk130, tiOk131, tiOk132, tiOk133, tiOk134, tiOk135, tiOk136, tiOk137, tiOk138, tiOk139, tiOk140, tiOk141, tiOk142, tiOk143, tiOk144, tiOk145, tiOk146, tiOk147, tiOk148, tiOk149, tiOk150, trivial⟩)
theorem hMix : Try.prog.follows .mixedOrders = true := by kernel_rfl
end Go.Proofs.Ytlpgfemmbnkaiaa
