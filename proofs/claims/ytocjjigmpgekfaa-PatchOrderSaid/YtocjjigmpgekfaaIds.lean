/- The numbers of the functions in the translation, and a few words. -/
import Derived.Test.YtocjjigmpgekfaaProg
import Derived.Test.YtocjjigmpgekfaaDen
open Go Go.Den Go.Proofs
namespace Go.Proofs.Ytocjjigmpgekfaa

abbrev F_leveelaw11_PatchOrder : Nat := 3
abbrev F_disk_New : Nat := 4
abbrev F_patch_Open : Nat := 5
abbrev F_leveeref01_Count : Nat := 6
abbrev F_patch_Store_Write : Nat := 7
abbrev F_patch_Store_Flush : Nat := 8
abbrev F_patch_Store_Patch : Nat := 9
abbrev F_patch_Store_Safe : Nat := 10
abbrev F_disk_Disk_Crash : Nat := 11
abbrev F_disk_Disk_Read : Nat := 12
abbrev F_leveelaw11_known : Nat := 13
abbrev F_cache_New : Nat := 14
abbrev F_disk_Disk_Len : Nat := 15
abbrev F_patch_Store_Image : Nat := 16
abbrev F_cache_Cache_Write : Nat := 17
abbrev F_patch_Store_may : Nat := 18
abbrev F_cache_Cache_Flush : Nat := 19
abbrev F_patch_on_with : Nat := 20
abbrev F_patch_Store_Flush_1 : Nat := 21
abbrev F_slices_DeleteFunc_patch_change : Nat := 22
abbrev F_patch_Store_Flush_2 : Nat := 23
abbrev F_cache_Cache_Unpin : Nat := 24
abbrev F_slices_ContainsFunc_int64 : Nat := 25
abbrev F_patch_Store_Patch_1 : Nat := 26
abbrev F_patch_Store_given : Nat := 27
abbrev F_cache_Cache_Read : Nat := 28
abbrev F_cache_Cache_Pin : Nat := 29
abbrev F_num_Lay : Nat := 30
abbrev F_cache_Cache_Lay : Nat := 31
abbrev F_slices_Clone_byte : Nat := 32
abbrev F_disk_Disk_Open : Nat := 33
abbrev F_disk_Disk_may : Nat := 34
abbrev F_disk_Disk_last : Nat := 35
abbrev F_patch_Store_Read : Nat := 36
abbrev F_patch_Store_Ready : Nat := 37
abbrev F_patch_Store_Open : Nat := 38
abbrev F_patch_Store_Image_1 : Nat := 39
abbrev F_cache_Cache_may : Nat := 40
abbrev F_cache_Cache_ask : Nat := 41
abbrev F_disk_Disk_Write : Nat := 42
abbrev F_patch_Store_may_1 : Nat := 43
abbrev F_slices_ContainsFunc_patch_change : Nat := 44
abbrev F_patch_Store_may_2 : Nat := 45
abbrev F_patch_change_meets : Nat := 46
abbrev F_disk_Disk_Flush : Nat := 47
abbrev F_slices_IndexFunc_patch_change : Nat := 48
abbrev F_cache_Cache_held : Nat := 49
abbrev F_slices_IndexFunc_int64 : Nat := 50
abbrev F_num_within : Nat := 51
abbrev F_slices_Sort_int : Nat := 52
abbrev F_slices_Contains_int : Nat := 53
abbrev F_slices_DeleteFunc_int : Nat := 54
abbrev F_cache_Cache_ask_1 : Nat := 55
abbrev F_cache_Cache_room : Nat := 56
abbrev F_disk_Disk_goes : Nat := 57
abbrev F_slices_pdqsortOrdered_int : Nat := 58
abbrev F_bits_Len : Nat := 59
abbrev F_slices_Index_int : Nat := 60
abbrev F_slices_IndexFunc_int : Nat := 61
abbrev F_cache_Cache_room_1 : Nat := 62
abbrev F_cache_Cache_dirty : Nat := 63
abbrev F_cache_Cache_out : Nat := 64
abbrev F_slices_insertionSortOrdered_int : Nat := 65
abbrev F_slices_heapSortOrdered_int : Nat := 66
abbrev F_slices_breakPatternsOrdered_int : Nat := 67
abbrev F_slices_choosePivotOrdered_int : Nat := 68
abbrev F_slices_reverseRangeOrdered_int : Nat := 69
abbrev F_slices_partialInsertionSortOrdered_int : Nat := 70
abbrev F_cmp_Less_int : Nat := 71
abbrev F_slices_partitionEqualOrdered_int : Nat := 72
abbrev F_slices_partitionOrdered_int : Nat := 73
abbrev F_bits_Len32 : Nat := 74
abbrev F_bits_Len64 : Nat := 75
abbrev F_num_Diff : Nat := 76
abbrev F_cache_Cache_out_1 : Nat := 77
abbrev F_slices_siftDownOrdered_int : Nat := 78
abbrev F_slices_nextPowerOfTwo : Nat := 79
abbrev F_slices_xorshift_Next : Nat := 80
abbrev F_slices_medianAdjacentOrdered_int : Nat := 81
abbrev F_slices_medianOrdered_int : Nat := 82
abbrev F_cmp_isNaN_int : Nat := 83
abbrev F_slices_order2Ordered_int : Nat := 84
abbrev Ru (s : Sem Value) (w : World) (v : Value) (w2 : World) : Prop := s.run Try.prog w = .ok v w2
abbrev RuU (s : Sem Unit) (w w2 : World) : Prop := s.run Try.prog w = .ok () w2
abbrev Al (s : Sem Value) (v : Value) : Prop := ∀ w, s.run Try.prog w = .ok v w
abbrev bvAnd (n : Nat) (a b : Int) : Int := (BitVec.ofInt n a &&& BitVec.ofInt n b).toNat
abbrev bvOr (n : Nat) (a b : Int) : Int := (BitVec.ofInt n a ||| BitVec.ofInt n b).toNat
abbrev bvXor (n : Nat) (a b : Int) : Int := (BitVec.ofInt n a ^^^ BitVec.ofInt n b).toNat
abbrev bvAndNot (n : Nat) (a b : Int) : Int := (BitVec.ofInt n a &&& ~~~(BitVec.ofInt n b)).toNat
theorem mixed : Try.prog.follows .mixedOrders = true := by kernel_rfl

end Go.Proofs.Ytocjjigmpgekfaa
