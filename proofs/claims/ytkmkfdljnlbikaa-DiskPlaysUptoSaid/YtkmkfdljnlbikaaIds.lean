/- The numbers of the functions in the translation, and a few words. -/
import Derived.Test.YtkmkfdljnlbikaaProg
import Derived.Test.YtkmkfdljnlbikaaDen
open Go Go.Den Go.Proofs
namespace Go.Proofs.Ytkmkfdljnlbikaa

abbrev F_leveelaw09_PtrWays : Nat := 3
abbrev F_leveelaw09_PtrNames : Nat := 4
abbrev F_leveelaw09_PtrBack : Nat := 5
abbrev F_leveelaw02_DiskSafe : Nat := 6
abbrev F_leveelaw02_DiskLoads : Nat := 7
abbrev F_leveelaw02_DiskPlays : Nat := 8
abbrev F_ptr_Of : Nat := 9
abbrev F_leveeref09_Of : Nat := 10
abbrev F_ptr_Back : Nat := 11
abbrev F_leveelaw09_given : Nat := 12
abbrev F_leveeref09_Back : Nat := 13
abbrev F_ptr_Span : Nat := 14
abbrev F_leveeref09_Span : Nat := 15
abbrev F_leveelaw09_taken : Nat := 16
abbrev F_ptr_Need : Nat := 17
abbrev F_leveeref09_Need : Nat := 18
abbrev F_leveelaw09_known : Nat := 19
abbrev F_leveeref01_Lent : Nat := 20
abbrev F_ptr_Names : Nat := 21
abbrev F_leveeref09_Names : Nat := 22
abbrev F_ptr_Lay : Nat := 23
abbrev F_leveeref09_Lay : Nat := 24
abbrev F_leveeref01_Ints : Nat := 25
abbrev F_leveeref01_Kept : Nat := 26
abbrev F_leveeref01_Spoil : Nat := 27
abbrev F_leveelaw02_known : Nat := 28
abbrev F_disk_New : Nat := 29
abbrev F_disk_Disk_Write : Nat := 30
abbrev F_leveeref01_Fill : Nat := 31
abbrev F_disk_Disk_Flush : Nat := 32
abbrev F_disk_Disk_Crash : Nat := 33
abbrev F_disk_Disk_Read : Nat := 34
abbrev F_disk_Load : Nat := 35
abbrev F_leveeref02_Load : Nat := 36
abbrev F_disk_Disk_Bytes : Nat := 37
abbrev F_leveelaw02_same : Nat := 38
abbrev F_leveeref02_New : Nat := 39
abbrev F_disk_Disk_Copy : Nat := 40
abbrev F_leveelaw02_do : Nat := 41
abbrev F_leveeref02_Disk_Bytes : Nat := 42
abbrev F_disk_Disk_Len : Nat := 43
abbrev F_ptr_place : Nat := 44
abbrev F_ptr_within_int64 : Nat := 45
abbrev F_num_Get : Nat := 46
abbrev F_leveeref01_Get : Nat := 47
abbrev F_num_Put : Nat := 48
abbrev F_leveeref01_Lay : Nat := 49
abbrev F_leveeref01_Bytes : Nat := 50
abbrev F_disk_Disk_Writes : Nat := 51
abbrev F_disk_Disk_may : Nat := 52
abbrev F_disk_Disk_goes : Nat := 53
abbrev F_disk_Disk_Open : Nat := 54
abbrev F_disk_Disk_last : Nat := 55
abbrev F_leveeref02_Disk_Read : Nat := 56
abbrev F_disk_Disk_Safe : Nat := 57
abbrev F_leveeref02_Disk_Safe : Nat := 58
abbrev F_leveeref02_Disk_Open : Nat := 59
abbrev F_leveeref02_Disk_Writes : Nat := 60
abbrev F_disk_Disk_Stopped : Nat := 61
abbrev F_leveeref02_Disk_Stopped : Nat := 62
abbrev F_leveeref02_none : Nat := 63
abbrev F_slices_Clone_disk_block : Nat := 64
abbrev F_leveeref02_Disk_Write : Nat := 65
abbrev F_leveeref02_Disk_Flush : Nat := 66
abbrev F_leveeref02_Disk_Crash : Nat := 67
abbrev F_disk_Disk_Stop : Nat := 68
abbrev F_leveeref02_Disk_Stop : Nat := 69
abbrev F_ptr_within_int : Nat := 70
abbrev F_slices_Sort_int : Nat := 71
abbrev F_leveeref02_Disk_there : Nat := 72
abbrev F_leveeref02_Disk_goes : Nat := 73
abbrev F_slices_pdqsortOrdered_int : Nat := 74
abbrev F_bits_Len : Nat := 75
abbrev F_slices_insertionSortOrdered_int : Nat := 76
abbrev F_slices_heapSortOrdered_int : Nat := 77
abbrev F_slices_breakPatternsOrdered_int : Nat := 78
abbrev F_slices_choosePivotOrdered_int : Nat := 79
abbrev F_slices_reverseRangeOrdered_int : Nat := 80
abbrev F_slices_partialInsertionSortOrdered_int : Nat := 81
abbrev F_cmp_Less_int : Nat := 82
abbrev F_slices_partitionEqualOrdered_int : Nat := 83
abbrev F_slices_partitionOrdered_int : Nat := 84
abbrev F_bits_Len32 : Nat := 85
abbrev F_bits_Len64 : Nat := 86
abbrev F_slices_siftDownOrdered_int : Nat := 87
abbrev F_slices_nextPowerOfTwo : Nat := 88
abbrev F_slices_xorshift_Next : Nat := 89
abbrev F_slices_medianAdjacentOrdered_int : Nat := 90
abbrev F_slices_medianOrdered_int : Nat := 91
abbrev F_cmp_isNaN_int : Nat := 92
abbrev F_slices_order2Ordered_int : Nat := 93
abbrev Ru (s : Sem Value) (w : World) (v : Value) (w2 : World) : Prop := s.run Try.prog w = .ok v w2
abbrev RuU (s : Sem Unit) (w w2 : World) : Prop := s.run Try.prog w = .ok () w2
abbrev Al (s : Sem Value) (v : Value) : Prop := ∀ w, s.run Try.prog w = .ok v w
abbrev bvAnd (n : Nat) (a b : Int) : Int := (BitVec.ofInt n a &&& BitVec.ofInt n b).toNat
abbrev bvOr (n : Nat) (a b : Int) : Int := (BitVec.ofInt n a ||| BitVec.ofInt n b).toNat
abbrev bvXor (n : Nat) (a b : Int) : Int := (BitVec.ofInt n a ^^^ BitVec.ofInt n b).toNat
abbrev bvAndNot (n : Nat) (a b : Int) : Int := (BitVec.ofInt n a &&& ~~~(BitVec.ofInt n b)).toNat
theorem mixed : Try.prog.follows .mixedOrders = true := by kernel_rfl

end Go.Proofs.Ytkmkfdljnlbikaa
