/- What functions of the translation come to, as printed by a program of this session. -/
import Derived.Test.YtgcecmfjpljpcaaIds
open Go Go.Den Go.Proofs
namespace Go.Proofs.Ytgcecmfjpljpcaa

/- levee.leveelaw11.PatchNil: slots {4: ''};  -/
set_option maxRecDepth 100000 in
def D_leveelaw11_PatchNil (n0 : Int) (a1 : Option Addr) (l1 c1 : Nat) (w0 : World) (K : Value → World → Prop) : Prop :=
 Cal Try.prog F_patch_Open #[.pointer none, .int .i64 4] w0 fun r17 w1 => ∃ p17a : Option Addr, ∃ n17b : Int, r17 = .tuple #[.pointer p17a, .int .i64 n17b] ∧ Cal Try.prog F_patch_Store_Read #[.pointer none, .int .i64 n0] w1 fun r23 w2 => ∃ (a23a : Option Addr) (l23a c23a : Nat), ∃ n23b : Int, r23 = .tuple #[.slice a23a l23a c23a, .int .i64 n23b] ∧ Cal Try.prog F_patch_Store_Patch #[.pointer none, .int .i64 n0, .int .i64 0, .slice a1 l1 c1, .slice none 0 0] w2 fun r30 w3 => ∃ n30a : Int, ∃ n30b : Int, r30 = .tuple #[.int .i64 n30a, .int .i64 n30b] ∧ Cal Try.prog F_patch_Store_Image #[.pointer none, .int .i64 n0] w3 fun r36 w4 => ∃ (a36a : Option Addr) (l36a c36a : Nat), ∃ n36b : Int, r36 = .tuple #[.slice a36a l36a c36a, .int .i64 n36b] ∧ Cal Try.prog F_patch_Store_Block #[.pointer none, .int .i64 1] w4 fun r41 w5 => ∃ n41a : Int, ∃ n41b : Int, r41 = .tuple #[.int .i64 n41a, .int .i64 n41b] ∧ Share (fun k => (bif Option.isNone p17a then (bif n17b == 2 then (bif n23b == 2 then (bif n30b == 2 then (bif n36b == 2 then (bif n41b == 2 then Cal Try.prog F_patch_Store_Write #[.pointer none, .int .i64 n0] w5 fun r69 w6 => ∃ n69 : Int, r69 = .int .i64 n69 ∧ (bif n69 == 2 then Cal Try.prog F_patch_Store_Flush #[.pointer none] w6 fun r74 w7 => ∃ n74 : Int, r74 = .int .i64 n74 ∧ (bif n74 == 2 then Cal Try.prog F_patch_Store_Safe #[.pointer none, .int .i64 1] w7 fun r79 w8 => ∃ b79 : Bool, r79 = .bool b79 ∧ (bif !b79 then Cal Try.prog F_patch_Store_Open #[.pointer none] w8 fun r84 w9 => ∃ n84 : Int, r84 = .int .i64 n84 ∧ (bif n84 == 0 then Cal Try.prog F_patch_Store_Dirty #[.pointer none] w9 fun r89 w10 => ∃ (a89 : Option Addr) (l89 c89 : Nat), r89 = .slice a89 l89 c89 ∧ (bif (l89 : Int) == 0 then Cal Try.prog F_patch_Store_Ready #[.pointer none, .int .i64 n0] w10 fun r96 w11 => ∃ n96 : Int, r96 = .int .i64 n96 ∧ (bif n96 == 0 then Cal Try.prog F_patch_Store_Waits #[.pointer none, .int .i64 1] w11 fun r101 w12 => ∃ (a101 : Option Addr) (l101 c101 : Nat), r101 = .slice a101 l101 c101 ∧ (bif (l101 : Int) == 0 then Cal Try.prog F_patch_Store_Len #[.pointer none] w12 fun r107 w13 => ∃ n107 : Int, r107 = .int .i64 n107 ∧ (bif n107 == 0 then Cal Try.prog F_leveelaw11_known #[] w13 fun r111 w14 => ∃ b111 : Bool, r111 = .bool b111 ∧ k [.bool b111] w14 else k [.bool false] w13) else k [.bool false] w12) else k [.bool false] w11) else k [.bool false] w10) else k [.bool false] w9) else k [.bool false] w8) else k [.bool false] w7) else k [.bool false] w6) else k [.bool false] w5) else k [.bool false] w5) else k [.bool false] w5) else k [.bool false] w5) else k [.bool false] w5) else k [.bool false] w5)) fun x w15 =>
 ∃ b4 : Bool, nth x 0 = .bool b4 ∧ K (.bool b4) w15
set_option maxRecDepth 100000 in
theorem C_leveelaw11_PatchNil (n0 : Int) (a1 : Option Addr) (l1 c1 : Nat) (w0 : World) (K : Value → World → Prop) (h : D_leveelaw11_PatchNil n0 a1 l1 c1 w0 K) : Cal Try.prog F_leveelaw11_PatchNil #[.int .i64 n0, .slice a1 l1 c1] w0 K :=
 denF_sound (A := { S := [4], ty := [(4, 4)], raw := [] }) mixed Try.func9 (by kernel_rfl) (by kernel_rfl) ((show denF Try.prog _ Try.f9 _ w0 K = D_leveelaw11_PatchNil n0 a1 l1 c1 w0 K by kernel_rfl).mpr h)

/- levee.patch.Open: slots {};  -/
set_option maxRecDepth 100000 in
def D_patch_Open (p0 : Option Addr) (n1 : Int) (w0 : World) (K : Value → World → Prop) : Prop :=
 Cal Try.prog F_cache_New #[.pointer p0, .int .i64 n1] w0 fun r11 w1 => ∃ p11a : Option Addr, ∃ n11b : Int, r11 = .tuple #[.pointer p11a, .int .i64 n11b] ∧ (bif n11b != 0 then
 K (.tuple #[.pointer none, .int .i64 n11b]) w1
 else
 Cal Try.prog F_disk_Disk_Len #[.pointer p0] w1 fun r19 w2 => ∃ n19 : Int, r19 = .int .i64 n19 ∧ ∃ m20 : Option Nat, ∃ w3 : World, Ru (Instr.makeMap 118 none) w2 (.map m20) w3 ∧ ∃ m21 : Option Nat, ∃ w4 : World, Ru (Instr.makeMap 119 none) w3 (.map m21) w4 ∧ ∃ g22 : Array Value, Al (Instr.build 121 #[(0, .pointer p11a), (1, .int .i64 n19), (3, .map m20), (4, .map m21)]) (.agg g22) ∧ ∃ q23 : Addr, ∃ w5 : World, Ru (Instr.box 121 (.agg g22)) w4 (.pointer (some q23)) w5 ∧ K (.tuple #[.pointer (some q23), .int .i64 0]) w5)
set_option maxRecDepth 100000 in
theorem C_patch_Open (p0 : Option Addr) (n1 : Int) (w0 : World) (K : Value → World → Prop) (h : D_patch_Open p0 n1 w0 K) : Cal Try.prog F_patch_Open #[.pointer p0, .int .i64 n1] w0 K :=
 denF_sound (A := { S := [], ty := [], raw := [] }) mixed Try.func35 (by kernel_rfl) (by kernel_rfl) ((show denF Try.prog _ Try.f35 _ w0 K = D_patch_Open p0 n1 w0 K by kernel_rfl).mpr h)

/- (levee.patch.Store).Write: slots {6: 'why', 13: '', 68: ''}; loop over [68] -/
set_option maxRecDepth 100000 in
def D_patch_Store_Write (p0 : Option Addr) (n1 : Int) (w0 : World) (K : Value → World → Prop) : Prop :=
 (bif Option.isNone p0 then
 K (.int .i64 2) w0
 else
 Share (fun k => (bif decide (n1 < 0) then k [.bool true] w0 else ∃ q19 : Addr, (.pointer p0 : Value) = .pointer (some q19) ∧ ∃ n21 : Int, Ru (Instr.loadAt 3 (.pointer (some (Addr.add q19 1)))) w0 (.int .i64 n21) w0 ∧ k [.bool (decide (n1 ≥ n21))] w0)) fun x w1 =>
 ∃ b13 : Bool, nth x 0 = .bool b13 ∧ (bif b13 then
 K (.int .i64 3) w1
 else
 ∃ q26 : Addr, (.pointer p0 : Value) = .pointer (some q26) ∧ ∃ m28 : Option Nat, Ru (Instr.loadAt 119 (.pointer (some (Addr.add q26 4)))) w1 (.map m28) w1 ∧ ∃ p30 : Option Addr, Ru (Instr.lookup 119 (.map m28) (.int .i64 n1) false) w1 (.pointer p30) w1 ∧ (bif Option.isNone p30 then
 K (.int .i64 20) w1
 else
 Cal Try.prog F_patch_Store_Image #[.pointer p0, .int .i64 n1] w1 fun r35 w2 => ∃ (a35a : Option Addr) (l35a c35a : Nat), ∃ n35b : Int, r35 = .tuple #[.slice a35a l35a c35a, .int .i64 n35b] ∧ Share (fun k_2 => (bif n35b == 0 then
 ∃ q41 : Addr, (.pointer p0 : Value) = .pointer (some q41) ∧ ∃ p43 : Option Addr, Ru (Instr.loadAt 28 (.pointer (some (Addr.add q41 0)))) w2 (.pointer p43) w2 ∧ Cal Try.prog F_cache_Cache_Write #[.pointer p43, .int .i64 n1, .slice a35a l35a c35a] w2 fun r46 w3 => ∃ n46 : Int, r46 = .int .i64 n46 ∧ k_2 [.int .i64 n46] w3
 else
 k_2 [.int .i64 n35b] w2)) fun x_2 w4 =>
 ∃ n6 : Int, nth x_2 0 = .int .i64 n6 ∧ (bif n6 != 0 then
 K (.int .i64 n6) w4
 else
 ∃ q52 : Addr, (.pointer p0 : Value) = .pointer (some q52) ∧ ∃ m54 : Option Nat, Ru (Instr.loadAt 119 (.pointer (some (Addr.add q52 4)))) w4 (.map m54) w4 ∧ ∃ p56 : Option Addr, Ru (Instr.lookup 119 (.map m54) (.int .i64 n1) false) w4 (.pointer p56) w4 ∧ Cal Try.prog F_patch_Store_may #[.pointer p0, .pointer p56] w4 fun r57 w5 => ∃ m57 : Option Nat, r57 = .map m57 ∧ ∃ q59 : Addr, (.pointer p0 : Value) = .pointer (some q59) ∧ ∃ m61 : Option Nat, Ru (Instr.loadAt 119 (.pointer (some (Addr.add q59 4)))) w5 (.map m61) w5 ∧ ∃ p63 : Option Addr, Ru (Instr.lookup 119 (.map m61) (.int .i64 n1) false) w5 (.pointer p63) w5 ∧ ∃ q64 : Addr, (.pointer p63 : Value) = .pointer (some q64) ∧ ∃ (a66 : Option Addr) (l66 c66 : Nat), Ru (Instr.loadAt 125 (.pointer (some (Addr.add q64 1)))) w5 (.slice a66 l66 c66) w5 ∧ LoopC (fun k_3 x_3 w6 =>
 ∃ n68 : Int, nth x_3 0 = .int .i64 n68 ∧ (bif decide (n68 < (l66 : Int)) then
 ∃ q70 : Addr, Al (Instr.indexAt 125 (.slice a66 l66 c66) (.int .i64 n68)) (.pointer (some q70)) ∧ ∃ p71 : Option Addr, Ru (Instr.loadAt 128 (.pointer (some q70))) w6 (.pointer p71) w6 ∧ Share (fun k_4 => ∃ q74 : Addr, (.pointer p71 : Value) = .pointer (some q74) ∧ ∃ b76 : Bool, Ru (Instr.loadAt 4 (.pointer (some (Addr.add q74 5)))) w6 (.bool b76) w6 ∧ (bif b76 then ∃ q85 : Addr, (.pointer p71 : Value) = .pointer (some q85) ∧ ∃ w7 : World, RuU (Instr.storeAt 4 (.pointer (some (Addr.add q85 5))) (.bool true)) w6 w7 ∧ k_4 [] w7 else ∃ q80 : Addr, (.pointer p71 : Value) = .pointer (some q80) ∧ ∃ n82 : Int, Ru (Instr.loadAt 2 (.pointer (some (Addr.add q80 0)))) w6 (.int .i64 n82) w6 ∧ ∃ b83 : Bool, Ru (Instr.lookup 123 (.map m57) (.int .i64 n82) false) w6 (.bool b83) w6 ∧ ∃ q85_2 : Addr, (.pointer p71 : Value) = .pointer (some q85_2) ∧ ∃ w8 : World, RuU (Instr.storeAt 4 (.pointer (some (Addr.add q85_2 5))) (.bool b83)) w6 w8 ∧ k_4 [] w8)) fun x_4 w9 =>
 k_3 [.int .i64 (IntKind.i64.wrap (n68 + 1))] w9
 else
 K (.int .i64 0) w6)) [.int .i64 0] w5))))
set_option maxRecDepth 100000 in
theorem C_patch_Store_Write (p0 : Option Addr) (n1 : Int) (w0 : World) (K : Value → World → Prop) (h : D_patch_Store_Write p0 n1 w0 K) : Cal Try.prog F_patch_Store_Write #[.pointer p0, .int .i64 n1] w0 K :=
 denF_sound (A := { S := [6, 13, 68], ty := [(6, 24), (13, 4), (68, 3)], raw := [] }) mixed Try.func36 (by kernel_rfl) (by kernel_rfl) ((show denF Try.prog _ Try.f36 _ w0 K = D_patch_Store_Write p0 n1 w0 K by kernel_rfl).mpr h)

/- (levee.patch.Store).Flush: slots {38: ''}; loop over [38]; loop over [38] -/
set_option maxRecDepth 100000 in
def D_patch_Store_Flush (p0 : Option Addr) (w0 : World) (K : Value → World → Prop) : Prop :=
 (bif Option.isNone p0 then
 K (.int .i64 2) w0
 else
 ∃ q11 : Addr, (.pointer p0 : Value) = .pointer (some q11) ∧ ∃ p13 : Option Addr, Ru (Instr.loadAt 28 (.pointer (some (Addr.add q11 0)))) w0 (.pointer p13) w0 ∧ Cal Try.prog F_cache_Cache_Flush #[.pointer p13] w0 fun r14 w1 => ∃ n14 : Int, r14 = .int .i64 n14 ∧ (bif n14 != 0 then
 K (.int .i64 n14) w1
 else
 ∃ q19 : Addr, (.pointer p0 : Value) = .pointer (some q19) ∧ ∃ m21 : Option Nat, Ru (Instr.loadAt 119 (.pointer (some (Addr.add q19 4)))) w1 (.map m21) w1 ∧ ∃ q22 : Addr, ∃ w2 : World, Ru (Instr.range 119 (.map m21)) w1 (.pointer (some q22)) w2 ∧ LoopC (fun k x w3 =>
 ∃ v23 : Value, ∃ w4 : World, Ru (Instr.next (.pointer (some q22)) false 0) w3 v23 w4 ∧ ∃ b24 : Bool, Al (Instr.extract v23 0) (.bool b24) ∧ (bif b24 then
 ∃ v25 : Value, Ru (Instr.entry (.pointer (some q22))) w4 v25 w4 ∧ ∃ n26 : Int, Al (Instr.extract v25 0) (.int .i64 n26) ∧ ∃ p27 : Option Addr, Al (Instr.extract v25 1) (.pointer p27) ∧ Cal Try.prog F_patch_on_with #[.pointer p27, .func (.func F_patch_Store_Flush_1) #[] #[]] w4 fun r30 w5 => ∃ (a30 : Option Addr) (l30 c30 : Nat), r30 = .slice a30 l30 c30 ∧ ∃ q31 : Addr, (.pointer p27 : Value) = .pointer (some q31) ∧ ∃ w6 : World, RuU (Instr.storeAt 32 (.pointer (some (Addr.add q31 0))) (.slice a30 l30 c30)) w5 w6 ∧ ∃ q34 : Addr, (.pointer p27 : Value) = .pointer (some q34) ∧ ∃ (a36 : Option Addr) (l36 c36 : Nat), Ru (Instr.loadAt 125 (.pointer (some (Addr.add q34 1)))) w6 (.slice a36 l36 c36) w6 ∧ LoopC (fun k_2 x_2 w7 =>
 ∃ n38 : Int, nth x_2 0 = .int .i64 n38 ∧ (bif decide (n38 < (l36 : Int)) then
 ∃ q40 : Addr, Al (Instr.indexAt 125 (.slice a36 l36 c36) (.int .i64 n38)) (.pointer (some q40)) ∧ ∃ p41 : Option Addr, Ru (Instr.loadAt 128 (.pointer (some q40))) w7 (.pointer p41) w7 ∧ ∃ q43 : Addr, (.pointer p41 : Value) = .pointer (some q43) ∧ ∃ b45 : Bool, Ru (Instr.loadAt 4 (.pointer (some (Addr.add q43 5)))) w7 (.bool b45) w7 ∧ Share (fun k_3 => (bif b45 then
 ∃ q47 : Addr, (.pointer p0 : Value) = .pointer (some q47) ∧ ∃ m49 : Option Nat, Ru (Instr.loadAt 118 (.pointer (some (Addr.add q47 3)))) (drew w7) (.map m49) (drew w7) ∧ ∃ q51 : Addr, (.pointer p41 : Value) = .pointer (some q51) ∧ ∃ n53 : Int, Ru (Instr.loadAt 2 (.pointer (some (Addr.add q51 0)))) (drew w7) (.int .i64 n53) (drew w7) ∧ ∃ w8 : World, Ru (Builtin.delete_ #[118, 2] 0 #[.map m49, .int .i64 n53]) (drew w7) (.tuple #[]) w8 ∧ k_3 [] w8
 else
 k_3 [] w7)) fun x_3 w9 =>
 k_2 [.int .i64 (IntKind.i64.wrap (n38 + 1))] w9
 else
 ∃ q57 : Addr, (.pointer p27 : Value) = .pointer (some q57) ∧ ∃ (a59 : Option Addr) (l59 c59 : Nat), Ru (Instr.loadAt 125 (.pointer (some (Addr.add q57 1)))) w7 (.slice a59 l59 c59) w7 ∧ Cal Try.prog F_slices_DeleteFunc_patch_change #[.slice a59 l59 c59, .func (.func F_patch_Store_Flush_2) #[] #[]] w7 fun r60 w10 => ∃ (a60 : Option Addr) (l60 c60 : Nat), r60 = .slice a60 l60 c60 ∧ ∃ q61 : Addr, (.pointer p27 : Value) = .pointer (some q61) ∧ ∃ w11 : World, RuU (Instr.storeAt 125 (.pointer (some (Addr.add q61 1))) (.slice a60 l60 c60)) w10 w11 ∧ ∃ q64 : Addr, (.pointer p27 : Value) = .pointer (some q64) ∧ ∃ (a66 : Option Addr) (l66 c66 : Nat), Ru (Instr.loadAt 125 (.pointer (some (Addr.add q64 1)))) w11 (.slice a66 l66 c66) w11 ∧ Share (fun k_4 => (bif (l66 : Int) == 0 then
 ∃ q70 : Addr, (.pointer p0 : Value) = .pointer (some q70) ∧ ∃ m72 : Option Nat, Ru (Instr.loadAt 119 (.pointer (some (Addr.add q70 4)))) w11 (.map m72) w11 ∧ ∃ w12 : World, Ru (Builtin.delete_ #[119, 3] 0 #[.map m72, .int .i64 n26]) w11 (.tuple #[]) w12 ∧ ∃ q75 : Addr, (.pointer p0 : Value) = .pointer (some q75) ∧ ∃ p77 : Option Addr, Ru (Instr.loadAt 28 (.pointer (some (Addr.add q75 0)))) w12 (.pointer p77) w12 ∧ Cal Try.prog F_cache_Cache_Unpin #[.pointer p77, .int .i64 n26] w12 fun r79 w13 => ∃ n79 : Int, r79 = .int .i64 n79 ∧ k_4 [] w13
 else
 k_4 [] w11)) fun x_4 w14 =>
 k [.int .i64 n38] w14)) [.int .i64 0] w6
 else
 K (.int .i64 0) w4)) [undef] w2))
set_option maxRecDepth 100000 in
theorem C_patch_Store_Flush (p0 : Option Addr) (w0 : World) (K : Value → World → Prop) (h : D_patch_Store_Flush p0 w0 K) : Cal Try.prog F_patch_Store_Flush #[.pointer p0] w0 K :=
 denF_sound (A := { S := [38], ty := [(38, 3)], raw := [23, 25] }) mixed Try.func37 (by kernel_rfl) (by kernel_rfl) ((show denF Try.prog _ Try.f37 _ w0 K = D_patch_Store_Flush p0 w0 K by kernel_rfl).mpr h)

/- (levee.patch.Store).Patch: slots {14: 'o', 23: '', 34: '', 125: ''}; loop over [125] -/
set_option maxRecDepth 100000 in
def D_patch_Store_Patch (p0 : Option Addr) (n1 : Int) (n2 : Int) (a3 : Option Addr) (l3 c3 : Nat) (a4 : Option Addr) (l4 c4 : Nat) (w0 : World) (K : Value → World → Prop) : Prop :=
 ∃ q5 : Addr, ∃ w1 : World, Ru (Instr.box 60 (.pointer p0)) w0 (.pointer (some q5)) w1 ∧ ∃ p21 : Option Addr, Ru (Instr.loadAt 60 (.pointer (some q5))) w1 (.pointer p21) w1 ∧ (bif Option.isNone p21 then
 K (.tuple #[.int .i64 0, .int .i64 2]) w1
 else
 Share (fun k => (bif decide (n1 < 0) then k [.bool true] w1 else ∃ p28 : Option Addr, Ru (Instr.loadAt 60 (.pointer (some q5))) w1 (.pointer p28) w1 ∧ ∃ q29 : Addr, (.pointer p28 : Value) = .pointer (some q29) ∧ ∃ n31 : Int, Ru (Instr.loadAt 3 (.pointer (some (Addr.add q29 1)))) w1 (.int .i64 n31) w1 ∧ k [.bool (decide (n1 ≥ n31))] w1)) fun x w2 =>
 ∃ b23 : Bool, nth x 0 = .bool b23 ∧ (bif b23 then
 K (.tuple #[.int .i64 0, .int .i64 3]) w2
 else
 Share (fun k_2 => (bif (l3 : Int) == 0 then k_2 [.bool true] w2 else (bif decide (n2 < 0) then k_2 [.bool true] w2 else (bif decide (n2 > 256) then k_2 [.bool true] w2 else k_2 [.bool (decide ((l3 : Int) > (IntKind.i64.wrap (256 - n2))))] w2)))) fun x_2 w3 =>
 ∃ b34 : Bool, nth x_2 0 = .bool b34 ∧ (bif b34 then
 K (.tuple #[.int .i64 0, .int .i64 4]) w3
 else
 Cal Try.prog F_slices_ContainsFunc_int64 #[.slice a4 l4 c4, .func (.func F_patch_Store_Patch_1) #[] #[.pointer (some q5)]] w3 fun r56 w4 => ∃ b56 : Bool, r56 = .bool b56 ∧ (bif b56 then
 K (.tuple #[.int .i64 0, .int .i64 1]) w4
 else
 ∃ p58 : Option Addr, Ru (Instr.loadAt 60 (.pointer (some q5))) w4 (.pointer p58) w4 ∧ ∃ q59 : Addr, (.pointer p58 : Value) = .pointer (some q59) ∧ ∃ p61 : Option Addr, Ru (Instr.loadAt 28 (.pointer (some (Addr.add q59 0)))) w4 (.pointer p61) w4 ∧ Cal Try.prog F_cache_Cache_Read #[.pointer p61, .int .i64 n1] w4 fun r63 w5 => ∃ (a63a : Option Addr) (l63a c63a : Nat), ∃ n63b : Int, r63 = .tuple #[.slice a63a l63a c63a, .int .i64 n63b] ∧ (bif n63b != 0 then
 K (.tuple #[.int .i64 0, .int .i64 n63b]) w5
 else
 ∃ p69 : Option Addr, Ru (Instr.loadAt 60 (.pointer (some q5))) w5 (.pointer p69) w5 ∧ ∃ q70 : Addr, (.pointer p69 : Value) = .pointer (some q70) ∧ ∃ m72 : Option Nat, Ru (Instr.loadAt 119 (.pointer (some (Addr.add q70 4)))) w5 (.map m72) w5 ∧ ∃ p74 : Option Addr, Ru (Instr.lookup 119 (.map m72) (.int .i64 n1) false) w5 (.pointer p74) w5 ∧ Share (fun k_3 => (bif Option.isNone p74 then
 ∃ g78 : Array Value, Al (Instr.build 127 #[(0, .slice a63a l63a c63a)]) (.agg g78) ∧ ∃ q79 : Addr, ∃ w6 : World, Ru (Instr.box 127 (.agg g78)) w5 (.pointer (some q79)) w6 ∧ ∃ p80 : Option Addr, Ru (Instr.loadAt 60 (.pointer (some q5))) w6 (.pointer p80) w6 ∧ ∃ q81 : Addr, (.pointer p80 : Value) = .pointer (some q81) ∧ ∃ m83 : Option Nat, Ru (Instr.loadAt 119 (.pointer (some (Addr.add q81 4)))) w6 (.map m83) w6 ∧ ∃ w7 : World, RuU (Instr.mapUpdate 119 (.map m83) (.int .i64 n1) (.pointer (some q79))) w6 w7 ∧ ∃ p86 : Option Addr, Ru (Instr.loadAt 60 (.pointer (some q5))) w7 (.pointer p86) w7 ∧ ∃ q87 : Addr, (.pointer p86 : Value) = .pointer (some q87) ∧ ∃ p89 : Option Addr, Ru (Instr.loadAt 28 (.pointer (some (Addr.add q87 0)))) w7 (.pointer p89) w7 ∧ Cal Try.prog F_cache_Cache_Pin #[.pointer p89, .int .i64 n1] w7 fun r91 w8 => ∃ n91 : Int, r91 = .int .i64 n91 ∧ k_3 [.pointer (some q79)] w8
 else
 k_3 [.pointer p74] w5)) fun x_3 w9 =>
 Cal Try.prog F_num_Lay #[.slice a63a l63a c63a, .int .i64 n2, .slice a3 l3 c3] w9 fun r96 w10 => ∃ (a96a : Option Addr) (l96a c96a : Nat), ∃ n96b : Int, r96 = .tuple #[.slice a96a l96a c96a, .int .i64 n96b] ∧ ∃ p99 : Option Addr, Ru (Instr.loadAt 60 (.pointer (some q5))) w10 (.pointer p99) w10 ∧ ∃ q100 : Addr, (.pointer p99 : Value) = .pointer (some q100) ∧ ∃ p102 : Option Addr, Ru (Instr.loadAt 28 (.pointer (some (Addr.add q100 0)))) w10 (.pointer p102) w10 ∧ Cal Try.prog F_cache_Cache_Lay #[.pointer p102, .int .i64 n1, .slice a96a l96a c96a] w10 fun r105 w11 => ∃ n105 : Int, r105 = .int .i64 n105 ∧ ∃ p106 : Option Addr, Ru (Instr.loadAt 60 (.pointer (some q5))) w11 (.pointer p106) w11 ∧ ∃ q107 : Addr, (.pointer p106 : Value) = .pointer (some q107) ∧ ∃ n109 : Int, Ru (Instr.loadAt 2 (.pointer (some (Addr.add q107 2)))) w11 (.int .i64 n109) w11 ∧ ∃ q111 : Addr, (.pointer p106 : Value) = .pointer (some q111) ∧ ∃ w12 : World, RuU (Instr.storeAt 2 (.pointer (some (Addr.add q111 2))) (.int .i64 (IntKind.i64.wrap (n109 + 1)))) w11 w12 ∧ ∃ p113 : Option Addr, Ru (Instr.loadAt 60 (.pointer (some q5))) (drew w12) (.pointer p113) (drew w12) ∧ ∃ q114 : Addr, (.pointer p113 : Value) = .pointer (some q114) ∧ ∃ n116 : Int, Ru (Instr.loadAt 2 (.pointer (some (Addr.add q114 2)))) (drew w12) (.int .i64 n116) (drew w12) ∧ Cal Try.prog F_slices_Clone_byte #[.slice a3 l3 c3] (drew w12) fun r120 w13 => ∃ (a120 : Option Addr) (l120 c120 : Nat), r120 = .slice a120 l120 c120 ∧ Ru (Instr.loadAt 60 (.pointer (some q5))) w13 (.pointer p113) w13 ∧ Ru (Instr.loadAt 2 (.pointer (some (Addr.add q114 2)))) w13 (.int .i64 n116) w13 ∧ ∃ g121 : Array Value, Al (Instr.build 130 #[(0, .int .i64 n116), (1, .int .i64 n1), (2, .int .i64 n2), (3, .slice a120 l120 c120)]) (.agg g121) ∧ ∃ q122 : Addr, ∃ w14 : World, Ru (Instr.box 130 (.agg g121)) w13 (.pointer (some q122)) w14 ∧ LoopC (fun k_4 x_4 w15 =>
 ∃ n125 : Int, nth x_4 0 = .int .i64 n125 ∧ (bif decide (n125 < (l4 : Int)) then
 ∃ q127 : Addr, Al (Instr.indexAt 64 (.slice a4 l4 c4) (.int .i64 n125)) (.pointer (some q127)) ∧ ∃ n128 : Int, Ru (Instr.loadAt 2 (.pointer (some q127))) w15 (.int .i64 n128) w15 ∧ ∃ p129 : Option Addr, Ru (Instr.loadAt 60 (.pointer (some q5))) w15 (.pointer p129) w15 ∧ ∃ q130 : Addr, (.pointer p129 : Value) = .pointer (some q130) ∧ ∃ m132 : Option Nat, Ru (Instr.loadAt 118 (.pointer (some (Addr.add q130 3)))) w15 (.map m132) w15 ∧ ∃ p134 : Option Addr, Ru (Instr.lookup 118 (.map m132) (.int .i64 n128) false) w15 (.pointer p134) w15 ∧ Share (fun k_5 => (bif !(Option.isNone p134) then
 ∃ q138 : Addr, (.pointer (some q122) : Value) = .pointer (some q138) ∧ ∃ (a140 : Option Addr) (l140 c140 : Nat), Ru (Instr.loadAt 64 (.pointer (some (Addr.add q138 4)))) w15 (.slice a140 l140 c140) w15 ∧ ∃ (a142 : Option Addr) (l142 c142 : Nat), ∃ w16 : World, Ru (Instr.buildSlice 64 1 #[(0, .int .i64 n128)]) w15 (.slice a142 l142 c142) w16 ∧ ∃ (a143 : Option Addr) (l143 c143 : Nat), ∃ w17 : World, Ru (Builtin.append_ #[64, 64] 64 #[.slice a140 l140 c140, .slice a142 l142 c142]) w16 (.slice a143 l143 c143) w17 ∧ ∃ q144 : Addr, (.pointer (some q122) : Value) = .pointer (some q144) ∧ ∃ w18 : World, RuU (Instr.storeAt 64 (.pointer (some (Addr.add q144 4))) (.slice a143 l143 c143)) w17 w18 ∧ k_5 [] w18
 else
 k_5 [] w15)) fun x_5 w19 =>
 k_4 [.int .i64 (IntKind.i64.wrap (n125 + 1))] w19
 else
 ∃ p147 : Option Addr, Ru (Instr.loadAt 60 (.pointer (some q5))) (drew w15) (.pointer p147) (drew w15) ∧ ∃ q148 : Addr, (.pointer p147 : Value) = .pointer (some q148) ∧ ∃ m150 : Option Nat, Ru (Instr.loadAt 118 (.pointer (some (Addr.add q148 3)))) (drew w15) (.map m150) (drew w15) ∧ ∃ q152 : Addr, (.pointer (some q122) : Value) = .pointer (some q152) ∧ ∃ n154 : Int, Ru (Instr.loadAt 2 (.pointer (some (Addr.add q152 0)))) (drew w15) (.int .i64 n154) (drew w15) ∧ ∃ w20 : World, RuU (Instr.mapUpdate 118 (.map m150) (.int .i64 n154) (.pointer (some q122))) (drew w15) w20 ∧ ∃ p14 : Option Addr, nth x_3 0 = .pointer p14 ∧ ∃ q158 : Addr, (.pointer p14 : Value) = .pointer (some q158) ∧ ∃ (a160 : Option Addr) (l160 c160 : Nat), Ru (Instr.loadAt 125 (.pointer (some (Addr.add q158 1)))) w20 (.slice a160 l160 c160) w20 ∧ ∃ (a162 : Option Addr) (l162 c162 : Nat), ∃ w21 : World, Ru (Instr.buildSlice 125 1 #[(0, .pointer (some q122))]) w20 (.slice a162 l162 c162) w21 ∧ ∃ (a163 : Option Addr) (l163 c163 : Nat), ∃ w22 : World, Ru (Builtin.append_ #[125, 125] 125 #[.slice a160 l160 c160, .slice a162 l162 c162]) w21 (.slice a163 l163 c163) w22 ∧ ∃ q164 : Addr, (.pointer p14 : Value) = .pointer (some q164) ∧ ∃ w23 : World, RuU (Instr.storeAt 125 (.pointer (some (Addr.add q164 1))) (.slice a163 l163 c163)) w22 w23 ∧ ∃ q167 : Addr, (.pointer (some q122) : Value) = .pointer (some q167) ∧ ∃ n169 : Int, Ru (Instr.loadAt 2 (.pointer (some (Addr.add q167 0)))) w23 (.int .i64 n169) w23 ∧ K (.tuple #[.int .i64 n169, .int .i64 0]) w23)) [.int .i64 0] w14)))))
set_option maxRecDepth 100000 in
theorem C_patch_Store_Patch (p0 : Option Addr) (n1 : Int) (n2 : Int) (a3 : Option Addr) (l3 c3 : Nat) (a4 : Option Addr) (l4 c4 : Nat) (w0 : World) (K : Value → World → Prop) (h : D_patch_Store_Patch p0 n1 n2 a3 l3 c3 a4 l4 c4 w0 K) : Cal Try.prog F_patch_Store_Patch #[.pointer p0, .int .i64 n1, .int .i64 n2, .slice a3 l3 c3, .slice a4 l4 c4] w0 K :=
 denF_sound (A := { S := [14, 23, 34, 125], ty := [(14, 122), (23, 4), (34, 4), (125, 3)], raw := [] }) mixed Try.func38 (by kernel_rfl) (by kernel_rfl) ((show denF Try.prog _ Try.f38 _ w0 K = D_patch_Store_Patch p0 n1 n2 a3 l3 c3 a4 l4 c4 w0 K by kernel_rfl).mpr h)

/- (levee.patch.Store).Safe: slots {4: ''};  -/
set_option maxRecDepth 100000 in
def D_patch_Store_Safe (p0 : Option Addr) (n1 : Int) (w0 : World) (K : Value → World → Prop) : Prop :=
 Share (fun k => (bif !(Option.isNone p0) then Cal Try.prog F_patch_Store_given #[.pointer p0, .int .i64 n1] w0 fun r10 w1 => ∃ b10 : Bool, r10 = .bool b10 ∧ (bif b10 then ∃ q14 : Addr, (.pointer p0 : Value) = .pointer (some q14) ∧ ∃ m16 : Option Nat, Ru (Instr.loadAt 118 (.pointer (some (Addr.add q14 3)))) w1 (.map m16) w1 ∧ ∃ p18 : Option Addr, Ru (Instr.lookup 118 (.map m16) (.int .i64 n1) false) w1 (.pointer p18) w1 ∧ k [.bool (Option.isNone p18)] w1 else k [.bool false] w1) else k [.bool false] w0)) fun x w2 =>
 ∃ b4 : Bool, nth x 0 = .bool b4 ∧ K (.bool b4) w2
set_option maxRecDepth 100000 in
theorem C_patch_Store_Safe (p0 : Option Addr) (n1 : Int) (w0 : World) (K : Value → World → Prop) (h : D_patch_Store_Safe p0 n1 w0 K) : Cal Try.prog F_patch_Store_Safe #[.pointer p0, .int .i64 n1] w0 K :=
 denF_sound (A := { S := [4], ty := [(4, 4)], raw := [] }) mixed Try.func39 (by kernel_rfl) (by kernel_rfl) ((show denF Try.prog _ Try.f39 _ w0 K = D_patch_Store_Safe p0 n1 w0 K by kernel_rfl).mpr h)

/- levee.leveelaw11.known: slots {0: '', 18: 'one', 33: '', 86: ''};  -/
set_option maxRecDepth 100000 in
def D_leveelaw11_known (w0 : World) (K : Value → World → Prop) : Prop :=
 Cal Try.prog F_disk_New #[.int .i64 8] w0 fun r20 w1 => ∃ p20a : Option Addr, ∃ n20b : Int, r20 = .tuple #[.pointer p20a, .int .i64 n20b] ∧ Cal Try.prog F_patch_Open #[.pointer p20a, .int .i64 8] w1 fun r25 w2 => ∃ p25a : Option Addr, ∃ n25b : Int, r25 = .tuple #[.pointer p25a, .int .i64 n25b] ∧ Share (fun k => (bif n25b != 0 then k [.bool true] w2 else k [.bool (Option.isNone p25a)] w2)) fun x w3 =>
 ∃ b33 : Bool, nth x 0 = .bool b33 ∧ (bif b33 then
 K (.bool false) w3
 else
 ∃ (a36 : Option Addr) (l36 c36 : Nat), ∃ w4 : World, Ru (Instr.buildSlice 32 1 #[(0, .int .u8 97)]) w3 (.slice a36 l36 c36) w4 ∧ ∃ (a37 : Option Addr) (l37 c37 : Nat), ∃ w5 : World, Ru (convert 32 32 (.slice a36 l36 c36)) w4 (.slice a37 l37 c37) w5 ∧ Cal Try.prog F_patch_Store_Patch #[.pointer p25a, .int .i64 5, .int .i64 0, .slice a37 l37 c37, .slice none 0 0] w5 fun r38 w6 => ∃ n38a : Int, ∃ n38b : Int, r38 = .tuple #[.int .i64 n38a, .int .i64 n38b] ∧ ∃ (a43 : Option Addr) (l43 c43 : Nat), ∃ w7 : World, Ru (Instr.buildSlice 32 1 #[(0, .int .u8 98)]) w6 (.slice a43 l43 c43) w7 ∧ ∃ (a44 : Option Addr) (l44 c44 : Nat), ∃ w8 : World, Ru (convert 32 32 (.slice a43 l43 c43)) w7 (.slice a44 l44 c44) w8 ∧ ∃ (a46 : Option Addr) (l46 c46 : Nat), ∃ w9 : World, Ru (Instr.buildSlice 64 1 #[(0, .int .i64 n38a)]) w8 (.slice a46 l46 c46) w9 ∧ Cal Try.prog F_patch_Store_Patch #[.pointer p25a, .int .i64 6, .int .i64 0, .slice a44 l44 c44, .slice a46 l46 c46] w9 fun r47 w10 => ∃ n47a : Int, ∃ n47b : Int, r47 = .tuple #[.int .i64 n47a, .int .i64 n47b] ∧ ∃ (a52 : Option Addr) (l52 c52 : Nat), ∃ w11 : World, Ru (Instr.buildSlice 32 1 #[(0, .int .u8 99)]) w10 (.slice a52 l52 c52) w11 ∧ ∃ (a53 : Option Addr) (l53 c53 : Nat), ∃ w12 : World, Ru (convert 32 32 (.slice a52 l52 c52)) w11 (.slice a53 l53 c53) w12 ∧ ∃ (a55 : Option Addr) (l55 c55 : Nat), ∃ w13 : World, Ru (Instr.buildSlice 64 1 #[(0, .int .i64 n47a)]) w12 (.slice a55 l55 c55) w13 ∧ Cal Try.prog F_patch_Store_Patch #[.pointer p25a, .int .i64 5, .int .i64 1, .slice a53 l53 c53, .slice a55 l55 c55] w13 fun r56 w14 => ∃ n56a : Int, ∃ n56b : Int, r56 = .tuple #[.int .i64 n56a, .int .i64 n56b] ∧ Cal Try.prog F_patch_Store_Image #[.pointer p25a, .int .i64 6] w14 fun r61 w15 => ∃ (a61a : Option Addr) (l61a c61a : Nat), ∃ n61b : Int, r61 = .tuple #[.slice a61a l61a c61a, .int .i64 n61b] ∧ Cal Try.prog F_patch_Store_Image #[.pointer p25a, .int .i64 5] w15 fun r66 w16 => ∃ (a66a : Option Addr) (l66a c66a : Nat), ∃ n66b : Int, r66 = .tuple #[.slice a66a l66a c66a, .int .i64 n66b] ∧ Cal Try.prog F_patch_Store_Read #[.pointer p25a, .int .i64 5] w16 fun r71 w17 => ∃ (a71a : Option Addr) (l71a c71a : Nat), ∃ n71b : Int, r71 = .tuple #[.slice a71a l71a c71a, .int .i64 n71b] ∧ Share (fun k_2 => (bif (l61a : Int) != 256 then k_2 [.bool true] w17 else (bif (l66a : Int) != 256 then k_2 [.bool true] w17 else k_2 [.bool ((l71a : Int) != 256)] w17))) fun x_2 w18 =>
 ∃ b86 : Bool, nth x_2 0 = .bool b86 ∧ (bif b86 then
 K (.bool false) w18
 else
 Cal Try.prog F_patch_Store_Write #[.pointer p25a, .int .i64 5] w18 fun r88 w19 => ∃ n88 : Int, r88 = .int .i64 n88 ∧ Cal Try.prog F_patch_Store_Flush #[.pointer p25a] w19 fun r90 w20 => ∃ n90 : Int, r90 = .int .i64 n90 ∧ Share (fun k_3 => Cal Try.prog F_patch_Store_Safe #[.pointer p25a, .int .i64 n38a] w20 fun r93 w21 => ∃ b93 : Bool, r93 = .bool b93 ∧ (bif b93 then Cal Try.prog F_patch_Store_Safe #[.pointer p25a, .int .i64 n47a] w21 fun r97 w22 => ∃ b97 : Bool, r97 = .bool b97 ∧ (bif !b97 then Cal Try.prog F_patch_Store_Safe #[.pointer p25a, .int .i64 n56a] w22 fun r103 w23 => ∃ b103 : Bool, r103 = .bool b103 ∧ k_3 [.bool (!b103)] w23 else k_3 [.bool false] w22) else k_3 [.bool false] w21)) fun x_3 w24 =>
 Cal Try.prog F_patch_Store_Write #[.pointer p25a, .int .i64 6] w24 fun r107 w25 => ∃ n107 : Int, r107 = .int .i64 n107 ∧ Cal Try.prog F_patch_Store_Flush #[.pointer p25a] w25 fun r109 w26 => ∃ n109 : Int, r109 = .int .i64 n109 ∧ Share (fun k_4 => (bif n38b == 0 then (bif n47b == 0 then (bif n56b == 0 then (bif n56a == 3 then ∃ q126 : Addr, Al (Instr.indexAt 32 (.slice a61a l61a c61a) (.int .i64 0)) (.pointer (some q126)) ∧ ∃ n127 : Int, Ru (Instr.loadAt 5 (.pointer (some q126))) w26 (.int .u8 n127) w26 ∧ (bif n127 == 0 then ∃ q132 : Addr, Al (Instr.indexAt 32 (.slice a66a l66a c66a) (.int .i64 0)) (.pointer (some q132)) ∧ ∃ n133 : Int, Ru (Instr.loadAt 5 (.pointer (some q132))) w26 (.int .u8 n133) w26 ∧ (bif n133 == 97 then ∃ q138 : Addr, Al (Instr.indexAt 32 (.slice a66a l66a c66a) (.int .i64 1)) (.pointer (some q138)) ∧ ∃ n139 : Int, Ru (Instr.loadAt 5 (.pointer (some q138))) w26 (.int .u8 n139) w26 ∧ (bif n139 == 0 then ∃ q144 : Addr, Al (Instr.indexAt 32 (.slice a71a l71a c71a) (.int .i64 1)) (.pointer (some q144)) ∧ ∃ n145 : Int, Ru (Instr.loadAt 5 (.pointer (some q144))) w26 (.int .u8 n145) w26 ∧ (bif n145 == 99 then (bif n88 == 0 then ∃ b18 : Bool, nth x_3 0 = .bool b18 ∧ (bif b18 then Cal Try.prog F_patch_Store_Safe #[.pointer p25a, .int .i64 n47a] w26 fun r158 w27 => ∃ b158 : Bool, r158 = .bool b158 ∧ (bif b158 then Cal Try.prog F_patch_Store_Ready #[.pointer p25a, .int .i64 5] w27 fun r162 w28 => ∃ n162 : Int, r162 = .int .i64 n162 ∧ (bif n162 == 1 then Cal Try.prog F_patch_Store_Open #[.pointer p25a] w28 fun r167 w29 => ∃ n167 : Int, r167 = .int .i64 n167 ∧ k_4 [.bool (n167 == 1)] w29 else k_4 [.bool false] w28) else k_4 [.bool false] w27) else k_4 [.bool false] w26) else k_4 [.bool false] w26) else k_4 [.bool false] w26) else k_4 [.bool false] w26) else k_4 [.bool false] w26) else k_4 [.bool false] w26) else k_4 [.bool false] w26) else k_4 [.bool false] w26) else k_4 [.bool false] w26) else k_4 [.bool false] w26)) fun x_4 w30 =>
 ∃ b0 : Bool, nth x_4 0 = .bool b0 ∧ K (.bool b0) w30))
set_option maxRecDepth 100000 in
theorem C_leveelaw11_known (w0 : World) (K : Value → World → Prop) (h : D_leveelaw11_known  w0 K) : Cal Try.prog F_leveelaw11_known #[] w0 K :=
 denF_sound (A := { S := [0, 18, 33, 86], ty := [(0, 4), (18, 4), (33, 4), (86, 4)], raw := [] }) mixed Try.func41 (by kernel_rfl) (by kernel_rfl) ((show denF Try.prog _ Try.f41 _ w0 K = D_leveelaw11_known  w0 K by kernel_rfl).mpr h)

/- (levee.patch.Store).Open: slots {};  -/
set_option maxRecDepth 100000 in
def D_patch_Store_Open (p0 : Option Addr) (w0 : World) (K : Value → World → Prop) : Prop :=
 (bif Option.isNone p0 then
 K (.int .i64 0) w0
 else
 ∃ q6 : Addr, (.pointer p0 : Value) = .pointer (some q6) ∧ ∃ m8 : Option Nat, Ru (Instr.loadAt 118 (.pointer (some (Addr.add q6 3)))) w0 (.map m8) w0 ∧ ∃ n9 : Int, Ru (Builtin.len_ #[118] 3 #[.map m8]) w0 (.int .i64 n9) w0 ∧ K (.int .i64 n9) w0)
set_option maxRecDepth 100000 in
theorem C_patch_Store_Open (p0 : Option Addr) (w0 : World) (K : Value → World → Prop) (h : D_patch_Store_Open p0 w0 K) : Cal Try.prog F_patch_Store_Open #[.pointer p0] w0 K :=
 denF_sound (A := { S := [], ty := [], raw := [] }) mixed Try.func43 (by kernel_rfl) (by kernel_rfl) ((show denF Try.prog _ Try.f43 _ w0 K = D_patch_Store_Open p0 w0 K by kernel_rfl).mpr h)

/- (levee.patch.Store).Dirty: slots {3: 'l'}; loop over [3] -/
set_option maxRecDepth 100000 in
def D_patch_Store_Dirty (p0 : Option Addr) (w0 : World) (K : Value → World → Prop) : Prop :=
 (bif Option.isNone p0 then
 K (.slice none 0 0) w0
 else
 ∃ q8 : Addr, (.pointer p0 : Value) = .pointer (some q8) ∧ ∃ m10 : Option Nat, Ru (Instr.loadAt 119 (.pointer (some (Addr.add q8 4)))) w0 (.map m10) w0 ∧ ∃ q11 : Addr, ∃ w1 : World, Ru (Instr.range 119 (.map m10)) w0 (.pointer (some q11)) w1 ∧ LoopC (fun k x w2 =>
 ∃ v12 : Value, ∃ w3 : World, Ru (Instr.next (.pointer (some q11)) false 0) w2 v12 w3 ∧ ∃ b13 : Bool, Al (Instr.extract v12 0) (.bool b13) ∧ (bif b13 then
 ∃ v14 : Value, Ru (Instr.entry (.pointer (some q11))) w3 v14 w3 ∧ ∃ n15 : Int, Al (Instr.extract v14 0) (.int .i64 n15) ∧ ∃ (a3 : Option Addr) (l3 c3 : Nat), nth x 0 = .slice a3 l3 c3 ∧ ∃ (a18 : Option Addr) (l18 c18 : Nat), ∃ w4 : World, Ru (Instr.buildSlice 31 1 #[(0, .int .i64 n15)]) w3 (.slice a18 l18 c18) w4 ∧ ∃ (a19 : Option Addr) (l19 c19 : Nat), ∃ w5 : World, Ru (Builtin.append_ #[31, 31] 31 #[.slice a3 l3 c3, .slice a18 l18 c18]) w4 (.slice a19 l19 c19) w5 ∧ k [.slice a19 l19 c19] w5
 else
 ∃ (a3_2 : Option Addr) (l3_2 c3_2 : Nat), nth x 0 = .slice a3_2 l3_2 c3_2 ∧ Cal Try.prog F_slices_Sort_int #[.slice a3_2 l3_2 c3_2] w3 fun r21 w6 => r21 = .tuple #[] ∧ K (.slice a3_2 l3_2 c3_2) w6)) [.slice none 0 0] w1)
set_option maxRecDepth 100000 in
theorem C_patch_Store_Dirty (p0 : Option Addr) (w0 : World) (K : Value → World → Prop) (h : D_patch_Store_Dirty p0 w0 K) : Cal Try.prog F_patch_Store_Dirty #[.pointer p0] w0 K :=
 denF_sound (A := { S := [3], ty := [(3, 31)], raw := [12, 14] }) mixed Try.func44 (by kernel_rfl) (by kernel_rfl) ((show denF Try.prog _ Try.f44 _ w0 K = D_patch_Store_Dirty p0 w0 K by kernel_rfl).mpr h)

/- (levee.patch.Store).Read: slots {};  -/
set_option maxRecDepth 100000 in
def D_patch_Store_Read (p0 : Option Addr) (n1 : Int) (w0 : World) (K : Value → World → Prop) : Prop :=
 (bif Option.isNone p0 then
 K (.tuple #[.slice none 0 0, .int .i64 2]) w0
 else
 ∃ q9 : Addr, (.pointer p0 : Value) = .pointer (some q9) ∧ ∃ p11 : Option Addr, Ru (Instr.loadAt 28 (.pointer (some (Addr.add q9 0)))) w0 (.pointer p11) w0 ∧ Cal Try.prog F_cache_Cache_Read #[.pointer p11, .int .i64 n1] w0 fun r13 w1 => ∃ (a13a : Option Addr) (l13a c13a : Nat), ∃ n13b : Int, r13 = .tuple #[.slice a13a l13a c13a, .int .i64 n13b] ∧ K (.tuple #[.slice a13a l13a c13a, .int .i64 n13b]) w1)
set_option maxRecDepth 100000 in
theorem C_patch_Store_Read (p0 : Option Addr) (n1 : Int) (w0 : World) (K : Value → World → Prop) (h : D_patch_Store_Read p0 n1 w0 K) : Cal Try.prog F_patch_Store_Read #[.pointer p0, .int .i64 n1] w0 K :=
 denF_sound (A := { S := [], ty := [], raw := [] }) mixed Try.func45 (by kernel_rfl) (by kernel_rfl) ((show denF Try.prog _ Try.f45 _ w0 K = D_patch_Store_Read p0 n1 w0 K by kernel_rfl).mpr h)

/- (levee.patch.Store).Image: slots {26: ''};  -/
set_option maxRecDepth 100000 in
def D_patch_Store_Image (p0 : Option Addr) (n1 : Int) (w0 : World) (K : Value → World → Prop) : Prop :=
 Cal Try.prog F_patch_Store_Read #[.pointer p0, .int .i64 n1] w0 fun r13 w1 => ∃ (a13a : Option Addr) (l13a c13a : Nat), ∃ n13b : Int, r13 = .tuple #[.slice a13a l13a c13a, .int .i64 n13b] ∧ Share (fun k => (bif n13b != 0 then k [.bool true] w1 else ∃ q20 : Addr, (.pointer p0 : Value) = .pointer (some q20) ∧ ∃ m22 : Option Nat, Ru (Instr.loadAt 119 (.pointer (some (Addr.add q20 4)))) w1 (.map m22) w1 ∧ ∃ p24 : Option Addr, Ru (Instr.lookup 119 (.map m22) (.int .i64 n1) false) w1 (.pointer p24) w1 ∧ k [.bool (Option.isNone p24)] w1)) fun x w2 =>
 ∃ b26 : Bool, nth x 0 = .bool b26 ∧ (bif b26 then
 K (.tuple #[.slice a13a l13a c13a, .int .i64 n13b]) w2
 else
 ∃ q30 : Addr, (.pointer p0 : Value) = .pointer (some q30) ∧ ∃ m32 : Option Nat, Ru (Instr.loadAt 119 (.pointer (some (Addr.add q30 4)))) w2 (.map m32) w2 ∧ ∃ p34 : Option Addr, Ru (Instr.lookup 119 (.map m32) (.int .i64 n1) false) w2 (.pointer p34) w2 ∧ Cal Try.prog F_patch_Store_may #[.pointer p0, .pointer p34] w2 fun r37 w3 => ∃ m37 : Option Nat, r37 = .map m37 ∧ ∃ q9 : Addr, ∃ w4 : World, Ru (Instr.alloc 123 true (.tuple #[])) w3 (.pointer (some q9)) w4 ∧ ∃ w5 : World, RuU (Instr.storeAt 123 (.pointer (some q9)) (.map m37)) w4 w5 ∧ Cal Try.prog F_patch_on_with #[.pointer p34, .func (.func F_patch_Store_Image_1) #[] #[.pointer (some q9)]] w5 fun r40 w6 => ∃ (a40 : Option Addr) (l40 c40 : Nat), r40 = .slice a40 l40 c40 ∧ K (.tuple #[.slice a40 l40 c40, .int .i64 0]) w6)
set_option maxRecDepth 100000 in
theorem C_patch_Store_Image (p0 : Option Addr) (n1 : Int) (w0 : World) (K : Value → World → Prop) (h : D_patch_Store_Image p0 n1 w0 K) : Cal Try.prog F_patch_Store_Image #[.pointer p0, .int .i64 n1] w0 K :=
 denF_sound (A := { S := [26], ty := [(26, 4)], raw := [] }) mixed Try.func47 (by kernel_rfl) (by kernel_rfl) ((show denF Try.prog _ Try.f47 _ w0 K = D_patch_Store_Image p0 n1 w0 K by kernel_rfl).mpr h)

/- (levee.patch.Store).Block: slots {};  -/
set_option maxRecDepth 100000 in
def D_patch_Store_Block (p0 : Option Addr) (n1 : Int) (w0 : World) (K : Value → World → Prop) : Prop :=
 (bif Option.isNone p0 then
 K (.tuple #[.int .i64 0, .int .i64 2]) w0
 else
 ∃ q10 : Addr, (.pointer p0 : Value) = .pointer (some q10) ∧ ∃ m12 : Option Nat, Ru (Instr.loadAt 118 (.pointer (some (Addr.add q10 3)))) w0 (.map m12) w0 ∧ ∃ p14 : Option Addr, Ru (Instr.lookup 118 (.map m12) (.int .i64 n1) false) w0 (.pointer p14) w0 ∧ (bif Option.isNone p14 then
 K (.tuple #[.int .i64 0, .int .i64 20]) w0
 else
 ∃ q18 : Addr, (.pointer p14 : Value) = .pointer (some q18) ∧ ∃ n20 : Int, Ru (Instr.loadAt 3 (.pointer (some (Addr.add q18 1)))) w0 (.int .i64 n20) w0 ∧ K (.tuple #[.int .i64 n20, .int .i64 0]) w0))
set_option maxRecDepth 100000 in
theorem C_patch_Store_Block (p0 : Option Addr) (n1 : Int) (w0 : World) (K : Value → World → Prop) (h : D_patch_Store_Block p0 n1 w0 K) : Cal Try.prog F_patch_Store_Block #[.pointer p0, .int .i64 n1] w0 K :=
 denF_sound (A := { S := [], ty := [], raw := [] }) mixed Try.func48 (by kernel_rfl) (by kernel_rfl) ((show denF Try.prog _ Try.f48 _ w0 K = D_patch_Store_Block p0 n1 w0 K by kernel_rfl).mpr h)

/- (levee.patch.Store).Ready: slots {5: 'n', 19: '', 38: '', 54: ''}; loop over [5, 38, 54] -/
set_option maxRecDepth 100000 in
def D_patch_Store_Ready (p0 : Option Addr) (n1 : Int) (w0 : World) (K : Value → World → Prop) : Prop :=
 Share (fun k => (bif Option.isNone p0 then k [.bool true] w0 else ∃ q13 : Addr, (.pointer p0 : Value) = .pointer (some q13) ∧ ∃ m15 : Option Nat, Ru (Instr.loadAt 119 (.pointer (some (Addr.add q13 4)))) w0 (.map m15) w0 ∧ ∃ p17 : Option Addr, Ru (Instr.lookup 119 (.map m15) (.int .i64 n1) false) w0 (.pointer p17) w0 ∧ k [.bool (Option.isNone p17)] w0)) fun x w1 =>
 ∃ b19 : Bool, nth x 0 = .bool b19 ∧ (bif b19 then
 K (.int .i64 0) w1
 else
 ∃ q22 : Addr, (.pointer p0 : Value) = .pointer (some q22) ∧ ∃ m24 : Option Nat, Ru (Instr.loadAt 119 (.pointer (some (Addr.add q22 4)))) w1 (.map m24) w1 ∧ ∃ p26 : Option Addr, Ru (Instr.lookup 119 (.map m24) (.int .i64 n1) false) w1 (.pointer p26) w1 ∧ Cal Try.prog F_patch_Store_may #[.pointer p0, .pointer p26] w1 fun r27 w2 => ∃ m27 : Option Nat, r27 = .map m27 ∧ ∃ q29 : Addr, (.pointer p0 : Value) = .pointer (some q29) ∧ ∃ m31 : Option Nat, Ru (Instr.loadAt 119 (.pointer (some (Addr.add q29 4)))) w2 (.map m31) w2 ∧ ∃ p33 : Option Addr, Ru (Instr.lookup 119 (.map m31) (.int .i64 n1) false) w2 (.pointer p33) w2 ∧ ∃ q34 : Addr, (.pointer p33 : Value) = .pointer (some q34) ∧ ∃ (a36 : Option Addr) (l36 c36 : Nat), Ru (Instr.loadAt 125 (.pointer (some (Addr.add q34 1)))) w2 (.slice a36 l36 c36) w2 ∧ LoopC (fun k_2 x_2 w3 =>
 ∃ n38 : Int, nth x_2 1 = .int .i64 n38 ∧ (bif decide (n38 < (l36 : Int)) then
 ∃ q40 : Addr, Al (Instr.indexAt 125 (.slice a36 l36 c36) (.int .i64 n38)) (.pointer (some q40)) ∧ ∃ p41 : Option Addr, Ru (Instr.loadAt 128 (.pointer (some q40))) w3 (.pointer p41) w3 ∧ Share (fun k_3 => ∃ q44 : Addr, (.pointer p41 : Value) = .pointer (some q44) ∧ ∃ n46 : Int, Ru (Instr.loadAt 2 (.pointer (some (Addr.add q44 0)))) w3 (.int .i64 n46) w3 ∧ ∃ b47 : Bool, Ru (Instr.lookup 123 (.map m27) (.int .i64 n46) false) w3 (.bool b47) w3 ∧ (bif b47 then ∃ q50 : Addr, (.pointer p41 : Value) = .pointer (some q50) ∧ ∃ b52 : Bool, Ru (Instr.loadAt 4 (.pointer (some (Addr.add q50 5)))) w3 (.bool b52) w3 ∧ k_3 [.bool (!b52)] w3 else k_3 [.bool false] w3)) fun x_3 w4 =>
 ∃ b54 : Bool, nth x_3 0 = .bool b54 ∧ Share (fun k_4 => (bif b54 then
 ∃ n5 : Int, nth x_2 0 = .int .i64 n5 ∧ k_4 [.int .i64 (IntKind.i64.wrap (n5 + 1))] w4
 else
 k_4 [nth x_2 0] w4)) fun x_4 w5 =>
 k_2 [nth x_4 0, .int .i64 (IntKind.i64.wrap (n38 + 1)), .bool b54] w5
 else
 ∃ n5_2 : Int, nth x_2 0 = .int .i64 n5_2 ∧ K (.int .i64 n5_2) w3)) [.int .i64 0, .int .i64 0, undef] w2)
set_option maxRecDepth 100000 in
theorem C_patch_Store_Ready (p0 : Option Addr) (n1 : Int) (w0 : World) (K : Value → World → Prop) (h : D_patch_Store_Ready p0 n1 w0 K) : Cal Try.prog F_patch_Store_Ready #[.pointer p0, .int .i64 n1] w0 K :=
 denF_sound (A := { S := [5, 19, 38, 54], ty := [(5, 3), (19, 4), (38, 3), (54, 4)], raw := [] }) mixed Try.func49 (by kernel_rfl) (by kernel_rfl) ((show denF Try.prog _ Try.f49 _ w0 K = D_patch_Store_Ready p0 n1 w0 K by kernel_rfl).mpr h)

/- (levee.patch.Store).Waits: slots {7: 'l', 19: ''}; loop over [7] -/
set_option maxRecDepth 100000 in
def D_patch_Store_Waits (p0 : Option Addr) (n1 : Int) (w0 : World) (K : Value → World → Prop) : Prop :=
 ∃ q2 : Addr, ∃ w1 : World, Ru (Instr.box 60 (.pointer p0)) w0 (.pointer (some q2)) w1 ∧ Share (fun k => ∃ p9 : Option Addr, Ru (Instr.loadAt 60 (.pointer (some q2))) w1 (.pointer p9) w1 ∧ (bif Option.isNone p9 then k [.bool true] w1 else ∃ p12 : Option Addr, Ru (Instr.loadAt 60 (.pointer (some q2))) w1 (.pointer p12) w1 ∧ ∃ q13 : Addr, (.pointer p12 : Value) = .pointer (some q13) ∧ ∃ m15 : Option Nat, Ru (Instr.loadAt 118 (.pointer (some (Addr.add q13 3)))) w1 (.map m15) w1 ∧ ∃ p17 : Option Addr, Ru (Instr.lookup 118 (.map m15) (.int .i64 n1) false) w1 (.pointer p17) w1 ∧ k [.bool (Option.isNone p17)] w1)) fun x w2 =>
 ∃ b19 : Bool, nth x 0 = .bool b19 ∧ (bif b19 then
 K (.slice none 0 0) w2
 else
 ∃ m20 : Option Nat, ∃ w3 : World, Ru (Instr.makeMap 123 none) w2 (.map m20) w3 ∧ ∃ q5 : Addr, ∃ w4 : World, Ru (Instr.alloc 123 true (.tuple #[])) w3 (.pointer (some q5)) w4 ∧ ∃ w5 : World, RuU (Instr.storeAt 123 (.pointer (some q5)) (.map m20)) w4 w5 ∧ ∃ q6 : Addr, ∃ w6 : World, Ru (Instr.alloc 136 true (.tuple #[])) w5 (.pointer (some q6)) w6 ∧ ∃ w7 : World, RuU (Instr.storeAt 136 (.pointer (some q6)) (.func (.func F_patch_Store_Waits_1) #[] #[.pointer (some q5), .pointer (some q6), .pointer (some q2)])) w6 w7 ∧ ∃ v22 : Value, Ru (Instr.loadAt 136 (.pointer (some q6))) (drew w7) v22 (drew w7) ∧ ∃ p23 : Option Addr, Ru (Instr.loadAt 60 (.pointer (some q2))) (drew w7) (.pointer p23) (drew w7) ∧ ∃ q24 : Addr, (.pointer p23 : Value) = .pointer (some q24) ∧ ∃ m26 : Option Nat, Ru (Instr.loadAt 118 (.pointer (some (Addr.add q24 3)))) (drew w7) (.map m26) (drew w7) ∧ ∃ p28 : Option Addr, Ru (Instr.lookup 118 (.map m26) (.int .i64 n1) false) (drew w7) (.pointer p28) (drew w7) ∧ Dyn Try.prog v22 #[.pointer p28] (drew w7) fun r29 w8 => r29 = .tuple #[] ∧ ∃ m30 : Option Nat, Ru (Instr.loadAt 123 (.pointer (some q5))) w8 (.map m30) w8 ∧ ∃ q31 : Addr, ∃ w9 : World, Ru (Instr.range 123 (.map m30)) w8 (.pointer (some q31)) w9 ∧ LoopC (fun k_2 x_2 w10 =>
 ∃ v32 : Value, ∃ w11 : World, Ru (Instr.next (.pointer (some q31)) false 0) w10 v32 w11 ∧ ∃ b33 : Bool, Al (Instr.extract v32 0) (.bool b33) ∧ (bif b33 then
 ∃ v34 : Value, Ru (Instr.entry (.pointer (some q31))) w11 v34 w11 ∧ ∃ n35 : Int, Al (Instr.extract v34 0) (.int .i64 n35) ∧ ∃ (a7 : Option Addr) (l7 c7 : Nat), nth x_2 0 = .slice a7 l7 c7 ∧ ∃ (a38 : Option Addr) (l38 c38 : Nat), ∃ w12 : World, Ru (Instr.buildSlice 64 1 #[(0, .int .i64 n35)]) w11 (.slice a38 l38 c38) w12 ∧ ∃ (a39 : Option Addr) (l39 c39 : Nat), ∃ w13 : World, Ru (Builtin.append_ #[64, 64] 64 #[.slice a7 l7 c7, .slice a38 l38 c38]) w12 (.slice a39 l39 c39) w13 ∧ k_2 [.slice a39 l39 c39] w13
 else
 ∃ (a7_2 : Option Addr) (l7_2 c7_2 : Nat), nth x_2 0 = .slice a7_2 l7_2 c7_2 ∧ Cal Try.prog F_slices_Sort_int64 #[.slice a7_2 l7_2 c7_2] w11 fun r41 w14 => r41 = .tuple #[] ∧ K (.slice a7_2 l7_2 c7_2) w14)) [.slice none 0 0] w9)
set_option maxRecDepth 100000 in
theorem C_patch_Store_Waits (p0 : Option Addr) (n1 : Int) (w0 : World) (K : Value → World → Prop) (h : D_patch_Store_Waits p0 n1 w0 K) : Cal Try.prog F_patch_Store_Waits #[.pointer p0, .int .i64 n1] w0 K :=
 denF_sound (A := { S := [7, 19], ty := [(7, 64), (19, 4)], raw := [32, 34] }) mixed Try.func50 (by kernel_rfl) (by kernel_rfl) ((show denF Try.prog _ Try.f50 _ w0 K = D_patch_Store_Waits p0 n1 w0 K by kernel_rfl).mpr h)

/- (levee.patch.Store).Len: slots {};  -/
set_option maxRecDepth 100000 in
def D_patch_Store_Len (p0 : Option Addr) (w0 : World) (K : Value → World → Prop) : Prop :=
 (bif Option.isNone p0 then
 K (.int .i64 0) w0
 else
 ∃ q6 : Addr, (.pointer p0 : Value) = .pointer (some q6) ∧ ∃ n8 : Int, Ru (Instr.loadAt 3 (.pointer (some (Addr.add q6 1)))) w0 (.int .i64 n8) w0 ∧ K (.int .i64 n8) w0)
set_option maxRecDepth 100000 in
theorem C_patch_Store_Len (p0 : Option Addr) (w0 : World) (K : Value → World → Prop) (h : D_patch_Store_Len p0 w0 K) : Cal Try.prog F_patch_Store_Len #[.pointer p0] w0 K :=
 denF_sound (A := { S := [], ty := [], raw := [] }) mixed Try.func51 (by kernel_rfl) (by kernel_rfl) ((show denF Try.prog _ Try.f51 _ w0 K = D_patch_Store_Len p0 w0 K by kernel_rfl).mpr h)

/- (levee.patch.Store).may: slots {8: 'bad', 15: ''}; loop over [8, 15] -/
set_option maxRecDepth 100000 in
def D_patch_Store_may (p0 : Option Addr) (p1 : Option Addr) (w0 : World) (K : Value → World → Prop) : Prop :=
 ∃ q2 : Addr, ∃ w1 : World, Ru (Instr.box 60 (.pointer p0)) w0 (.pointer (some q2)) w1 ∧ ∃ m9 : Option Nat, ∃ w2 : World, Ru (Instr.makeMap 123 none) w1 (.map m9) w2 ∧ ∃ q5 : Addr, ∃ w3 : World, Ru (Instr.alloc 123 true (.tuple #[])) w2 (.pointer (some q5)) w3 ∧ ∃ w4 : World, RuU (Instr.storeAt 123 (.pointer (some q5)) (.map m9)) w3 w4 ∧ ∃ q11 : Addr, (.pointer p1 : Value) = .pointer (some q11) ∧ ∃ (a13 : Option Addr) (l13 c13 : Nat), Ru (Instr.loadAt 125 (.pointer (some (Addr.add q11 1)))) w4 (.slice a13 l13 c13) w4 ∧ LoopC (fun k x w5 =>
 ∃ n15 : Int, nth x 1 = .int .i64 n15 ∧ (bif decide (n15 < (l13 : Int)) then
 ∃ q18 : Addr, Al (Instr.indexAt 125 (.slice a13 l13 c13) (.int .i64 n15)) (.pointer (some q18)) ∧ ∃ p19 : Option Addr, Ru (Instr.loadAt 128 (.pointer (some q18))) w5 (.pointer p19) w5 ∧ ∃ q7 : Addr, ∃ w6 : World, Ru (Instr.alloc 128 true (.tuple #[])) w5 (.pointer (some q7)) w6 ∧ ∃ w7 : World, RuU (Instr.storeAt 128 (.pointer (some q7)) (.pointer p19)) w6 w7 ∧ ∃ p20 : Option Addr, Ru (Instr.loadAt 128 (.pointer (some q7))) w7 (.pointer p20) w7 ∧ ∃ q21 : Addr, (.pointer p20 : Value) = .pointer (some q21) ∧ ∃ (a23 : Option Addr) (l23 c23 : Nat), Ru (Instr.loadAt 64 (.pointer (some (Addr.add q21 4)))) w7 (.slice a23 l23 c23) w7 ∧ Cal Try.prog F_slices_ContainsFunc_int64 #[.slice a23 l23 c23, .func (.func F_patch_Store_may_1) #[] #[.pointer (some q2), .pointer (some q5)]] w7 fun r25 w8 => ∃ b25 : Bool, r25 = .bool b25 ∧ Share (fun k_2 => (bif b25 then k_2 [.bool true] w8 else ∃ q29 : Addr, (.pointer p1 : Value) = .pointer (some q29) ∧ ∃ (a31 : Option Addr) (l31 c31 : Nat), Ru (Instr.loadAt 125 (.pointer (some (Addr.add q29 1)))) w8 (.slice a31 l31 c31) w8 ∧ ∃ (a33 : Option Addr) (l33 c33 : Nat), Al (Instr.sliceAt 125 (.slice a31 l31 c31) none (some (.int .i64 n15)) none) (.slice a33 l33 c33) ∧ Cal Try.prog F_slices_ContainsFunc_patch_change #[.slice a33 l33 c33, .func (.func F_patch_Store_may_2) #[] #[.pointer (some q7), .pointer (some q5)]] w8 fun r35 w9 => ∃ b35 : Bool, r35 = .bool b35 ∧ k_2 [.bool b35] w9)) fun x_2 w10 =>
 ∃ b8 : Bool, nth x_2 0 = .bool b8 ∧ Share (fun k_3 => (bif !b8 then
 ∃ m39 : Option Nat, Ru (Instr.loadAt 123 (.pointer (some q5))) (drew w10) (.map m39) (drew w10) ∧ ∃ p40 : Option Addr, Ru (Instr.loadAt 128 (.pointer (some q7))) (drew w10) (.pointer p40) (drew w10) ∧ ∃ q41 : Addr, (.pointer p40 : Value) = .pointer (some q41) ∧ ∃ n43 : Int, Ru (Instr.loadAt 2 (.pointer (some (Addr.add q41 0)))) (drew w10) (.int .i64 n43) (drew w10) ∧ ∃ w11 : World, RuU (Instr.mapUpdate 123 (.map m39) (.int .i64 n43) (.bool true)) (drew w10) w11 ∧ k_3 [] w11
 else
 k_3 [] w10)) fun x_3 w12 =>
 k [.bool b8, .int .i64 (IntKind.i64.wrap (n15 + 1))] w12
 else
 ∃ m45 : Option Nat, Ru (Instr.loadAt 123 (.pointer (some q5))) w5 (.map m45) w5 ∧ K (.map m45) w5)) [undef, .int .i64 0] w4
set_option maxRecDepth 100000 in
theorem C_patch_Store_may (p0 : Option Addr) (p1 : Option Addr) (w0 : World) (K : Value → World → Prop) (h : D_patch_Store_may p0 p1 w0 K) : Cal Try.prog F_patch_Store_may #[.pointer p0, .pointer p1] w0 K :=
 denF_sound (A := { S := [8, 15], ty := [(8, 4), (15, 3)], raw := [] }) mixed Try.func86 (by kernel_rfl) (by kernel_rfl) ((show denF Try.prog _ Try.f86 _ w0 K = D_patch_Store_may p0 p1 w0 K by kernel_rfl).mpr h)

/- (levee.patch.on).with: slots {18: ''}; loop over [18] -/
set_option maxRecDepth 100000 in
def D_patch_on_with (p0 : Option Addr) (v1 : Value) (w0 : World) (K : Value → World → Prop) : Prop :=
 ∃ q9 : Addr, (.pointer p0 : Value) = .pointer (some q9) ∧ ∃ (a11 : Option Addr) (l11 c11 : Nat), Ru (Instr.loadAt 32 (.pointer (some (Addr.add q9 0)))) w0 (.slice a11 l11 c11) w0 ∧ Cal Try.prog F_slices_Clone_byte #[.slice a11 l11 c11] w0 fun r12 w1 => ∃ (a12 : Option Addr) (l12 c12 : Nat), r12 = .slice a12 l12 c12 ∧ ∃ q14 : Addr, (.pointer p0 : Value) = .pointer (some q14) ∧ ∃ (a16 : Option Addr) (l16 c16 : Nat), Ru (Instr.loadAt 125 (.pointer (some (Addr.add q14 1)))) w1 (.slice a16 l16 c16) w1 ∧ LoopC (fun k x w2 =>
 ∃ n18 : Int, nth x 0 = .int .i64 n18 ∧ (bif decide (n18 < (l16 : Int)) then
 ∃ q20 : Addr, Al (Instr.indexAt 125 (.slice a16 l16 c16) (.int .i64 n18)) (.pointer (some q20)) ∧ ∃ p21 : Option Addr, Ru (Instr.loadAt 128 (.pointer (some q20))) w2 (.pointer p21) w2 ∧ Dyn Try.prog v1 #[.pointer p21] w2 fun r24 w3 => ∃ b24 : Bool, r24 = .bool b24 ∧ Share (fun k_2 => (bif b24 then
 ∃ q27 : Addr, (.pointer p21 : Value) = .pointer (some q27) ∧ ∃ n29 : Int, Ru (Instr.loadAt 3 (.pointer (some (Addr.add q27 2)))) (drew w3) (.int .i64 n29) (drew w3) ∧ ∃ (a30 : Option Addr) (l30 c30 : Nat), Al (Instr.sliceAt 32 (.slice a12 l12 c12) (some (.int .i64 n29)) none none) (.slice a30 l30 c30) ∧ ∃ q32 : Addr, (.pointer p21 : Value) = .pointer (some q32) ∧ ∃ (a34 : Option Addr) (l34 c34 : Nat), Ru (Instr.loadAt 32 (.pointer (some (Addr.add q32 3)))) (drew w3) (.slice a34 l34 c34) (drew w3) ∧ ∃ n35 : Int, ∃ w4 : World, Ru (Builtin.copy_ #[32, 32] 3 #[.slice a30 l30 c30, .slice a34 l34 c34]) (drew w3) (.int .i64 n35) w4 ∧ k_2 [] w4
 else
 k_2 [] w3)) fun x_2 w5 =>
 k [.int .i64 (IntKind.i64.wrap (n18 + 1))] w5
 else
 K (.slice a12 l12 c12) w2)) [.int .i64 0] w1
set_option maxRecDepth 100000 in
theorem C_patch_on_with (p0 : Option Addr) (v1 : Value) (w0 : World) (K : Value → World → Prop) (h : D_patch_on_with p0 v1 w0 K) : Cal Try.prog F_patch_on_with #[.pointer p0, v1] w0 K :=
 denF_sound (A := { S := [18], ty := [(18, 3)], raw := [] }) mixed Try.func87 (by kernel_rfl) (by kernel_rfl) ((show denF Try.prog _ Try.f87 _ w0 K = D_patch_on_with p0 v1 w0 K by kernel_rfl).mpr h)

/- (levee.patch.Store).Flush$1: slots {};  -/
set_option maxRecDepth 100000 in
def D_patch_Store_Flush_1 (p0 : Option Addr) (w0 : World) (K : Value → World → Prop) : Prop :=
 ∃ q4 : Addr, (.pointer p0 : Value) = .pointer (some q4) ∧ ∃ b6 : Bool, Ru (Instr.loadAt 4 (.pointer (some (Addr.add q4 5)))) w0 (.bool b6) w0 ∧ K (.bool b6) w0
set_option maxRecDepth 100000 in
theorem C_patch_Store_Flush_1 (p0 : Option Addr) (w0 : World) (K : Value → World → Prop) (h : D_patch_Store_Flush_1 p0 w0 K) : Cal Try.prog F_patch_Store_Flush_1 #[.pointer p0] w0 K :=
 denF_sound (A := { S := [], ty := [], raw := [] }) mixed Try.func88 (by kernel_rfl) (by kernel_rfl) ((show denF Try.prog _ Try.f88 _ w0 K = D_patch_Store_Flush_1 p0 w0 K by kernel_rfl).mpr h)

/- slices.DeleteFunc[[]levee.patch.change,levee.patch.change]: slots {5: 'i', 6: 'j'}; loop over [5, 6] -/
set_option maxRecDepth 100000 in
def D_slices_DeleteFunc_patch_change (a0 : Option Addr) (l0 c0 : Nat) (v1 : Value) (w0 : World) (K : Value → World → Prop) : Prop :=
 Cal Try.prog F_slices_IndexFunc_patch_change #[.slice a0 l0 c0, v1] w0 fun r10 w1 => ∃ n10 : Int, r10 = .int .i64 n10 ∧ (bif n10 == (-1) then
 K (.slice a0 l0 c0) w1
 else
 LoopC (fun k x w2 =>
 ∃ n6 : Int, nth x 1 = .int .i64 n6 ∧ (bif decide (n6 < (l0 : Int)) then
 ∃ q24 : Addr, Al (Instr.indexAt 125 (.slice a0 l0 c0) (.int .i64 n6)) (.pointer (some q24)) ∧ ∃ p25 : Option Addr, Ru (Instr.loadAt 128 (.pointer (some q24))) w2 (.pointer p25) w2 ∧ Dyn Try.prog v1 #[.pointer p25] w2 fun r28 w3 => ∃ b28 : Bool, r28 = .bool b28 ∧ Share (fun k_2 => (bif !b28 then
 ∃ n5 : Int, nth x 0 = .int .i64 n5 ∧ ∃ q33 : Addr, Al (Instr.indexAt 125 (.slice a0 l0 c0) (.int .i64 n5)) (.pointer (some q33)) ∧ ∃ w4 : World, RuU (Instr.storeAt 128 (.pointer (some q33)) (.pointer p25)) w3 w4 ∧ k_2 [.int .i64 (IntKind.i64.wrap (n5 + 1))] w4
 else
 k_2 [nth x 0] w3)) fun x_2 w5 =>
 k [nth x_2 0, .int .i64 (IntKind.i64.wrap (n6 + 1))] w5
 else
 ∃ n5_2 : Int, nth x 0 = .int .i64 n5_2 ∧ ∃ (a38 : Option Addr) (l38 c38 : Nat), Al (Instr.sliceAt 125 (.slice a0 l0 c0) (some (.int .i64 n5_2)) none none) (.slice a38 l38 c38) ∧ ∃ w6 : World, Ru (Builtin.clear_ #[125] 0 #[.slice a38 l38 c38]) w2 (.tuple #[]) w6 ∧ ∃ (a41 : Option Addr) (l41 c41 : Nat), Al (Instr.sliceAt 125 (.slice a0 l0 c0) none (some (.int .i64 n5_2)) none) (.slice a41 l41 c41) ∧ K (.slice a41 l41 c41) w6)) [.int .i64 n10, .int .i64 (IntKind.i64.wrap (n10 + 1))] w1)
set_option maxRecDepth 100000 in
theorem C_slices_DeleteFunc_patch_change (a0 : Option Addr) (l0 c0 : Nat) (v1 : Value) (w0 : World) (K : Value → World → Prop) (h : D_slices_DeleteFunc_patch_change a0 l0 c0 v1 w0 K) : Cal Try.prog F_slices_DeleteFunc_patch_change #[.slice a0 l0 c0, v1] w0 K :=
 denF_sound (A := { S := [5, 6], ty := [(5, 3), (6, 3)], raw := [] }) mixed Try.func89 (by kernel_rfl) (by kernel_rfl) ((show denF Try.prog _ Try.f89 _ w0 K = D_slices_DeleteFunc_patch_change a0 l0 c0 v1 w0 K by kernel_rfl).mpr h)

/- (levee.patch.Store).Flush$2: slots {};  -/
set_option maxRecDepth 100000 in
def D_patch_Store_Flush_2 (p0 : Option Addr) (w0 : World) (K : Value → World → Prop) : Prop :=
 ∃ q4 : Addr, (.pointer p0 : Value) = .pointer (some q4) ∧ ∃ b6 : Bool, Ru (Instr.loadAt 4 (.pointer (some (Addr.add q4 5)))) w0 (.bool b6) w0 ∧ K (.bool b6) w0
set_option maxRecDepth 100000 in
theorem C_patch_Store_Flush_2 (p0 : Option Addr) (w0 : World) (K : Value → World → Prop) (h : D_patch_Store_Flush_2 p0 w0 K) : Cal Try.prog F_patch_Store_Flush_2 #[.pointer p0] w0 K :=
 denF_sound (A := { S := [], ty := [], raw := [] }) mixed Try.func90 (by kernel_rfl) (by kernel_rfl) ((show denF Try.prog _ Try.f90 _ w0 K = D_patch_Store_Flush_2 p0 w0 K by kernel_rfl).mpr h)

/- slices.ContainsFunc[[]int64,int64]: slots {};  -/
set_option maxRecDepth 100000 in
def D_slices_ContainsFunc_int64 (a0 : Option Addr) (l0 c0 : Nat) (v1 : Value) (w0 : World) (K : Value → World → Prop) : Prop :=
 Cal Try.prog F_slices_IndexFunc_int64 #[.slice a0 l0 c0, v1] w0 fun r7 w1 => ∃ n7 : Int, r7 = .int .i64 n7 ∧ K (.bool (decide (n7 ≥ 0))) w1
set_option maxRecDepth 100000 in
theorem C_slices_ContainsFunc_int64 (a0 : Option Addr) (l0 c0 : Nat) (v1 : Value) (w0 : World) (K : Value → World → Prop) (h : D_slices_ContainsFunc_int64 a0 l0 c0 v1 w0 K) : Cal Try.prog F_slices_ContainsFunc_int64 #[.slice a0 l0 c0, v1] w0 K :=
 denF_sound (A := { S := [], ty := [], raw := [] }) mixed Try.func91 (by kernel_rfl) (by kernel_rfl) ((show denF Try.prog _ Try.f91 _ w0 K = D_slices_ContainsFunc_int64 a0 l0 c0 v1 w0 K by kernel_rfl).mpr h)

/- (levee.patch.Store).Patch$1: slots {};  -/
set_option maxRecDepth 100000 in
def D_patch_Store_Patch_1 (n0 : Int) (v1 : Value) (w0 : World) (K : Value → World → Prop) : Prop :=
 ∃ p4 : Option Addr, Ru (Instr.loadAt 60 v1) w0 (.pointer p4) w0 ∧ Cal Try.prog F_patch_Store_given #[.pointer p4, .int .i64 n0] w0 fun r6 w1 => ∃ b6 : Bool, r6 = .bool b6 ∧ K (.bool (!b6)) w1
set_option maxRecDepth 100000 in
theorem C_patch_Store_Patch_1 (n0 : Int) (v1 : Value) (w0 : World) (K : Value → World → Prop) (h : D_patch_Store_Patch_1 n0 v1 w0 K) : Cal Try.prog F_patch_Store_Patch_1 #[.int .i64 n0, v1] w0 K :=
 denF_sound (A := { S := [], ty := [], raw := [] }) mixed Try.func92 (by kernel_rfl) (by kernel_rfl) ((show denF Try.prog _ Try.f92 _ w0 K = D_patch_Store_Patch_1 n0 v1 w0 K by kernel_rfl).mpr h)

/- (levee.patch.Store).given: slots {4: ''};  -/
set_option maxRecDepth 100000 in
def D_patch_Store_given (p0 : Option Addr) (n1 : Int) (w0 : World) (K : Value → World → Prop) : Prop :=
 Share (fun k => (bif decide (n1 ≥ 1) then ∃ q10 : Addr, (.pointer p0 : Value) = .pointer (some q10) ∧ ∃ n12 : Int, Ru (Instr.loadAt 2 (.pointer (some (Addr.add q10 2)))) w0 (.int .i64 n12) w0 ∧ k [.bool (decide (n1 ≤ n12))] w0 else k [.bool false] w0)) fun x w1 =>
 ∃ b4 : Bool, nth x 0 = .bool b4 ∧ K (.bool b4) w1
set_option maxRecDepth 100000 in
theorem C_patch_Store_given (p0 : Option Addr) (n1 : Int) (w0 : World) (K : Value → World → Prop) (h : D_patch_Store_given p0 n1 w0 K) : Cal Try.prog F_patch_Store_given #[.pointer p0, .int .i64 n1] w0 K :=
 denF_sound (A := { S := [4], ty := [(4, 4)], raw := [] }) mixed Try.func93 (by kernel_rfl) (by kernel_rfl) ((show denF Try.prog _ Try.f93 _ w0 K = D_patch_Store_given p0 n1 w0 K by kernel_rfl).mpr h)

/- levee.num.Lay: slots {};  -/
set_option maxRecDepth 100000 in
def D_num_Lay (a0 : Option Addr) (l0 c0 : Nat) (n1 : Int) (a2 : Option Addr) (l2 c2 : Nat) (w0 : World) (K : Value → World → Prop) : Prop :=
 Cal Try.prog F_num_within #[.slice a0 l0 c0, .int .i64 n1, .int .i64 ((l2 : Int))] w0 fun r13 w1 => ∃ b13 : Bool, r13 = .bool b13 ∧ (bif !b13 then
 K (.tuple #[.slice none 0 0, .int .i64 3]) w1
 else
 ∃ (a17 : Option Addr) (l17 c17 : Nat), ∃ w2 : World, Ru (Instr.makeSlice 32 (.int .i64 ((l0 : Int))) (.int .i64 ((l0 : Int)))) w1 (.slice a17 l17 c17) w2 ∧ ∃ n20 : Int, ∃ w3 : World, Ru (Builtin.copy_ #[32, 32] 3 #[.slice a17 l17 c17, .slice a0 l0 c0]) w2 (.int .i64 n20) w3 ∧ ∃ (a23 : Option Addr) (l23 c23 : Nat), Al (Instr.sliceAt 32 (.slice a17 l17 c17) (some (.int .i64 n1)) none none) (.slice a23 l23 c23) ∧ ∃ n25 : Int, ∃ w4 : World, Ru (Builtin.copy_ #[32, 32] 3 #[.slice a23 l23 c23, .slice a2 l2 c2]) w3 (.int .i64 n25) w4 ∧ K (.tuple #[.slice a17 l17 c17, .int .i64 0]) w4)
set_option maxRecDepth 100000 in
theorem C_num_Lay (a0 : Option Addr) (l0 c0 : Nat) (n1 : Int) (a2 : Option Addr) (l2 c2 : Nat) (w0 : World) (K : Value → World → Prop) (h : D_num_Lay a0 l0 c0 n1 a2 l2 c2 w0 K) : Cal Try.prog F_num_Lay #[.slice a0 l0 c0, .int .i64 n1, .slice a2 l2 c2] w0 K :=
 denF_sound (A := { S := [], ty := [], raw := [] }) mixed Try.func94 (by kernel_rfl) (by kernel_rfl) ((show denF Try.prog _ Try.f94 _ w0 K = D_num_Lay a0 l0 c0 n1 a2 l2 c2 w0 K by kernel_rfl).mpr h)

/- (levee.patch.Store).Image$1: slots {};  -/
set_option maxRecDepth 100000 in
def D_patch_Store_Image_1 (p0 : Option Addr) (v1 : Value) (w0 : World) (K : Value → World → Prop) : Prop :=
 ∃ m4 : Option Nat, Ru (Instr.loadAt 123 v1) (drew w0) (.map m4) (drew w0) ∧ ∃ q6 : Addr, (.pointer p0 : Value) = .pointer (some q6) ∧ ∃ n8 : Int, Ru (Instr.loadAt 2 (.pointer (some (Addr.add q6 0)))) (drew w0) (.int .i64 n8) (drew w0) ∧ ∃ b9 : Bool, Ru (Instr.lookup 123 (.map m4) (.int .i64 n8) false) (drew w0) (.bool b9) (drew w0) ∧ K (.bool b9) (drew w0)
set_option maxRecDepth 100000 in
theorem C_patch_Store_Image_1 (p0 : Option Addr) (v1 : Value) (w0 : World) (K : Value → World → Prop) (h : D_patch_Store_Image_1 p0 v1 w0 K) : Cal Try.prog F_patch_Store_Image_1 #[.pointer p0, v1] w0 K :=
 denF_sound (A := { S := [], ty := [], raw := [] }) mixed Try.func95 (by kernel_rfl) (by kernel_rfl) ((show denF Try.prog _ Try.f95 _ w0 K = D_patch_Store_Image_1 p0 v1 w0 K by kernel_rfl).mpr h)

/- (levee.patch.Store).Waits$1: slots {18: '', 29: '', 55: '', 72: ''}; loop over [55, 72]; loop over [29] -/
set_option maxRecDepth 100000 in
def D_patch_Store_Waits_1 (p0 : Option Addr) (v1 : Value) (v2 : Value) (v3 : Value) (w0 : World) (K : Value → World → Prop) : Prop :=
 Share (fun k => (bif Option.isNone p0 then k [.bool true] (drew w0) else ∃ m12 : Option Nat, Ru (Instr.loadAt 123 v1) (drew w0) (.map m12) (drew w0) ∧ ∃ q14 : Addr, (.pointer p0 : Value) = .pointer (some q14) ∧ ∃ n16 : Int, Ru (Instr.loadAt 2 (.pointer (some (Addr.add q14 0)))) (drew w0) (.int .i64 n16) (drew w0) ∧ ∃ b17 : Bool, Ru (Instr.lookup 123 (.map m12) (.int .i64 n16) false) (drew w0) (.bool b17) (drew w0) ∧ k [.bool b17] (drew w0))) fun x w1 =>
 ∃ b18 : Bool, nth x 0 = .bool b18 ∧ (bif b18 then
 K (.tuple #[]) w1
 else
 ∃ m19 : Option Nat, Ru (Instr.loadAt 123 v1) (drew w1) (.map m19) (drew w1) ∧ ∃ q21 : Addr, (.pointer p0 : Value) = .pointer (some q21) ∧ ∃ n23 : Int, Ru (Instr.loadAt 2 (.pointer (some (Addr.add q21 0)))) (drew w1) (.int .i64 n23) (drew w1) ∧ ∃ w2 : World, RuU (Instr.mapUpdate 123 (.map m19) (.int .i64 n23) (.bool true)) (drew w1) w2 ∧ ∃ q25 : Addr, (.pointer p0 : Value) = .pointer (some q25) ∧ ∃ (a27 : Option Addr) (l27 c27 : Nat), Ru (Instr.loadAt 64 (.pointer (some (Addr.add q25 4)))) w2 (.slice a27 l27 c27) w2 ∧ LoopC (fun k_2 x_2 w3 =>
 ∃ n29 : Int, nth x_2 0 = .int .i64 n29 ∧ (bif decide (n29 < (l27 : Int)) then
 ∃ q31 : Addr, Al (Instr.indexAt 64 (.slice a27 l27 c27) (.int .i64 n29)) (.pointer (some q31)) ∧ ∃ n32 : Int, Ru (Instr.loadAt 2 (.pointer (some q31))) w3 (.int .i64 n32) w3 ∧ ∃ v33 : Value, Ru (Instr.loadAt 136 v2) (drew w3) v33 (drew w3) ∧ ∃ p34 : Option Addr, Ru (Instr.loadAt 60 v3) (drew w3) (.pointer p34) (drew w3) ∧ ∃ q35 : Addr, (.pointer p34 : Value) = .pointer (some q35) ∧ ∃ m37 : Option Nat, Ru (Instr.loadAt 118 (.pointer (some (Addr.add q35 3)))) (drew w3) (.map m37) (drew w3) ∧ ∃ p39 : Option Addr, Ru (Instr.lookup 118 (.map m37) (.int .i64 n32) false) (drew w3) (.pointer p39) (drew w3) ∧ Dyn Try.prog v33 #[.pointer p39] (drew w3) fun r40 w4 => r40 = .tuple #[] ∧ k_2 [.int .i64 (IntKind.i64.wrap (n29 + 1))] w4
 else
 ∃ p42 : Option Addr, Ru (Instr.loadAt 60 v3) (drew w3) (.pointer p42) (drew w3) ∧ ∃ q43 : Addr, (.pointer p42 : Value) = .pointer (some q43) ∧ ∃ m45 : Option Nat, Ru (Instr.loadAt 119 (.pointer (some (Addr.add q43 4)))) (drew w3) (.map m45) (drew w3) ∧ ∃ q47 : Addr, (.pointer p0 : Value) = .pointer (some q47) ∧ ∃ n49 : Int, Ru (Instr.loadAt 3 (.pointer (some (Addr.add q47 1)))) (drew w3) (.int .i64 n49) (drew w3) ∧ ∃ p50 : Option Addr, Ru (Instr.lookup 119 (.map m45) (.int .i64 n49) false) (drew w3) (.pointer p50) (drew w3) ∧ ∃ q51 : Addr, (.pointer p50 : Value) = .pointer (some q51) ∧ ∃ (a53 : Option Addr) (l53 c53 : Nat), Ru (Instr.loadAt 125 (.pointer (some (Addr.add q51 1)))) (drew w3) (.slice a53 l53 c53) (drew w3) ∧ LoopC (fun k_3 x_3 w5 =>
 ∃ n55 : Int, nth x_3 0 = .int .i64 n55 ∧ (bif decide (n55 < (l53 : Int)) then
 ∃ q57 : Addr, Al (Instr.indexAt 125 (.slice a53 l53 c53) (.int .i64 n55)) (.pointer (some q57)) ∧ ∃ p58 : Option Addr, Ru (Instr.loadAt 128 (.pointer (some q57))) w5 (.pointer p58) w5 ∧ Share (fun k_4 => ∃ q60 : Addr, (.pointer p58 : Value) = .pointer (some q60) ∧ ∃ n62 : Int, Ru (Instr.loadAt 2 (.pointer (some (Addr.add q60 0)))) (drew w5) (.int .i64 n62) (drew w5) ∧ ∃ q64 : Addr, (.pointer p0 : Value) = .pointer (some q64) ∧ ∃ n66 : Int, Ru (Instr.loadAt 2 (.pointer (some (Addr.add q64 0)))) (drew w5) (.int .i64 n66) (drew w5) ∧ (bif decide (n62 < n66) then Cal Try.prog F_patch_change_meets #[.pointer p58, .pointer p0] (drew w5) fun r71 w6 => ∃ b71 : Bool, r71 = .bool b71 ∧ k_4 [.bool b71] w6 else k_4 [.bool false] (drew w5))) fun x_4 w7 =>
 ∃ b72 : Bool, nth x_4 0 = .bool b72 ∧ Share (fun k_5 => (bif b72 then
 ∃ v73 : Value, Ru (Instr.loadAt 136 v2) w7 v73 w7 ∧ Dyn Try.prog v73 #[.pointer p58] w7 fun r75 w8 => r75 = .tuple #[] ∧ k_5 [] w8
 else
 k_5 [] w7)) fun x_5 w9 =>
 k_3 [.int .i64 (IntKind.i64.wrap (n55 + 1)), .bool b72] w9
 else
 K (.tuple #[]) w5)) [.int .i64 0, undef] (drew w3))) [.int .i64 0] w2)
set_option maxRecDepth 100000 in
theorem C_patch_Store_Waits_1 (p0 : Option Addr) (v1 : Value) (v2 : Value) (v3 : Value) (w0 : World) (K : Value → World → Prop) (h : D_patch_Store_Waits_1 p0 v1 v2 v3 w0 K) : Cal Try.prog F_patch_Store_Waits_1 #[.pointer p0, v1, v2, v3] w0 K :=
 denF_sound (A := { S := [18, 29, 55, 72], ty := [(18, 4), (29, 3), (55, 3), (72, 4)], raw := [] }) mixed Try.func96 (by kernel_rfl) (by kernel_rfl) ((show denF Try.prog _ Try.f96 _ w0 K = D_patch_Store_Waits_1 p0 v1 v2 v3 w0 K by kernel_rfl).mpr h)

/- (levee.patch.change).meets: slots {4: ''};  -/
set_option maxRecDepth 100000 in
def D_patch_change_meets (p0 : Option Addr) (p1 : Option Addr) (w0 : World) (K : Value → World → Prop) : Prop :=
 Share (fun k => ∃ q6 : Addr, (.pointer p0 : Value) = .pointer (some q6) ∧ ∃ n8 : Int, Ru (Instr.loadAt 3 (.pointer (some (Addr.add q6 2)))) (drew w0) (.int .i64 n8) (drew w0) ∧ ∃ q10 : Addr, (.pointer p1 : Value) = .pointer (some q10) ∧ ∃ n12 : Int, Ru (Instr.loadAt 3 (.pointer (some (Addr.add q10 2)))) (drew w0) (.int .i64 n12) (drew w0) ∧ ∃ q14 : Addr, (.pointer p1 : Value) = .pointer (some q14) ∧ ∃ (a16 : Option Addr) (l16 c16 : Nat), Ru (Instr.loadAt 32 (.pointer (some (Addr.add q14 3)))) (drew w0) (.slice a16 l16 c16) (drew w0) ∧ (bif decide (n8 < (IntKind.i64.wrap (n12 + (l16 : Int)))) then ∃ q22 : Addr, (.pointer p1 : Value) = .pointer (some q22) ∧ ∃ n24 : Int, Ru (Instr.loadAt 3 (.pointer (some (Addr.add q22 2)))) (drew w0) (.int .i64 n24) (drew w0) ∧ ∃ q26 : Addr, (.pointer p0 : Value) = .pointer (some q26) ∧ ∃ n28 : Int, Ru (Instr.loadAt 3 (.pointer (some (Addr.add q26 2)))) (drew w0) (.int .i64 n28) (drew w0) ∧ ∃ q30 : Addr, (.pointer p0 : Value) = .pointer (some q30) ∧ ∃ (a32 : Option Addr) (l32 c32 : Nat), Ru (Instr.loadAt 32 (.pointer (some (Addr.add q30 3)))) (drew w0) (.slice a32 l32 c32) (drew w0) ∧ k [.bool (decide (n24 < (IntKind.i64.wrap (n28 + (l32 : Int)))))] (drew w0) else k [.bool false] (drew w0))) fun x w1 =>
 ∃ b4 : Bool, nth x 0 = .bool b4 ∧ K (.bool b4) w1
set_option maxRecDepth 100000 in
theorem C_patch_change_meets (p0 : Option Addr) (p1 : Option Addr) (w0 : World) (K : Value → World → Prop) (h : D_patch_change_meets p0 p1 w0 K) : Cal Try.prog F_patch_change_meets #[.pointer p0, .pointer p1] w0 K :=
 denF_sound (A := { S := [4], ty := [(4, 4)], raw := [] }) mixed Try.func97 (by kernel_rfl) (by kernel_rfl) ((show denF Try.prog _ Try.f97 _ w0 K = D_patch_change_meets p0 p1 w0 K by kernel_rfl).mpr h)

/- (levee.patch.Store).may$1: slots {4: ''};  -/
set_option maxRecDepth 100000 in
def D_patch_Store_may_1 (n0 : Int) (v1 : Value) (v2 : Value) (w0 : World) (K : Value → World → Prop) : Prop :=
 Share (fun k => ∃ p5 : Option Addr, Ru (Instr.loadAt 60 v1) w0 (.pointer p5) w0 ∧ ∃ q6 : Addr, (.pointer p5 : Value) = .pointer (some q6) ∧ ∃ m8 : Option Nat, Ru (Instr.loadAt 118 (.pointer (some (Addr.add q6 3)))) w0 (.map m8) w0 ∧ ∃ p10 : Option Addr, Ru (Instr.lookup 118 (.map m8) (.int .i64 n0) false) w0 (.pointer p10) w0 ∧ (bif !(Option.isNone p10) then ∃ m13 : Option Nat, Ru (Instr.loadAt 123 v2) w0 (.map m13) w0 ∧ ∃ b15 : Bool, Ru (Instr.lookup 123 (.map m13) (.int .i64 n0) false) w0 (.bool b15) w0 ∧ k [.bool (!b15)] w0 else k [.bool false] w0)) fun x w1 =>
 ∃ b4 : Bool, nth x 0 = .bool b4 ∧ K (.bool b4) w1
set_option maxRecDepth 100000 in
theorem C_patch_Store_may_1 (n0 : Int) (v1 : Value) (v2 : Value) (w0 : World) (K : Value → World → Prop) (h : D_patch_Store_may_1 n0 v1 v2 w0 K) : Cal Try.prog F_patch_Store_may_1 #[.int .i64 n0, v1, v2] w0 K :=
 denF_sound (A := { S := [4], ty := [(4, 4)], raw := [] }) mixed Try.func114 (by kernel_rfl) (by kernel_rfl) ((show denF Try.prog _ Try.f114 _ w0 K = D_patch_Store_may_1 n0 v1 v2 w0 K by kernel_rfl).mpr h)

/- slices.ContainsFunc[[]levee.patch.change,levee.patch.change]: slots {};  -/
set_option maxRecDepth 100000 in
def D_slices_ContainsFunc_patch_change (a0 : Option Addr) (l0 c0 : Nat) (v1 : Value) (w0 : World) (K : Value → World → Prop) : Prop :=
 Cal Try.prog F_slices_IndexFunc_patch_change #[.slice a0 l0 c0, v1] w0 fun r7 w1 => ∃ n7 : Int, r7 = .int .i64 n7 ∧ K (.bool (decide (n7 ≥ 0))) w1
set_option maxRecDepth 100000 in
theorem C_slices_ContainsFunc_patch_change (a0 : Option Addr) (l0 c0 : Nat) (v1 : Value) (w0 : World) (K : Value → World → Prop) (h : D_slices_ContainsFunc_patch_change a0 l0 c0 v1 w0 K) : Cal Try.prog F_slices_ContainsFunc_patch_change #[.slice a0 l0 c0, v1] w0 K :=
 denF_sound (A := { S := [], ty := [], raw := [] }) mixed Try.func115 (by kernel_rfl) (by kernel_rfl) ((show denF Try.prog _ Try.f115 _ w0 K = D_slices_ContainsFunc_patch_change a0 l0 c0 v1 w0 K by kernel_rfl).mpr h)

/- (levee.patch.Store).may$2: slots {4: ''};  -/
set_option maxRecDepth 100000 in
def D_patch_Store_may_2 (p0 : Option Addr) (v1 : Value) (v2 : Value) (w0 : World) (K : Value → World → Prop) : Prop :=
 Share (fun k => ∃ p6 : Option Addr, Ru (Instr.loadAt 128 v1) (drew w0) (.pointer p6) (drew w0) ∧ Cal Try.prog F_patch_change_meets #[.pointer p0, .pointer p6] (drew w0) fun r7 w1 => ∃ b7 : Bool, r7 = .bool b7 ∧ (bif b7 then ∃ m9 : Option Nat, Ru (Instr.loadAt 123 v2) w1 (.map m9) w1 ∧ ∃ q11 : Addr, (.pointer p0 : Value) = .pointer (some q11) ∧ ∃ n13 : Int, Ru (Instr.loadAt 2 (.pointer (some (Addr.add q11 0)))) w1 (.int .i64 n13) w1 ∧ ∃ b14 : Bool, Ru (Instr.lookup 123 (.map m9) (.int .i64 n13) false) w1 (.bool b14) w1 ∧ k [.bool (!b14)] w1 else k [.bool false] w1)) fun x w2 =>
 ∃ b4 : Bool, nth x 0 = .bool b4 ∧ K (.bool b4) w2
set_option maxRecDepth 100000 in
theorem C_patch_Store_may_2 (p0 : Option Addr) (v1 : Value) (v2 : Value) (w0 : World) (K : Value → World → Prop) (h : D_patch_Store_may_2 p0 v1 v2 w0 K) : Cal Try.prog F_patch_Store_may_2 #[.pointer p0, v1, v2] w0 K :=
 denF_sound (A := { S := [4], ty := [(4, 4)], raw := [] }) mixed Try.func116 (by kernel_rfl) (by kernel_rfl) ((show denF Try.prog _ Try.f116 _ w0 K = D_patch_Store_may_2 p0 v1 v2 w0 K by kernel_rfl).mpr h)

/- slices.IndexFunc[[]levee.patch.change,levee.patch.change]: slots {8: ''}; loop over [8] -/
set_option maxRecDepth 100000 in
def D_slices_IndexFunc_patch_change (a0 : Option Addr) (l0 c0 : Nat) (v1 : Value) (w0 : World) (K : Value → World → Prop) : Prop :=
 LoopC (fun k x w1 =>
 ∃ n8 : Int, nth x 0 = .int .i64 n8 ∧ (bif decide (n8 < (l0 : Int)) then
 ∃ q14 : Addr, Al (Instr.indexAt 125 (.slice a0 l0 c0) (.int .i64 n8)) (.pointer (some q14)) ∧ ∃ p15 : Option Addr, Ru (Instr.loadAt 128 (.pointer (some q14))) w1 (.pointer p15) w1 ∧ Dyn Try.prog v1 #[.pointer p15] w1 fun r16 w2 => ∃ b16 : Bool, r16 = .bool b16 ∧ (bif b16 then
 K (.int .i64 n8) w2
 else
 k [.int .i64 (IntKind.i64.wrap (n8 + 1))] w2)
 else
 K (.int .i64 ((-1))) w1)) [.int .i64 0] w0
set_option maxRecDepth 100000 in
theorem C_slices_IndexFunc_patch_change (a0 : Option Addr) (l0 c0 : Nat) (v1 : Value) (w0 : World) (K : Value → World → Prop) (h : D_slices_IndexFunc_patch_change a0 l0 c0 v1 w0 K) : Cal Try.prog F_slices_IndexFunc_patch_change #[.slice a0 l0 c0, v1] w0 K :=
 denF_sound (A := { S := [8], ty := [(8, 3)], raw := [] }) mixed Try.func117 (by kernel_rfl) (by kernel_rfl) ((show denF Try.prog _ Try.f117 _ w0 K = D_slices_IndexFunc_patch_change a0 l0 c0 v1 w0 K by kernel_rfl).mpr h)

/- slices.IndexFunc[[]int64,int64]: slots {8: ''}; loop over [8] -/
set_option maxRecDepth 100000 in
def D_slices_IndexFunc_int64 (a0 : Option Addr) (l0 c0 : Nat) (v1 : Value) (w0 : World) (K : Value → World → Prop) : Prop :=
 LoopC (fun k x w1 =>
 ∃ n8 : Int, nth x 0 = .int .i64 n8 ∧ (bif decide (n8 < (l0 : Int)) then
 ∃ q14 : Addr, Al (Instr.indexAt 64 (.slice a0 l0 c0) (.int .i64 n8)) (.pointer (some q14)) ∧ ∃ n15 : Int, Ru (Instr.loadAt 2 (.pointer (some q14))) w1 (.int .i64 n15) w1 ∧ Dyn Try.prog v1 #[.int .i64 n15] w1 fun r16 w2 => ∃ b16 : Bool, r16 = .bool b16 ∧ (bif b16 then
 K (.int .i64 n8) w2
 else
 k [.int .i64 (IntKind.i64.wrap (n8 + 1))] w2)
 else
 K (.int .i64 ((-1))) w1)) [.int .i64 0] w0
set_option maxRecDepth 100000 in
theorem C_slices_IndexFunc_int64 (a0 : Option Addr) (l0 c0 : Nat) (v1 : Value) (w0 : World) (K : Value → World → Prop) (h : D_slices_IndexFunc_int64 a0 l0 c0 v1 w0 K) : Cal Try.prog F_slices_IndexFunc_int64 #[.slice a0 l0 c0, v1] w0 K :=
 denF_sound (A := { S := [8], ty := [(8, 3)], raw := [] }) mixed Try.func118 (by kernel_rfl) (by kernel_rfl) ((show denF Try.prog _ Try.f118 _ w0 K = D_slices_IndexFunc_int64 a0 l0 c0 v1 w0 K by kernel_rfl).mpr h)

/- levee.num.within: slots {6: ''};  -/
set_option maxRecDepth 100000 in
def D_num_within (a0 : Option Addr) (l0 c0 : Nat) (n1 : Int) (n2 : Int) (w0 : World) (K : Value → World → Prop) : Prop :=
 Share (fun k => (bif decide (n1 ≥ 0) then (bif decide (n2 ≥ 0) then (bif decide (n1 ≤ (l0 : Int)) then k [.bool (decide (n2 ≤ (IntKind.i64.wrap ((l0 : Int) - n1))))] w0 else k [.bool false] w0) else k [.bool false] w0) else k [.bool false] w0)) fun x w1 =>
 ∃ b6 : Bool, nth x 0 = .bool b6 ∧ K (.bool b6) w1
set_option maxRecDepth 100000 in
theorem C_num_within (a0 : Option Addr) (l0 c0 : Nat) (n1 : Int) (n2 : Int) (w0 : World) (K : Value → World → Prop) (h : D_num_within a0 l0 c0 n1 n2 w0 K) : Cal Try.prog F_num_within #[.slice a0 l0 c0, .int .i64 n1, .int .i64 n2] w0 K :=
 denF_sound (A := { S := [6], ty := [(6, 4)], raw := [] }) mixed Try.func119 (by kernel_rfl) (by kernel_rfl) ((show denF Try.prog _ Try.f119 _ w0 K = D_num_within a0 l0 c0 n1 n2 w0 K by kernel_rfl).mpr h)

end Go.Proofs.Ytgcecmfjpljpcaa
