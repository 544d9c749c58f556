/-
  Facts on this seat's types, for the abstract machine. Printed by mk.py.
-/
import Derived.Test.YtmjcfcbjccepnaaE26
import Derived.Test.YtmjcfcbjccepnaaProg
import Derived.KernelRfl
namespace Go.Proofs.Ytmjcfcbjccepnaa.Eng
open Go Go.RowKit
variable {W : World} {M : Nat}
/-- The environment of this seat's calls. -/
noncomputable def En (W : World) (M : Nat) : Env := ⟨Try.prog, W, M, fun f => if f = 23 then some (sortX .i64 M) else none⟩
theorem En_P : (En W M).P = Try.prog := rfl
theorem En_M : (En W M).M = M := rfl
theorem En_w0 : (En W M).w0 = W := rfl
theorem stc_En {H : AH} {r off : Nat} {vs : List Value} : stc (En W M) H ⟨M + r, off, none⟩ vs = stO H r H[r]? off vs := stc_new (E := En W M)
theorem ld_En {H : AH} {r off : Nat} : ld (En W M) H ⟨M + r, off, none⟩ = ldO H[r]? off := ld_new (E := En W M)
theorem sz3 : sizeT (En W M) 3 = some 1 := by kernel_rfl
theorem kb3 : bytesT (En W M) 3 = some 8 := by kernel_rfl
theorem zr3 : zeroT (En W M) 3 = some (.int .i64 0) := by kernel_rfl
theorem ag3 : isAggT (En W M) 3 = some false := by kernel_rfl
theorem pk3 : plainKey (En W M) 3 = some (.int .i64) := by kernel_rfl
theorem sz4 : sizeT (En W M) 4 = some 1 := by kernel_rfl
theorem kb4 : bytesT (En W M) 4 = some 1 := by kernel_rfl
theorem zr4 : zeroT (En W M) 4 = some (.bool false) := by kernel_rfl
theorem ag4 : isAggT (En W M) 4 = some false := by kernel_rfl
theorem sz5 : sizeT (En W M) 5 = some 1 := by kernel_rfl
theorem kb5 : bytesT (En W M) 5 = some 1 := by kernel_rfl
theorem zr5 : zeroT (En W M) 5 = some (.int .u8 0) := by kernel_rfl
theorem ag5 : isAggT (En W M) 5 = some false := by kernel_rfl
theorem pk5 : plainKey (En W M) 5 = some (.int .u8) := by kernel_rfl
theorem sz9 : sizeT (En W M) 9 = some 1 := by kernel_rfl
theorem kb9 : bytesT (En W M) 9 = some 16 := by kernel_rfl
theorem zr9 : zeroT (En W M) 9 = some (.string ByteArray.empty) := by kernel_rfl
theorem ag9 : isAggT (En W M) 9 = some false := by kernel_rfl
theorem pk9 : plainKey (En W M) 9 = some .string := by kernel_rfl
theorem sz22 : sizeT (En W M) 22 = some 1 := by kernel_rfl
theorem kb22 : bytesT (En W M) 22 = some 24 := by kernel_rfl
theorem zr22 : zeroT (En W M) 22 = some (.slice none 0 0) := by kernel_rfl
theorem ag22 : isAggT (En W M) 22 = some false := by kernel_rfl
theorem sz23 : sizeT (En W M) 23 = some 1 := by kernel_rfl
theorem kb23 : bytesT (En W M) 23 = some 24 := by kernel_rfl
theorem zr23 : zeroT (En W M) 23 = some (.slice none 0 0) := by kernel_rfl
theorem ag23 : isAggT (En W M) 23 = some false := by kernel_rfl
theorem sz27 : sizeT (En W M) 27 = some 1 := by kernel_rfl
theorem kb27 : bytesT (En W M) 27 = some 24 := by kernel_rfl
theorem zr27 : zeroT (En W M) 27 = some (.slice none 0 0) := by kernel_rfl
theorem ag27 : isAggT (En W M) 27 = some false := by kernel_rfl
theorem sz30 : sizeT (En W M) 30 = some 3 := by kernel_rfl
theorem kb30 : bytesT (En W M) 30 = some 40 := by kernel_rfl
theorem zr30 : zeroT (En W M) 30 = some (.agg #[.int .i64 0, .int .i64 0, .slice none 0 0]) := by kernel_rfl
theorem ag30 : isAggT (En W M) 30 = some true := by kernel_rfl
theorem fa30x0 {a : Addr} : evFieldAddr (En W M) 30 (.pointer (some a)) 0 = some (.pointer (some (a.add 0))) := by kernel_rfl
theorem fl30x0 {cs : Array Value} : evField (En W M) 30 (.agg cs) 0 = cs[0]? := by kernel_rfl
theorem fa30x1 {a : Addr} : evFieldAddr (En W M) 30 (.pointer (some a)) 1 = some (.pointer (some (a.add 1))) := by kernel_rfl
theorem fl30x1 {cs : Array Value} : evField (En W M) 30 (.agg cs) 1 = cs[1]? := by kernel_rfl
theorem fa30x2 {a : Addr} : evFieldAddr (En W M) 30 (.pointer (some a)) 2 = some (.pointer (some (a.add 2))) := by kernel_rfl
theorem fl30x2 {cs : Array Value} : evField (En W M) 30 (.agg cs) 2 = cs[2]? := by kernel_rfl
theorem pl30 : placesT (En W M) 30 = some (fun i => [(0, 1), (1, 1), (2, 1)][i]?) := by kernel_rfl
theorem gd30 : Try.prog.eqGuardType Try.prog.depth 30 = false := by kernel_rfl
theorem st30 : Try.prog.stoodInHeld 30 = false := by kernel_rfl
theorem sz33 : sizeT (En W M) 33 = some 2 := by kernel_rfl
theorem kb33 : bytesT (En W M) 33 = some 16 := by kernel_rfl
theorem zr33 : zeroT (En W M) 33 = some (.agg #[.int .i64 0, .int .i64 0]) := by kernel_rfl
theorem ag33 : isAggT (En W M) 33 = some true := by kernel_rfl
theorem fa33x0 {a : Addr} : evFieldAddr (En W M) 33 (.pointer (some a)) 0 = some (.pointer (some (a.add 0))) := by kernel_rfl
theorem fl33x0 {cs : Array Value} : evField (En W M) 33 (.agg cs) 0 = cs[0]? := by kernel_rfl
theorem fa33x1 {a : Addr} : evFieldAddr (En W M) 33 (.pointer (some a)) 1 = some (.pointer (some (a.add 1))) := by kernel_rfl
theorem fl33x1 {cs : Array Value} : evField (En W M) 33 (.agg cs) 1 = cs[1]? := by kernel_rfl
theorem pl33 : placesT (En W M) 33 = some (fun i => [(0, 1), (1, 1)][i]?) := by kernel_rfl
theorem gd33 : Try.prog.eqGuardType Try.prog.depth 33 = false := by kernel_rfl
theorem st33 : Try.prog.stoodInHeld 33 = false := by kernel_rfl
theorem sz37 : sizeT (En W M) 37 = some 4 := by kernel_rfl
theorem kb37 : bytesT (En W M) 37 = some 80 := by kernel_rfl
theorem zr37 : zeroT (En W M) 37 = some (.agg #[.slice none 0 0, .slice none 0 0, .slice none 0 0, .int .i64 0]) := by kernel_rfl
theorem ag37 : isAggT (En W M) 37 = some true := by kernel_rfl
theorem fa37x0 {a : Addr} : evFieldAddr (En W M) 37 (.pointer (some a)) 0 = some (.pointer (some (a.add 0))) := by kernel_rfl
theorem fl37x0 {cs : Array Value} : evField (En W M) 37 (.agg cs) 0 = cs[0]? := by kernel_rfl
theorem fa37x1 {a : Addr} : evFieldAddr (En W M) 37 (.pointer (some a)) 1 = some (.pointer (some (a.add 1))) := by kernel_rfl
theorem fl37x1 {cs : Array Value} : evField (En W M) 37 (.agg cs) 1 = cs[1]? := by kernel_rfl
theorem fa37x2 {a : Addr} : evFieldAddr (En W M) 37 (.pointer (some a)) 2 = some (.pointer (some (a.add 2))) := by kernel_rfl
theorem fl37x2 {cs : Array Value} : evField (En W M) 37 (.agg cs) 2 = cs[2]? := by kernel_rfl
theorem fa37x3 {a : Addr} : evFieldAddr (En W M) 37 (.pointer (some a)) 3 = some (.pointer (some (a.add 3))) := by kernel_rfl
theorem fl37x3 {cs : Array Value} : evField (En W M) 37 (.agg cs) 3 = cs[3]? := by kernel_rfl
theorem pl37 : placesT (En W M) 37 = some (fun i => [(0, 1), (1, 1), (2, 1), (3, 1)][i]?) := by kernel_rfl
theorem gd37 : Try.prog.eqGuardType Try.prog.depth 37 = false := by kernel_rfl
theorem st37 : Try.prog.stoodInHeld 37 = false := by kernel_rfl
theorem sz46 : sizeT (En W M) 46 = some 1 := by kernel_rfl
theorem kb46 : bytesT (En W M) 46 = some 8 := by kernel_rfl
theorem zr46 : zeroT (En W M) 46 = some (.pointer none) := by kernel_rfl
theorem ag46 : isAggT (En W M) 46 = some false := by kernel_rfl
theorem sz48 : sizeT (En W M) 48 = some 3 := by kernel_rfl
theorem kb48 : bytesT (En W M) 48 = some 72 := by kernel_rfl
theorem zr48 : zeroT (En W M) 48 = some (.agg #[.slice none 0 0, .slice none 0 0, .slice none 0 0]) := by kernel_rfl
theorem ag48 : isAggT (En W M) 48 = some true := by kernel_rfl
theorem fa48x0 {a : Addr} : evFieldAddr (En W M) 48 (.pointer (some a)) 0 = some (.pointer (some (a.add 0))) := by kernel_rfl
theorem fl48x0 {cs : Array Value} : evField (En W M) 48 (.agg cs) 0 = cs[0]? := by kernel_rfl
theorem fa48x1 {a : Addr} : evFieldAddr (En W M) 48 (.pointer (some a)) 1 = some (.pointer (some (a.add 1))) := by kernel_rfl
theorem fl48x1 {cs : Array Value} : evField (En W M) 48 (.agg cs) 1 = cs[1]? := by kernel_rfl
theorem fa48x2 {a : Addr} : evFieldAddr (En W M) 48 (.pointer (some a)) 2 = some (.pointer (some (a.add 2))) := by kernel_rfl
theorem fl48x2 {cs : Array Value} : evField (En W M) 48 (.agg cs) 2 = cs[2]? := by kernel_rfl
theorem pl48 : placesT (En W M) 48 = some (fun i => [(0, 1), (1, 1), (2, 1)][i]?) := by kernel_rfl
theorem gd48 : Try.prog.eqGuardType Try.prog.depth 48 = false := by kernel_rfl
theorem st48 : Try.prog.stoodInHeld 48 = false := by kernel_rfl
theorem sz53 : sizeT (En W M) 53 = some 1 := by kernel_rfl
theorem kb53 : bytesT (En W M) 53 = some 8 := by kernel_rfl
theorem zr53 : zeroT (En W M) 53 = some (.nilFunc) := by kernel_rfl
theorem ag53 : isAggT (En W M) 53 = some false := by kernel_rfl
theorem sz56 : sizeT (En W M) 56 = some 1 := by kernel_rfl
theorem kb56 : bytesT (En W M) 56 = some 8 := by kernel_rfl
theorem zr56 : zeroT (En W M) 56 = some (.nilFunc) := by kernel_rfl
theorem ag56 : isAggT (En W M) 56 = some false := by kernel_rfl
theorem sz61 : sizeT (En W M) 61 = some 1 := by kernel_rfl
theorem kb61 : bytesT (En W M) 61 = some 8 := by kernel_rfl
theorem zr61 : zeroT (En W M) 61 = some (.int .u64 0) := by kernel_rfl
theorem ag61 : isAggT (En W M) 61 = some false := by kernel_rfl
theorem pk61 : plainKey (En W M) 61 = some (.int .u64) := by kernel_rfl
theorem sz65 : sizeT (En W M) 65 = some 1 := by kernel_rfl
theorem kb65 : bytesT (En W M) 65 = some 8 := by kernel_rfl
theorem zr65 : zeroT (En W M) 65 = some (.map none) := by kernel_rfl
theorem ag65 : isAggT (En W M) 65 = some false := by kernel_rfl
theorem sz67 : sizeT (En W M) 67 = some 1 := by kernel_rfl
theorem kb67 : bytesT (En W M) 67 = some 8 := by kernel_rfl
theorem zr67 : zeroT (En W M) 67 = some (.int .i64 0) := by kernel_rfl
theorem ag67 : isAggT (En W M) 67 = some false := by kernel_rfl
theorem pk67 : plainKey (En W M) 67 = some (.int .i64) := by kernel_rfl
theorem sz76 : sizeT (En W M) 76 = some 1 := by kernel_rfl
theorem kb76 : bytesT (En W M) 76 = some 4 := by kernel_rfl
theorem zr76 : zeroT (En W M) 76 = some (.int .u32 0) := by kernel_rfl
theorem ag76 : isAggT (En W M) 76 = some false := by kernel_rfl
theorem pk76 : plainKey (En W M) 76 = some (.int .u32) := by kernel_rfl
theorem sz78 : sizeT (En W M) 78 = some 1 := by kernel_rfl
theorem kb78 : bytesT (En W M) 78 = some 8 := by kernel_rfl
theorem zr78 : zeroT (En W M) 78 = some (.int .u64 0) := by kernel_rfl
theorem ag78 : isAggT (En W M) 78 = some false := by kernel_rfl
theorem pk78 : plainKey (En W M) 78 = some (.int .u64) := by kernel_rfl
theorem sz79 : sizeT (En W M) 79 = some 1 := by kernel_rfl
theorem kb79 : bytesT (En W M) 79 = some 8 := by kernel_rfl
theorem zr79 : zeroT (En W M) 79 = some (.int .u64 0) := by kernel_rfl
theorem ag79 : isAggT (En W M) 79 = some false := by kernel_rfl
theorem pk79 : plainKey (En W M) 79 = some (.int .u64) := by kernel_rfl
theorem sz83 : sizeT (En W M) 83 = some 1 := by kernel_rfl
theorem kb83 : bytesT (En W M) 83 = some 8 := by kernel_rfl
theorem zr83 : zeroT (En W M) 83 = some (.pointer none) := by kernel_rfl
theorem ag83 : isAggT (En W M) 83 = some false := by kernel_rfl
theorem zz0 : type_of% @EvOps_nil := @EvOps_nil
theorem zz1 : type_of% @EvOps_move := @EvOps_move
theorem zz2 : type_of% @EvOps_assign := @EvOps_assign
theorem zz3 : type_of% @EvOps_pick := @EvOps_pick
theorem zz4 : type_of% @EvOps_alloc := @EvOps_alloc
theorem zz5 : type_of% @EvOps_box := @EvOps_box
theorem zz6 : type_of% @EvOps_build := @EvOps_build
theorem zz7 : type_of% @EvOps_buildSlice := @EvOps_buildSlice
theorem zz8 : type_of% @EvOps_load := @EvOps_load
theorem zz9 : type_of% @EvOps_store := @EvOps_store
theorem zz10 : type_of% @EvOps_nilCheck := @EvOps_nilCheck
theorem zz11 : type_of% @EvOps_binOp := @EvOps_binOp
theorem zz12 : type_of% @EvOps_unOp := @EvOps_unOp
theorem zz13 : type_of% @EvOps_convert := @EvOps_convert
theorem zz14 : type_of% @EvOps_makeInterface := @EvOps_makeInterface
theorem zz15 : type_of% @EvOps_makeFunc := @EvOps_makeFunc
theorem zz16 : type_of% @EvOps_makeMap := @EvOps_makeMap
theorem zz17 : type_of% @EvOps_makeSlice := @EvOps_makeSlice
theorem zz18 : type_of% @EvOps_slice := @EvOps_slice
theorem zz19 : type_of% @EvOps_fieldAddr := @EvOps_fieldAddr
theorem zz20 : type_of% @EvOps_field := @EvOps_field
theorem zz21 : type_of% @EvOps_indexAddr := @EvOps_indexAddr
theorem zz22 : type_of% @EvOps_index := @EvOps_index
theorem zz23 : type_of% @EvOps_lookup := @EvOps_lookup
theorem zz24 : type_of% @EvOps_mapUpdate := @EvOps_mapUpdate
theorem zz25 : type_of% @EvOps_insert := @EvOps_insert
theorem zz26 : type_of% @EvOps_typeAssert := @EvOps_typeAssert
theorem zz27 : type_of% @EvOps_extract := @EvOps_extract
theorem zz28 : type_of% @EvOps_builtin := @EvOps_builtin
theorem zz29 : type_of% @EvOps_call := @EvOps_call
theorem zz30 : type_of% @EvOps_guard := @EvOps_guard
theorem zz31 : type_of% @bindK_some := @bindK_some
theorem zz32 : type_of% @nxt_pair := @nxt_pair
theorem zz33 : type_of% @ECall_pair := @ECall_pair
theorem zz34 : type_of% @EGd_true := @EGd_true
theorem zz35 : type_of% @EGd_false := @EGd_false
theorem zz36 : type_of% @sget_zero := @sget_zero
theorem zz37 : type_of% @sget_succ := @sget_succ
theorem zz38 : type_of% @sget_nil := @sget_nil
theorem zz39 : type_of% @sput_zero := @sput_zero
theorem zz40 : type_of% @sput_succ := @sput_succ
theorem zz41 : type_of% @sput_nil_zero := @sput_nil_zero
theorem zz42 : type_of% @sput_nil_succ := @sput_nil_succ
theorem zz43 : type_of% @En_P := @En_P
theorem zz44 : type_of% @En_M := @En_M
theorem zz45 : type_of% @En_w0 := @En_w0
theorem zz46 : type_of% @Option.bind_some := @Option.bind_some
theorem zz47 : type_of% @Option.map_some := @Option.map_some
theorem zz48 : type_of% @if_true := @if_true
theorem zz49 : type_of% @if_false := @if_false
theorem zz50 : type_of% @Bool.false_eq_true := @Bool.false_eq_true
theorem zz51 : type_of% @List.map_cons := @List.map_cons
theorem zz52 : type_of% @List.map_nil := @List.map_nil
theorem zz53 : type_of% @List.getElem?_cons_zero := @List.getElem?_cons_zero
theorem zz54 : type_of% @List.getElem?_cons_succ := @List.getElem?_cons_succ
theorem zz55 : type_of% @List.getElem?_toArray := @List.getElem?_toArray
theorem zz56 : type_of% @List.toList_toArray := @List.toList_toArray
theorem zz57 : type_of% @List.map_toArray := @List.map_toArray
theorem zz58 : type_of% @add_lit := @add_lit
theorem zz59 : type_of% @ne_eq := @ne_eq
theorem zz60 : type_of% @not_true_eq_false := @not_true_eq_false
theorem zz61 : type_of% @not_false_eq_true := @not_false_eq_true
theorem zz62 : type_of% @or_false := @or_false
theorem zz63 : type_of% @false_or := @false_or
theorem zz64 : type_of% @or_self := @or_self
theorem zz65 : type_of% @gt_iff_lt := @gt_iff_lt
theorem zz66 : type_of% @Nat.lt_irrefl := @Nat.lt_irrefl
theorem zz67 : type_of% @Nat.not_lt_zero := @Nat.not_lt_zero
theorem zz68 : type_of% @Nat.zero_mul := @Nat.zero_mul
theorem zz69 : type_of% @Nat.one_mul := @Nat.one_mul
theorem zz70 : type_of% @eq_self := @eq_self
theorem zz71 : type_of% @implies_true := @implies_true
theorem zz72 : type_of% @true_and := @true_and
theorem zz73 : type_of% @and_true := @and_true
theorem zz74 : type_of% @beq_self_eq_true := @beq_self_eq_true
theorem zz75 : type_of% @Bool.true_beq := @Bool.true_beq
theorem zz76 : type_of% @Bool.false_beq := @Bool.false_beq
theorem zz77 : type_of% @Bool.not_true := @Bool.not_true
theorem zz78 : type_of% @Bool.not_false := @Bool.not_false
theorem zz79 : type_of% @List.size_toArray := @List.size_toArray
theorem zz80 : type_of% @List.length_cons := @List.length_cons
theorem zz81 : type_of% @List.length_nil := @List.length_nil
theorem zz82 : type_of% @and_self := @and_self
theorem zz83 : type_of% @List.take_succ_cons := @List.take_succ_cons
theorem zz84 : type_of% @List.take_zero := @List.take_zero
theorem zz85 : type_of% @List.drop_succ_cons := @List.drop_succ_cons
theorem zz86 : type_of% @List.drop_zero := @List.drop_zero
theorem zz87 : type_of% @List.drop_nil := @List.drop_nil
theorem zz88 : type_of% @List.nil_append := @List.nil_append
theorem zz89 : type_of% @List.cons_append := @List.cons_append
theorem zz90 : type_of% @List.append_nil := @List.append_nil
theorem zz91 : type_of% @List.all_cons := @List.all_cons
theorem zz92 : type_of% @List.all_nil := @List.all_nil
theorem zz93 : type_of% @Bool.and_self := @Bool.and_self
theorem zz94 : type_of% @Bool.and_true := @Bool.and_true
theorem zz95 : type_of% @stc_En := @stc_En
theorem zz96 : type_of% @ld_En := @ld_En
theorem zz97 : type_of% @ldO_cells := @ldO_cells
theorem zz98 : type_of% @get_app_new := @get_app_new
theorem zz99 : type_of% @get_app_new0 := @get_app_new0
theorem zz100 : type_of% @set_app_new := @set_app_new
theorem zz101 : type_of% @set_app_new0 := @set_app_new0
theorem zz102 : type_of% @List.set_cons_zero := @List.set_cons_zero
theorem zz103 : type_of% @List.set_cons_succ := @List.set_cons_succ
theorem zz104 : type_of% @len_app := @len_app
theorem zz105 : type_of% @app_app := @app_app
theorem zz106 : type_of% @Nat.add_zero := @Nat.add_zero
theorem zz107 : type_of% @Nat.zero_add := @Nat.zero_add
theorem zz108 : type_of% @Int.toNat_natCast := @Int.toNat_natCast
theorem zz109 : type_of% @cells_agg := @cells_agg
theorem zz110 : type_of% @cells_bool := @cells_bool
theorem zz111 : type_of% @one_bool := @one_bool
theorem zz112 : type_of% @cells_int := @cells_int
theorem zz113 : type_of% @one_int := @one_int
theorem zz114 : type_of% @cells_string := @cells_string
theorem zz115 : type_of% @one_string := @one_string
theorem zz116 : type_of% @cells_pointer := @cells_pointer
theorem zz117 : type_of% @one_pointer := @one_pointer
theorem zz118 : type_of% @cells_slice := @cells_slice
theorem zz119 : type_of% @one_slice := @one_slice
theorem zz120 : type_of% @cells_map := @cells_map
theorem zz121 : type_of% @one_map := @one_map
theorem zz122 : type_of% @cells_func := @cells_func
theorem zz123 : type_of% @one_func := @one_func
theorem zz124 : type_of% @cells_nilFunc := @cells_nilFunc
theorem zz125 : type_of% @one_nilFunc := @one_nilFunc
theorem zz126 : type_of% @cells_iface := @cells_iface
theorem zz127 : type_of% @one_iface := @one_iface
theorem zz128 : type_of% @cells_nilIface := @cells_nilIface
theorem zz129 : type_of% @one_nilIface := @one_nilIface
theorem zz130 : type_of% @EvR_done := @EvR_done
theorem zz131 : type_of% @EvR_quiet := @EvR_quiet
theorem zz132 : type_of% @EvR_quietR := @EvR_quietR
theorem zz133 : type_of% @EvR_callF := @EvR_callF
theorem zz134 : type_of% @EvR_callO := @EvR_callO
theorem zz135 : type_of% @EvR_opF := @EvR_opF
theorem zz136 : type_of% @EvR_opO := @EvR_opO
theorem zz137 : type_of% @nxq_pair := @nxq_pair
theorem zz138 : type_of% @RCall_pair := @RCall_pair
theorem zz139 : type_of% @RCallO_true := @RCallO_true
theorem zz140 : type_of% @RCallO_false := @RCallO_false
theorem zz141 : type_of% @ROp_true := @ROp_true
theorem zz142 : type_of% @RGd_true := @RGd_true
theorem zz143 : type_of% @RGd_false := @RGd_false
theorem zz144 : type_of% @EvR_quietG := @EvR_quietG
theorem zz145 : type_of% @EvR_quietRG := @EvR_quietRG
theorem zz146 : type_of% @EvR_callFG := @EvR_callFG
theorem zz147 : type_of% @EvR_callOG := @EvR_callOG
theorem zz148 : type_of% @EvR_opFG := @EvR_opFG
theorem zz149 : type_of% @EvR_opOG := @EvR_opOG
theorem zz150 : type_of% @wantR_some := @wantR_some
theorem zz151 : type_of% @readsOf_load := @readsOf_load
theorem zz152 : type_of% @readsOf_slice := @readsOf_slice
theorem zz153 : type_of% @readsOf_lookup := @readsOf_lookup
theorem zz154 : type_of% @readsOf_len := @readsOf_len
theorem zz155 : type_of% @rdsP_some := @rdsP_some
theorem zz156 : type_of% @rdsS_some := @rdsS_some
theorem zz157 : type_of% @openR_nil := @openR_nil
theorem zz158 : type_of% @openR_cons := @openR_cons
theorem zz159 : type_of% @clearR_alloc := @clearR_alloc
theorem zz160 : type_of% @clearR_box := @clearR_box
theorem zz161 : type_of% @clearR_buildSlice := @clearR_buildSlice
theorem zz162 : type_of% @clearR_makeSlice := @clearR_makeSlice
theorem zz163 : type_of% @clearR_makeMap := @clearR_makeMap
theorem zz164 : type_of% @clearR_convert := @clearR_convert
theorem zz165 : type_of% @clearR_append := @clearR_append
theorem zz166 : type_of% @clearA_none := @clearA_none
theorem zz167 : type_of% @clearA_some := @clearA_some
theorem zz168 : type_of% @List.contains_cons := @List.contains_cons
theorem zz169 : type_of% @List.contains_nil := @List.contains_nil
theorem zz170 : type_of% @cond_true := @cond_true
theorem zz171 : type_of% @cond_false := @cond_false
theorem zz172 : type_of% @Bool.or_false := @Bool.or_false
theorem zz173 : type_of% @Bool.false_or := @Bool.false_or
theorem zz174 : type_of% @Bool.or_true := @Bool.or_true
theorem zz175 : type_of% @Bool.true_or := @Bool.true_or
theorem zz176 : type_of% @List.isEmpty_cons := @List.isEmpty_cons
theorem zz177 : type_of% @List.isEmpty_nil := @List.isEmpty_nil
theorem zz178 : type_of% @lock_len := @lock_len
end Go.Proofs.Ytmjcfcbjccepnaa.Eng
