/-
  Of the program's types of data: the zero value's cells, the size.
-/
import Derived.Test.YtejmbkljnhnklaaDoorProg
import Derived.Test.YtejmbkljnhnklaaDoorOwnW
namespace Go.Proofs.YtejmbkljnhnklaaDoor
open Go.RowKit Go.PK

theorem zr_2 : Zr Tryd.prog 2 (([.int .i64 0] : List Value)) 1 := ⟨.int .i64 0, by kernel_rfl, by kernel_rfl, by kernel_rfl⟩
theorem on_2 : oneB Tryd.prog 2 = true := by kernel_rfl
theorem el_2 : El Tryd.prog 2 1 8 := ⟨.int .i64 0, by kernel_rfl, by kernel_rfl, by decide⟩
theorem zr_3 : Zr Tryd.prog 3 (([.int .i64 0] : List Value)) 1 := ⟨.int .i64 0, by kernel_rfl, by kernel_rfl, by kernel_rfl⟩
theorem on_3 : oneB Tryd.prog 3 = true := by kernel_rfl
theorem el_3 : El Tryd.prog 3 1 8 := ⟨.int .i64 0, by kernel_rfl, by kernel_rfl, by decide⟩
theorem zr_4 : Zr Tryd.prog 4 (([.bool false] : List Value)) 1 := ⟨.bool false, by kernel_rfl, by kernel_rfl, by kernel_rfl⟩
theorem on_4 : oneB Tryd.prog 4 = true := by kernel_rfl
theorem el_4 : El Tryd.prog 4 1 1 := ⟨.bool false, by kernel_rfl, by kernel_rfl, by decide⟩
theorem zr_5 : Zr Tryd.prog 5 (([B8 0] : List Value)) 1 := ⟨B8 0, by kernel_rfl, by kernel_rfl, by kernel_rfl⟩
theorem on_5 : oneB Tryd.prog 5 = true := by kernel_rfl
theorem el_5 : El Tryd.prog 5 1 1 := ⟨B8 0, by kernel_rfl, by kernel_rfl, by decide⟩
theorem zr_9 : Zr Tryd.prog 9 (([.string ⟨#[]⟩] : List Value)) 1 := ⟨.string ⟨#[]⟩, by kernel_rfl, by kernel_rfl, by kernel_rfl⟩
theorem on_9 : oneB Tryd.prog 9 = true := by kernel_rfl
theorem el_9 : El Tryd.prog 9 1 16 := ⟨.string ⟨#[]⟩, by kernel_rfl, by kernel_rfl, by decide⟩
theorem zr_12 : Zr Tryd.prog 12 (([W64 0] : List Value)) 1 := ⟨W64 0, by kernel_rfl, by kernel_rfl, by kernel_rfl⟩
theorem on_12 : oneB Tryd.prog 12 = true := by kernel_rfl
theorem el_12 : El Tryd.prog 12 1 8 := ⟨W64 0, by kernel_rfl, by kernel_rfl, by decide⟩
theorem zr_13 : Zr Tryd.prog 13 (([.string ⟨#[]⟩, W64 0] : List Value)) 2 := ⟨.agg (([.string ⟨#[]⟩, W64 0] : List Value)).toArray, by kernel_rfl, by kernel_rfl, by kernel_rfl⟩
theorem ag_13 : aggB Tryd.prog 13 2 = true := by kernel_rfl
theorem el_13 : El Tryd.prog 13 2 24 := ⟨.agg (([.string ⟨#[]⟩, W64 0] : List Value)).toArray, by kernel_rfl, by kernel_rfl, by decide⟩
theorem zr_19 : Zr Tryd.prog 19 (([.pointer none] : List Value)) 1 := ⟨.agg (([.pointer none] : List Value)).toArray, by kernel_rfl, by kernel_rfl, by kernel_rfl⟩
theorem ag_19 : aggB Tryd.prog 19 1 = true := by kernel_rfl
theorem el_19 : El Tryd.prog 19 1 8 := ⟨.agg (([.pointer none] : List Value)).toArray, by kernel_rfl, by kernel_rfl, by decide⟩
theorem zr_20 : Zr Tryd.prog 20 (([.nilIface] : List Value)) 1 := ⟨.nilIface, by kernel_rfl, by kernel_rfl, by kernel_rfl⟩
theorem on_20 : oneB Tryd.prog 20 = true := by kernel_rfl
theorem el_20 : El Tryd.prog 20 1 16 := ⟨.nilIface, by kernel_rfl, by kernel_rfl, by decide⟩
theorem zr_21 : Zr Tryd.prog 21 (([.int .i32 0] : List Value)) 1 := ⟨.int .i32 0, by kernel_rfl, by kernel_rfl, by kernel_rfl⟩
theorem on_21 : oneB Tryd.prog 21 = true := by kernel_rfl
theorem el_21 : El Tryd.prog 21 1 4 := ⟨.int .i32 0, by kernel_rfl, by kernel_rfl, by decide⟩
theorem zr_23 : Zr Tryd.prog 23 (([.slice none 0 0] : List Value)) 1 := ⟨.slice none 0 0, by kernel_rfl, by kernel_rfl, by kernel_rfl⟩
theorem on_23 : oneB Tryd.prog 23 = true := by kernel_rfl
theorem el_23 : El Tryd.prog 23 1 24 := ⟨.slice none 0 0, by kernel_rfl, by kernel_rfl, by decide⟩
theorem zr_24 : Zr Tryd.prog 24 ((List.replicate 32 (0 : UInt8)).map B8) 32 := ⟨.agg ((List.replicate 32 (0 : UInt8)).map B8).toArray, by kernel_rfl, by kernel_rfl, by kernel_rfl⟩
theorem ag_24 : aggB Tryd.prog 24 32 = true := by kernel_rfl
theorem el_24 : El Tryd.prog 24 32 32 := ⟨.agg ((List.replicate 32 (0 : UInt8)).map B8).toArray, by kernel_rfl, by kernel_rfl, by decide⟩
theorem zr_25 : Zr Tryd.prog 25 ((List.replicate 32 (0 : UInt8)).map B8) 32 := ⟨.agg ((List.replicate 32 (0 : UInt8)).map B8).toArray, by kernel_rfl, by kernel_rfl, by kernel_rfl⟩
theorem ag_25 : aggB Tryd.prog 25 32 = true := by kernel_rfl
theorem el_25 : El Tryd.prog 25 32 32 := ⟨.agg ((List.replicate 32 (0 : UInt8)).map B8).toArray, by kernel_rfl, by kernel_rfl, by decide⟩
theorem zr_26 : Zr Tryd.prog 26 (([.int .i64 0, .int .i64 0, .int .i64 0, .slice none 0 0] : List Value) ++ (List.replicate 32 (0 : UInt8)).map B8) 36 := ⟨.agg (([.int .i64 0, .int .i64 0, .int .i64 0, .slice none 0 0] : List Value) ++ (List.replicate 32 (0 : UInt8)).map B8).toArray, by kernel_rfl, by kernel_rfl, by kernel_rfl⟩
theorem ag_26 : aggB Tryd.prog 26 36 = true := by kernel_rfl
theorem el_26 : El Tryd.prog 26 36 80 := ⟨.agg (([.int .i64 0, .int .i64 0, .int .i64 0, .slice none 0 0] : List Value) ++ (List.replicate 32 (0 : UInt8)).map B8).toArray, by kernel_rfl, by kernel_rfl, by decide⟩
theorem zr_27 : Zr Tryd.prog 27 (([.int .i64 0, .int .i64 0, .int .i64 0, .slice none 0 0] : List Value) ++ (List.replicate 32 (0 : UInt8)).map B8) 36 := ⟨.agg (([.int .i64 0, .int .i64 0, .int .i64 0, .slice none 0 0] : List Value) ++ (List.replicate 32 (0 : UInt8)).map B8).toArray, by kernel_rfl, by kernel_rfl, by kernel_rfl⟩
theorem ag_27 : aggB Tryd.prog 27 36 = true := by kernel_rfl
theorem el_27 : El Tryd.prog 27 36 80 := ⟨.agg (([.int .i64 0, .int .i64 0, .int .i64 0, .slice none 0 0] : List Value) ++ (List.replicate 32 (0 : UInt8)).map B8).toArray, by kernel_rfl, by kernel_rfl, by decide⟩
theorem zr_28 : Zr Tryd.prog 28 (([.int .i64 0] : List Value)) 1 := ⟨.int .i64 0, by kernel_rfl, by kernel_rfl, by kernel_rfl⟩
theorem on_28 : oneB Tryd.prog 28 = true := by kernel_rfl
theorem el_28 : El Tryd.prog 28 1 8 := ⟨.int .i64 0, by kernel_rfl, by kernel_rfl, by decide⟩
theorem zr_32 : Zr Tryd.prog 32 (([.slice none 0 0] : List Value)) 1 := ⟨.slice none 0 0, by kernel_rfl, by kernel_rfl, by kernel_rfl⟩
theorem on_32 : oneB Tryd.prog 32 = true := by kernel_rfl
theorem el_32 : El Tryd.prog 32 1 24 := ⟨.slice none 0 0, by kernel_rfl, by kernel_rfl, by decide⟩
theorem zr_34 : Zr Tryd.prog 34 (([.nilIface] : List Value)) 1 := ⟨.nilIface, by kernel_rfl, by kernel_rfl, by kernel_rfl⟩
theorem on_34 : oneB Tryd.prog 34 = true := by kernel_rfl
theorem el_34 : El Tryd.prog 34 1 16 := ⟨.nilIface, by kernel_rfl, by kernel_rfl, by decide⟩
theorem zr_35 : Zr Tryd.prog 35 (([.nilIface] : List Value)) 1 := ⟨.nilIface, by kernel_rfl, by kernel_rfl, by kernel_rfl⟩
theorem on_35 : oneB Tryd.prog 35 = true := by kernel_rfl
theorem el_35 : El Tryd.prog 35 1 16 := ⟨.nilIface, by kernel_rfl, by kernel_rfl, by decide⟩
theorem zr_38 : Zr Tryd.prog 38 (([.int .i64 0, .int .i64 0] : List Value)) 2 := ⟨.agg (([.int .i64 0, .int .i64 0] : List Value)).toArray, by kernel_rfl, by kernel_rfl, by kernel_rfl⟩
theorem ag_38 : aggB Tryd.prog 38 2 = true := by kernel_rfl
theorem el_38 : El Tryd.prog 38 2 16 := ⟨.agg (([.int .i64 0, .int .i64 0] : List Value)).toArray, by kernel_rfl, by kernel_rfl, by decide⟩
theorem zr_39 : Zr Tryd.prog 39 (([.int .i64 0, .int .i64 0] : List Value)) 2 := ⟨.agg (([.int .i64 0, .int .i64 0] : List Value)).toArray, by kernel_rfl, by kernel_rfl, by kernel_rfl⟩
theorem ag_39 : aggB Tryd.prog 39 2 = true := by kernel_rfl
theorem el_39 : El Tryd.prog 39 2 16 := ⟨.agg (([.int .i64 0, .int .i64 0] : List Value)).toArray, by kernel_rfl, by kernel_rfl, by decide⟩
theorem zr_52 : Zr Tryd.prog 52 (([.pointer none] : List Value)) 1 := ⟨.pointer none, by kernel_rfl, by kernel_rfl, by kernel_rfl⟩
theorem on_52 : oneB Tryd.prog 52 = true := by kernel_rfl
theorem el_52 : El Tryd.prog 52 1 8 := ⟨.pointer none, by kernel_rfl, by kernel_rfl, by decide⟩
theorem zr_53 : Zr Tryd.prog 53 (([.int .i64 0, .int .i64 0] : List Value)) 2 := ⟨.agg (([.int .i64 0, .int .i64 0] : List Value)).toArray, by kernel_rfl, by kernel_rfl, by kernel_rfl⟩
theorem ag_53 : aggB Tryd.prog 53 2 = true := by kernel_rfl
theorem el_53 : El Tryd.prog 53 2 16 := ⟨.agg (([.int .i64 0, .int .i64 0] : List Value)).toArray, by kernel_rfl, by kernel_rfl, by decide⟩
theorem zr_57 : Zr Tryd.prog 57 (([.pointer none] : List Value)) 1 := ⟨.pointer none, by kernel_rfl, by kernel_rfl, by kernel_rfl⟩
theorem on_57 : oneB Tryd.prog 57 = true := by kernel_rfl
theorem el_57 : El Tryd.prog 57 1 8 := ⟨.pointer none, by kernel_rfl, by kernel_rfl, by decide⟩
theorem zr_58 : Zr Tryd.prog 58 (([.pointer none] : List Value)) 1 := ⟨.pointer none, by kernel_rfl, by kernel_rfl, by kernel_rfl⟩
theorem on_58 : oneB Tryd.prog 58 = true := by kernel_rfl
theorem el_58 : El Tryd.prog 58 1 8 := ⟨.pointer none, by kernel_rfl, by kernel_rfl, by decide⟩
theorem zr_59 : Zr Tryd.prog 59 (([.pointer none] : List Value)) 1 := ⟨.pointer none, by kernel_rfl, by kernel_rfl, by kernel_rfl⟩
theorem on_59 : oneB Tryd.prog 59 = true := by kernel_rfl
theorem el_59 : El Tryd.prog 59 1 8 := ⟨.pointer none, by kernel_rfl, by kernel_rfl, by decide⟩
theorem zr_62 : Zr Tryd.prog 62 (([.pointer none] : List Value)) 1 := ⟨.pointer none, by kernel_rfl, by kernel_rfl, by kernel_rfl⟩
theorem on_62 : oneB Tryd.prog 62 = true := by kernel_rfl
theorem el_62 : El Tryd.prog 62 1 8 := ⟨.pointer none, by kernel_rfl, by kernel_rfl, by decide⟩
theorem zr_63 : Zr Tryd.prog 63 ((List.replicate 64 (0 : UInt8)).map B8) 64 := ⟨.agg ((List.replicate 64 (0 : UInt8)).map B8).toArray, by kernel_rfl, by kernel_rfl, by kernel_rfl⟩
theorem ag_63 : aggB Tryd.prog 63 64 = true := by kernel_rfl
theorem el_63 : El Tryd.prog 63 64 64 := ⟨.agg ((List.replicate 64 (0 : UInt8)).map B8).toArray, by kernel_rfl, by kernel_rfl, by decide⟩
theorem zr_64 : Zr Tryd.prog 64 (([.pointer none] : List Value) ++ (List.replicate 64 (0 : UInt8)).map B8) 65 := ⟨.agg (([.pointer none] : List Value) ++ (List.replicate 64 (0 : UInt8)).map B8).toArray, by kernel_rfl, by kernel_rfl, by kernel_rfl⟩
theorem ag_64 : aggB Tryd.prog 64 65 = true := by kernel_rfl
theorem el_64 : El Tryd.prog 64 65 72 := ⟨.agg (([.pointer none] : List Value) ++ (List.replicate 64 (0 : UInt8)).map B8).toArray, by kernel_rfl, by kernel_rfl, by decide⟩
theorem zr_65 : Zr Tryd.prog 65 (([.pointer none] : List Value) ++ (List.replicate 64 (0 : UInt8)).map B8) 65 := ⟨.agg (([.pointer none] : List Value) ++ (List.replicate 64 (0 : UInt8)).map B8).toArray, by kernel_rfl, by kernel_rfl, by kernel_rfl⟩
theorem ag_65 : aggB Tryd.prog 65 65 = true := by kernel_rfl
theorem el_65 : El Tryd.prog 65 65 72 := ⟨.agg (([.pointer none] : List Value) ++ (List.replicate 64 (0 : UInt8)).map B8).toArray, by kernel_rfl, by kernel_rfl, by decide⟩
theorem zr_69 : Zr Tryd.prog 69 (([W64 0] : List Value)) 1 := ⟨W64 0, by kernel_rfl, by kernel_rfl, by kernel_rfl⟩
theorem on_69 : oneB Tryd.prog 69 = true := by kernel_rfl
theorem el_69 : El Tryd.prog 69 1 8 := ⟨W64 0, by kernel_rfl, by kernel_rfl, by decide⟩
theorem zr_70 : Zr Tryd.prog 70 (([.pointer none] : List Value)) 1 := ⟨.pointer none, by kernel_rfl, by kernel_rfl, by kernel_rfl⟩
theorem on_70 : oneB Tryd.prog 70 = true := by kernel_rfl
theorem el_70 : El Tryd.prog 70 1 8 := ⟨.pointer none, by kernel_rfl, by kernel_rfl, by decide⟩
theorem zr_71 : Zr Tryd.prog 71 (([W64 0] : List Value)) 1 := ⟨W64 0, by kernel_rfl, by kernel_rfl, by kernel_rfl⟩
theorem on_71 : oneB Tryd.prog 71 = true := by kernel_rfl
theorem el_71 : El Tryd.prog 71 1 8 := ⟨W64 0, by kernel_rfl, by kernel_rfl, by decide⟩
theorem zr_73 : Zr Tryd.prog 73 (([.pointer none, .pointer none, W64 0] : List Value)) 3 := ⟨.agg (([.pointer none, .pointer none, W64 0] : List Value)).toArray, by kernel_rfl, by kernel_rfl, by kernel_rfl⟩
theorem ag_73 : aggB Tryd.prog 73 3 = true := by kernel_rfl
theorem el_73 : El Tryd.prog 73 3 24 := ⟨.agg (([.pointer none, .pointer none, W64 0] : List Value)).toArray, by kernel_rfl, by kernel_rfl, by decide⟩
theorem zr_76 : Zr Tryd.prog 76 (([.nilIface] : List Value)) 1 := ⟨.nilIface, by kernel_rfl, by kernel_rfl, by kernel_rfl⟩
theorem on_76 : oneB Tryd.prog 76 = true := by kernel_rfl
theorem el_76 : El Tryd.prog 76 1 16 := ⟨.nilIface, by kernel_rfl, by kernel_rfl, by decide⟩
theorem zr_83 : Zr Tryd.prog 83 (([W64 0] : List Value)) 1 := ⟨W64 0, by kernel_rfl, by kernel_rfl, by kernel_rfl⟩
theorem on_83 : oneB Tryd.prog 83 = true := by kernel_rfl
theorem el_83 : El Tryd.prog 83 1 8 := ⟨W64 0, by kernel_rfl, by kernel_rfl, by decide⟩
theorem zr_84 : Zr Tryd.prog 84 (([W32 0] : List Value)) 1 := ⟨W32 0, by kernel_rfl, by kernel_rfl, by kernel_rfl⟩
theorem on_84 : oneB Tryd.prog 84 = true := by kernel_rfl
theorem el_84 : El Tryd.prog 84 1 4 := ⟨W32 0, by kernel_rfl, by kernel_rfl, by decide⟩
theorem zr_85 : Zr Tryd.prog 85 ((List.replicate 8 (0 : UInt32)).map W32) 8 := ⟨.agg ((List.replicate 8 (0 : UInt32)).map W32).toArray, by kernel_rfl, by kernel_rfl, by kernel_rfl⟩
theorem ag_85 : aggB Tryd.prog 85 8 = true := by kernel_rfl
theorem el_85 : El Tryd.prog 85 8 32 := ⟨.agg ((List.replicate 8 (0 : UInt32)).map W32).toArray, by kernel_rfl, by kernel_rfl, by decide⟩
theorem zr_86 : Zr Tryd.prog 86 ((List.replicate 64 (0 : UInt32)).map W32) 64 := ⟨.agg ((List.replicate 64 (0 : UInt32)).map W32).toArray, by kernel_rfl, by kernel_rfl, by kernel_rfl⟩
theorem ag_86 : aggB Tryd.prog 86 64 = true := by kernel_rfl
theorem el_86 : El Tryd.prog 86 64 256 := ⟨.agg ((List.replicate 64 (0 : UInt32)).map W32).toArray, by kernel_rfl, by kernel_rfl, by decide⟩
theorem zr_87 : Zr Tryd.prog 87 ((List.replicate 8 (0 : UInt32)).map W32 ++ (List.replicate 64 (0 : UInt8)).map B8 ++ ([W64 0] : List Value) ++ (List.replicate 64 (0 : UInt32)).map W32) 137 := ⟨.agg ((List.replicate 8 (0 : UInt32)).map W32 ++ (List.replicate 64 (0 : UInt8)).map B8 ++ ([W64 0] : List Value) ++ (List.replicate 64 (0 : UInt32)).map W32).toArray, by kernel_rfl, by kernel_rfl, by kernel_rfl⟩
theorem ag_87 : aggB Tryd.prog 87 137 = true := by kernel_rfl
theorem el_87 : El Tryd.prog 87 137 360 := ⟨.agg ((List.replicate 8 (0 : UInt32)).map W32 ++ (List.replicate 64 (0 : UInt8)).map B8 ++ ([W64 0] : List Value) ++ (List.replicate 64 (0 : UInt32)).map W32).toArray, by kernel_rfl, by kernel_rfl, by decide⟩
theorem zr_88 : Zr Tryd.prog 88 ((List.replicate 8 (0 : UInt32)).map W32 ++ (List.replicate 64 (0 : UInt8)).map B8 ++ ([W64 0] : List Value) ++ (List.replicate 64 (0 : UInt32)).map W32) 137 := ⟨.agg ((List.replicate 8 (0 : UInt32)).map W32 ++ (List.replicate 64 (0 : UInt8)).map B8 ++ ([W64 0] : List Value) ++ (List.replicate 64 (0 : UInt32)).map W32).toArray, by kernel_rfl, by kernel_rfl, by kernel_rfl⟩
theorem ag_88 : aggB Tryd.prog 88 137 = true := by kernel_rfl
theorem el_88 : El Tryd.prog 88 137 360 := ⟨.agg ((List.replicate 8 (0 : UInt32)).map W32 ++ (List.replicate 64 (0 : UInt8)).map B8 ++ ([W64 0] : List Value) ++ (List.replicate 64 (0 : UInt32)).map W32).toArray, by kernel_rfl, by kernel_rfl, by decide⟩
theorem zr_93 : Zr Tryd.prog 93 (([.pointer none] : List Value)) 1 := ⟨.agg (([.pointer none] : List Value)).toArray, by kernel_rfl, by kernel_rfl, by kernel_rfl⟩
theorem ag_93 : aggB Tryd.prog 93 1 = true := by kernel_rfl
theorem el_93 : El Tryd.prog 93 1 8 := ⟨.agg (([.pointer none] : List Value)).toArray, by kernel_rfl, by kernel_rfl, by decide⟩
theorem zr_94 : Zr Tryd.prog 94 (([.pointer none] : List Value)) 1 := ⟨.pointer none, by kernel_rfl, by kernel_rfl, by kernel_rfl⟩
theorem on_94 : oneB Tryd.prog 94 = true := by kernel_rfl
theorem el_94 : El Tryd.prog 94 1 8 := ⟨.pointer none, by kernel_rfl, by kernel_rfl, by decide⟩
theorem zr_98 : Zr Tryd.prog 98 (([.nilIface] : List Value)) 1 := ⟨.nilIface, by kernel_rfl, by kernel_rfl, by kernel_rfl⟩
theorem on_98 : oneB Tryd.prog 98 = true := by kernel_rfl
theorem el_98 : El Tryd.prog 98 1 16 := ⟨.nilIface, by kernel_rfl, by kernel_rfl, by decide⟩
theorem zr_101 : Zr Tryd.prog 101 (([.nilIface] : List Value)) 1 := ⟨.nilIface, by kernel_rfl, by kernel_rfl, by kernel_rfl⟩
theorem on_101 : oneB Tryd.prog 101 = true := by kernel_rfl
theorem el_101 : El Tryd.prog 101 1 16 := ⟨.nilIface, by kernel_rfl, by kernel_rfl, by decide⟩
theorem zr_103 : Zr Tryd.prog 103 (([.nilIface] : List Value)) 1 := ⟨.nilIface, by kernel_rfl, by kernel_rfl, by kernel_rfl⟩
theorem on_103 : oneB Tryd.prog 103 = true := by kernel_rfl
theorem el_103 : El Tryd.prog 103 1 16 := ⟨.nilIface, by kernel_rfl, by kernel_rfl, by decide⟩
theorem zr_104 : Zr Tryd.prog 104 (([.slice none 0 0] : List Value)) 1 := ⟨.slice none 0 0, by kernel_rfl, by kernel_rfl, by kernel_rfl⟩
theorem on_104 : oneB Tryd.prog 104 = true := by kernel_rfl
theorem el_104 : El Tryd.prog 104 1 24 := ⟨.slice none 0 0, by kernel_rfl, by kernel_rfl, by decide⟩
theorem zr_107 : Zr Tryd.prog 107 ((List.replicate 73 (0 : UInt8)).map B8) 73 := ⟨.agg ((List.replicate 73 (0 : UInt8)).map B8).toArray, by kernel_rfl, by kernel_rfl, by kernel_rfl⟩
theorem ag_107 : aggB Tryd.prog 107 73 = true := by kernel_rfl
theorem el_107 : El Tryd.prog 107 73 73 := ⟨.agg ((List.replicate 73 (0 : UInt8)).map B8).toArray, by kernel_rfl, by kernel_rfl, by decide⟩
theorem zr_119 : Zr Tryd.prog 119 (([.pointer none] : List Value)) 1 := ⟨.pointer none, by kernel_rfl, by kernel_rfl, by kernel_rfl⟩
theorem on_119 : oneB Tryd.prog 119 = true := by kernel_rfl
theorem el_119 : El Tryd.prog 119 1 8 := ⟨.pointer none, by kernel_rfl, by kernel_rfl, by decide⟩
theorem zr_127 : Zr Tryd.prog 127 (([.string ⟨#[]⟩, B8 0] : List Value)) 2 := ⟨.agg (([.string ⟨#[]⟩, B8 0] : List Value)).toArray, by kernel_rfl, by kernel_rfl, by kernel_rfl⟩
theorem ag_127 : aggB Tryd.prog 127 2 = true := by kernel_rfl
theorem el_127 : El Tryd.prog 127 2 24 := ⟨.agg (([.string ⟨#[]⟩, B8 0] : List Value)).toArray, by kernel_rfl, by kernel_rfl, by decide⟩
theorem zr_130 : Zr Tryd.prog 130 (([.int .u16 0] : List Value)) 1 := ⟨.int .u16 0, by kernel_rfl, by kernel_rfl, by kernel_rfl⟩
theorem on_130 : oneB Tryd.prog 130 = true := by kernel_rfl
theorem el_130 : El Tryd.prog 130 1 2 := ⟨.int .u16 0, by kernel_rfl, by kernel_rfl, by decide⟩
theorem zr_137 : Zr Tryd.prog 137 (([.pointer none] : List Value)) 1 := ⟨.pointer none, by kernel_rfl, by kernel_rfl, by kernel_rfl⟩
theorem on_137 : oneB Tryd.prog 137 = true := by kernel_rfl
theorem el_137 : El Tryd.prog 137 1 8 := ⟨.pointer none, by kernel_rfl, by kernel_rfl, by decide⟩
theorem fd_13_0 : fieldB Tryd.prog 13 0 0 = true := by kernel_rfl
theorem fd_13_1 : fieldB Tryd.prog 13 1 1 = true := by kernel_rfl
theorem fd_26_0 : fieldB Tryd.prog 26 0 0 = true := by kernel_rfl
theorem fd_26_1 : fieldB Tryd.prog 26 1 1 = true := by kernel_rfl
theorem fd_26_2 : fieldB Tryd.prog 26 2 2 = true := by kernel_rfl
theorem fd_26_3 : fieldB Tryd.prog 26 3 3 = true := by kernel_rfl
theorem fd_26_4 : fieldA Tryd.prog 26 4 4 32 = true := by kernel_rfl
theorem fd_27_0 : fieldB Tryd.prog 27 0 0 = true := by kernel_rfl
theorem fd_27_1 : fieldB Tryd.prog 27 1 1 = true := by kernel_rfl
theorem fd_27_2 : fieldB Tryd.prog 27 2 2 = true := by kernel_rfl
theorem fd_27_3 : fieldB Tryd.prog 27 3 3 = true := by kernel_rfl
theorem fd_27_4 : fieldA Tryd.prog 27 4 4 32 = true := by kernel_rfl
theorem fd_38_0 : fieldB Tryd.prog 38 0 0 = true := by kernel_rfl
theorem fd_38_1 : fieldB Tryd.prog 38 1 1 = true := by kernel_rfl
theorem fd_39_0 : fieldB Tryd.prog 39 0 0 = true := by kernel_rfl
theorem fd_39_1 : fieldB Tryd.prog 39 1 1 = true := by kernel_rfl
theorem fd_53_0 : fieldB Tryd.prog 53 0 0 = true := by kernel_rfl
theorem fd_53_1 : fieldB Tryd.prog 53 1 1 = true := by kernel_rfl
theorem fd_64_0 : fieldB Tryd.prog 64 0 0 = true := by kernel_rfl
theorem fd_64_1 : fieldA Tryd.prog 64 1 1 64 = true := by kernel_rfl
theorem fd_65_0 : fieldB Tryd.prog 65 0 0 = true := by kernel_rfl
theorem fd_65_1 : fieldA Tryd.prog 65 1 1 64 = true := by kernel_rfl
theorem fd_73_1 : fieldB Tryd.prog 73 1 1 = true := by kernel_rfl
theorem fd_73_2 : fieldB Tryd.prog 73 2 2 = true := by kernel_rfl
theorem fd_87_0 : fieldA Tryd.prog 87 0 0 8 = true := by kernel_rfl
theorem fd_87_1 : fieldA Tryd.prog 87 1 8 64 = true := by kernel_rfl
theorem fd_87_2 : fieldB Tryd.prog 87 2 72 = true := by kernel_rfl
theorem fd_87_3 : fieldA Tryd.prog 87 3 73 64 = true := by kernel_rfl
theorem fd_88_0 : fieldA Tryd.prog 88 0 0 8 = true := by kernel_rfl
theorem fd_88_1 : fieldA Tryd.prog 88 1 8 64 = true := by kernel_rfl
theorem fd_88_2 : fieldB Tryd.prog 88 2 72 = true := by kernel_rfl
theorem fd_88_3 : fieldA Tryd.prog 88 3 73 64 = true := by kernel_rfl
theorem fd_127_0 : fieldB Tryd.prog 127 0 0 = true := by kernel_rfl
def zrTab : Nat → Option (List Value × Nat)
  | 2 => some (([.int .i64 0] : List Value), 1)
  | 3 => some (([.int .i64 0] : List Value), 1)
  | 4 => some (([.bool false] : List Value), 1)
  | 5 => some (([B8 0] : List Value), 1)
  | 9 => some (([.string ⟨#[]⟩] : List Value), 1)
  | 12 => some (([W64 0] : List Value), 1)
  | 13 => some (([.string ⟨#[]⟩, W64 0] : List Value), 2)
  | 19 => some (([.pointer none] : List Value), 1)
  | 20 => some (([.nilIface] : List Value), 1)
  | 21 => some (([.int .i32 0] : List Value), 1)
  | 23 => some (([.slice none 0 0] : List Value), 1)
  | 24 => some ((List.replicate 32 (0 : UInt8)).map B8, 32)
  | 25 => some ((List.replicate 32 (0 : UInt8)).map B8, 32)
  | 26 => some (([.int .i64 0, .int .i64 0, .int .i64 0, .slice none 0 0] : List Value) ++ (List.replicate 32 (0 : UInt8)).map B8, 36)
  | 27 => some (([.int .i64 0, .int .i64 0, .int .i64 0, .slice none 0 0] : List Value) ++ (List.replicate 32 (0 : UInt8)).map B8, 36)
  | 28 => some (([.int .i64 0] : List Value), 1)
  | 32 => some (([.slice none 0 0] : List Value), 1)
  | 34 => some (([.nilIface] : List Value), 1)
  | 35 => some (([.nilIface] : List Value), 1)
  | 38 => some (([.int .i64 0, .int .i64 0] : List Value), 2)
  | 39 => some (([.int .i64 0, .int .i64 0] : List Value), 2)
  | 52 => some (([.pointer none] : List Value), 1)
  | 53 => some (([.int .i64 0, .int .i64 0] : List Value), 2)
  | 57 => some (([.pointer none] : List Value), 1)
  | 58 => some (([.pointer none] : List Value), 1)
  | 59 => some (([.pointer none] : List Value), 1)
  | 62 => some (([.pointer none] : List Value), 1)
  | 63 => some ((List.replicate 64 (0 : UInt8)).map B8, 64)
  | 64 => some (([.pointer none] : List Value) ++ (List.replicate 64 (0 : UInt8)).map B8, 65)
  | 65 => some (([.pointer none] : List Value) ++ (List.replicate 64 (0 : UInt8)).map B8, 65)
  | 69 => some (([W64 0] : List Value), 1)
  | 70 => some (([.pointer none] : List Value), 1)
  | 71 => some (([W64 0] : List Value), 1)
  | 73 => some (([.pointer none, .pointer none, W64 0] : List Value), 3)
  | 76 => some (([.nilIface] : List Value), 1)
  | 83 => some (([W64 0] : List Value), 1)
  | 84 => some (([W32 0] : List Value), 1)
  | 85 => some ((List.replicate 8 (0 : UInt32)).map W32, 8)
  | 86 => some ((List.replicate 64 (0 : UInt32)).map W32, 64)
  | 87 => some ((List.replicate 8 (0 : UInt32)).map W32 ++ (List.replicate 64 (0 : UInt8)).map B8 ++ ([W64 0] : List Value) ++ (List.replicate 64 (0 : UInt32)).map W32, 137)
  | 88 => some ((List.replicate 8 (0 : UInt32)).map W32 ++ (List.replicate 64 (0 : UInt8)).map B8 ++ ([W64 0] : List Value) ++ (List.replicate 64 (0 : UInt32)).map W32, 137)
  | 93 => some (([.pointer none] : List Value), 1)
  | 94 => some (([.pointer none] : List Value), 1)
  | 98 => some (([.nilIface] : List Value), 1)
  | 101 => some (([.nilIface] : List Value), 1)
  | 103 => some (([.nilIface] : List Value), 1)
  | 104 => some (([.slice none 0 0] : List Value), 1)
  | 107 => some ((List.replicate 73 (0 : UInt8)).map B8, 73)
  | 119 => some (([.pointer none] : List Value), 1)
  | 127 => some (([.string ⟨#[]⟩, B8 0] : List Value), 2)
  | 130 => some (([.int .u16 0] : List Value), 1)
  | 137 => some (([.pointer none] : List Value), 1)
  | _ => none
theorem zr_of {ty n : Nat} {C : List Value} (h : zrTab ty = some (C, n)) : Zr Tryd.prog ty C n := by
  unfold zrTab at h
  split at h
  · cases h; exact zr_2
  · cases h; exact zr_3
  · cases h; exact zr_4
  · cases h; exact zr_5
  · cases h; exact zr_9
  · cases h; exact zr_12
  · cases h; exact zr_13
  · cases h; exact zr_19
  · cases h; exact zr_20
  · cases h; exact zr_21
  · cases h; exact zr_23
  · cases h; exact zr_24
  · cases h; exact zr_25
  · cases h; exact zr_26
  · cases h; exact zr_27
  · cases h; exact zr_28
  · cases h; exact zr_32
  · cases h; exact zr_34
  · cases h; exact zr_35
  · cases h; exact zr_38
  · cases h; exact zr_39
  · cases h; exact zr_52
  · cases h; exact zr_53
  · cases h; exact zr_57
  · cases h; exact zr_58
  · cases h; exact zr_59
  · cases h; exact zr_62
  · cases h; exact zr_63
  · cases h; exact zr_64
  · cases h; exact zr_65
  · cases h; exact zr_69
  · cases h; exact zr_70
  · cases h; exact zr_71
  · cases h; exact zr_73
  · cases h; exact zr_76
  · cases h; exact zr_83
  · cases h; exact zr_84
  · cases h; exact zr_85
  · cases h; exact zr_86
  · cases h; exact zr_87
  · cases h; exact zr_88
  · cases h; exact zr_93
  · cases h; exact zr_94
  · cases h; exact zr_98
  · cases h; exact zr_101
  · cases h; exact zr_103
  · cases h; exact zr_104
  · cases h; exact zr_107
  · cases h; exact zr_119
  · cases h; exact zr_127
  · cases h; exact zr_130
  · cases h; exact zr_137
  · cases h
def agTab : Nat → Option Nat
  | 13 => some 2
  | 19 => some 1
  | 24 => some 32
  | 25 => some 32
  | 26 => some 36
  | 27 => some 36
  | 38 => some 2
  | 39 => some 2
  | 53 => some 2
  | 63 => some 64
  | 64 => some 65
  | 65 => some 65
  | 73 => some 3
  | 85 => some 8
  | 86 => some 64
  | 87 => some 137
  | 88 => some 137
  | 93 => some 1
  | 107 => some 73
  | 127 => some 2
  | _ => none
theorem ag_of {ty n : Nat} (h : agTab ty = some n) : aggB Tryd.prog ty n = true := by
  unfold agTab at h
  split at h
  · cases h; exact ag_13
  · cases h; exact ag_19
  · cases h; exact ag_24
  · cases h; exact ag_25
  · cases h; exact ag_26
  · cases h; exact ag_27
  · cases h; exact ag_38
  · cases h; exact ag_39
  · cases h; exact ag_53
  · cases h; exact ag_63
  · cases h; exact ag_64
  · cases h; exact ag_65
  · cases h; exact ag_73
  · cases h; exact ag_85
  · cases h; exact ag_86
  · cases h; exact ag_87
  · cases h; exact ag_88
  · cases h; exact ag_93
  · cases h; exact ag_107
  · cases h; exact ag_127
  · cases h
def onTab : Nat → Option Unit
  | 2 => some ()
  | 3 => some ()
  | 4 => some ()
  | 5 => some ()
  | 9 => some ()
  | 12 => some ()
  | 20 => some ()
  | 21 => some ()
  | 23 => some ()
  | 28 => some ()
  | 32 => some ()
  | 34 => some ()
  | 35 => some ()
  | 52 => some ()
  | 57 => some ()
  | 58 => some ()
  | 59 => some ()
  | 62 => some ()
  | 69 => some ()
  | 70 => some ()
  | 71 => some ()
  | 76 => some ()
  | 83 => some ()
  | 84 => some ()
  | 94 => some ()
  | 98 => some ()
  | 101 => some ()
  | 103 => some ()
  | 104 => some ()
  | 119 => some ()
  | 130 => some ()
  | 137 => some ()
  | _ => none
theorem on_of {ty : Nat} (h : onTab ty = some ()) : oneB Tryd.prog ty = true := by
  unfold onTab at h
  split at h
  · exact on_2
  · exact on_3
  · exact on_4
  · exact on_5
  · exact on_9
  · exact on_12
  · exact on_20
  · exact on_21
  · exact on_23
  · exact on_28
  · exact on_32
  · exact on_34
  · exact on_35
  · exact on_52
  · exact on_57
  · exact on_58
  · exact on_59
  · exact on_62
  · exact on_69
  · exact on_70
  · exact on_71
  · exact on_76
  · exact on_83
  · exact on_84
  · exact on_94
  · exact on_98
  · exact on_101
  · exact on_103
  · exact on_104
  · exact on_119
  · exact on_130
  · exact on_137
  · cases h
def elTab : Nat → Option (Nat × Nat)
  | 2 => some (1, 8)
  | 3 => some (1, 8)
  | 4 => some (1, 1)
  | 5 => some (1, 1)
  | 9 => some (1, 16)
  | 12 => some (1, 8)
  | 13 => some (2, 24)
  | 19 => some (1, 8)
  | 20 => some (1, 16)
  | 21 => some (1, 4)
  | 23 => some (1, 24)
  | 24 => some (32, 32)
  | 25 => some (32, 32)
  | 26 => some (36, 80)
  | 27 => some (36, 80)
  | 28 => some (1, 8)
  | 32 => some (1, 24)
  | 34 => some (1, 16)
  | 35 => some (1, 16)
  | 38 => some (2, 16)
  | 39 => some (2, 16)
  | 52 => some (1, 8)
  | 53 => some (2, 16)
  | 57 => some (1, 8)
  | 58 => some (1, 8)
  | 59 => some (1, 8)
  | 62 => some (1, 8)
  | 63 => some (64, 64)
  | 64 => some (65, 72)
  | 65 => some (65, 72)
  | 69 => some (1, 8)
  | 70 => some (1, 8)
  | 71 => some (1, 8)
  | 73 => some (3, 24)
  | 76 => some (1, 16)
  | 83 => some (1, 8)
  | 84 => some (1, 4)
  | 85 => some (8, 32)
  | 86 => some (64, 256)
  | 87 => some (137, 360)
  | 88 => some (137, 360)
  | 93 => some (1, 8)
  | 94 => some (1, 8)
  | 98 => some (1, 16)
  | 101 => some (1, 16)
  | 103 => some (1, 16)
  | 104 => some (1, 24)
  | 107 => some (73, 73)
  | 119 => some (1, 8)
  | 127 => some (2, 24)
  | 130 => some (1, 2)
  | 137 => some (1, 8)
  | _ => none
theorem el_of {ty n b : Nat} (h : elTab ty = some (n, b)) : El Tryd.prog ty n b := by
  unfold elTab at h
  split at h
  · cases h; exact el_2
  · cases h; exact el_3
  · cases h; exact el_4
  · cases h; exact el_5
  · cases h; exact el_9
  · cases h; exact el_12
  · cases h; exact el_13
  · cases h; exact el_19
  · cases h; exact el_20
  · cases h; exact el_21
  · cases h; exact el_23
  · cases h; exact el_24
  · cases h; exact el_25
  · cases h; exact el_26
  · cases h; exact el_27
  · cases h; exact el_28
  · cases h; exact el_32
  · cases h; exact el_34
  · cases h; exact el_35
  · cases h; exact el_38
  · cases h; exact el_39
  · cases h; exact el_52
  · cases h; exact el_53
  · cases h; exact el_57
  · cases h; exact el_58
  · cases h; exact el_59
  · cases h; exact el_62
  · cases h; exact el_63
  · cases h; exact el_64
  · cases h; exact el_65
  · cases h; exact el_69
  · cases h; exact el_70
  · cases h; exact el_71
  · cases h; exact el_73
  · cases h; exact el_76
  · cases h; exact el_83
  · cases h; exact el_84
  · cases h; exact el_85
  · cases h; exact el_86
  · cases h; exact el_87
  · cases h; exact el_88
  · cases h; exact el_93
  · cases h; exact el_94
  · cases h; exact el_98
  · cases h; exact el_101
  · cases h; exact el_103
  · cases h; exact el_104
  · cases h; exact el_107
  · cases h; exact el_119
  · cases h; exact el_127
  · cases h; exact el_130
  · cases h; exact el_137
  · cases h
def fbTab : Nat → Nat → Option Nat
  | 13, 0 => some 0
  | 13, 1 => some 1
  | 26, 0 => some 0
  | 26, 1 => some 1
  | 26, 2 => some 2
  | 26, 3 => some 3
  | 27, 0 => some 0
  | 27, 1 => some 1
  | 27, 2 => some 2
  | 27, 3 => some 3
  | 38, 0 => some 0
  | 38, 1 => some 1
  | 39, 0 => some 0
  | 39, 1 => some 1
  | 53, 0 => some 0
  | 53, 1 => some 1
  | 64, 0 => some 0
  | 65, 0 => some 0
  | 73, 1 => some 1
  | 73, 2 => some 2
  | 87, 2 => some 72
  | 88, 2 => some 72
  | 127, 0 => some 0
  | _, _ => none
theorem fb_of {ty f off : Nat} (h : fbTab ty f = some off) : fieldB Tryd.prog ty f off = true := by
  unfold fbTab at h
  split at h
  · cases h; exact fd_13_0
  · cases h; exact fd_13_1
  · cases h; exact fd_26_0
  · cases h; exact fd_26_1
  · cases h; exact fd_26_2
  · cases h; exact fd_26_3
  · cases h; exact fd_27_0
  · cases h; exact fd_27_1
  · cases h; exact fd_27_2
  · cases h; exact fd_27_3
  · cases h; exact fd_38_0
  · cases h; exact fd_38_1
  · cases h; exact fd_39_0
  · cases h; exact fd_39_1
  · cases h; exact fd_53_0
  · cases h; exact fd_53_1
  · cases h; exact fd_64_0
  · cases h; exact fd_65_0
  · cases h; exact fd_73_1
  · cases h; exact fd_73_2
  · cases h; exact fd_87_2
  · cases h; exact fd_88_2
  · cases h; exact fd_127_0
  · cases h
def faTab : Nat → Nat → Option (Nat × Nat)
  | 26, 4 => some (4, 32)
  | 27, 4 => some (4, 32)
  | 64, 1 => some (1, 64)
  | 65, 1 => some (1, 64)
  | 87, 0 => some (0, 8)
  | 87, 1 => some (8, 64)
  | 87, 3 => some (73, 64)
  | 88, 0 => some (0, 8)
  | 88, 1 => some (8, 64)
  | 88, 3 => some (73, 64)
  | _, _ => none
theorem fa_of {ty f off n : Nat} (h : faTab ty f = some (off, n)) : fieldA Tryd.prog ty f off n = true := by
  unfold faTab at h
  split at h
  · cases h; exact fd_26_4
  · cases h; exact fd_27_4
  · cases h; exact fd_64_1
  · cases h; exact fd_65_1
  · cases h; exact fd_87_0
  · cases h; exact fd_87_1
  · cases h; exact fd_87_3
  · cases h; exact fd_88_0
  · cases h; exact fd_88_1
  · cases h; exact fd_88_3
  · cases h
def usTab : Nat → Option Nat
  | 23 => some 5
  | 32 => some 23
  | 104 => some 35
  | _ => none
theorem us_of {ty e : Nat} (h : usTab ty = some e) : Tryd.prog.underlying ty = some (.slice e) := by
  unfold usTab at h
  split at h
  · cases h; kernel_rfl
  · cases h; kernel_rfl
  · cases h; kernel_rfl
  · cases h
def uaTab : Nat → Option (Nat × Nat)
  | 24 => some (32, 5)
  | 25 => some (32, 5)
  | 63 => some (64, 5)
  | 85 => some (8, 84)
  | 86 => some (64, 84)
  | 107 => some (73, 5)
  | _ => none
theorem ua_of {ty n e : Nat} (h : uaTab ty = some (n, e)) : Tryd.prog.underlying ty = some (.array n e) := by
  unfold uaTab at h
  split at h
  · cases h; kernel_rfl
  · cases h; kernel_rfl
  · cases h; kernel_rfl
  · cases h; kernel_rfl
  · cases h; kernel_rfl
  · cases h; kernel_rfl
  · cases h
end Go.Proofs.YtejmbkljnhnklaaDoor
