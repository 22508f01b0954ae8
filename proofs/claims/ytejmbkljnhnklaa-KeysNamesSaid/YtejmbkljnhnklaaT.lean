/-
  Of the program's types of data: the zero value's cells, the size.
-/
import Derived.Test.YtejmbkljnhnklaaProg
import Derived.Test.YtejmbkljnhnklaaOwnW
namespace Go.Proofs.Ytejmbkljnhnklaa
open Go.RowKit Go.PK

theorem zr_2 : Zr Try.prog 2 (([.int .i64 0] : List Value)) 1 := ⟨.int .i64 0, by kernel_rfl, by kernel_rfl, by kernel_rfl⟩
theorem on_2 : oneB Try.prog 2 = true := by kernel_rfl
theorem el_2 : El Try.prog 2 1 8 := ⟨.int .i64 0, by kernel_rfl, by kernel_rfl, by decide⟩
theorem zr_3 : Zr Try.prog 3 (([.int .i64 0] : List Value)) 1 := ⟨.int .i64 0, by kernel_rfl, by kernel_rfl, by kernel_rfl⟩
theorem on_3 : oneB Try.prog 3 = true := by kernel_rfl
theorem el_3 : El Try.prog 3 1 8 := ⟨.int .i64 0, by kernel_rfl, by kernel_rfl, by decide⟩
theorem zr_4 : Zr Try.prog 4 (([.bool false] : List Value)) 1 := ⟨.bool false, by kernel_rfl, by kernel_rfl, by kernel_rfl⟩
theorem on_4 : oneB Try.prog 4 = true := by kernel_rfl
theorem el_4 : El Try.prog 4 1 1 := ⟨.bool false, by kernel_rfl, by kernel_rfl, by decide⟩
theorem zr_5 : Zr Try.prog 5 (([B8 0] : List Value)) 1 := ⟨B8 0, by kernel_rfl, by kernel_rfl, by kernel_rfl⟩
theorem on_5 : oneB Try.prog 5 = true := by kernel_rfl
theorem el_5 : El Try.prog 5 1 1 := ⟨B8 0, by kernel_rfl, by kernel_rfl, by decide⟩
theorem zr_9 : Zr Try.prog 9 (([.string ⟨#[]⟩] : List Value)) 1 := ⟨.string ⟨#[]⟩, by kernel_rfl, by kernel_rfl, by kernel_rfl⟩
theorem on_9 : oneB Try.prog 9 = true := by kernel_rfl
theorem el_9 : El Try.prog 9 1 16 := ⟨.string ⟨#[]⟩, by kernel_rfl, by kernel_rfl, by decide⟩
theorem zr_12 : Zr Try.prog 12 (([W64 0] : List Value)) 1 := ⟨W64 0, by kernel_rfl, by kernel_rfl, by kernel_rfl⟩
theorem on_12 : oneB Try.prog 12 = true := by kernel_rfl
theorem el_12 : El Try.prog 12 1 8 := ⟨W64 0, by kernel_rfl, by kernel_rfl, by decide⟩
theorem zr_13 : Zr Try.prog 13 (([.string ⟨#[]⟩, W64 0] : List Value)) 2 := ⟨.agg (([.string ⟨#[]⟩, W64 0] : List Value)).toArray, by kernel_rfl, by kernel_rfl, by kernel_rfl⟩
theorem ag_13 : aggB Try.prog 13 2 = true := by kernel_rfl
theorem el_13 : El Try.prog 13 2 24 := ⟨.agg (([.string ⟨#[]⟩, W64 0] : List Value)).toArray, by kernel_rfl, by kernel_rfl, by decide⟩
theorem zr_19 : Zr Try.prog 19 (([.pointer none] : List Value)) 1 := ⟨.agg (([.pointer none] : List Value)).toArray, by kernel_rfl, by kernel_rfl, by kernel_rfl⟩
theorem ag_19 : aggB Try.prog 19 1 = true := by kernel_rfl
theorem el_19 : El Try.prog 19 1 8 := ⟨.agg (([.pointer none] : List Value)).toArray, by kernel_rfl, by kernel_rfl, by decide⟩
theorem zr_20 : Zr Try.prog 20 (([.nilIface] : List Value)) 1 := ⟨.nilIface, by kernel_rfl, by kernel_rfl, by kernel_rfl⟩
theorem on_20 : oneB Try.prog 20 = true := by kernel_rfl
theorem el_20 : El Try.prog 20 1 16 := ⟨.nilIface, by kernel_rfl, by kernel_rfl, by decide⟩
theorem zr_21 : Zr Try.prog 21 (([.int .i32 0] : List Value)) 1 := ⟨.int .i32 0, by kernel_rfl, by kernel_rfl, by kernel_rfl⟩
theorem on_21 : oneB Try.prog 21 = true := by kernel_rfl
theorem el_21 : El Try.prog 21 1 4 := ⟨.int .i32 0, by kernel_rfl, by kernel_rfl, by decide⟩
theorem zr_22 : Zr Try.prog 22 (([.slice none 0 0] : List Value)) 1 := ⟨.slice none 0 0, by kernel_rfl, by kernel_rfl, by kernel_rfl⟩
theorem on_22 : oneB Try.prog 22 = true := by kernel_rfl
theorem el_22 : El Try.prog 22 1 24 := ⟨.slice none 0 0, by kernel_rfl, by kernel_rfl, by decide⟩
theorem zr_23 : Zr Try.prog 23 ((List.replicate 32 (0 : UInt8)).map B8) 32 := ⟨.agg ((List.replicate 32 (0 : UInt8)).map B8).toArray, by kernel_rfl, by kernel_rfl, by kernel_rfl⟩
theorem ag_23 : aggB Try.prog 23 32 = true := by kernel_rfl
theorem el_23 : El Try.prog 23 32 32 := ⟨.agg ((List.replicate 32 (0 : UInt8)).map B8).toArray, by kernel_rfl, by kernel_rfl, by decide⟩
theorem zr_24 : Zr Try.prog 24 ((List.replicate 32 (0 : UInt8)).map B8) 32 := ⟨.agg ((List.replicate 32 (0 : UInt8)).map B8).toArray, by kernel_rfl, by kernel_rfl, by kernel_rfl⟩
theorem ag_24 : aggB Try.prog 24 32 = true := by kernel_rfl
theorem el_24 : El Try.prog 24 32 32 := ⟨.agg ((List.replicate 32 (0 : UInt8)).map B8).toArray, by kernel_rfl, by kernel_rfl, by decide⟩
theorem zr_28 : Zr Try.prog 28 (([.slice none 0 0] : List Value)) 1 := ⟨.slice none 0 0, by kernel_rfl, by kernel_rfl, by kernel_rfl⟩
theorem on_28 : oneB Try.prog 28 = true := by kernel_rfl
theorem el_28 : El Try.prog 28 1 24 := ⟨.slice none 0 0, by kernel_rfl, by kernel_rfl, by decide⟩
theorem zr_29 : Zr Try.prog 29 (([.pointer none] : List Value)) 1 := ⟨.pointer none, by kernel_rfl, by kernel_rfl, by kernel_rfl⟩
theorem on_29 : oneB Try.prog 29 = true := by kernel_rfl
theorem el_29 : El Try.prog 29 1 8 := ⟨.pointer none, by kernel_rfl, by kernel_rfl, by decide⟩
theorem zr_31 : Zr Try.prog 31 (([.int .i64 0, .int .i64 0, .slice none 0 0] : List Value)) 3 := ⟨.agg (([.int .i64 0, .int .i64 0, .slice none 0 0] : List Value)).toArray, by kernel_rfl, by kernel_rfl, by kernel_rfl⟩
theorem ag_31 : aggB Try.prog 31 3 = true := by kernel_rfl
theorem el_31 : El Try.prog 31 3 40 := ⟨.agg (([.int .i64 0, .int .i64 0, .slice none 0 0] : List Value)).toArray, by kernel_rfl, by kernel_rfl, by decide⟩
theorem zr_32 : Zr Try.prog 32 (([.int .i64 0, .int .i64 0, .slice none 0 0] : List Value)) 3 := ⟨.agg (([.int .i64 0, .int .i64 0, .slice none 0 0] : List Value)).toArray, by kernel_rfl, by kernel_rfl, by kernel_rfl⟩
theorem ag_32 : aggB Try.prog 32 3 = true := by kernel_rfl
theorem el_32 : El Try.prog 32 3 40 := ⟨.agg (([.int .i64 0, .int .i64 0, .slice none 0 0] : List Value)).toArray, by kernel_rfl, by kernel_rfl, by decide⟩
theorem zr_33 : Zr Try.prog 33 (([.slice none 0 0] : List Value)) 1 := ⟨.slice none 0 0, by kernel_rfl, by kernel_rfl, by kernel_rfl⟩
theorem on_33 : oneB Try.prog 33 = true := by kernel_rfl
theorem el_33 : El Try.prog 33 1 24 := ⟨.slice none 0 0, by kernel_rfl, by kernel_rfl, by decide⟩
theorem zr_34 : Zr Try.prog 34 (([.slice none 0 0] : List Value)) 1 := ⟨.slice none 0 0, by kernel_rfl, by kernel_rfl, by kernel_rfl⟩
theorem on_34 : oneB Try.prog 34 = true := by kernel_rfl
theorem el_34 : El Try.prog 34 1 24 := ⟨.slice none 0 0, by kernel_rfl, by kernel_rfl, by decide⟩
theorem zr_38 : Zr Try.prog 38 (([.slice none 0 0, .slice none 0 0, .int .i64 0, B8 0] : List Value)) 4 := ⟨.agg (([.slice none 0 0, .slice none 0 0, .int .i64 0, B8 0] : List Value)).toArray, by kernel_rfl, by kernel_rfl, by kernel_rfl⟩
theorem ag_38 : aggB Try.prog 38 4 = true := by kernel_rfl
theorem el_38 : El Try.prog 38 4 64 := ⟨.agg (([.slice none 0 0, .slice none 0 0, .int .i64 0, B8 0] : List Value)).toArray, by kernel_rfl, by kernel_rfl, by decide⟩
theorem zr_39 : Zr Try.prog 39 (([.slice none 0 0, .slice none 0 0, .int .i64 0, B8 0] : List Value)) 4 := ⟨.agg (([.slice none 0 0, .slice none 0 0, .int .i64 0, B8 0] : List Value)).toArray, by kernel_rfl, by kernel_rfl, by kernel_rfl⟩
theorem ag_39 : aggB Try.prog 39 4 = true := by kernel_rfl
theorem el_39 : El Try.prog 39 4 64 := ⟨.agg (([.slice none 0 0, .slice none 0 0, .int .i64 0, B8 0] : List Value)).toArray, by kernel_rfl, by kernel_rfl, by decide⟩
theorem zr_42 : Zr Try.prog 42 (([.slice none 0 0] : List Value)) 1 := ⟨.slice none 0 0, by kernel_rfl, by kernel_rfl, by kernel_rfl⟩
theorem on_42 : oneB Try.prog 42 = true := by kernel_rfl
theorem el_42 : El Try.prog 42 1 24 := ⟨.slice none 0 0, by kernel_rfl, by kernel_rfl, by decide⟩
theorem zr_43 : Zr Try.prog 43 (([.int .i64 0, .int .i64 0, .slice none 0 0] : List Value)) 3 := ⟨.agg (([.int .i64 0, .int .i64 0, .slice none 0 0] : List Value)).toArray, by kernel_rfl, by kernel_rfl, by kernel_rfl⟩
theorem ag_43 : aggB Try.prog 43 3 = true := by kernel_rfl
theorem el_43 : El Try.prog 43 3 40 := ⟨.agg (([.int .i64 0, .int .i64 0, .slice none 0 0] : List Value)).toArray, by kernel_rfl, by kernel_rfl, by decide⟩
theorem zr_44 : Zr Try.prog 44 (([.slice none 0 0] : List Value)) 1 := ⟨.slice none 0 0, by kernel_rfl, by kernel_rfl, by kernel_rfl⟩
theorem on_44 : oneB Try.prog 44 = true := by kernel_rfl
theorem el_44 : El Try.prog 44 1 24 := ⟨.slice none 0 0, by kernel_rfl, by kernel_rfl, by decide⟩
theorem zr_45 : Zr Try.prog 45 (([.pointer none] : List Value)) 1 := ⟨.pointer none, by kernel_rfl, by kernel_rfl, by kernel_rfl⟩
theorem on_45 : oneB Try.prog 45 = true := by kernel_rfl
theorem el_45 : El Try.prog 45 1 8 := ⟨.pointer none, by kernel_rfl, by kernel_rfl, by decide⟩
theorem zr_47 : Zr Try.prog 47 ((List.replicate 64 (0 : UInt8)).map B8) 64 := ⟨.agg ((List.replicate 64 (0 : UInt8)).map B8).toArray, by kernel_rfl, by kernel_rfl, by kernel_rfl⟩
theorem ag_47 : aggB Try.prog 47 64 = true := by kernel_rfl
theorem el_47 : El Try.prog 47 64 64 := ⟨.agg ((List.replicate 64 (0 : UInt8)).map B8).toArray, by kernel_rfl, by kernel_rfl, by decide⟩
theorem zr_48 : Zr Try.prog 48 (([.pointer none] : List Value) ++ (List.replicate 64 (0 : UInt8)).map B8) 65 := ⟨.agg (([.pointer none] : List Value) ++ (List.replicate 64 (0 : UInt8)).map B8).toArray, by kernel_rfl, by kernel_rfl, by kernel_rfl⟩
theorem ag_48 : aggB Try.prog 48 65 = true := by kernel_rfl
theorem el_48 : El Try.prog 48 65 72 := ⟨.agg (([.pointer none] : List Value) ++ (List.replicate 64 (0 : UInt8)).map B8).toArray, by kernel_rfl, by kernel_rfl, by decide⟩
theorem zr_49 : Zr Try.prog 49 (([.pointer none] : List Value) ++ (List.replicate 64 (0 : UInt8)).map B8) 65 := ⟨.agg (([.pointer none] : List Value) ++ (List.replicate 64 (0 : UInt8)).map B8).toArray, by kernel_rfl, by kernel_rfl, by kernel_rfl⟩
theorem ag_49 : aggB Try.prog 49 65 = true := by kernel_rfl
theorem el_49 : El Try.prog 49 65 72 := ⟨.agg (([.pointer none] : List Value) ++ (List.replicate 64 (0 : UInt8)).map B8).toArray, by kernel_rfl, by kernel_rfl, by decide⟩
theorem zr_54 : Zr Try.prog 54 (([.slice none 0 0] : List Value)) 1 := ⟨.slice none 0 0, by kernel_rfl, by kernel_rfl, by kernel_rfl⟩
theorem on_54 : oneB Try.prog 54 = true := by kernel_rfl
theorem el_54 : El Try.prog 54 1 24 := ⟨.slice none 0 0, by kernel_rfl, by kernel_rfl, by decide⟩
theorem zr_55 : Zr Try.prog 55 (([.pointer none] : List Value)) 1 := ⟨.pointer none, by kernel_rfl, by kernel_rfl, by kernel_rfl⟩
theorem on_55 : oneB Try.prog 55 = true := by kernel_rfl
theorem el_55 : El Try.prog 55 1 8 := ⟨.pointer none, by kernel_rfl, by kernel_rfl, by decide⟩
theorem zr_56 : Zr Try.prog 56 (([.pointer none] : List Value)) 1 := ⟨.pointer none, by kernel_rfl, by kernel_rfl, by kernel_rfl⟩
theorem on_56 : oneB Try.prog 56 = true := by kernel_rfl
theorem el_56 : El Try.prog 56 1 8 := ⟨.pointer none, by kernel_rfl, by kernel_rfl, by decide⟩
theorem zr_58 : Zr Try.prog 58 (([.slice none 0 0] : List Value)) 1 := ⟨.slice none 0 0, by kernel_rfl, by kernel_rfl, by kernel_rfl⟩
theorem on_58 : oneB Try.prog 58 = true := by kernel_rfl
theorem el_58 : El Try.prog 58 1 24 := ⟨.slice none 0 0, by kernel_rfl, by kernel_rfl, by decide⟩
theorem zr_59 : Zr Try.prog 59 (([.pointer none, .slice none 0 0] : List Value)) 2 := ⟨.agg (([.pointer none, .slice none 0 0] : List Value)).toArray, by kernel_rfl, by kernel_rfl, by kernel_rfl⟩
theorem ag_59 : aggB Try.prog 59 2 = true := by kernel_rfl
theorem el_59 : El Try.prog 59 2 32 := ⟨.agg (([.pointer none, .slice none 0 0] : List Value)).toArray, by kernel_rfl, by kernel_rfl, by decide⟩
theorem zr_60 : Zr Try.prog 60 (([.pointer none, .slice none 0 0] : List Value)) 2 := ⟨.agg (([.pointer none, .slice none 0 0] : List Value)).toArray, by kernel_rfl, by kernel_rfl, by kernel_rfl⟩
theorem ag_60 : aggB Try.prog 60 2 = true := by kernel_rfl
theorem el_60 : El Try.prog 60 2 32 := ⟨.agg (([.pointer none, .slice none 0 0] : List Value)).toArray, by kernel_rfl, by kernel_rfl, by decide⟩
theorem zr_61 : Zr Try.prog 61 (([.slice none 0 0] : List Value)) 1 := ⟨.slice none 0 0, by kernel_rfl, by kernel_rfl, by kernel_rfl⟩
theorem on_61 : oneB Try.prog 61 = true := by kernel_rfl
theorem el_61 : El Try.prog 61 1 24 := ⟨.slice none 0 0, by kernel_rfl, by kernel_rfl, by decide⟩
theorem zr_62 : Zr Try.prog 62 (([.int .i64 0] : List Value)) 1 := ⟨.int .i64 0, by kernel_rfl, by kernel_rfl, by kernel_rfl⟩
theorem on_62 : oneB Try.prog 62 = true := by kernel_rfl
theorem el_62 : El Try.prog 62 1 8 := ⟨.int .i64 0, by kernel_rfl, by kernel_rfl, by decide⟩
theorem zr_63 : Zr Try.prog 63 ((List.replicate 32 (0 : UInt8)).map B8 ++ ([.int .i64 0] : List Value)) 33 := ⟨.agg ((List.replicate 32 (0 : UInt8)).map B8 ++ ([.int .i64 0] : List Value)).toArray, by kernel_rfl, by kernel_rfl, by kernel_rfl⟩
theorem ag_63 : aggB Try.prog 63 33 = true := by kernel_rfl
theorem el_63 : El Try.prog 63 33 40 := ⟨.agg ((List.replicate 32 (0 : UInt8)).map B8 ++ ([.int .i64 0] : List Value)).toArray, by kernel_rfl, by kernel_rfl, by decide⟩
theorem zr_64 : Zr Try.prog 64 ((List.replicate 32 (0 : UInt8)).map B8 ++ ([.int .i64 0] : List Value)) 33 := ⟨.agg ((List.replicate 32 (0 : UInt8)).map B8 ++ ([.int .i64 0] : List Value)).toArray, by kernel_rfl, by kernel_rfl, by kernel_rfl⟩
theorem ag_64 : aggB Try.prog 64 33 = true := by kernel_rfl
theorem el_64 : El Try.prog 64 33 40 := ⟨.agg ((List.replicate 32 (0 : UInt8)).map B8 ++ ([.int .i64 0] : List Value)).toArray, by kernel_rfl, by kernel_rfl, by decide⟩
theorem zr_65 : Zr Try.prog 65 (([.int .i64 0, .int .i64 0] : List Value) ++ (List.replicate 32 (0 : UInt8)).map B8 ++ ([.int .i64 0, .slice none 0 0, .slice none 0 0] : List Value)) 37 := ⟨.agg (([.int .i64 0, .int .i64 0] : List Value) ++ (List.replicate 32 (0 : UInt8)).map B8 ++ ([.int .i64 0, .slice none 0 0, .slice none 0 0] : List Value)).toArray, by kernel_rfl, by kernel_rfl, by kernel_rfl⟩
theorem ag_65 : aggB Try.prog 65 37 = true := by kernel_rfl
theorem el_65 : El Try.prog 65 37 104 := ⟨.agg (([.int .i64 0, .int .i64 0] : List Value) ++ (List.replicate 32 (0 : UInt8)).map B8 ++ ([.int .i64 0, .slice none 0 0, .slice none 0 0] : List Value)).toArray, by kernel_rfl, by kernel_rfl, by decide⟩
theorem zr_66 : Zr Try.prog 66 (([.int .i64 0, .int .i64 0] : List Value) ++ (List.replicate 32 (0 : UInt8)).map B8 ++ ([.int .i64 0, .slice none 0 0, .slice none 0 0] : List Value)) 37 := ⟨.agg (([.int .i64 0, .int .i64 0] : List Value) ++ (List.replicate 32 (0 : UInt8)).map B8 ++ ([.int .i64 0, .slice none 0 0, .slice none 0 0] : List Value)).toArray, by kernel_rfl, by kernel_rfl, by kernel_rfl⟩
theorem ag_66 : aggB Try.prog 66 37 = true := by kernel_rfl
theorem el_66 : El Try.prog 66 37 104 := ⟨.agg (([.int .i64 0, .int .i64 0] : List Value) ++ (List.replicate 32 (0 : UInt8)).map B8 ++ ([.int .i64 0, .slice none 0 0, .slice none 0 0] : List Value)).toArray, by kernel_rfl, by kernel_rfl, by decide⟩
theorem zr_72 : Zr Try.prog 72 (([.slice none 0 0, .slice none 0 0, .slice none 0 0] : List Value) ++ (List.replicate 32 (0 : UInt8)).map B8) 35 := ⟨.agg (([.slice none 0 0, .slice none 0 0, .slice none 0 0] : List Value) ++ (List.replicate 32 (0 : UInt8)).map B8).toArray, by kernel_rfl, by kernel_rfl, by kernel_rfl⟩
theorem ag_72 : aggB Try.prog 72 35 = true := by kernel_rfl
theorem el_72 : El Try.prog 72 35 104 := ⟨.agg (([.slice none 0 0, .slice none 0 0, .slice none 0 0] : List Value) ++ (List.replicate 32 (0 : UInt8)).map B8).toArray, by kernel_rfl, by kernel_rfl, by decide⟩
theorem zr_73 : Zr Try.prog 73 (([.slice none 0 0, .slice none 0 0, .slice none 0 0] : List Value) ++ (List.replicate 32 (0 : UInt8)).map B8) 35 := ⟨.agg (([.slice none 0 0, .slice none 0 0, .slice none 0 0] : List Value) ++ (List.replicate 32 (0 : UInt8)).map B8).toArray, by kernel_rfl, by kernel_rfl, by kernel_rfl⟩
theorem ag_73 : aggB Try.prog 73 35 = true := by kernel_rfl
theorem el_73 : El Try.prog 73 35 104 := ⟨.agg (([.slice none 0 0, .slice none 0 0, .slice none 0 0] : List Value) ++ (List.replicate 32 (0 : UInt8)).map B8).toArray, by kernel_rfl, by kernel_rfl, by decide⟩
theorem zr_84 : Zr Try.prog 84 (([.slice none 0 0] : List Value)) 1 := ⟨.slice none 0 0, by kernel_rfl, by kernel_rfl, by kernel_rfl⟩
theorem on_84 : oneB Try.prog 84 = true := by kernel_rfl
theorem el_84 : El Try.prog 84 1 24 := ⟨.slice none 0 0, by kernel_rfl, by kernel_rfl, by decide⟩
theorem zr_85 : Zr Try.prog 85 (([.slice none 0 0] : List Value)) 1 := ⟨.slice none 0 0, by kernel_rfl, by kernel_rfl, by kernel_rfl⟩
theorem on_85 : oneB Try.prog 85 = true := by kernel_rfl
theorem el_85 : El Try.prog 85 1 24 := ⟨.slice none 0 0, by kernel_rfl, by kernel_rfl, by decide⟩
theorem zr_87 : Zr Try.prog 87 (([.pointer none] : List Value)) 1 := ⟨.pointer none, by kernel_rfl, by kernel_rfl, by kernel_rfl⟩
theorem on_87 : oneB Try.prog 87 = true := by kernel_rfl
theorem el_87 : El Try.prog 87 1 8 := ⟨.pointer none, by kernel_rfl, by kernel_rfl, by decide⟩
theorem zr_90 : Zr Try.prog 90 (([.pointer none] : List Value)) 1 := ⟨.pointer none, by kernel_rfl, by kernel_rfl, by kernel_rfl⟩
theorem on_90 : oneB Try.prog 90 = true := by kernel_rfl
theorem el_90 : El Try.prog 90 1 8 := ⟨.pointer none, by kernel_rfl, by kernel_rfl, by decide⟩
theorem zr_95 : Zr Try.prog 95 (([.slice none 0 0] : List Value)) 1 := ⟨.slice none 0 0, by kernel_rfl, by kernel_rfl, by kernel_rfl⟩
theorem on_95 : oneB Try.prog 95 = true := by kernel_rfl
theorem el_95 : El Try.prog 95 1 24 := ⟨.slice none 0 0, by kernel_rfl, by kernel_rfl, by decide⟩
theorem zr_96 : Zr Try.prog 96 (([.int .i64 0, .slice none 0 0] : List Value) ++ (List.replicate 32 (0 : UInt8)).map B8) 34 := ⟨.agg (([.int .i64 0, .slice none 0 0] : List Value) ++ (List.replicate 32 (0 : UInt8)).map B8).toArray, by kernel_rfl, by kernel_rfl, by kernel_rfl⟩
theorem ag_96 : aggB Try.prog 96 34 = true := by kernel_rfl
theorem el_96 : El Try.prog 96 34 64 := ⟨.agg (([.int .i64 0, .slice none 0 0] : List Value) ++ (List.replicate 32 (0 : UInt8)).map B8).toArray, by kernel_rfl, by kernel_rfl, by decide⟩
theorem zr_97 : Zr Try.prog 97 (([.int .i64 0, .slice none 0 0] : List Value) ++ (List.replicate 32 (0 : UInt8)).map B8) 34 := ⟨.agg (([.int .i64 0, .slice none 0 0] : List Value) ++ (List.replicate 32 (0 : UInt8)).map B8).toArray, by kernel_rfl, by kernel_rfl, by kernel_rfl⟩
theorem ag_97 : aggB Try.prog 97 34 = true := by kernel_rfl
theorem el_97 : El Try.prog 97 34 64 := ⟨.agg (([.int .i64 0, .slice none 0 0] : List Value) ++ (List.replicate 32 (0 : UInt8)).map B8).toArray, by kernel_rfl, by kernel_rfl, by decide⟩
theorem zr_98 : Zr Try.prog 98 (([.int .i64 0, .slice none 0 0] : List Value)) 2 := ⟨.agg (([.int .i64 0, .slice none 0 0] : List Value)).toArray, by kernel_rfl, by kernel_rfl, by kernel_rfl⟩
theorem ag_98 : aggB Try.prog 98 2 = true := by kernel_rfl
theorem el_98 : El Try.prog 98 2 32 := ⟨.agg (([.int .i64 0, .slice none 0 0] : List Value)).toArray, by kernel_rfl, by kernel_rfl, by decide⟩
theorem zr_99 : Zr Try.prog 99 (([.int .i64 0, .slice none 0 0] : List Value)) 2 := ⟨.agg (([.int .i64 0, .slice none 0 0] : List Value)).toArray, by kernel_rfl, by kernel_rfl, by kernel_rfl⟩
theorem ag_99 : aggB Try.prog 99 2 = true := by kernel_rfl
theorem el_99 : El Try.prog 99 2 32 := ⟨.agg (([.int .i64 0, .slice none 0 0] : List Value)).toArray, by kernel_rfl, by kernel_rfl, by decide⟩
theorem zr_108 : Zr Try.prog 108 (([.slice none 0 0] : List Value)) 1 := ⟨.slice none 0 0, by kernel_rfl, by kernel_rfl, by kernel_rfl⟩
theorem on_108 : oneB Try.prog 108 = true := by kernel_rfl
theorem el_108 : El Try.prog 108 1 24 := ⟨.slice none 0 0, by kernel_rfl, by kernel_rfl, by decide⟩
theorem zr_110 : Zr Try.prog 110 (([W32 0] : List Value)) 1 := ⟨W32 0, by kernel_rfl, by kernel_rfl, by kernel_rfl⟩
theorem on_110 : oneB Try.prog 110 = true := by kernel_rfl
theorem el_110 : El Try.prog 110 1 4 := ⟨W32 0, by kernel_rfl, by kernel_rfl, by decide⟩
theorem zr_111 : Zr Try.prog 111 ((List.replicate 8 (0 : UInt32)).map W32) 8 := ⟨.agg ((List.replicate 8 (0 : UInt32)).map W32).toArray, by kernel_rfl, by kernel_rfl, by kernel_rfl⟩
theorem ag_111 : aggB Try.prog 111 8 = true := by kernel_rfl
theorem el_111 : El Try.prog 111 8 32 := ⟨.agg ((List.replicate 8 (0 : UInt32)).map W32).toArray, by kernel_rfl, by kernel_rfl, by decide⟩
theorem zr_113 : Zr Try.prog 113 ((List.replicate 64 (0 : UInt32)).map W32) 64 := ⟨.agg ((List.replicate 64 (0 : UInt32)).map W32).toArray, by kernel_rfl, by kernel_rfl, by kernel_rfl⟩
theorem ag_113 : aggB Try.prog 113 64 = true := by kernel_rfl
theorem el_113 : El Try.prog 113 64 256 := ⟨.agg ((List.replicate 64 (0 : UInt32)).map W32).toArray, by kernel_rfl, by kernel_rfl, by decide⟩
theorem zr_116 : Zr Try.prog 116 (([W64 0] : List Value)) 1 := ⟨W64 0, by kernel_rfl, by kernel_rfl, by kernel_rfl⟩
theorem on_116 : oneB Try.prog 116 = true := by kernel_rfl
theorem el_116 : El Try.prog 116 1 8 := ⟨W64 0, by kernel_rfl, by kernel_rfl, by decide⟩
theorem zr_117 : Zr Try.prog 117 ((List.replicate 8 (0 : UInt32)).map W32 ++ (List.replicate 64 (0 : UInt8)).map B8 ++ ([W64 0] : List Value) ++ (List.replicate 64 (0 : UInt32)).map W32) 137 := ⟨.agg ((List.replicate 8 (0 : UInt32)).map W32 ++ (List.replicate 64 (0 : UInt8)).map B8 ++ ([W64 0] : List Value) ++ (List.replicate 64 (0 : UInt32)).map W32).toArray, by kernel_rfl, by kernel_rfl, by kernel_rfl⟩
theorem ag_117 : aggB Try.prog 117 137 = true := by kernel_rfl
theorem el_117 : El Try.prog 117 137 360 := ⟨.agg ((List.replicate 8 (0 : UInt32)).map W32 ++ (List.replicate 64 (0 : UInt8)).map B8 ++ ([W64 0] : List Value) ++ (List.replicate 64 (0 : UInt32)).map W32).toArray, by kernel_rfl, by kernel_rfl, by decide⟩
theorem zr_118 : Zr Try.prog 118 ((List.replicate 8 (0 : UInt32)).map W32 ++ (List.replicate 64 (0 : UInt8)).map B8 ++ ([W64 0] : List Value) ++ (List.replicate 64 (0 : UInt32)).map W32) 137 := ⟨.agg ((List.replicate 8 (0 : UInt32)).map W32 ++ (List.replicate 64 (0 : UInt8)).map B8 ++ ([W64 0] : List Value) ++ (List.replicate 64 (0 : UInt32)).map W32).toArray, by kernel_rfl, by kernel_rfl, by kernel_rfl⟩
theorem ag_118 : aggB Try.prog 118 137 = true := by kernel_rfl
theorem el_118 : El Try.prog 118 137 360 := ⟨.agg ((List.replicate 8 (0 : UInt32)).map W32 ++ (List.replicate 64 (0 : UInt8)).map B8 ++ ([W64 0] : List Value) ++ (List.replicate 64 (0 : UInt32)).map W32).toArray, by kernel_rfl, by kernel_rfl, by decide⟩
theorem zr_119 : Zr Try.prog 119 ((List.replicate 73 (0 : UInt8)).map B8) 73 := ⟨.agg ((List.replicate 73 (0 : UInt8)).map B8).toArray, by kernel_rfl, by kernel_rfl, by kernel_rfl⟩
theorem ag_119 : aggB Try.prog 119 73 = true := by kernel_rfl
theorem el_119 : El Try.prog 119 73 73 := ⟨.agg ((List.replicate 73 (0 : UInt8)).map B8).toArray, by kernel_rfl, by kernel_rfl, by decide⟩
theorem zr_121 : Zr Try.prog 121 (([.slice none 0 0] : List Value)) 1 := ⟨.agg (([.slice none 0 0] : List Value)).toArray, by kernel_rfl, by kernel_rfl, by kernel_rfl⟩
theorem ag_121 : aggB Try.prog 121 1 = true := by kernel_rfl
theorem el_121 : El Try.prog 121 1 24 := ⟨.agg (([.slice none 0 0] : List Value)).toArray, by kernel_rfl, by kernel_rfl, by decide⟩
theorem zr_122 : Zr Try.prog 122 (([.slice none 0 0] : List Value)) 1 := ⟨.agg (([.slice none 0 0] : List Value)).toArray, by kernel_rfl, by kernel_rfl, by kernel_rfl⟩
theorem ag_122 : aggB Try.prog 122 1 = true := by kernel_rfl
theorem el_122 : El Try.prog 122 1 24 := ⟨.agg (([.slice none 0 0] : List Value)).toArray, by kernel_rfl, by kernel_rfl, by decide⟩
theorem zr_129 : Zr Try.prog 129 (([.slice none 0 0] : List Value)) 1 := ⟨.slice none 0 0, by kernel_rfl, by kernel_rfl, by kernel_rfl⟩
theorem on_129 : oneB Try.prog 129 = true := by kernel_rfl
theorem el_129 : El Try.prog 129 1 24 := ⟨.slice none 0 0, by kernel_rfl, by kernel_rfl, by decide⟩
theorem zr_131 : Zr Try.prog 131 (([.slice none 0 0] : List Value)) 1 := ⟨.slice none 0 0, by kernel_rfl, by kernel_rfl, by kernel_rfl⟩
theorem on_131 : oneB Try.prog 131 = true := by kernel_rfl
theorem el_131 : El Try.prog 131 1 24 := ⟨.slice none 0 0, by kernel_rfl, by kernel_rfl, by decide⟩
theorem zr_132 : Zr Try.prog 132 (([.map none] : List Value)) 1 := ⟨.map none, by kernel_rfl, by kernel_rfl, by kernel_rfl⟩
theorem on_132 : oneB Try.prog 132 = true := by kernel_rfl
theorem el_132 : El Try.prog 132 1 8 := ⟨.map none, by kernel_rfl, by kernel_rfl, by decide⟩
theorem zr_133 : Zr Try.prog 133 (([.map none] : List Value)) 1 := ⟨.agg (([.map none] : List Value)).toArray, by kernel_rfl, by kernel_rfl, by kernel_rfl⟩
theorem ag_133 : aggB Try.prog 133 1 = true := by kernel_rfl
theorem el_133 : El Try.prog 133 1 8 := ⟨.agg (([.map none] : List Value)).toArray, by kernel_rfl, by kernel_rfl, by decide⟩
theorem zr_134 : Zr Try.prog 134 (([.map none] : List Value)) 1 := ⟨.agg (([.map none] : List Value)).toArray, by kernel_rfl, by kernel_rfl, by kernel_rfl⟩
theorem ag_134 : aggB Try.prog 134 1 = true := by kernel_rfl
theorem el_134 : El Try.prog 134 1 8 := ⟨.agg (([.map none] : List Value)).toArray, by kernel_rfl, by kernel_rfl, by decide⟩
theorem zr_135 : Zr Try.prog 135 (([.slice none 0 0] : List Value)) 1 := ⟨.agg (([.slice none 0 0] : List Value)).toArray, by kernel_rfl, by kernel_rfl, by kernel_rfl⟩
theorem ag_135 : aggB Try.prog 135 1 = true := by kernel_rfl
theorem el_135 : El Try.prog 135 1 24 := ⟨.agg (([.slice none 0 0] : List Value)).toArray, by kernel_rfl, by kernel_rfl, by decide⟩
theorem zr_136 : Zr Try.prog 136 (([.slice none 0 0] : List Value)) 1 := ⟨.agg (([.slice none 0 0] : List Value)).toArray, by kernel_rfl, by kernel_rfl, by kernel_rfl⟩
theorem ag_136 : aggB Try.prog 136 1 = true := by kernel_rfl
theorem el_136 : El Try.prog 136 1 24 := ⟨.agg (([.slice none 0 0] : List Value)).toArray, by kernel_rfl, by kernel_rfl, by decide⟩
theorem zr_140 : Zr Try.prog 140 (([.nilFunc] : List Value)) 1 := ⟨.nilFunc, by kernel_rfl, by kernel_rfl, by kernel_rfl⟩
theorem on_140 : oneB Try.prog 140 = true := by kernel_rfl
theorem el_140 : El Try.prog 140 1 8 := ⟨.nilFunc, by kernel_rfl, by kernel_rfl, by decide⟩
theorem zr_144 : Zr Try.prog 144 (([W64 0] : List Value)) 1 := ⟨W64 0, by kernel_rfl, by kernel_rfl, by kernel_rfl⟩
theorem on_144 : oneB Try.prog 144 = true := by kernel_rfl
theorem el_144 : El Try.prog 144 1 8 := ⟨W64 0, by kernel_rfl, by kernel_rfl, by decide⟩
theorem zr_146 : Zr Try.prog 146 (([.nilFunc] : List Value)) 1 := ⟨.nilFunc, by kernel_rfl, by kernel_rfl, by kernel_rfl⟩
theorem on_146 : oneB Try.prog 146 = true := by kernel_rfl
theorem el_146 : El Try.prog 146 1 8 := ⟨.nilFunc, by kernel_rfl, by kernel_rfl, by decide⟩
theorem zr_156 : Zr Try.prog 156 (([.int .i64 0] : List Value)) 1 := ⟨.int .i64 0, by kernel_rfl, by kernel_rfl, by kernel_rfl⟩
theorem on_156 : oneB Try.prog 156 = true := by kernel_rfl
theorem el_156 : El Try.prog 156 1 8 := ⟨.int .i64 0, by kernel_rfl, by kernel_rfl, by decide⟩
theorem zr_166 : Zr Try.prog 166 (([W64 0] : List Value)) 1 := ⟨W64 0, by kernel_rfl, by kernel_rfl, by kernel_rfl⟩
theorem on_166 : oneB Try.prog 166 = true := by kernel_rfl
theorem el_166 : El Try.prog 166 1 8 := ⟨W64 0, by kernel_rfl, by kernel_rfl, by decide⟩
theorem zr_170 : Zr Try.prog 170 (([.pointer none] : List Value)) 1 := ⟨.pointer none, by kernel_rfl, by kernel_rfl, by kernel_rfl⟩
theorem on_170 : oneB Try.prog 170 = true := by kernel_rfl
theorem el_170 : El Try.prog 170 1 8 := ⟨.pointer none, by kernel_rfl, by kernel_rfl, by decide⟩
theorem zr_172 : Zr Try.prog 172 (([.pointer none] : List Value)) 1 := ⟨.pointer none, by kernel_rfl, by kernel_rfl, by kernel_rfl⟩
theorem on_172 : oneB Try.prog 172 = true := by kernel_rfl
theorem el_172 : El Try.prog 172 1 8 := ⟨.pointer none, by kernel_rfl, by kernel_rfl, by decide⟩
theorem zr_185 : Zr Try.prog 185 (([.pointer none] : List Value)) 1 := ⟨.pointer none, by kernel_rfl, by kernel_rfl, by kernel_rfl⟩
theorem on_185 : oneB Try.prog 185 = true := by kernel_rfl
theorem el_185 : El Try.prog 185 1 8 := ⟨.pointer none, by kernel_rfl, by kernel_rfl, by decide⟩
theorem zr_190 : Zr Try.prog 190 (([.pointer none] : List Value)) 1 := ⟨.pointer none, by kernel_rfl, by kernel_rfl, by kernel_rfl⟩
theorem on_190 : oneB Try.prog 190 = true := by kernel_rfl
theorem el_190 : El Try.prog 190 1 8 := ⟨.pointer none, by kernel_rfl, by kernel_rfl, by decide⟩
theorem fd_13_0 : fieldB Try.prog 13 0 0 = true := by kernel_rfl
theorem fd_13_1 : fieldB Try.prog 13 1 1 = true := by kernel_rfl
theorem fd_31_0 : fieldB Try.prog 31 0 0 = true := by kernel_rfl
theorem fd_31_1 : fieldB Try.prog 31 1 1 = true := by kernel_rfl
theorem fd_31_2 : fieldB Try.prog 31 2 2 = true := by kernel_rfl
theorem fd_32_0 : fieldB Try.prog 32 0 0 = true := by kernel_rfl
theorem fd_32_1 : fieldB Try.prog 32 1 1 = true := by kernel_rfl
theorem fd_32_2 : fieldB Try.prog 32 2 2 = true := by kernel_rfl
theorem fd_38_0 : fieldB Try.prog 38 0 0 = true := by kernel_rfl
theorem fd_38_1 : fieldB Try.prog 38 1 1 = true := by kernel_rfl
theorem fd_38_2 : fieldB Try.prog 38 2 2 = true := by kernel_rfl
theorem fd_38_3 : fieldB Try.prog 38 3 3 = true := by kernel_rfl
theorem fd_39_0 : fieldB Try.prog 39 0 0 = true := by kernel_rfl
theorem fd_39_1 : fieldB Try.prog 39 1 1 = true := by kernel_rfl
theorem fd_39_2 : fieldB Try.prog 39 2 2 = true := by kernel_rfl
theorem fd_39_3 : fieldB Try.prog 39 3 3 = true := by kernel_rfl
theorem fd_43_0 : fieldB Try.prog 43 0 0 = true := by kernel_rfl
theorem fd_43_1 : fieldB Try.prog 43 1 1 = true := by kernel_rfl
theorem fd_43_2 : fieldB Try.prog 43 2 2 = true := by kernel_rfl
theorem fd_48_0 : fieldB Try.prog 48 0 0 = true := by kernel_rfl
theorem fd_48_1 : fieldA Try.prog 48 1 1 64 = true := by kernel_rfl
theorem fd_49_0 : fieldB Try.prog 49 0 0 = true := by kernel_rfl
theorem fd_49_1 : fieldA Try.prog 49 1 1 64 = true := by kernel_rfl
theorem fd_59_0 : fieldB Try.prog 59 0 0 = true := by kernel_rfl
theorem fd_59_1 : fieldB Try.prog 59 1 1 = true := by kernel_rfl
theorem fd_60_0 : fieldB Try.prog 60 0 0 = true := by kernel_rfl
theorem fd_60_1 : fieldB Try.prog 60 1 1 = true := by kernel_rfl
theorem fd_63_0 : fieldA Try.prog 63 0 0 32 = true := by kernel_rfl
theorem fd_63_1 : fieldB Try.prog 63 1 32 = true := by kernel_rfl
theorem fd_64_0 : fieldA Try.prog 64 0 0 32 = true := by kernel_rfl
theorem fd_64_1 : fieldB Try.prog 64 1 32 = true := by kernel_rfl
theorem fd_65_0 : fieldB Try.prog 65 0 0 = true := by kernel_rfl
theorem fd_65_1 : fieldB Try.prog 65 1 1 = true := by kernel_rfl
theorem fd_65_2 : fieldA Try.prog 65 2 2 33 = true := by kernel_rfl
theorem fd_65_3 : fieldB Try.prog 65 3 35 = true := by kernel_rfl
theorem fd_65_4 : fieldB Try.prog 65 4 36 = true := by kernel_rfl
theorem fd_66_0 : fieldB Try.prog 66 0 0 = true := by kernel_rfl
theorem fd_66_1 : fieldB Try.prog 66 1 1 = true := by kernel_rfl
theorem fd_66_2 : fieldA Try.prog 66 2 2 33 = true := by kernel_rfl
theorem fd_66_3 : fieldB Try.prog 66 3 35 = true := by kernel_rfl
theorem fd_66_4 : fieldB Try.prog 66 4 36 = true := by kernel_rfl
theorem fd_72_0 : fieldB Try.prog 72 0 0 = true := by kernel_rfl
theorem fd_72_1 : fieldB Try.prog 72 1 1 = true := by kernel_rfl
theorem fd_72_2 : fieldB Try.prog 72 2 2 = true := by kernel_rfl
theorem fd_72_3 : fieldA Try.prog 72 3 3 32 = true := by kernel_rfl
theorem fd_73_0 : fieldB Try.prog 73 0 0 = true := by kernel_rfl
theorem fd_73_1 : fieldB Try.prog 73 1 1 = true := by kernel_rfl
theorem fd_73_2 : fieldB Try.prog 73 2 2 = true := by kernel_rfl
theorem fd_73_3 : fieldA Try.prog 73 3 3 32 = true := by kernel_rfl
theorem fd_96_0 : fieldB Try.prog 96 0 0 = true := by kernel_rfl
theorem fd_96_1 : fieldB Try.prog 96 1 1 = true := by kernel_rfl
theorem fd_96_2 : fieldA Try.prog 96 2 2 32 = true := by kernel_rfl
theorem fd_97_0 : fieldB Try.prog 97 0 0 = true := by kernel_rfl
theorem fd_97_1 : fieldB Try.prog 97 1 1 = true := by kernel_rfl
theorem fd_97_2 : fieldA Try.prog 97 2 2 32 = true := by kernel_rfl
theorem fd_98_0 : fieldB Try.prog 98 0 0 = true := by kernel_rfl
theorem fd_98_1 : fieldB Try.prog 98 1 1 = true := by kernel_rfl
theorem fd_99_0 : fieldB Try.prog 99 0 0 = true := by kernel_rfl
theorem fd_99_1 : fieldB Try.prog 99 1 1 = true := by kernel_rfl
theorem fd_117_0 : fieldA Try.prog 117 0 0 8 = true := by kernel_rfl
theorem fd_117_1 : fieldA Try.prog 117 1 8 64 = true := by kernel_rfl
theorem fd_117_2 : fieldB Try.prog 117 2 72 = true := by kernel_rfl
theorem fd_117_3 : fieldA Try.prog 117 3 73 64 = true := by kernel_rfl
theorem fd_118_0 : fieldA Try.prog 118 0 0 8 = true := by kernel_rfl
theorem fd_118_1 : fieldA Try.prog 118 1 8 64 = true := by kernel_rfl
theorem fd_118_2 : fieldB Try.prog 118 2 72 = true := by kernel_rfl
theorem fd_118_3 : fieldA Try.prog 118 3 73 64 = true := by kernel_rfl
theorem fd_121_0 : fieldB Try.prog 121 0 0 = true := by kernel_rfl
theorem fd_122_0 : fieldB Try.prog 122 0 0 = true := by kernel_rfl
theorem fd_133_0 : fieldB Try.prog 133 0 0 = true := by kernel_rfl
theorem fd_134_0 : fieldB Try.prog 134 0 0 = true := by kernel_rfl
theorem fd_135_0 : fieldB Try.prog 135 0 0 = true := by kernel_rfl
theorem fd_136_0 : fieldB Try.prog 136 0 0 = true := by kernel_rfl
def zrTab : Nat → Option (List Value × Nat)
  | 2 => some (([.int .i64 0] : List Value), 1)
  | 3 => some (([.int .i64 0] : List Value), 1)
  | 4 => some (([.bool false] : List Value), 1)
  | 5 => some (([B8 0] : List Value), 1)
  | 9 => some (([.string ⟨#[]⟩] : List Value), 1)
  | 12 => some (([W64 0] : List Value), 1)
  | 13 => some (([.string ⟨#[]⟩, W64 0] : List Value), 2)
  | 19 => some (([.pointer none] : List Value), 1)
  | 20 => some (([.nilIface] : List Value), 1)
  | 21 => some (([.int .i32 0] : List Value), 1)
  | 22 => some (([.slice none 0 0] : List Value), 1)
  | 23 => some ((List.replicate 32 (0 : UInt8)).map B8, 32)
  | 24 => some ((List.replicate 32 (0 : UInt8)).map B8, 32)
  | 28 => some (([.slice none 0 0] : List Value), 1)
  | 29 => some (([.pointer none] : List Value), 1)
  | 31 => some (([.int .i64 0, .int .i64 0, .slice none 0 0] : List Value), 3)
  | 32 => some (([.int .i64 0, .int .i64 0, .slice none 0 0] : List Value), 3)
  | 33 => some (([.slice none 0 0] : List Value), 1)
  | 34 => some (([.slice none 0 0] : List Value), 1)
  | 38 => some (([.slice none 0 0, .slice none 0 0, .int .i64 0, B8 0] : List Value), 4)
  | 39 => some (([.slice none 0 0, .slice none 0 0, .int .i64 0, B8 0] : List Value), 4)
  | 42 => some (([.slice none 0 0] : List Value), 1)
  | 43 => some (([.int .i64 0, .int .i64 0, .slice none 0 0] : List Value), 3)
  | 44 => some (([.slice none 0 0] : List Value), 1)
  | 45 => some (([.pointer none] : List Value), 1)
  | 47 => some ((List.replicate 64 (0 : UInt8)).map B8, 64)
  | 48 => some (([.pointer none] : List Value) ++ (List.replicate 64 (0 : UInt8)).map B8, 65)
  | 49 => some (([.pointer none] : List Value) ++ (List.replicate 64 (0 : UInt8)).map B8, 65)
  | 54 => some (([.slice none 0 0] : List Value), 1)
  | 55 => some (([.pointer none] : List Value), 1)
  | 56 => some (([.pointer none] : List Value), 1)
  | 58 => some (([.slice none 0 0] : List Value), 1)
  | 59 => some (([.pointer none, .slice none 0 0] : List Value), 2)
  | 60 => some (([.pointer none, .slice none 0 0] : List Value), 2)
  | 61 => some (([.slice none 0 0] : List Value), 1)
  | 62 => some (([.int .i64 0] : List Value), 1)
  | 63 => some ((List.replicate 32 (0 : UInt8)).map B8 ++ ([.int .i64 0] : List Value), 33)
  | 64 => some ((List.replicate 32 (0 : UInt8)).map B8 ++ ([.int .i64 0] : List Value), 33)
  | 65 => some (([.int .i64 0, .int .i64 0] : List Value) ++ (List.replicate 32 (0 : UInt8)).map B8 ++ ([.int .i64 0, .slice none 0 0, .slice none 0 0] : List Value), 37)
  | 66 => some (([.int .i64 0, .int .i64 0] : List Value) ++ (List.replicate 32 (0 : UInt8)).map B8 ++ ([.int .i64 0, .slice none 0 0, .slice none 0 0] : List Value), 37)
  | 72 => some (([.slice none 0 0, .slice none 0 0, .slice none 0 0] : List Value) ++ (List.replicate 32 (0 : UInt8)).map B8, 35)
  | 73 => some (([.slice none 0 0, .slice none 0 0, .slice none 0 0] : List Value) ++ (List.replicate 32 (0 : UInt8)).map B8, 35)
  | 84 => some (([.slice none 0 0] : List Value), 1)
  | 85 => some (([.slice none 0 0] : List Value), 1)
  | 87 => some (([.pointer none] : List Value), 1)
  | 90 => some (([.pointer none] : List Value), 1)
  | 95 => some (([.slice none 0 0] : List Value), 1)
  | 96 => some (([.int .i64 0, .slice none 0 0] : List Value) ++ (List.replicate 32 (0 : UInt8)).map B8, 34)
  | 97 => some (([.int .i64 0, .slice none 0 0] : List Value) ++ (List.replicate 32 (0 : UInt8)).map B8, 34)
  | 98 => some (([.int .i64 0, .slice none 0 0] : List Value), 2)
  | 99 => some (([.int .i64 0, .slice none 0 0] : List Value), 2)
  | 108 => some (([.slice none 0 0] : List Value), 1)
  | 110 => some (([W32 0] : List Value), 1)
  | 111 => some ((List.replicate 8 (0 : UInt32)).map W32, 8)
  | 113 => some ((List.replicate 64 (0 : UInt32)).map W32, 64)
  | 116 => some (([W64 0] : List Value), 1)
  | 117 => some ((List.replicate 8 (0 : UInt32)).map W32 ++ (List.replicate 64 (0 : UInt8)).map B8 ++ ([W64 0] : List Value) ++ (List.replicate 64 (0 : UInt32)).map W32, 137)
  | 118 => some ((List.replicate 8 (0 : UInt32)).map W32 ++ (List.replicate 64 (0 : UInt8)).map B8 ++ ([W64 0] : List Value) ++ (List.replicate 64 (0 : UInt32)).map W32, 137)
  | 119 => some ((List.replicate 73 (0 : UInt8)).map B8, 73)
  | 121 => some (([.slice none 0 0] : List Value), 1)
  | 122 => some (([.slice none 0 0] : List Value), 1)
  | 129 => some (([.slice none 0 0] : List Value), 1)
  | 131 => some (([.slice none 0 0] : List Value), 1)
  | 132 => some (([.map none] : List Value), 1)
  | 133 => some (([.map none] : List Value), 1)
  | 134 => some (([.map none] : List Value), 1)
  | 135 => some (([.slice none 0 0] : List Value), 1)
  | 136 => some (([.slice none 0 0] : List Value), 1)
  | 140 => some (([.nilFunc] : List Value), 1)
  | 144 => some (([W64 0] : List Value), 1)
  | 146 => some (([.nilFunc] : List Value), 1)
  | 156 => some (([.int .i64 0] : List Value), 1)
  | 166 => some (([W64 0] : List Value), 1)
  | 170 => some (([.pointer none] : List Value), 1)
  | 172 => some (([.pointer none] : List Value), 1)
  | 185 => some (([.pointer none] : List Value), 1)
  | 190 => some (([.pointer none] : List Value), 1)
  | _ => none
theorem zr_of {ty n : Nat} {C : List Value} (h : zrTab ty = some (C, n)) : Zr Try.prog ty C n := by
  unfold zrTab at h
  split at h
  · cases h; exact zr_2
  · cases h; exact zr_3
  · cases h; exact zr_4
  · cases h; exact zr_5
  · cases h; exact zr_9
  · cases h; exact zr_12
  · cases h; exact zr_13
  · cases h; exact zr_19
  · cases h; exact zr_20
  · cases h; exact zr_21
  · cases h; exact zr_22
  · cases h; exact zr_23
  · cases h; exact zr_24
  · cases h; exact zr_28
  · cases h; exact zr_29
  · cases h; exact zr_31
  · cases h; exact zr_32
  · cases h; exact zr_33
  · cases h; exact zr_34
  · cases h; exact zr_38
  · cases h; exact zr_39
  · cases h; exact zr_42
  · cases h; exact zr_43
  · cases h; exact zr_44
  · cases h; exact zr_45
  · cases h; exact zr_47
  · cases h; exact zr_48
  · cases h; exact zr_49
  · cases h; exact zr_54
  · cases h; exact zr_55
  · cases h; exact zr_56
  · cases h; exact zr_58
  · cases h; exact zr_59
  · cases h; exact zr_60
  · cases h; exact zr_61
  · cases h; exact zr_62
  · cases h; exact zr_63
  · cases h; exact zr_64
  · cases h; exact zr_65
  · cases h; exact zr_66
  · cases h; exact zr_72
  · cases h; exact zr_73
  · cases h; exact zr_84
  · cases h; exact zr_85
  · cases h; exact zr_87
  · cases h; exact zr_90
  · cases h; exact zr_95
  · cases h; exact zr_96
  · cases h; exact zr_97
  · cases h; exact zr_98
  · cases h; exact zr_99
  · cases h; exact zr_108
  · cases h; exact zr_110
  · cases h; exact zr_111
  · cases h; exact zr_113
  · cases h; exact zr_116
  · cases h; exact zr_117
  · cases h; exact zr_118
  · cases h; exact zr_119
  · cases h; exact zr_121
  · cases h; exact zr_122
  · cases h; exact zr_129
  · cases h; exact zr_131
  · cases h; exact zr_132
  · cases h; exact zr_133
  · cases h; exact zr_134
  · cases h; exact zr_135
  · cases h; exact zr_136
  · cases h; exact zr_140
  · cases h; exact zr_144
  · cases h; exact zr_146
  · cases h; exact zr_156
  · cases h; exact zr_166
  · cases h; exact zr_170
  · cases h; exact zr_172
  · cases h; exact zr_185
  · cases h; exact zr_190
  · cases h
def agTab : Nat → Option Nat
  | 13 => some 2
  | 19 => some 1
  | 23 => some 32
  | 24 => some 32
  | 31 => some 3
  | 32 => some 3
  | 38 => some 4
  | 39 => some 4
  | 43 => some 3
  | 47 => some 64
  | 48 => some 65
  | 49 => some 65
  | 59 => some 2
  | 60 => some 2
  | 63 => some 33
  | 64 => some 33
  | 65 => some 37
  | 66 => some 37
  | 72 => some 35
  | 73 => some 35
  | 96 => some 34
  | 97 => some 34
  | 98 => some 2
  | 99 => some 2
  | 111 => some 8
  | 113 => some 64
  | 117 => some 137
  | 118 => some 137
  | 119 => some 73
  | 121 => some 1
  | 122 => some 1
  | 133 => some 1
  | 134 => some 1
  | 135 => some 1
  | 136 => some 1
  | _ => none
theorem ag_of {ty n : Nat} (h : agTab ty = some n) : aggB Try.prog ty n = true := by
  unfold agTab at h
  split at h
  · cases h; exact ag_13
  · cases h; exact ag_19
  · cases h; exact ag_23
  · cases h; exact ag_24
  · cases h; exact ag_31
  · cases h; exact ag_32
  · cases h; exact ag_38
  · cases h; exact ag_39
  · cases h; exact ag_43
  · cases h; exact ag_47
  · cases h; exact ag_48
  · cases h; exact ag_49
  · cases h; exact ag_59
  · cases h; exact ag_60
  · cases h; exact ag_63
  · cases h; exact ag_64
  · cases h; exact ag_65
  · cases h; exact ag_66
  · cases h; exact ag_72
  · cases h; exact ag_73
  · cases h; exact ag_96
  · cases h; exact ag_97
  · cases h; exact ag_98
  · cases h; exact ag_99
  · cases h; exact ag_111
  · cases h; exact ag_113
  · cases h; exact ag_117
  · cases h; exact ag_118
  · cases h; exact ag_119
  · cases h; exact ag_121
  · cases h; exact ag_122
  · cases h; exact ag_133
  · cases h; exact ag_134
  · cases h; exact ag_135
  · cases h; exact ag_136
  · cases h
def onTab : Nat → Option Unit
  | 2 => some ()
  | 3 => some ()
  | 4 => some ()
  | 5 => some ()
  | 9 => some ()
  | 12 => some ()
  | 20 => some ()
  | 21 => some ()
  | 22 => some ()
  | 28 => some ()
  | 29 => some ()
  | 33 => some ()
  | 34 => some ()
  | 42 => some ()
  | 44 => some ()
  | 45 => some ()
  | 54 => some ()
  | 55 => some ()
  | 56 => some ()
  | 58 => some ()
  | 61 => some ()
  | 62 => some ()
  | 84 => some ()
  | 85 => some ()
  | 87 => some ()
  | 90 => some ()
  | 95 => some ()
  | 108 => some ()
  | 110 => some ()
  | 116 => some ()
  | 129 => some ()
  | 131 => some ()
  | 132 => some ()
  | 140 => some ()
  | 144 => some ()
  | 146 => some ()
  | 156 => some ()
  | 166 => some ()
  | 170 => some ()
  | 172 => some ()
  | 185 => some ()
  | 190 => some ()
  | _ => none
theorem on_of {ty : Nat} (h : onTab ty = some ()) : oneB Try.prog ty = true := by
  unfold onTab at h
  split at h
  · exact on_2
  · exact on_3
  · exact on_4
  · exact on_5
  · exact on_9
  · exact on_12
  · exact on_20
  · exact on_21
  · exact on_22
  · exact on_28
  · exact on_29
  · exact on_33
  · exact on_34
  · exact on_42
  · exact on_44
  · exact on_45
  · exact on_54
  · exact on_55
  · exact on_56
  · exact on_58
  · exact on_61
  · exact on_62
  · exact on_84
  · exact on_85
  · exact on_87
  · exact on_90
  · exact on_95
  · exact on_108
  · exact on_110
  · exact on_116
  · exact on_129
  · exact on_131
  · exact on_132
  · exact on_140
  · exact on_144
  · exact on_146
  · exact on_156
  · exact on_166
  · exact on_170
  · exact on_172
  · exact on_185
  · exact on_190
  · cases h
def elTab : Nat → Option (Nat × Nat)
  | 2 => some (1, 8)
  | 3 => some (1, 8)
  | 4 => some (1, 1)
  | 5 => some (1, 1)
  | 9 => some (1, 16)
  | 12 => some (1, 8)
  | 13 => some (2, 24)
  | 19 => some (1, 8)
  | 20 => some (1, 16)
  | 21 => some (1, 4)
  | 22 => some (1, 24)
  | 23 => some (32, 32)
  | 24 => some (32, 32)
  | 28 => some (1, 24)
  | 29 => some (1, 8)
  | 31 => some (3, 40)
  | 32 => some (3, 40)
  | 33 => some (1, 24)
  | 34 => some (1, 24)
  | 38 => some (4, 64)
  | 39 => some (4, 64)
  | 42 => some (1, 24)
  | 43 => some (3, 40)
  | 44 => some (1, 24)
  | 45 => some (1, 8)
  | 47 => some (64, 64)
  | 48 => some (65, 72)
  | 49 => some (65, 72)
  | 54 => some (1, 24)
  | 55 => some (1, 8)
  | 56 => some (1, 8)
  | 58 => some (1, 24)
  | 59 => some (2, 32)
  | 60 => some (2, 32)
  | 61 => some (1, 24)
  | 62 => some (1, 8)
  | 63 => some (33, 40)
  | 64 => some (33, 40)
  | 65 => some (37, 104)
  | 66 => some (37, 104)
  | 72 => some (35, 104)
  | 73 => some (35, 104)
  | 84 => some (1, 24)
  | 85 => some (1, 24)
  | 87 => some (1, 8)
  | 90 => some (1, 8)
  | 95 => some (1, 24)
  | 96 => some (34, 64)
  | 97 => some (34, 64)
  | 98 => some (2, 32)
  | 99 => some (2, 32)
  | 108 => some (1, 24)
  | 110 => some (1, 4)
  | 111 => some (8, 32)
  | 113 => some (64, 256)
  | 116 => some (1, 8)
  | 117 => some (137, 360)
  | 118 => some (137, 360)
  | 119 => some (73, 73)
  | 121 => some (1, 24)
  | 122 => some (1, 24)
  | 129 => some (1, 24)
  | 131 => some (1, 24)
  | 132 => some (1, 8)
  | 133 => some (1, 8)
  | 134 => some (1, 8)
  | 135 => some (1, 24)
  | 136 => some (1, 24)
  | 140 => some (1, 8)
  | 144 => some (1, 8)
  | 146 => some (1, 8)
  | 156 => some (1, 8)
  | 166 => some (1, 8)
  | 170 => some (1, 8)
  | 172 => some (1, 8)
  | 185 => some (1, 8)
  | 190 => some (1, 8)
  | _ => none
theorem el_of {ty n b : Nat} (h : elTab ty = some (n, b)) : El Try.prog ty n b := by
  unfold elTab at h
  split at h
  · cases h; exact el_2
  · cases h; exact el_3
  · cases h; exact el_4
  · cases h; exact el_5
  · cases h; exact el_9
  · cases h; exact el_12
  · cases h; exact el_13
  · cases h; exact el_19
  · cases h; exact el_20
  · cases h; exact el_21
  · cases h; exact el_22
  · cases h; exact el_23
  · cases h; exact el_24
  · cases h; exact el_28
  · cases h; exact el_29
  · cases h; exact el_31
  · cases h; exact el_32
  · cases h; exact el_33
  · cases h; exact el_34
  · cases h; exact el_38
  · cases h; exact el_39
  · cases h; exact el_42
  · cases h; exact el_43
  · cases h; exact el_44
  · cases h; exact el_45
  · cases h; exact el_47
  · cases h; exact el_48
  · cases h; exact el_49
  · cases h; exact el_54
  · cases h; exact el_55
  · cases h; exact el_56
  · cases h; exact el_58
  · cases h; exact el_59
  · cases h; exact el_60
  · cases h; exact el_61
  · cases h; exact el_62
  · cases h; exact el_63
  · cases h; exact el_64
  · cases h; exact el_65
  · cases h; exact el_66
  · cases h; exact el_72
  · cases h; exact el_73
  · cases h; exact el_84
  · cases h; exact el_85
  · cases h; exact el_87
  · cases h; exact el_90
  · cases h; exact el_95
  · cases h; exact el_96
  · cases h; exact el_97
  · cases h; exact el_98
  · cases h; exact el_99
  · cases h; exact el_108
  · cases h; exact el_110
  · cases h; exact el_111
  · cases h; exact el_113
  · cases h; exact el_116
  · cases h; exact el_117
  · cases h; exact el_118
  · cases h; exact el_119
  · cases h; exact el_121
  · cases h; exact el_122
  · cases h; exact el_129
  · cases h; exact el_131
  · cases h; exact el_132
  · cases h; exact el_133
  · cases h; exact el_134
  · cases h; exact el_135
  · cases h; exact el_136
  · cases h; exact el_140
  · cases h; exact el_144
  · cases h; exact el_146
  · cases h; exact el_156
  · cases h; exact el_166
  · cases h; exact el_170
  · cases h; exact el_172
  · cases h; exact el_185
  · cases h; exact el_190
  · cases h
def fbTab : Nat → Nat → Option Nat
  | 13, 0 => some 0
  | 13, 1 => some 1
  | 31, 0 => some 0
  | 31, 1 => some 1
  | 31, 2 => some 2
  | 32, 0 => some 0
  | 32, 1 => some 1
  | 32, 2 => some 2
  | 38, 0 => some 0
  | 38, 1 => some 1
  | 38, 2 => some 2
  | 38, 3 => some 3
  | 39, 0 => some 0
  | 39, 1 => some 1
  | 39, 2 => some 2
  | 39, 3 => some 3
  | 43, 0 => some 0
  | 43, 1 => some 1
  | 43, 2 => some 2
  | 48, 0 => some 0
  | 49, 0 => some 0
  | 59, 0 => some 0
  | 59, 1 => some 1
  | 60, 0 => some 0
  | 60, 1 => some 1
  | 63, 1 => some 32
  | 64, 1 => some 32
  | 65, 0 => some 0
  | 65, 1 => some 1
  | 65, 3 => some 35
  | 65, 4 => some 36
  | 66, 0 => some 0
  | 66, 1 => some 1
  | 66, 3 => some 35
  | 66, 4 => some 36
  | 72, 0 => some 0
  | 72, 1 => some 1
  | 72, 2 => some 2
  | 73, 0 => some 0
  | 73, 1 => some 1
  | 73, 2 => some 2
  | 96, 0 => some 0
  | 96, 1 => some 1
  | 97, 0 => some 0
  | 97, 1 => some 1
  | 98, 0 => some 0
  | 98, 1 => some 1
  | 99, 0 => some 0
  | 99, 1 => some 1
  | 117, 2 => some 72
  | 118, 2 => some 72
  | 121, 0 => some 0
  | 122, 0 => some 0
  | 133, 0 => some 0
  | 134, 0 => some 0
  | 135, 0 => some 0
  | 136, 0 => some 0
  | _, _ => none
theorem fb_of {ty f off : Nat} (h : fbTab ty f = some off) : fieldB Try.prog ty f off = true := by
  unfold fbTab at h
  split at h
  · cases h; exact fd_13_0
  · cases h; exact fd_13_1
  · cases h; exact fd_31_0
  · cases h; exact fd_31_1
  · cases h; exact fd_31_2
  · cases h; exact fd_32_0
  · cases h; exact fd_32_1
  · cases h; exact fd_32_2
  · cases h; exact fd_38_0
  · cases h; exact fd_38_1
  · cases h; exact fd_38_2
  · cases h; exact fd_38_3
  · cases h; exact fd_39_0
  · cases h; exact fd_39_1
  · cases h; exact fd_39_2
  · cases h; exact fd_39_3
  · cases h; exact fd_43_0
  · cases h; exact fd_43_1
  · cases h; exact fd_43_2
  · cases h; exact fd_48_0
  · cases h; exact fd_49_0
  · cases h; exact fd_59_0
  · cases h; exact fd_59_1
  · cases h; exact fd_60_0
  · cases h; exact fd_60_1
  · cases h; exact fd_63_1
  · cases h; exact fd_64_1
  · cases h; exact fd_65_0
  · cases h; exact fd_65_1
  · cases h; exact fd_65_3
  · cases h; exact fd_65_4
  · cases h; exact fd_66_0
  · cases h; exact fd_66_1
  · cases h; exact fd_66_3
  · cases h; exact fd_66_4
  · cases h; exact fd_72_0
  · cases h; exact fd_72_1
  · cases h; exact fd_72_2
  · cases h; exact fd_73_0
  · cases h; exact fd_73_1
  · cases h; exact fd_73_2
  · cases h; exact fd_96_0
  · cases h; exact fd_96_1
  · cases h; exact fd_97_0
  · cases h; exact fd_97_1
  · cases h; exact fd_98_0
  · cases h; exact fd_98_1
  · cases h; exact fd_99_0
  · cases h; exact fd_99_1
  · cases h; exact fd_117_2
  · cases h; exact fd_118_2
  · cases h; exact fd_121_0
  · cases h; exact fd_122_0
  · cases h; exact fd_133_0
  · cases h; exact fd_134_0
  · cases h; exact fd_135_0
  · cases h; exact fd_136_0
  · cases h
def faTab : Nat → Nat → Option (Nat × Nat)
  | 48, 1 => some (1, 64)
  | 49, 1 => some (1, 64)
  | 63, 0 => some (0, 32)
  | 64, 0 => some (0, 32)
  | 65, 2 => some (2, 33)
  | 66, 2 => some (2, 33)
  | 72, 3 => some (3, 32)
  | 73, 3 => some (3, 32)
  | 96, 2 => some (2, 32)
  | 97, 2 => some (2, 32)
  | 117, 0 => some (0, 8)
  | 117, 1 => some (8, 64)
  | 117, 3 => some (73, 64)
  | 118, 0 => some (0, 8)
  | 118, 1 => some (8, 64)
  | 118, 3 => some (73, 64)
  | _, _ => none
theorem fa_of {ty f off n : Nat} (h : faTab ty f = some (off, n)) : fieldA Try.prog ty f off n = true := by
  unfold faTab at h
  split at h
  · cases h; exact fd_48_1
  · cases h; exact fd_49_1
  · cases h; exact fd_63_0
  · cases h; exact fd_64_0
  · cases h; exact fd_65_2
  · cases h; exact fd_66_2
  · cases h; exact fd_72_3
  · cases h; exact fd_73_3
  · cases h; exact fd_96_2
  · cases h; exact fd_97_2
  · cases h; exact fd_117_0
  · cases h; exact fd_117_1
  · cases h; exact fd_117_3
  · cases h; exact fd_118_0
  · cases h; exact fd_118_1
  · cases h; exact fd_118_3
  · cases h
def usTab : Nat → Option Nat
  | 22 => some 5
  | 28 => some 32
  | 33 => some 29
  | 34 => some 22
  | 42 => some 43
  | 44 => some 45
  | 54 => some 66
  | 58 => some 64
  | 61 => some 55
  | 84 => some 99
  | 85 => some 97
  | 95 => some 3
  | 108 => some 95
  | 129 => some 9
  | 131 => some 24
  | _ => none
theorem us_of {ty e : Nat} (h : usTab ty = some e) : Try.prog.underlying ty = some (.slice e) := by
  unfold usTab at h
  split at h
  · cases h; kernel_rfl
  · cases h; kernel_rfl
  · cases h; kernel_rfl
  · cases h; kernel_rfl
  · cases h; kernel_rfl
  · cases h; kernel_rfl
  · cases h; kernel_rfl
  · cases h; kernel_rfl
  · cases h; kernel_rfl
  · cases h; kernel_rfl
  · cases h; kernel_rfl
  · cases h; kernel_rfl
  · cases h; kernel_rfl
  · cases h; kernel_rfl
  · cases h; kernel_rfl
  · cases h
def uaTab : Nat → Option (Nat × Nat)
  | 23 => some (32, 5)
  | 24 => some (32, 5)
  | 47 => some (64, 5)
  | 111 => some (8, 110)
  | 113 => some (64, 110)
  | 119 => some (73, 5)
  | _ => none
theorem ua_of {ty n e : Nat} (h : uaTab ty = some (n, e)) : Try.prog.underlying ty = some (.array n e) := by
  unfold uaTab at h
  split at h
  · cases h; kernel_rfl
  · cases h; kernel_rfl
  · cases h; kernel_rfl
  · cases h; kernel_rfl
  · cases h; kernel_rfl
  · cases h; kernel_rfl
  · cases h
end Go.Proofs.Ytejmbkljnhnklaa
