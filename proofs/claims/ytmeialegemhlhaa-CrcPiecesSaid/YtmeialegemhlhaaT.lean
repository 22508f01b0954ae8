/-
  Of the program's types of data: the zero value's cells, the size.
-/
import Derived.Test.YtmeialegemhlhaaProg
import Derived.Test.YtmeialegemhlhaaOwnW
namespace Go.Proofs.Ytmeialegemhlhaa
open Go.RowKit Go.PK

theorem zr_2 : Zr Try.prog 2 (([.int .i64 0] : List Value)) 1 := ⟨.int .i64 0, by kernel_rfl, by kernel_rfl, by kernel_rfl⟩
theorem on_2 : oneB Try.prog 2 = true := by kernel_rfl
theorem el_2 : El Try.prog 2 1 8 := ⟨.int .i64 0, by kernel_rfl, by kernel_rfl, by decide⟩
theorem zr_3 : Zr Try.prog 3 (([.int .i64 0] : List Value)) 1 := ⟨.int .i64 0, by kernel_rfl, by kernel_rfl, by kernel_rfl⟩
theorem on_3 : oneB Try.prog 3 = true := by kernel_rfl
theorem el_3 : El Try.prog 3 1 8 := ⟨.int .i64 0, by kernel_rfl, by kernel_rfl, by decide⟩
theorem zr_4 : Zr Try.prog 4 (([.bool false] : List Value)) 1 := ⟨.bool false, by kernel_rfl, by kernel_rfl, by kernel_rfl⟩
theorem on_4 : oneB Try.prog 4 = true := by kernel_rfl
theorem el_4 : El Try.prog 4 1 1 := ⟨.bool false, by kernel_rfl, by kernel_rfl, by decide⟩
theorem zr_5 : Zr Try.prog 5 (([B8 0] : List Value)) 1 := ⟨B8 0, by kernel_rfl, by kernel_rfl, by kernel_rfl⟩
theorem on_5 : oneB Try.prog 5 = true := by kernel_rfl
theorem el_5 : El Try.prog 5 1 1 := ⟨B8 0, by kernel_rfl, by kernel_rfl, by decide⟩
theorem zr_9 : Zr Try.prog 9 (([.string ⟨#[]⟩] : List Value)) 1 := ⟨.string ⟨#[]⟩, by kernel_rfl, by kernel_rfl, by kernel_rfl⟩
theorem on_9 : oneB Try.prog 9 = true := by kernel_rfl
theorem el_9 : El Try.prog 9 1 16 := ⟨.string ⟨#[]⟩, by kernel_rfl, by kernel_rfl, by decide⟩
theorem zr_12 : Zr Try.prog 12 (([W64 0] : List Value)) 1 := ⟨W64 0, by kernel_rfl, by kernel_rfl, by kernel_rfl⟩
theorem on_12 : oneB Try.prog 12 = true := by kernel_rfl
theorem el_12 : El Try.prog 12 1 8 := ⟨W64 0, by kernel_rfl, by kernel_rfl, by decide⟩
theorem zr_13 : Zr Try.prog 13 (([.string ⟨#[]⟩, W64 0] : List Value)) 2 := ⟨.agg (([.string ⟨#[]⟩, W64 0] : List Value)).toArray, by kernel_rfl, by kernel_rfl, by kernel_rfl⟩
theorem ag_13 : aggB Try.prog 13 2 = true := by kernel_rfl
theorem el_13 : El Try.prog 13 2 24 := ⟨.agg (([.string ⟨#[]⟩, W64 0] : List Value)).toArray, by kernel_rfl, by kernel_rfl, by decide⟩
theorem zr_19 : Zr Try.prog 19 (([.pointer none] : List Value)) 1 := ⟨.agg (([.pointer none] : List Value)).toArray, by kernel_rfl, by kernel_rfl, by kernel_rfl⟩
theorem ag_19 : aggB Try.prog 19 1 = true := by kernel_rfl
theorem el_19 : El Try.prog 19 1 8 := ⟨.agg (([.pointer none] : List Value)).toArray, by kernel_rfl, by kernel_rfl, by decide⟩
theorem zr_20 : Zr Try.prog 20 (([.nilIface] : List Value)) 1 := ⟨.nilIface, by kernel_rfl, by kernel_rfl, by kernel_rfl⟩
theorem on_20 : oneB Try.prog 20 = true := by kernel_rfl
theorem el_20 : El Try.prog 20 1 16 := ⟨.nilIface, by kernel_rfl, by kernel_rfl, by decide⟩
theorem zr_21 : Zr Try.prog 21 (([.int .i32 0] : List Value)) 1 := ⟨.int .i32 0, by kernel_rfl, by kernel_rfl, by kernel_rfl⟩
theorem on_21 : oneB Try.prog 21 = true := by kernel_rfl
theorem el_21 : El Try.prog 21 1 4 := ⟨.int .i32 0, by kernel_rfl, by kernel_rfl, by decide⟩
theorem zr_23 : Zr Try.prog 23 (([.slice none 0 0] : List Value)) 1 := ⟨.slice none 0 0, by kernel_rfl, by kernel_rfl, by kernel_rfl⟩
theorem on_23 : oneB Try.prog 23 = true := by kernel_rfl
theorem el_23 : El Try.prog 23 1 24 := ⟨.slice none 0 0, by kernel_rfl, by kernel_rfl, by decide⟩
theorem zr_24 : Zr Try.prog 24 (([.int .i64 0] : List Value)) 1 := ⟨.int .i64 0, by kernel_rfl, by kernel_rfl, by kernel_rfl⟩
theorem on_24 : oneB Try.prog 24 = true := by kernel_rfl
theorem el_24 : El Try.prog 24 1 8 := ⟨.int .i64 0, by kernel_rfl, by kernel_rfl, by decide⟩
theorem zr_30 : Zr Try.prog 30 (([.slice none 0 0] : List Value)) 1 := ⟨.slice none 0 0, by kernel_rfl, by kernel_rfl, by kernel_rfl⟩
theorem on_30 : oneB Try.prog 30 = true := by kernel_rfl
theorem el_30 : El Try.prog 30 1 24 := ⟨.slice none 0 0, by kernel_rfl, by kernel_rfl, by decide⟩
theorem zr_32 : Zr Try.prog 32 (([W32 0] : List Value)) 1 := ⟨W32 0, by kernel_rfl, by kernel_rfl, by kernel_rfl⟩
theorem on_32 : oneB Try.prog 32 = true := by kernel_rfl
theorem el_32 : El Try.prog 32 1 4 := ⟨W32 0, by kernel_rfl, by kernel_rfl, by decide⟩
theorem zr_34 : Zr Try.prog 34 ((List.replicate 256 (0 : UInt32)).map W32) 256 := ⟨.agg ((List.replicate 256 (0 : UInt32)).map W32).toArray, by kernel_rfl, by kernel_rfl, by kernel_rfl⟩
theorem ag_34 : aggB Try.prog 34 256 = true := by kernel_rfl
theorem el_34 : El Try.prog 34 256 1024 := ⟨.agg ((List.replicate 256 (0 : UInt32)).map W32).toArray, by kernel_rfl, by kernel_rfl, by decide⟩
theorem zr_36 : Zr Try.prog 36 (([.slice none 0 0] : List Value)) 1 := ⟨.slice none 0 0, by kernel_rfl, by kernel_rfl, by kernel_rfl⟩
theorem on_36 : oneB Try.prog 36 = true := by kernel_rfl
theorem el_36 : El Try.prog 36 1 24 := ⟨.slice none 0 0, by kernel_rfl, by kernel_rfl, by decide⟩
theorem zr_37 : Zr Try.prog 37 (([.int .i64 0, .int .i64 0, .slice none 0 0] : List Value)) 3 := ⟨.agg (([.int .i64 0, .int .i64 0, .slice none 0 0] : List Value)).toArray, by kernel_rfl, by kernel_rfl, by kernel_rfl⟩
theorem ag_37 : aggB Try.prog 37 3 = true := by kernel_rfl
theorem el_37 : El Try.prog 37 3 40 := ⟨.agg (([.int .i64 0, .int .i64 0, .slice none 0 0] : List Value)).toArray, by kernel_rfl, by kernel_rfl, by decide⟩
theorem zr_38 : Zr Try.prog 38 (([.int .i64 0, .int .i64 0, .slice none 0 0] : List Value)) 3 := ⟨.agg (([.int .i64 0, .int .i64 0, .slice none 0 0] : List Value)).toArray, by kernel_rfl, by kernel_rfl, by kernel_rfl⟩
theorem ag_38 : aggB Try.prog 38 3 = true := by kernel_rfl
theorem el_38 : El Try.prog 38 3 40 := ⟨.agg (([.int .i64 0, .int .i64 0, .slice none 0 0] : List Value)).toArray, by kernel_rfl, by kernel_rfl, by decide⟩
theorem zr_39 : Zr Try.prog 39 (([.pointer none] : List Value)) 1 := ⟨.pointer none, by kernel_rfl, by kernel_rfl, by kernel_rfl⟩
theorem on_39 : oneB Try.prog 39 = true := by kernel_rfl
theorem el_39 : El Try.prog 39 1 8 := ⟨.pointer none, by kernel_rfl, by kernel_rfl, by decide⟩
theorem zr_41 : Zr Try.prog 41 (([.slice none 0 0] : List Value)) 1 := ⟨.slice none 0 0, by kernel_rfl, by kernel_rfl, by kernel_rfl⟩
theorem on_41 : oneB Try.prog 41 = true := by kernel_rfl
theorem el_41 : El Try.prog 41 1 24 := ⟨.slice none 0 0, by kernel_rfl, by kernel_rfl, by decide⟩
theorem zr_48 : Zr Try.prog 48 ((List.replicate 32 (0 : UInt8)).map B8) 32 := ⟨.agg ((List.replicate 32 (0 : UInt8)).map B8).toArray, by kernel_rfl, by kernel_rfl, by kernel_rfl⟩
theorem ag_48 : aggB Try.prog 48 32 = true := by kernel_rfl
theorem el_48 : El Try.prog 48 32 32 := ⟨.agg ((List.replicate 32 (0 : UInt8)).map B8).toArray, by kernel_rfl, by kernel_rfl, by decide⟩
theorem zr_49 : Zr Try.prog 49 ((List.replicate 32 (0 : UInt8)).map B8) 32 := ⟨.agg ((List.replicate 32 (0 : UInt8)).map B8).toArray, by kernel_rfl, by kernel_rfl, by kernel_rfl⟩
theorem ag_49 : aggB Try.prog 49 32 = true := by kernel_rfl
theorem el_49 : El Try.prog 49 32 32 := ⟨.agg ((List.replicate 32 (0 : UInt8)).map B8).toArray, by kernel_rfl, by kernel_rfl, by decide⟩
theorem zr_55 : Zr Try.prog 55 (([.slice none 0 0] : List Value)) 1 := ⟨.slice none 0 0, by kernel_rfl, by kernel_rfl, by kernel_rfl⟩
theorem on_55 : oneB Try.prog 55 = true := by kernel_rfl
theorem el_55 : El Try.prog 55 1 24 := ⟨.slice none 0 0, by kernel_rfl, by kernel_rfl, by decide⟩
theorem zr_56 : Zr Try.prog 56 (([.int .i64 0, .int .i64 0, .int .i64 0] : List Value)) 3 := ⟨.agg (([.int .i64 0, .int .i64 0, .int .i64 0] : List Value)).toArray, by kernel_rfl, by kernel_rfl, by kernel_rfl⟩
theorem ag_56 : aggB Try.prog 56 3 = true := by kernel_rfl
theorem el_56 : El Try.prog 56 3 24 := ⟨.agg (([.int .i64 0, .int .i64 0, .int .i64 0] : List Value)).toArray, by kernel_rfl, by kernel_rfl, by decide⟩
theorem zr_57 : Zr Try.prog 57 (([.int .i64 0, .int .i64 0, .int .i64 0] : List Value)) 3 := ⟨.agg (([.int .i64 0, .int .i64 0, .int .i64 0] : List Value)).toArray, by kernel_rfl, by kernel_rfl, by kernel_rfl⟩
theorem ag_57 : aggB Try.prog 57 3 = true := by kernel_rfl
theorem el_57 : El Try.prog 57 3 24 := ⟨.agg (([.int .i64 0, .int .i64 0, .int .i64 0] : List Value)).toArray, by kernel_rfl, by kernel_rfl, by decide⟩
theorem zr_68 : Zr Try.prog 68 (([W32 0] : List Value)) 1 := ⟨.agg (([W32 0] : List Value)).toArray, by kernel_rfl, by kernel_rfl, by kernel_rfl⟩
theorem ag_68 : aggB Try.prog 68 1 = true := by kernel_rfl
theorem el_68 : El Try.prog 68 1 4 := ⟨.agg (([W32 0] : List Value)).toArray, by kernel_rfl, by kernel_rfl, by decide⟩
theorem zr_69 : Zr Try.prog 69 (([W32 0] : List Value)) 1 := ⟨.agg (([W32 0] : List Value)).toArray, by kernel_rfl, by kernel_rfl, by kernel_rfl⟩
theorem ag_69 : aggB Try.prog 69 1 = true := by kernel_rfl
theorem el_69 : El Try.prog 69 1 4 := ⟨.agg (([W32 0] : List Value)).toArray, by kernel_rfl, by kernel_rfl, by decide⟩
theorem zr_70 : Zr Try.prog 70 (([W64 0] : List Value)) 1 := ⟨W64 0, by kernel_rfl, by kernel_rfl, by kernel_rfl⟩
theorem on_70 : oneB Try.prog 70 = true := by kernel_rfl
theorem el_70 : El Try.prog 70 1 8 := ⟨W64 0, by kernel_rfl, by kernel_rfl, by decide⟩
theorem zr_73 : Zr Try.prog 73 (([W64 0] : List Value)) 1 := ⟨W64 0, by kernel_rfl, by kernel_rfl, by kernel_rfl⟩
theorem on_73 : oneB Try.prog 73 = true := by kernel_rfl
theorem el_73 : El Try.prog 73 1 8 := ⟨W64 0, by kernel_rfl, by kernel_rfl, by decide⟩
theorem zr_75 : Zr Try.prog 75 ((List.replicate 16 (0 : UInt8)).map B8) 16 := ⟨.agg ((List.replicate 16 (0 : UInt8)).map B8).toArray, by kernel_rfl, by kernel_rfl, by kernel_rfl⟩
theorem ag_75 : aggB Try.prog 75 16 = true := by kernel_rfl
theorem el_75 : El Try.prog 75 16 16 := ⟨.agg ((List.replicate 16 (0 : UInt8)).map B8).toArray, by kernel_rfl, by kernel_rfl, by decide⟩
theorem zr_87 : Zr Try.prog 87 (([.pointer none] : List Value)) 1 := ⟨.pointer none, by kernel_rfl, by kernel_rfl, by kernel_rfl⟩
theorem on_87 : oneB Try.prog 87 = true := by kernel_rfl
theorem el_87 : El Try.prog 87 1 8 := ⟨.pointer none, by kernel_rfl, by kernel_rfl, by decide⟩
theorem zr_92 : Zr Try.prog 92 (([.pointer none] : List Value)) 1 := ⟨.pointer none, by kernel_rfl, by kernel_rfl, by kernel_rfl⟩
theorem on_92 : oneB Try.prog 92 = true := by kernel_rfl
theorem el_92 : El Try.prog 92 1 8 := ⟨.pointer none, by kernel_rfl, by kernel_rfl, by decide⟩
theorem fd_13_0 : fieldB Try.prog 13 0 0 = true := by kernel_rfl
theorem fd_13_1 : fieldB Try.prog 13 1 1 = true := by kernel_rfl
theorem fd_37_0 : fieldB Try.prog 37 0 0 = true := by kernel_rfl
theorem fd_37_1 : fieldB Try.prog 37 1 1 = true := by kernel_rfl
theorem fd_37_2 : fieldB Try.prog 37 2 2 = true := by kernel_rfl
theorem fd_38_0 : fieldB Try.prog 38 0 0 = true := by kernel_rfl
theorem fd_38_1 : fieldB Try.prog 38 1 1 = true := by kernel_rfl
theorem fd_38_2 : fieldB Try.prog 38 2 2 = true := by kernel_rfl
theorem fd_56_0 : fieldB Try.prog 56 0 0 = true := by kernel_rfl
theorem fd_56_1 : fieldB Try.prog 56 1 1 = true := by kernel_rfl
theorem fd_56_2 : fieldB Try.prog 56 2 2 = true := by kernel_rfl
theorem fd_57_0 : fieldB Try.prog 57 0 0 = true := by kernel_rfl
theorem fd_57_1 : fieldB Try.prog 57 1 1 = true := by kernel_rfl
theorem fd_57_2 : fieldB Try.prog 57 2 2 = true := by kernel_rfl
theorem fd_68_0 : fieldB Try.prog 68 0 0 = true := by kernel_rfl
theorem fd_69_0 : fieldB Try.prog 69 0 0 = true := by kernel_rfl
def zrTab : Nat → Option (List Value × Nat)
  | 2 => some (([.int .i64 0] : List Value), 1)
  | 3 => some (([.int .i64 0] : List Value), 1)
  | 4 => some (([.bool false] : List Value), 1)
  | 5 => some (([B8 0] : List Value), 1)
  | 9 => some (([.string ⟨#[]⟩] : List Value), 1)
  | 12 => some (([W64 0] : List Value), 1)
  | 13 => some (([.string ⟨#[]⟩, W64 0] : List Value), 2)
  | 19 => some (([.pointer none] : List Value), 1)
  | 20 => some (([.nilIface] : List Value), 1)
  | 21 => some (([.int .i32 0] : List Value), 1)
  | 23 => some (([.slice none 0 0] : List Value), 1)
  | 24 => some (([.int .i64 0] : List Value), 1)
  | 30 => some (([.slice none 0 0] : List Value), 1)
  | 32 => some (([W32 0] : List Value), 1)
  | 34 => some ((List.replicate 256 (0 : UInt32)).map W32, 256)
  | 36 => some (([.slice none 0 0] : List Value), 1)
  | 37 => some (([.int .i64 0, .int .i64 0, .slice none 0 0] : List Value), 3)
  | 38 => some (([.int .i64 0, .int .i64 0, .slice none 0 0] : List Value), 3)
  | 39 => some (([.pointer none] : List Value), 1)
  | 41 => some (([.slice none 0 0] : List Value), 1)
  | 48 => some ((List.replicate 32 (0 : UInt8)).map B8, 32)
  | 49 => some ((List.replicate 32 (0 : UInt8)).map B8, 32)
  | 55 => some (([.slice none 0 0] : List Value), 1)
  | 56 => some (([.int .i64 0, .int .i64 0, .int .i64 0] : List Value), 3)
  | 57 => some (([.int .i64 0, .int .i64 0, .int .i64 0] : List Value), 3)
  | 68 => some (([W32 0] : List Value), 1)
  | 69 => some (([W32 0] : List Value), 1)
  | 70 => some (([W64 0] : List Value), 1)
  | 73 => some (([W64 0] : List Value), 1)
  | 75 => some ((List.replicate 16 (0 : UInt8)).map B8, 16)
  | 87 => some (([.pointer none] : List Value), 1)
  | 92 => some (([.pointer none] : List Value), 1)
  | _ => none
theorem zr_of {ty n : Nat} {C : List Value} (h : zrTab ty = some (C, n)) : Zr Try.prog ty C n := by
  unfold zrTab at h
  split at h
  · cases h; exact zr_2
  · cases h; exact zr_3
  · cases h; exact zr_4
  · cases h; exact zr_5
  · cases h; exact zr_9
  · cases h; exact zr_12
  · cases h; exact zr_13
  · cases h; exact zr_19
  · cases h; exact zr_20
  · cases h; exact zr_21
  · cases h; exact zr_23
  · cases h; exact zr_24
  · cases h; exact zr_30
  · cases h; exact zr_32
  · cases h; exact zr_34
  · cases h; exact zr_36
  · cases h; exact zr_37
  · cases h; exact zr_38
  · cases h; exact zr_39
  · cases h; exact zr_41
  · cases h; exact zr_48
  · cases h; exact zr_49
  · cases h; exact zr_55
  · cases h; exact zr_56
  · cases h; exact zr_57
  · cases h; exact zr_68
  · cases h; exact zr_69
  · cases h; exact zr_70
  · cases h; exact zr_73
  · cases h; exact zr_75
  · cases h; exact zr_87
  · cases h; exact zr_92
  · cases h
def agTab : Nat → Option Nat
  | 13 => some 2
  | 19 => some 1
  | 34 => some 256
  | 37 => some 3
  | 38 => some 3
  | 48 => some 32
  | 49 => some 32
  | 56 => some 3
  | 57 => some 3
  | 68 => some 1
  | 69 => some 1
  | 75 => some 16
  | _ => none
theorem ag_of {ty n : Nat} (h : agTab ty = some n) : aggB Try.prog ty n = true := by
  unfold agTab at h
  split at h
  · cases h; exact ag_13
  · cases h; exact ag_19
  · cases h; exact ag_34
  · cases h; exact ag_37
  · cases h; exact ag_38
  · cases h; exact ag_48
  · cases h; exact ag_49
  · cases h; exact ag_56
  · cases h; exact ag_57
  · cases h; exact ag_68
  · cases h; exact ag_69
  · cases h; exact ag_75
  · cases h
def onTab : Nat → Option Unit
  | 2 => some ()
  | 3 => some ()
  | 4 => some ()
  | 5 => some ()
  | 9 => some ()
  | 12 => some ()
  | 20 => some ()
  | 21 => some ()
  | 23 => some ()
  | 24 => some ()
  | 30 => some ()
  | 32 => some ()
  | 36 => some ()
  | 39 => some ()
  | 41 => some ()
  | 55 => some ()
  | 70 => some ()
  | 73 => some ()
  | 87 => some ()
  | 92 => some ()
  | _ => none
theorem on_of {ty : Nat} (h : onTab ty = some ()) : oneB Try.prog ty = true := by
  unfold onTab at h
  split at h
  · exact on_2
  · exact on_3
  · exact on_4
  · exact on_5
  · exact on_9
  · exact on_12
  · exact on_20
  · exact on_21
  · exact on_23
  · exact on_24
  · exact on_30
  · exact on_32
  · exact on_36
  · exact on_39
  · exact on_41
  · exact on_55
  · exact on_70
  · exact on_73
  · exact on_87
  · exact on_92
  · cases h
def elTab : Nat → Option (Nat × Nat)
  | 2 => some (1, 8)
  | 3 => some (1, 8)
  | 4 => some (1, 1)
  | 5 => some (1, 1)
  | 9 => some (1, 16)
  | 12 => some (1, 8)
  | 13 => some (2, 24)
  | 19 => some (1, 8)
  | 20 => some (1, 16)
  | 21 => some (1, 4)
  | 23 => some (1, 24)
  | 24 => some (1, 8)
  | 30 => some (1, 24)
  | 32 => some (1, 4)
  | 34 => some (256, 1024)
  | 36 => some (1, 24)
  | 37 => some (3, 40)
  | 38 => some (3, 40)
  | 39 => some (1, 8)
  | 41 => some (1, 24)
  | 48 => some (32, 32)
  | 49 => some (32, 32)
  | 55 => some (1, 24)
  | 56 => some (3, 24)
  | 57 => some (3, 24)
  | 68 => some (1, 4)
  | 69 => some (1, 4)
  | 70 => some (1, 8)
  | 73 => some (1, 8)
  | 75 => some (16, 16)
  | 87 => some (1, 8)
  | 92 => some (1, 8)
  | _ => none
theorem el_of {ty n b : Nat} (h : elTab ty = some (n, b)) : El Try.prog ty n b := by
  unfold elTab at h
  split at h
  · cases h; exact el_2
  · cases h; exact el_3
  · cases h; exact el_4
  · cases h; exact el_5
  · cases h; exact el_9
  · cases h; exact el_12
  · cases h; exact el_13
  · cases h; exact el_19
  · cases h; exact el_20
  · cases h; exact el_21
  · cases h; exact el_23
  · cases h; exact el_24
  · cases h; exact el_30
  · cases h; exact el_32
  · cases h; exact el_34
  · cases h; exact el_36
  · cases h; exact el_37
  · cases h; exact el_38
  · cases h; exact el_39
  · cases h; exact el_41
  · cases h; exact el_48
  · cases h; exact el_49
  · cases h; exact el_55
  · cases h; exact el_56
  · cases h; exact el_57
  · cases h; exact el_68
  · cases h; exact el_69
  · cases h; exact el_70
  · cases h; exact el_73
  · cases h; exact el_75
  · cases h; exact el_87
  · cases h; exact el_92
  · cases h
def fbTab : Nat → Nat → Option Nat
  | 13, 0 => some 0
  | 13, 1 => some 1
  | 37, 0 => some 0
  | 37, 1 => some 1
  | 37, 2 => some 2
  | 38, 0 => some 0
  | 38, 1 => some 1
  | 38, 2 => some 2
  | 56, 0 => some 0
  | 56, 1 => some 1
  | 56, 2 => some 2
  | 57, 0 => some 0
  | 57, 1 => some 1
  | 57, 2 => some 2
  | 68, 0 => some 0
  | 69, 0 => some 0
  | _, _ => none
theorem fb_of {ty f off : Nat} (h : fbTab ty f = some off) : fieldB Try.prog ty f off = true := by
  unfold fbTab at h
  split at h
  · cases h; exact fd_13_0
  · cases h; exact fd_13_1
  · cases h; exact fd_37_0
  · cases h; exact fd_37_1
  · cases h; exact fd_37_2
  · cases h; exact fd_38_0
  · cases h; exact fd_38_1
  · cases h; exact fd_38_2
  · cases h; exact fd_56_0
  · cases h; exact fd_56_1
  · cases h; exact fd_56_2
  · cases h; exact fd_57_0
  · cases h; exact fd_57_1
  · cases h; exact fd_57_2
  · cases h; exact fd_68_0
  · cases h; exact fd_69_0
  · cases h
theorem fa_of {ty f off n : Nat} (h : False) : fieldA Try.prog ty f off n = true := h.elim
def usTab : Nat → Option Nat
  | 23 => some 5
  | 30 => some 23
  | 36 => some 38
  | 41 => some 39
  | 55 => some 49
  | _ => none
theorem us_of {ty e : Nat} (h : usTab ty = some e) : Try.prog.underlying ty = some (.slice e) := by
  unfold usTab at h
  split at h
  · cases h; kernel_rfl
  · cases h; kernel_rfl
  · cases h; kernel_rfl
  · cases h; kernel_rfl
  · cases h; kernel_rfl
  · cases h
def uaTab : Nat → Option (Nat × Nat)
  | 34 => some (256, 32)
  | 48 => some (32, 5)
  | 49 => some (32, 5)
  | 75 => some (16, 5)
  | _ => none
theorem ua_of {ty n e : Nat} (h : uaTab ty = some (n, e)) : Try.prog.underlying ty = some (.array n e) := by
  unfold uaTab at h
  split at h
  · cases h; kernel_rfl
  · cases h; kernel_rfl
  · cases h; kernel_rfl
  · cases h; kernel_rfl
  · cases h
end Go.Proofs.Ytmeialegemhlhaa
