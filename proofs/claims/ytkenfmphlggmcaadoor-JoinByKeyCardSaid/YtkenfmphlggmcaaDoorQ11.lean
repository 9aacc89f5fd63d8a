/- What the evaluator knows of this program: types, functions (written by a program). -/
import Derived.Test.YtkenfmphlggmcaaDoorQ10
import Derived.Test.YtkenfmphlggmcaaDoorProg
import Derived.KernelRfl

section
namespace Go.Ev
open Go Go.Proofs
set_option linter.unusedSimpArgs false
set_option maxRecDepth 10000

def theG (g : Nat) : Option EV := if g = 0 then some (.fp [.str [109, 111, 100, 117, 108, 101], .str [105, 109, 112, 111, 114, 116], .str [116, 121, 112, 101], .str [102, 110], .str [108, 101, 116], .str [105, 110], .str [105, 102], .str [116, 104, 101, 110], .str [101, 108, 115, 101], .str [105, 115], .str [97, 115], .str [116, 114, 117, 101], .str [102, 97, 108, 115, 101], .str [110, 117, 108, 108], .str [100, 121, 110], .str [98, 111, 111, 108], .str [105, 110, 116], .str [114, 101, 99]]) else none
def thePol (f : Nat) : Nat := if f = 9 then 2 else if f = 10 then 2 else if f = 28 then 3 else if f = 35 then 2 else if f = 37 then 2 else if f = 50 then 2 else if f = 54 then 2 else if f = 75 then 2 else 0
def theVm (f : Nat) : Bool := if f = 28 then false else if f = 54 then false else true
/-- Clone of nothing: nothing. -/
def theI (f : Nat) (args : List EV) (H : Heap) : Option (EV × Heap × List Nat) := if f = 50 ∨ f = 54 then match args with
    | [.fz [] _] => some (.fz [] .tight, H, [])
    | _ => none
  else if f = 55 then match args with
    | [.fz [] _] => some (.fz [] .no, H, [])
    | _ => none
  else none
noncomputable def ep : EP := epOf Tryd.prog theG theI thePol theVm
@[simp] theorem ep_I : ep.I = theI := rfl
@[simp] theorem ep_G : ep.G = theG := rfl
@[simp] theorem ep_vm : ep.vm = true := rfl
@[simp] theorem ty_1 : ep.T 1 = some ⟨.func, 1, 8, false, [.nilf], false⟩ := by kernel_rfl
@[simp] theorem ty_2 : ep.T 2 = some ⟨(.int .i64), 1, 8, false, [(.int .i64 0)], false⟩ := by kernel_rfl
@[simp] theorem ty_3 : ep.T 3 = some ⟨(.int .i64), 1, 8, false, [(.int .i64 0)], false⟩ := by kernel_rfl
@[simp] theorem ty_4 : ep.T 4 = some ⟨.bool, 1, 1, false, [(.bool false)], false⟩ := by kernel_rfl
@[simp] theorem ty_5 : ep.T 5 = some ⟨(.int .u8), 1, 1, false, [(.int .u8 0)], false⟩ := by kernel_rfl
@[simp] theorem ty_6 : ep.T 6 = some ⟨(.int .u8), 1, 1, false, [(.int .u8 0)], false⟩ := by kernel_rfl
@[simp] theorem ty_7 : ep.T 7 = some ⟨(.struct [⟨0, 1, false, 2⟩, ⟨1, 1, false, 3⟩, ⟨2, 1, false, 4⟩, ⟨3, 1, false, 6⟩]), 4, 24, true, [(.int .i64 0), (.int .i64 0), (.bool false), (.int .u8 0)], true⟩ := by kernel_rfl
@[simp] theorem ty_8 : ep.T 8 = some ⟨(.struct [⟨0, 1, false, 2⟩, ⟨1, 1, false, 3⟩, ⟨2, 1, false, 4⟩, ⟨3, 1, false, 6⟩]), 4, 24, true, [(.int .i64 0), (.int .i64 0), (.bool false), (.int .u8 0)], true⟩ := by kernel_rfl
@[simp] theorem ty_9 : ep.T 9 = some ⟨.string, 1, 16, false, [(.str [])], false⟩ := by kernel_rfl
@[simp] theorem ty_10 : ep.T 10 = some ⟨.string, 1, 16, false, [(.str [])], false⟩ := by kernel_rfl
@[simp] theorem ty_11 : ep.T 11 = some ⟨.string, 1, 16, false, [(.str [])], false⟩ := by kernel_rfl
@[simp] theorem ty_12 : ep.T 12 = some ⟨(.int .u64), 1, 8, false, [(.int .u64 0)], false⟩ := by kernel_rfl
@[simp] theorem ty_13 : ep.T 13 = some ⟨(.struct [⟨0, 1, false, 9⟩, ⟨1, 1, false, 12⟩]), 2, 24, true, [(.str []), (.int .u64 0)], false⟩ := by kernel_rfl
@[simp] theorem ty_14 : ep.T 14 = some ⟨(.struct [⟨0, 1, false, 9⟩, ⟨1, 1, false, 12⟩]), 2, 24, true, [(.str []), (.int .u64 0)], false⟩ := by kernel_rfl
@[simp] theorem ty_15 : ep.T 15 = some ⟨.pointer, 1, 8, false, [.nilp], false⟩ := by kernel_rfl
@[simp] theorem ty_16 : ep.T 16 = some ⟨.pointer, 1, 8, false, [.nilp], false⟩ := by kernel_rfl
@[simp] theorem ty_17 : ep.T 17 = some ⟨.pointer, 1, 8, false, [.nilp], false⟩ := by kernel_rfl
@[simp] theorem ty_18 : ep.T 18 = some ⟨(.struct [⟨0, 1, false, 17⟩]), 1, 8, true, [.nilp], false⟩ := by kernel_rfl
@[simp] theorem ty_19 : ep.T 19 = some ⟨(.struct [⟨0, 1, false, 17⟩]), 1, 8, true, [.nilp], false⟩ := by kernel_rfl
@[simp] theorem ty_21 : ep.T 21 = some ⟨(.int .i32), 1, 4, false, [(.int .i32 0)], false⟩ := by kernel_rfl
@[simp] theorem ty_22 : ep.T 22 = some ⟨(.slice 44), 1, 24, false, [(.fz [] .tight)], false⟩ := by kernel_rfl
@[simp] theorem ty_23 : ep.T 23 = some ⟨(.slice 3), 1, 24, false, [(.fz [] .tight)], false⟩ := by kernel_rfl
@[simp] theorem ty_24 : ep.T 24 = some ⟨.func, 1, 8, false, [.nilf], false⟩ := by kernel_rfl
@[simp] theorem ty_25 : ep.T 25 = some ⟨.func, 1, 8, false, [.nilf], false⟩ := by kernel_rfl
@[simp] theorem ty_26 : ep.T 26 = some ⟨(.int .i64), 1, 8, false, [(.int .i64 0)], false⟩ := by kernel_rfl
@[simp] theorem ty_28 : ep.T 28 = some ⟨.func, 1, 8, false, [.nilf], false⟩ := by kernel_rfl
@[simp] theorem ty_29 : ep.T 29 = some ⟨.func, 1, 8, false, [.nilf], false⟩ := by kernel_rfl
@[simp] theorem ty_30 : ep.T 30 = some ⟨.func, 1, 8, false, [.nilf], false⟩ := by kernel_rfl
@[simp] theorem ty_31 : ep.T 31 = some ⟨.func, 1, 8, false, [.nilf], false⟩ := by kernel_rfl
@[simp] theorem ty_32 : ep.T 32 = some ⟨.func, 1, 8, false, [.nilf], false⟩ := by kernel_rfl
@[simp] theorem ty_33 : ep.T 33 = some ⟨.func, 1, 8, false, [.nilf], false⟩ := by kernel_rfl
@[simp] theorem ty_34 : ep.T 34 = some ⟨.func, 1, 8, false, [.nilf], false⟩ := by kernel_rfl
@[simp] theorem ty_35 : ep.T 35 = some ⟨.func, 1, 8, false, [.nilf], false⟩ := by kernel_rfl
@[simp] theorem ty_36 : ep.T 36 = some ⟨.func, 1, 8, false, [.nilf], false⟩ := by kernel_rfl
@[simp] theorem ty_38 : ep.T 38 = some ⟨.func, 1, 8, false, [.nilf], false⟩ := by kernel_rfl
@[simp] theorem ty_39 : ep.T 39 = some ⟨.func, 1, 8, false, [.nilf], false⟩ := by kernel_rfl
@[simp] theorem ty_40 : ep.T 40 = some ⟨.func, 1, 8, false, [.nilf], false⟩ := by kernel_rfl
@[simp] theorem ty_41 : ep.T 41 = some ⟨.func, 1, 8, false, [.nilf], false⟩ := by kernel_rfl
@[simp] theorem ty_42 : ep.T 42 = some ⟨(.slice 9), 1, 24, false, [(.fz [] .tight)], false⟩ := by kernel_rfl
@[simp] theorem ty_43 : ep.T 43 = some ⟨(.struct [⟨0, 1, false, 3⟩, ⟨1, 1, false, 3⟩, ⟨2, 1, false, 9⟩, ⟨3, 1, false, 42⟩, ⟨4, 1, false, 23⟩]), 5, 80, true, [(.int .i64 0), (.int .i64 0), (.str []), (.fz [] .tight), (.fz [] .tight)], false⟩ := by kernel_rfl
@[simp] theorem ty_44 : ep.T 44 = some ⟨(.struct [⟨0, 1, false, 3⟩, ⟨1, 1, false, 3⟩, ⟨2, 1, false, 9⟩, ⟨3, 1, false, 42⟩, ⟨4, 1, false, 23⟩]), 5, 80, true, [(.int .i64 0), (.int .i64 0), (.str []), (.fz [] .tight), (.fz [] .tight)], false⟩ := by kernel_rfl
@[simp] theorem ty_45 : ep.T 45 = some ⟨(.array 2 3), 2, 16, true, [(.int .i64 0), (.int .i64 0)], true⟩ := by kernel_rfl
@[simp] theorem ty_46 : ep.T 46 = some ⟨.func, 1, 8, false, [.nilf], false⟩ := by kernel_rfl
@[simp] theorem ty_47 : ep.T 47 = some ⟨.func, 1, 8, false, [.nilf], false⟩ := by kernel_rfl
@[simp] theorem ty_48 : ep.T 48 = some ⟨.func, 1, 8, false, [.nilf], false⟩ := by kernel_rfl
@[simp] theorem ty_49 : ep.T 49 = some ⟨.func, 1, 8, false, [.nilf], false⟩ := by kernel_rfl
@[simp] theorem ty_50 : ep.T 50 = some ⟨(.slice 53), 1, 24, false, [(.fz [] .tight)], false⟩ := by kernel_rfl
@[simp] theorem ty_52 : ep.T 52 = some ⟨.func, 1, 8, false, [.nilf], false⟩ := by kernel_rfl
@[simp] theorem ty_53 : ep.T 53 = some ⟨(.slice 4), 1, 24, false, [(.fz [] .tight)], false⟩ := by kernel_rfl
@[simp] theorem ty_54 : ep.T 54 = some ⟨.func, 1, 8, false, [.nilf], false⟩ := by kernel_rfl
@[simp] theorem ty_55 : ep.T 55 = some ⟨.func, 1, 8, false, [.nilf], false⟩ := by kernel_rfl
@[simp] theorem ty_56 : ep.T 56 = some ⟨.func, 1, 8, false, [.nilf], false⟩ := by kernel_rfl
@[simp] theorem ty_58 : ep.T 58 = some ⟨.func, 1, 8, false, [.nilf], false⟩ := by kernel_rfl
@[simp] theorem ty_59 : ep.T 59 = some ⟨.func, 1, 8, false, [.nilf], false⟩ := by kernel_rfl
@[simp] theorem ty_60 : ep.T 60 = some ⟨.func, 1, 8, false, [.nilf], false⟩ := by kernel_rfl
@[simp] theorem ty_61 : ep.T 61 = some ⟨.func, 1, 8, false, [.nilf], false⟩ := by kernel_rfl
@[simp] theorem ty_63 : ep.T 63 = some ⟨.func, 1, 8, false, [.nilf], false⟩ := by kernel_rfl
@[simp] theorem ty_64 : ep.T 64 = some ⟨.func, 1, 8, false, [.nilf], false⟩ := by kernel_rfl
@[simp] theorem ty_65 : ep.T 65 = some ⟨.func, 1, 8, false, [.nilf], false⟩ := by kernel_rfl
@[simp] theorem ty_66 : ep.T 66 = some ⟨.func, 1, 8, false, [.nilf], false⟩ := by kernel_rfl
@[simp] theorem ty_67 : ep.T 67 = some ⟨(.array 3 3), 3, 24, true, [(.int .i64 0), (.int .i64 0), (.int .i64 0)], true⟩ := by kernel_rfl
@[simp] theorem ty_68 : ep.T 68 = some ⟨.func, 1, 8, false, [.nilf], false⟩ := by kernel_rfl
@[simp] theorem ty_69 : ep.T 69 = some ⟨.pointer, 1, 8, false, [.nilp], false⟩ := by kernel_rfl
@[simp] theorem ty_70 : ep.T 70 = some ⟨.func, 1, 8, false, [.nilf], false⟩ := by kernel_rfl
@[simp] theorem ty_71 : ep.T 71 = some ⟨(.map 3 99), 1, 8, false, [.nilm], false⟩ := by kernel_rfl
@[simp] theorem ty_72 : ep.T 72 = some ⟨(.map 3 4), 1, 8, false, [.nilm], false⟩ := by kernel_rfl
@[simp] theorem ty_73 : ep.T 73 = some ⟨(.struct [⟨0, 1, false, 22⟩, ⟨1, 1, false, 9⟩, ⟨2, 5, true, 44⟩, ⟨7, 1, false, 71⟩, ⟨8, 1, false, 72⟩]), 9, 136, true, [(.fz [] .tight), (.str []), (.int .i64 0), (.int .i64 0), (.str []), (.fz [] .tight), (.fz [] .tight), .nilm, .nilm], false⟩ := by kernel_rfl
@[simp] theorem ty_74 : ep.T 74 = some ⟨(.struct [⟨0, 1, false, 22⟩, ⟨1, 1, false, 9⟩, ⟨2, 5, true, 44⟩, ⟨7, 1, false, 71⟩, ⟨8, 1, false, 72⟩]), 9, 136, true, [(.fz [] .tight), (.str []), (.int .i64 0), (.int .i64 0), (.str []), (.fz [] .tight), (.fz [] .tight), .nilm, .nilm], false⟩ := by kernel_rfl
@[simp] theorem ty_75 : ep.T 75 = some ⟨.func, 1, 8, false, [.nilf], false⟩ := by kernel_rfl
@[simp] theorem ty_76 : ep.T 76 = some ⟨.func, 1, 8, false, [.nilf], false⟩ := by kernel_rfl
@[simp] theorem ty_77 : ep.T 77 = some ⟨.func, 1, 8, false, [.nilf], false⟩ := by kernel_rfl
@[simp] theorem ty_78 : ep.T 78 = some ⟨.func, 1, 8, false, [.nilf], false⟩ := by kernel_rfl
@[simp] theorem ty_79 : ep.T 79 = some ⟨(.struct [⟨0, 1, false, 3⟩, ⟨1, 1, false, 3⟩]), 2, 16, true, [(.int .i64 0), (.int .i64 0)], true⟩ := by kernel_rfl
@[simp] theorem ty_80 : ep.T 80 = some ⟨(.struct [⟨0, 1, false, 3⟩, ⟨1, 1, false, 3⟩]), 2, 16, true, [(.int .i64 0), (.int .i64 0)], true⟩ := by kernel_rfl
@[simp] theorem ty_81 : ep.T 81 = some ⟨.pointer, 1, 8, false, [.nilp], false⟩ := by kernel_rfl
@[simp] theorem ty_83 : ep.T 83 = some ⟨.func, 1, 8, false, [.nilf], false⟩ := by kernel_rfl
@[simp] theorem ty_84 : ep.T 84 = some ⟨(.slice 80), 1, 24, false, [(.fz [] .tight)], false⟩ := by kernel_rfl
@[simp] theorem ty_85 : ep.T 85 = some ⟨.func, 1, 8, false, [.nilf], false⟩ := by kernel_rfl
@[simp] theorem ty_86 : ep.T 86 = some ⟨(.map 80 3), 1, 8, false, [.nilm], false⟩ := by kernel_rfl
@[simp] theorem ty_87 : ep.T 87 = some ⟨(.struct [⟨0, 1, false, 22⟩, ⟨1, 1, false, 4⟩, ⟨2, 1, false, 86⟩]), 3, 40, true, [(.fz [] .tight), (.bool false), .nilm], false⟩ := by kernel_rfl
@[simp] theorem ty_88 : ep.T 88 = some ⟨(.struct [⟨0, 1, false, 22⟩, ⟨1, 1, false, 4⟩, ⟨2, 1, false, 86⟩]), 3, 40, true, [(.fz [] .tight), (.bool false), .nilm], false⟩ := by kernel_rfl
@[simp] theorem ty_89 : ep.T 89 = some ⟨.func, 1, 8, false, [.nilf], false⟩ := by kernel_rfl
@[simp] theorem ty_90 : ep.T 90 = some ⟨.func, 1, 8, false, [.nilf], false⟩ := by kernel_rfl
@[simp] theorem ty_91 : ep.T 91 = some ⟨.func, 1, 8, false, [.nilf], false⟩ := by kernel_rfl
@[simp] theorem ty_93 : ep.T 93 = some ⟨.func, 1, 8, false, [.nilf], false⟩ := by kernel_rfl
@[simp] theorem ty_94 : ep.T 94 = some ⟨.func, 1, 8, false, [.nilf], false⟩ := by kernel_rfl
@[simp] theorem ty_96 : ep.T 96 = some ⟨.func, 1, 8, false, [.nilf], false⟩ := by kernel_rfl
@[simp] theorem ty_97 : ep.T 97 = some ⟨(.map 9 3), 1, 8, false, [.nilm], false⟩ := by kernel_rfl
@[simp] theorem ty_98 : ep.T 98 = some ⟨.func, 1, 8, false, [.nilf], false⟩ := by kernel_rfl
@[simp] theorem ty_99 : ep.T 99 = some ⟨.func, 1, 8, false, [.nilf], false⟩ := by kernel_rfl
@[simp] theorem ty_100 : ep.T 100 = some ⟨(.struct [⟨0, 1, false, 23⟩, ⟨1, 1, false, 23⟩]), 2, 48, true, [(.fz [] .tight), (.fz [] .tight)], false⟩ := by kernel_rfl
@[simp] theorem ty_101 : ep.T 101 = some ⟨(.struct [⟨0, 1, false, 23⟩, ⟨1, 1, false, 23⟩]), 2, 48, true, [(.fz [] .tight), (.fz [] .tight)], false⟩ := by kernel_rfl
@[simp] theorem ty_102 : ep.T 102 = some ⟨(.struct [⟨0, 1, false, 4⟩, ⟨1, 1, false, 4⟩]), 2, 2, true, [(.bool false), (.bool false)], true⟩ := by kernel_rfl
@[simp] theorem ty_103 : ep.T 103 = some ⟨(.struct [⟨0, 1, false, 4⟩, ⟨1, 1, false, 4⟩]), 2, 2, true, [(.bool false), (.bool false)], true⟩ := by kernel_rfl
@[simp] theorem ty_104 : ep.T 104 = some ⟨.func, 1, 8, false, [.nilf], false⟩ := by kernel_rfl
@[simp] theorem ty_105 : ep.T 105 = some ⟨.func, 1, 8, false, [.nilf], false⟩ := by kernel_rfl
@[simp] theorem ty_106 : ep.T 106 = some ⟨.func, 1, 8, false, [.nilf], false⟩ := by kernel_rfl
@[simp] theorem ty_107 : ep.T 107 = some ⟨.func, 1, 8, false, [.nilf], false⟩ := by kernel_rfl
@[simp] theorem ty_108 : ep.T 108 = some ⟨(.map 3 3), 1, 8, false, [.nilm], false⟩ := by kernel_rfl
@[simp] theorem ty_109 : ep.T 109 = some ⟨.func, 1, 8, false, [.nilf], false⟩ := by kernel_rfl
@[simp] theorem ty_110 : ep.T 110 = some ⟨.func, 1, 8, false, [.nilf], false⟩ := by kernel_rfl
@[simp] theorem ty_111 : ep.T 111 = some ⟨.func, 1, 8, false, [.nilf], false⟩ := by kernel_rfl
@[simp] theorem ty_112 : ep.T 112 = some ⟨.func, 1, 8, false, [.nilf], false⟩ := by kernel_rfl
@[simp] theorem ty_113 : ep.T 113 = some ⟨.func, 1, 8, false, [.nilf], false⟩ := by kernel_rfl
@[simp] theorem ty_114 : ep.T 114 = some ⟨(.int .u64), 1, 8, false, [(.int .u64 0)], false⟩ := by kernel_rfl
@[simp] theorem ty_115 : ep.T 115 = some ⟨.func, 1, 8, false, [.nilf], false⟩ := by kernel_rfl
@[simp] theorem ty_116 : ep.T 116 = some ⟨(.array 18 9), 18, 288, true, [(.str []), (.str []), (.str []), (.str []), (.str []), (.str []), (.str []), (.str []), (.str []), (.str []), (.str []), (.str []), (.str []), (.str []), (.str []), (.str []), (.str []), (.str [])], true⟩ := by kernel_rfl
@[simp] theorem ty_117 : ep.T 117 = some ⟨.func, 1, 8, false, [.nilf], false⟩ := by kernel_rfl
@[simp] theorem ty_118 : ep.T 118 = some ⟨.func, 1, 8, false, [.nilf], false⟩ := by kernel_rfl
@[simp] theorem ty_119 : ep.T 119 = some ⟨.func, 1, 8, false, [.nilf], false⟩ := by kernel_rfl
@[simp] theorem ty_120 : ep.T 120 = some ⟨(.slice 119), 1, 24, false, [(.fz [] .tight)], false⟩ := by kernel_rfl
@[simp] theorem ty_121 : ep.T 121 = some ⟨.func, 1, 8, false, [.nilf], false⟩ := by kernel_rfl
@[simp] theorem ty_122 : ep.T 122 = some ⟨.func, 1, 8, false, [.nilf], false⟩ := by kernel_rfl
@[simp] theorem ty_123 : ep.T 123 = some ⟨.func, 1, 8, false, [.nilf], false⟩ := by kernel_rfl
@[simp] theorem ty_124 : ep.T 124 = some ⟨.func, 1, 8, false, [.nilf], false⟩ := by kernel_rfl
@[simp] theorem ty_125 : ep.T 125 = some ⟨.func, 1, 8, false, [.nilf], false⟩ := by kernel_rfl
@[simp] theorem ty_126 : ep.T 126 = some ⟨.func, 1, 8, false, [.nilf], false⟩ := by kernel_rfl
@[simp] theorem ty_127 : ep.T 127 = some ⟨(.array 10 126), 10, 80, true, [.nilf, .nilf, .nilf, .nilf, .nilf, .nilf, .nilf, .nilf, .nilf, .nilf], false⟩ := by kernel_rfl
@[simp] theorem ty_128 : ep.T 128 = some ⟨.func, 1, 8, false, [.nilf], false⟩ := by kernel_rfl
@[simp] theorem ty_129 : ep.T 129 = some ⟨.func, 1, 8, false, [.nilf], false⟩ := by kernel_rfl
@[simp] theorem ty_130 : ep.T 130 = some ⟨(.struct [⟨0, 1, false, 17⟩, ⟨1, 1, false, 17⟩, ⟨2, 1, false, 17⟩, ⟨3, 1, false, 9⟩]), 4, 40, true, [.nilp, .nilp, .nilp, (.str [])], false⟩ := by kernel_rfl
@[simp] theorem ty_131 : ep.T 131 = some ⟨(.struct [⟨0, 1, false, 17⟩, ⟨1, 1, false, 17⟩, ⟨2, 1, false, 17⟩, ⟨3, 1, false, 9⟩]), 4, 40, true, [.nilp, .nilp, .nilp, (.str [])], false⟩ := by kernel_rfl
@[simp] theorem ty_132 : ep.T 132 = some ⟨(.array 0 16), 0, 0, true, [], false⟩ := by kernel_rfl
@[simp] theorem ty_133 : ep.T 133 = some ⟨(.struct [⟨0, 0, true, 132⟩]), 0, 0, true, [], false⟩ := by kernel_rfl
@[simp] theorem ty_134 : ep.T 134 = some ⟨(.struct [⟨0, 0, true, 132⟩]), 0, 0, true, [], false⟩ := by kernel_rfl
@[simp] theorem ty_135 : ep.T 135 = some ⟨.func, 1, 8, false, [.nilf], false⟩ := by kernel_rfl
@[simp] theorem ty_136 : ep.T 136 = some ⟨(.int .u32), 1, 4, false, [(.int .u32 0)], false⟩ := by kernel_rfl
@[simp] theorem ty_137 : ep.T 137 = some ⟨(.int .u8), 1, 1, false, [(.int .u8 0)], false⟩ := by kernel_rfl
@[simp] theorem ty_138 : ep.T 138 = some ⟨(.int .u8), 1, 1, false, [(.int .u8 0)], false⟩ := by kernel_rfl
@[simp] theorem ty_139 : ep.T 139 = some ⟨.func, 1, 8, false, [.nilf], false⟩ := by kernel_rfl
@[simp] theorem ty_140 : ep.T 140 = some ⟨.pointer, 1, 8, false, [.nilp], false⟩ := by kernel_rfl
@[simp] theorem ty_141 : ep.T 141 = some ⟨(.int .i32), 1, 4, false, [(.int .i32 0)], false⟩ := by kernel_rfl
@[simp] theorem ty_142 : ep.T 142 = some ⟨(.int .i32), 1, 4, false, [(.int .i32 0)], false⟩ := by kernel_rfl
@[simp] theorem ty_143 : ep.T 143 = some ⟨(.struct [⟨0, 1, false, 12⟩, ⟨1, 1, false, 12⟩, ⟨2, 1, false, 136⟩, ⟨3, 1, false, 137⟩, ⟨4, 1, false, 5⟩, ⟨5, 1, false, 5⟩, ⟨6, 1, false, 138⟩, ⟨7, 1, false, 139⟩, ⟨8, 1, false, 140⟩, ⟨9, 1, false, 141⟩, ⟨10, 1, false, 142⟩]), 11, 48, true, [(.int .u64 0), (.int .u64 0), (.int .u32 0), (.int .u8 0), (.int .u8 0), (.int .u8 0), (.int .u8 0), .nilf, .nilp, (.int .i32 0), (.int .i32 0)], false⟩ := by kernel_rfl
@[simp] theorem ty_144 : ep.T 144 = some ⟨(.struct [⟨0, 1, false, 12⟩, ⟨1, 1, false, 12⟩, ⟨2, 1, false, 136⟩, ⟨3, 1, false, 137⟩, ⟨4, 1, false, 5⟩, ⟨5, 1, false, 5⟩, ⟨6, 1, false, 138⟩, ⟨7, 1, false, 139⟩, ⟨8, 1, false, 140⟩, ⟨9, 1, false, 141⟩, ⟨10, 1, false, 142⟩]), 11, 48, true, [(.int .u64 0), (.int .u64 0), (.int .u32 0), (.int .u8 0), (.int .u8 0), (.int .u8 0), (.int .u8 0), .nilf, .nilp, (.int .i32 0), (.int .i32 0)], false⟩ := by kernel_rfl
theorem nm_2 : (Tryd.f2.name == "runtime.NumGoroutine") = false := by kernel_rfl
theorem fn_2 : ep.F 2 = some Tryd.f2 := by
  unfold ep
  exact epOf_F Tryd.func2 nm_2
@[simp] theorem pol_2 : ep.pol 2 = 0 := rfl
@[simp] theorem vms_2 : ep.vms 2 = true := rfl
theorem nm_3 : (Tryd.f3.name == "runtime.NumGoroutine") = false := by kernel_rfl
theorem fn_3 : ep.F 3 = some Tryd.f3 := by
  unfold ep
  exact epOf_F Tryd.func3 nm_3
@[simp] theorem pol_3 : ep.pol 3 = 0 := rfl
@[simp] theorem vms_3 : ep.vms 3 = true := rfl
theorem nm_4 : (Tryd.f4.name == "runtime.NumGoroutine") = false := by kernel_rfl
theorem fn_4 : ep.F 4 = some Tryd.f4 := by
  unfold ep
  exact epOf_F Tryd.func4 nm_4
@[simp] theorem pol_4 : ep.pol 4 = 0 := rfl
@[simp] theorem vms_4 : ep.vms 4 = true := rfl
theorem nm_5 : (Tryd.f5.name == "runtime.NumGoroutine") = false := by kernel_rfl
theorem fn_5 : ep.F 5 = some Tryd.f5 := by
  unfold ep
  exact epOf_F Tryd.func5 nm_5
@[simp] theorem pol_5 : ep.pol 5 = 0 := rfl
@[simp] theorem vms_5 : ep.vms 5 = true := rfl
theorem nm_6 : (Tryd.f6.name == "runtime.NumGoroutine") = false := by kernel_rfl
theorem fn_6 : ep.F 6 = some Tryd.f6 := by
  unfold ep
  exact epOf_F Tryd.func6 nm_6
@[simp] theorem pol_6 : ep.pol 6 = 0 := rfl
@[simp] theorem vms_6 : ep.vms 6 = true := rfl
theorem nm_7 : (Tryd.f7.name == "runtime.NumGoroutine") = false := by kernel_rfl
theorem fn_7 : ep.F 7 = some Tryd.f7 := by
  unfold ep
  exact epOf_F Tryd.func7 nm_7
@[simp] theorem pol_7 : ep.pol 7 = 0 := rfl
@[simp] theorem vms_7 : ep.vms 7 = true := rfl
theorem nm_8 : (Tryd.f8.name == "runtime.NumGoroutine") = false := by kernel_rfl
theorem fn_8 : ep.F 8 = some Tryd.f8 := by
  unfold ep
  exact epOf_F Tryd.func8 nm_8
@[simp] theorem pol_8 : ep.pol 8 = 0 := rfl
@[simp] theorem vms_8 : ep.vms 8 = true := rfl
theorem nm_9 : (Tryd.f9.name == "runtime.NumGoroutine") = false := by kernel_rfl
theorem fn_9 : ep.F 9 = some Tryd.f9 := by
  unfold ep
  exact epOf_F Tryd.func9 nm_9
@[simp] theorem pol_9 : ep.pol 9 = 2 := rfl
@[simp] theorem vms_9 : ep.vms 9 = true := rfl
theorem nm_10 : (Tryd.f10.name == "runtime.NumGoroutine") = false := by kernel_rfl
theorem fn_10 : ep.F 10 = some Tryd.f10 := by
  unfold ep
  exact epOf_F Tryd.func10 nm_10
@[simp] theorem pol_10 : ep.pol 10 = 2 := rfl
@[simp] theorem vms_10 : ep.vms 10 = true := rfl
theorem nm_11 : (Tryd.f11.name == "runtime.NumGoroutine") = false := by kernel_rfl
theorem fn_11 : ep.F 11 = some Tryd.f11 := by
  unfold ep
  exact epOf_F Tryd.func11 nm_11
@[simp] theorem pol_11 : ep.pol 11 = 0 := rfl
@[simp] theorem vms_11 : ep.vms 11 = true := rfl
theorem nm_12 : (Tryd.f12.name == "runtime.NumGoroutine") = false := by kernel_rfl
theorem fn_12 : ep.F 12 = some Tryd.f12 := by
  unfold ep
  exact epOf_F Tryd.func12 nm_12
@[simp] theorem pol_12 : ep.pol 12 = 0 := rfl
@[simp] theorem vms_12 : ep.vms 12 = true := rfl
theorem nm_13 : (Tryd.f13.name == "runtime.NumGoroutine") = false := by kernel_rfl
theorem fn_13 : ep.F 13 = some Tryd.f13 := by
  unfold ep
  exact epOf_F Tryd.func13 nm_13
@[simp] theorem pol_13 : ep.pol 13 = 0 := rfl
@[simp] theorem vms_13 : ep.vms 13 = true := rfl
theorem nm_14 : (Tryd.f14.name == "runtime.NumGoroutine") = false := by kernel_rfl
theorem fn_14 : ep.F 14 = some Tryd.f14 := by
  unfold ep
  exact epOf_F Tryd.func14 nm_14
@[simp] theorem pol_14 : ep.pol 14 = 0 := rfl
@[simp] theorem vms_14 : ep.vms 14 = true := rfl
theorem nm_15 : (Tryd.f15.name == "runtime.NumGoroutine") = false := by kernel_rfl
theorem fn_15 : ep.F 15 = some Tryd.f15 := by
  unfold ep
  exact epOf_F Tryd.func15 nm_15
@[simp] theorem pol_15 : ep.pol 15 = 0 := rfl
@[simp] theorem vms_15 : ep.vms 15 = true := rfl
theorem nm_16 : (Tryd.f16.name == "runtime.NumGoroutine") = false := by kernel_rfl
theorem fn_16 : ep.F 16 = some Tryd.f16 := by
  unfold ep
  exact epOf_F Tryd.func16 nm_16
@[simp] theorem pol_16 : ep.pol 16 = 0 := rfl
@[simp] theorem vms_16 : ep.vms 16 = true := rfl
theorem nm_17 : (Tryd.f17.name == "runtime.NumGoroutine") = false := by kernel_rfl
theorem fn_17 : ep.F 17 = some Tryd.f17 := by
  unfold ep
  exact epOf_F Tryd.func17 nm_17
@[simp] theorem pol_17 : ep.pol 17 = 0 := rfl
@[simp] theorem vms_17 : ep.vms 17 = true := rfl
theorem nm_18 : (Tryd.f18.name == "runtime.NumGoroutine") = false := by kernel_rfl
theorem fn_18 : ep.F 18 = some Tryd.f18 := by
  unfold ep
  exact epOf_F Tryd.func18 nm_18
@[simp] theorem pol_18 : ep.pol 18 = 0 := rfl
@[simp] theorem vms_18 : ep.vms 18 = true := rfl
theorem nm_19 : (Tryd.f19.name == "runtime.NumGoroutine") = false := by kernel_rfl
theorem fn_19 : ep.F 19 = some Tryd.f19 := by
  unfold ep
  exact epOf_F Tryd.func19 nm_19
@[simp] theorem pol_19 : ep.pol 19 = 0 := rfl
@[simp] theorem vms_19 : ep.vms 19 = true := rfl
theorem nm_20 : (Tryd.f20.name == "runtime.NumGoroutine") = false := by kernel_rfl
theorem fn_20 : ep.F 20 = some Tryd.f20 := by
  unfold ep
  exact epOf_F Tryd.func20 nm_20
@[simp] theorem pol_20 : ep.pol 20 = 0 := rfl
@[simp] theorem vms_20 : ep.vms 20 = true := rfl
theorem nm_21 : (Tryd.f21.name == "runtime.NumGoroutine") = false := by kernel_rfl
theorem fn_21 : ep.F 21 = some Tryd.f21 := by
  unfold ep
  exact epOf_F Tryd.func21 nm_21
@[simp] theorem pol_21 : ep.pol 21 = 0 := rfl
@[simp] theorem vms_21 : ep.vms 21 = true := rfl
theorem nm_22 : (Tryd.f22.name == "runtime.NumGoroutine") = false := by kernel_rfl
theorem fn_22 : ep.F 22 = some Tryd.f22 := by
  unfold ep
  exact epOf_F Tryd.func22 nm_22
@[simp] theorem pol_22 : ep.pol 22 = 0 := rfl
@[simp] theorem vms_22 : ep.vms 22 = true := rfl
theorem nm_23 : (Tryd.f23.name == "runtime.NumGoroutine") = false := by kernel_rfl
theorem fn_23 : ep.F 23 = some Tryd.f23 := by
  unfold ep
  exact epOf_F Tryd.func23 nm_23
@[simp] theorem pol_23 : ep.pol 23 = 0 := rfl
@[simp] theorem vms_23 : ep.vms 23 = true := rfl
theorem nm_24 : (Tryd.f24.name == "runtime.NumGoroutine") = false := by kernel_rfl
theorem fn_24 : ep.F 24 = some Tryd.f24 := by
  unfold ep
  exact epOf_F Tryd.func24 nm_24
@[simp] theorem pol_24 : ep.pol 24 = 0 := rfl
@[simp] theorem vms_24 : ep.vms 24 = true := rfl
theorem nm_25 : (Tryd.f25.name == "runtime.NumGoroutine") = false := by kernel_rfl
theorem fn_25 : ep.F 25 = some Tryd.f25 := by
  unfold ep
  exact epOf_F Tryd.func25 nm_25
@[simp] theorem pol_25 : ep.pol 25 = 0 := rfl
@[simp] theorem vms_25 : ep.vms 25 = true := rfl
theorem nm_26 : (Tryd.f26.name == "runtime.NumGoroutine") = false := by kernel_rfl
theorem fn_26 : ep.F 26 = some Tryd.f26 := by
  unfold ep
  exact epOf_F Tryd.func26 nm_26
@[simp] theorem pol_26 : ep.pol 26 = 0 := rfl
@[simp] theorem vms_26 : ep.vms 26 = true := rfl
theorem nm_27 : (Tryd.f27.name == "runtime.NumGoroutine") = false := by kernel_rfl
theorem fn_27 : ep.F 27 = some Tryd.f27 := by
  unfold ep
  exact epOf_F Tryd.func27 nm_27
@[simp] theorem pol_27 : ep.pol 27 = 0 := rfl
@[simp] theorem vms_27 : ep.vms 27 = true := rfl
theorem nm_28 : (Tryd.f28.name == "runtime.NumGoroutine") = false := by kernel_rfl
theorem fn_28 : ep.F 28 = some Tryd.f28 := by
  unfold ep
  exact epOf_F Tryd.func28 nm_28
@[simp] theorem pol_28 : ep.pol 28 = 3 := rfl
@[simp] theorem vms_28 : ep.vms 28 = false := rfl
theorem nm_29 : (Tryd.f29.name == "runtime.NumGoroutine") = false := by kernel_rfl
theorem fn_29 : ep.F 29 = some Tryd.f29 := by
  unfold ep
  exact epOf_F Tryd.func29 nm_29
@[simp] theorem pol_29 : ep.pol 29 = 0 := rfl
@[simp] theorem vms_29 : ep.vms 29 = true := rfl
theorem nm_30 : (Tryd.f30.name == "runtime.NumGoroutine") = false := by kernel_rfl
theorem fn_30 : ep.F 30 = some Tryd.f30 := by
  unfold ep
  exact epOf_F Tryd.func30 nm_30
@[simp] theorem pol_30 : ep.pol 30 = 0 := rfl
@[simp] theorem vms_30 : ep.vms 30 = true := rfl
theorem nm_31 : (Tryd.f31.name == "runtime.NumGoroutine") = false := by kernel_rfl
theorem fn_31 : ep.F 31 = some Tryd.f31 := by
  unfold ep
  exact epOf_F Tryd.func31 nm_31
@[simp] theorem pol_31 : ep.pol 31 = 0 := rfl
@[simp] theorem vms_31 : ep.vms 31 = true := rfl
theorem nm_32 : (Tryd.f32.name == "runtime.NumGoroutine") = false := by kernel_rfl
theorem fn_32 : ep.F 32 = some Tryd.f32 := by
  unfold ep
  exact epOf_F Tryd.func32 nm_32
@[simp] theorem pol_32 : ep.pol 32 = 0 := rfl
@[simp] theorem vms_32 : ep.vms 32 = true := rfl
theorem nm_33 : (Tryd.f33.name == "runtime.NumGoroutine") = false := by kernel_rfl
theorem fn_33 : ep.F 33 = some Tryd.f33 := by
  unfold ep
  exact epOf_F Tryd.func33 nm_33
@[simp] theorem pol_33 : ep.pol 33 = 0 := rfl
@[simp] theorem vms_33 : ep.vms 33 = true := rfl
theorem nm_34 : (Tryd.f34.name == "runtime.NumGoroutine") = false := by kernel_rfl
theorem fn_34 : ep.F 34 = some Tryd.f34 := by
  unfold ep
  exact epOf_F Tryd.func34 nm_34
@[simp] theorem pol_34 : ep.pol 34 = 0 := rfl
@[simp] theorem vms_34 : ep.vms 34 = true := rfl
theorem nm_35 : (Tryd.f35.name == "runtime.NumGoroutine") = false := by kernel_rfl
theorem fn_35 : ep.F 35 = some Tryd.f35 := by
  unfold ep
  exact epOf_F Tryd.func35 nm_35
@[simp] theorem pol_35 : ep.pol 35 = 2 := rfl
@[simp] theorem vms_35 : ep.vms 35 = true := rfl
theorem nm_36 : (Tryd.f36.name == "runtime.NumGoroutine") = false := by kernel_rfl
theorem fn_36 : ep.F 36 = some Tryd.f36 := by
  unfold ep
  exact epOf_F Tryd.func36 nm_36
@[simp] theorem pol_36 : ep.pol 36 = 0 := rfl
@[simp] theorem vms_36 : ep.vms 36 = true := rfl
theorem nm_37 : (Tryd.f37.name == "runtime.NumGoroutine") = false := by kernel_rfl
theorem fn_37 : ep.F 37 = some Tryd.f37 := by
  unfold ep
  exact epOf_F Tryd.func37 nm_37
@[simp] theorem pol_37 : ep.pol 37 = 2 := rfl
@[simp] theorem vms_37 : ep.vms 37 = true := rfl
theorem nm_38 : (Tryd.f38.name == "runtime.NumGoroutine") = false := by kernel_rfl
theorem fn_38 : ep.F 38 = some Tryd.f38 := by
  unfold ep
  exact epOf_F Tryd.func38 nm_38
@[simp] theorem pol_38 : ep.pol 38 = 0 := rfl
@[simp] theorem vms_38 : ep.vms 38 = true := rfl
theorem nm_39 : (Tryd.f39.name == "runtime.NumGoroutine") = false := by kernel_rfl
theorem fn_39 : ep.F 39 = some Tryd.f39 := by
  unfold ep
  exact epOf_F Tryd.func39 nm_39
@[simp] theorem pol_39 : ep.pol 39 = 0 := rfl
@[simp] theorem vms_39 : ep.vms 39 = true := rfl
theorem nm_40 : (Tryd.f40.name == "runtime.NumGoroutine") = false := by kernel_rfl
theorem fn_40 : ep.F 40 = some Tryd.f40 := by
  unfold ep
  exact epOf_F Tryd.func40 nm_40
@[simp] theorem pol_40 : ep.pol 40 = 0 := rfl
@[simp] theorem vms_40 : ep.vms 40 = true := rfl
theorem nm_41 : (Tryd.f41.name == "runtime.NumGoroutine") = false := by kernel_rfl
theorem fn_41 : ep.F 41 = some Tryd.f41 := by
  unfold ep
  exact epOf_F Tryd.func41 nm_41
@[simp] theorem pol_41 : ep.pol 41 = 0 := rfl
@[simp] theorem vms_41 : ep.vms 41 = true := rfl
theorem nm_42 : (Tryd.f42.name == "runtime.NumGoroutine") = false := by kernel_rfl
theorem fn_42 : ep.F 42 = some Tryd.f42 := by
  unfold ep
  exact epOf_F Tryd.func42 nm_42
@[simp] theorem pol_42 : ep.pol 42 = 0 := rfl
@[simp] theorem vms_42 : ep.vms 42 = true := rfl
theorem nm_43 : (Tryd.f43.name == "runtime.NumGoroutine") = false := by kernel_rfl
theorem fn_43 : ep.F 43 = some Tryd.f43 := by
  unfold ep
  exact epOf_F Tryd.func43 nm_43
@[simp] theorem pol_43 : ep.pol 43 = 0 := rfl
@[simp] theorem vms_43 : ep.vms 43 = true := rfl
theorem nm_44 : (Tryd.f44.name == "runtime.NumGoroutine") = false := by kernel_rfl
theorem fn_44 : ep.F 44 = some Tryd.f44 := by
  unfold ep
  exact epOf_F Tryd.func44 nm_44
@[simp] theorem pol_44 : ep.pol 44 = 0 := rfl
@[simp] theorem vms_44 : ep.vms 44 = true := rfl
theorem nm_45 : (Tryd.f45.name == "runtime.NumGoroutine") = false := by kernel_rfl
theorem fn_45 : ep.F 45 = some Tryd.f45 := by
  unfold ep
  exact epOf_F Tryd.func45 nm_45
@[simp] theorem pol_45 : ep.pol 45 = 0 := rfl
@[simp] theorem vms_45 : ep.vms 45 = true := rfl
theorem nm_46 : (Tryd.f46.name == "runtime.NumGoroutine") = false := by kernel_rfl
theorem fn_46 : ep.F 46 = some Tryd.f46 := by
  unfold ep
  exact epOf_F Tryd.func46 nm_46
@[simp] theorem pol_46 : ep.pol 46 = 0 := rfl
@[simp] theorem vms_46 : ep.vms 46 = true := rfl
theorem nm_47 : (Tryd.f47.name == "runtime.NumGoroutine") = false := by kernel_rfl
theorem fn_47 : ep.F 47 = some Tryd.f47 := by
  unfold ep
  exact epOf_F Tryd.func47 nm_47
@[simp] theorem pol_47 : ep.pol 47 = 0 := rfl
@[simp] theorem vms_47 : ep.vms 47 = true := rfl
theorem nm_48 : (Tryd.f48.name == "runtime.NumGoroutine") = false := by kernel_rfl
theorem fn_48 : ep.F 48 = some Tryd.f48 := by
  unfold ep
  exact epOf_F Tryd.func48 nm_48
@[simp] theorem pol_48 : ep.pol 48 = 0 := rfl
@[simp] theorem vms_48 : ep.vms 48 = true := rfl
theorem nm_49 : (Tryd.f49.name == "runtime.NumGoroutine") = false := by kernel_rfl
theorem fn_49 : ep.F 49 = some Tryd.f49 := by
  unfold ep
  exact epOf_F Tryd.func49 nm_49
@[simp] theorem pol_49 : ep.pol 49 = 0 := rfl
@[simp] theorem vms_49 : ep.vms 49 = true := rfl
theorem nm_50 : (Tryd.f50.name == "runtime.NumGoroutine") = false := by kernel_rfl
theorem fn_50 : ep.F 50 = some Tryd.f50 := by
  unfold ep
  exact epOf_F Tryd.func50 nm_50
@[simp] theorem pol_50 : ep.pol 50 = 2 := rfl
@[simp] theorem vms_50 : ep.vms 50 = true := rfl
theorem nm_51 : (Tryd.f51.name == "runtime.NumGoroutine") = false := by kernel_rfl
theorem fn_51 : ep.F 51 = some Tryd.f51 := by
  unfold ep
  exact epOf_F Tryd.func51 nm_51
@[simp] theorem pol_51 : ep.pol 51 = 0 := rfl
@[simp] theorem vms_51 : ep.vms 51 = true := rfl
theorem nm_52 : (Tryd.f52.name == "runtime.NumGoroutine") = false := by kernel_rfl
theorem fn_52 : ep.F 52 = some Tryd.f52 := by
  unfold ep
  exact epOf_F Tryd.func52 nm_52
@[simp] theorem pol_52 : ep.pol 52 = 0 := rfl
@[simp] theorem vms_52 : ep.vms 52 = true := rfl
theorem nm_53 : (Tryd.f53.name == "runtime.NumGoroutine") = false := by kernel_rfl
theorem fn_53 : ep.F 53 = some Tryd.f53 := by
  unfold ep
  exact epOf_F Tryd.func53 nm_53
@[simp] theorem pol_53 : ep.pol 53 = 0 := rfl
@[simp] theorem vms_53 : ep.vms 53 = true := rfl
theorem nm_54 : (Tryd.f54.name == "runtime.NumGoroutine") = false := by kernel_rfl
theorem fn_54 : ep.F 54 = some Tryd.f54 := by
  unfold ep
  exact epOf_F Tryd.func54 nm_54
@[simp] theorem pol_54 : ep.pol 54 = 2 := rfl
@[simp] theorem vms_54 : ep.vms 54 = false := rfl
theorem nm_55 : (Tryd.f55.name == "runtime.NumGoroutine") = false := by kernel_rfl
theorem fn_55 : ep.F 55 = some Tryd.f55 := by
  unfold ep
  exact epOf_F Tryd.func55 nm_55
@[simp] theorem pol_55 : ep.pol 55 = 0 := rfl
@[simp] theorem vms_55 : ep.vms 55 = true := rfl
theorem nm_56 : (Tryd.f56.name == "runtime.NumGoroutine") = false := by kernel_rfl
theorem fn_56 : ep.F 56 = some Tryd.f56 := by
  unfold ep
  exact epOf_F Tryd.func56 nm_56
@[simp] theorem pol_56 : ep.pol 56 = 0 := rfl
@[simp] theorem vms_56 : ep.vms 56 = true := rfl
theorem nm_57 : (Tryd.f57.name == "runtime.NumGoroutine") = false := by kernel_rfl
theorem fn_57 : ep.F 57 = some Tryd.f57 := by
  unfold ep
  exact epOf_F Tryd.func57 nm_57
@[simp] theorem pol_57 : ep.pol 57 = 0 := rfl
@[simp] theorem vms_57 : ep.vms 57 = true := rfl
theorem nm_58 : (Tryd.f58.name == "runtime.NumGoroutine") = false := by kernel_rfl
theorem fn_58 : ep.F 58 = some Tryd.f58 := by
  unfold ep
  exact epOf_F Tryd.func58 nm_58
@[simp] theorem pol_58 : ep.pol 58 = 0 := rfl
@[simp] theorem vms_58 : ep.vms 58 = true := rfl
theorem nm_59 : (Tryd.f59.name == "runtime.NumGoroutine") = false := by kernel_rfl
theorem fn_59 : ep.F 59 = some Tryd.f59 := by
  unfold ep
  exact epOf_F Tryd.func59 nm_59
@[simp] theorem pol_59 : ep.pol 59 = 0 := rfl
@[simp] theorem vms_59 : ep.vms 59 = true := rfl
theorem nm_60 : (Tryd.f60.name == "runtime.NumGoroutine") = false := by kernel_rfl
theorem fn_60 : ep.F 60 = some Tryd.f60 := by
  unfold ep
  exact epOf_F Tryd.func60 nm_60
@[simp] theorem pol_60 : ep.pol 60 = 0 := rfl
@[simp] theorem vms_60 : ep.vms 60 = true := rfl
theorem nm_61 : (Tryd.f61.name == "runtime.NumGoroutine") = false := by kernel_rfl
theorem fn_61 : ep.F 61 = some Tryd.f61 := by
  unfold ep
  exact epOf_F Tryd.func61 nm_61
@[simp] theorem pol_61 : ep.pol 61 = 0 := rfl
@[simp] theorem vms_61 : ep.vms 61 = true := rfl
theorem nm_62 : (Tryd.f62.name == "runtime.NumGoroutine") = false := by kernel_rfl
theorem fn_62 : ep.F 62 = some Tryd.f62 := by
  unfold ep
  exact epOf_F Tryd.func62 nm_62
@[simp] theorem pol_62 : ep.pol 62 = 0 := rfl
@[simp] theorem vms_62 : ep.vms 62 = true := rfl
theorem nm_63 : (Tryd.f63.name == "runtime.NumGoroutine") = false := by kernel_rfl
theorem fn_63 : ep.F 63 = some Tryd.f63 := by
  unfold ep
  exact epOf_F Tryd.func63 nm_63
@[simp] theorem pol_63 : ep.pol 63 = 0 := rfl
@[simp] theorem vms_63 : ep.vms 63 = true := rfl
theorem nm_64 : (Tryd.f64.name == "runtime.NumGoroutine") = false := by kernel_rfl
theorem fn_64 : ep.F 64 = some Tryd.f64 := by
  unfold ep
  exact epOf_F Tryd.func64 nm_64
@[simp] theorem pol_64 : ep.pol 64 = 0 := rfl
@[simp] theorem vms_64 : ep.vms 64 = true := rfl
theorem nm_65 : (Tryd.f65.name == "runtime.NumGoroutine") = false := by kernel_rfl
theorem fn_65 : ep.F 65 = some Tryd.f65 := by
  unfold ep
  exact epOf_F Tryd.func65 nm_65
@[simp] theorem pol_65 : ep.pol 65 = 0 := rfl
@[simp] theorem vms_65 : ep.vms 65 = true := rfl
theorem nm_66 : (Tryd.f66.name == "runtime.NumGoroutine") = false := by kernel_rfl
theorem fn_66 : ep.F 66 = some Tryd.f66 := by
  unfold ep
  exact epOf_F Tryd.func66 nm_66
@[simp] theorem pol_66 : ep.pol 66 = 0 := rfl
@[simp] theorem vms_66 : ep.vms 66 = true := rfl
theorem nm_67 : (Tryd.f67.name == "runtime.NumGoroutine") = false := by kernel_rfl
theorem fn_67 : ep.F 67 = some Tryd.f67 := by
  unfold ep
  exact epOf_F Tryd.func67 nm_67
@[simp] theorem pol_67 : ep.pol 67 = 0 := rfl
@[simp] theorem vms_67 : ep.vms 67 = true := rfl
theorem nm_68 : (Tryd.f68.name == "runtime.NumGoroutine") = false := by kernel_rfl
theorem fn_68 : ep.F 68 = some Tryd.f68 := by
  unfold ep
  exact epOf_F Tryd.func68 nm_68
@[simp] theorem pol_68 : ep.pol 68 = 0 := rfl
@[simp] theorem vms_68 : ep.vms 68 = true := rfl
theorem nm_69 : (Tryd.f69.name == "runtime.NumGoroutine") = false := by kernel_rfl
theorem fn_69 : ep.F 69 = some Tryd.f69 := by
  unfold ep
  exact epOf_F Tryd.func69 nm_69
@[simp] theorem pol_69 : ep.pol 69 = 0 := rfl
@[simp] theorem vms_69 : ep.vms 69 = true := rfl
theorem nm_70 : (Tryd.f70.name == "runtime.NumGoroutine") = false := by kernel_rfl
theorem fn_70 : ep.F 70 = some Tryd.f70 := by
  unfold ep
  exact epOf_F Tryd.func70 nm_70
@[simp] theorem pol_70 : ep.pol 70 = 0 := rfl
@[simp] theorem vms_70 : ep.vms 70 = true := rfl
theorem nm_71 : (Tryd.f71.name == "runtime.NumGoroutine") = false := by kernel_rfl
theorem fn_71 : ep.F 71 = some Tryd.f71 := by
  unfold ep
  exact epOf_F Tryd.func71 nm_71
@[simp] theorem pol_71 : ep.pol 71 = 0 := rfl
@[simp] theorem vms_71 : ep.vms 71 = true := rfl
theorem nm_72 : (Tryd.f72.name == "runtime.NumGoroutine") = false := by kernel_rfl
theorem fn_72 : ep.F 72 = some Tryd.f72 := by
  unfold ep
  exact epOf_F Tryd.func72 nm_72
@[simp] theorem pol_72 : ep.pol 72 = 0 := rfl
@[simp] theorem vms_72 : ep.vms 72 = true := rfl
theorem nm_73 : (Tryd.f73.name == "runtime.NumGoroutine") = false := by kernel_rfl
theorem fn_73 : ep.F 73 = some Tryd.f73 := by
  unfold ep
  exact epOf_F Tryd.func73 nm_73
@[simp] theorem pol_73 : ep.pol 73 = 0 := rfl
@[simp] theorem vms_73 : ep.vms 73 = true := rfl
theorem nm_74 : (Tryd.f74.name == "runtime.NumGoroutine") = false := by kernel_rfl
theorem fn_74 : ep.F 74 = some Tryd.f74 := by
  unfold ep
  exact epOf_F Tryd.func74 nm_74
@[simp] theorem pol_74 : ep.pol 74 = 0 := rfl
@[simp] theorem vms_74 : ep.vms 74 = true := rfl
theorem nm_75 : (Tryd.f75.name == "runtime.NumGoroutine") = false := by kernel_rfl
theorem fn_75 : ep.F 75 = some Tryd.f75 := by
  unfold ep
  exact epOf_F Tryd.func75 nm_75
@[simp] theorem pol_75 : ep.pol 75 = 2 := rfl
@[simp] theorem vms_75 : ep.vms 75 = true := rfl
theorem nm_76 : (Tryd.f76.name == "runtime.NumGoroutine") = false := by kernel_rfl
theorem fn_76 : ep.F 76 = some Tryd.f76 := by
  unfold ep
  exact epOf_F Tryd.func76 nm_76
@[simp] theorem pol_76 : ep.pol 76 = 0 := rfl
@[simp] theorem vms_76 : ep.vms 76 = true := rfl
theorem nm_77 : (Tryd.f77.name == "runtime.NumGoroutine") = false := by kernel_rfl
theorem fn_77 : ep.F 77 = some Tryd.f77 := by
  unfold ep
  exact epOf_F Tryd.func77 nm_77
@[simp] theorem pol_77 : ep.pol 77 = 0 := rfl
@[simp] theorem vms_77 : ep.vms 77 = true := rfl
theorem nm_78 : (Tryd.f78.name == "runtime.NumGoroutine") = false := by kernel_rfl
theorem fn_78 : ep.F 78 = some Tryd.f78 := by
  unfold ep
  exact epOf_F Tryd.func78 nm_78
@[simp] theorem pol_78 : ep.pol 78 = 0 := rfl
@[simp] theorem vms_78 : ep.vms 78 = true := rfl
theorem nm_79 : (Tryd.f79.name == "runtime.NumGoroutine") = false := by kernel_rfl
theorem fn_79 : ep.F 79 = some Tryd.f79 := by
  unfold ep
  exact epOf_F Tryd.func79 nm_79
@[simp] theorem pol_79 : ep.pol 79 = 0 := rfl
@[simp] theorem vms_79 : ep.vms 79 = true := rfl
theorem nm_80 : (Tryd.f80.name == "runtime.NumGoroutine") = false := by kernel_rfl
theorem fn_80 : ep.F 80 = some Tryd.f80 := by
  unfold ep
  exact epOf_F Tryd.func80 nm_80
@[simp] theorem pol_80 : ep.pol 80 = 0 := rfl
@[simp] theorem vms_80 : ep.vms 80 = true := rfl
theorem nm_81 : (Tryd.f81.name == "runtime.NumGoroutine") = false := by kernel_rfl
theorem fn_81 : ep.F 81 = some Tryd.f81 := by
  unfold ep
  exact epOf_F Tryd.func81 nm_81
@[simp] theorem pol_81 : ep.pol 81 = 0 := rfl
@[simp] theorem vms_81 : ep.vms 81 = true := rfl
theorem nm_82 : (Tryd.f82.name == "runtime.NumGoroutine") = false := by kernel_rfl
theorem fn_82 : ep.F 82 = some Tryd.f82 := by
  unfold ep
  exact epOf_F Tryd.func82 nm_82
@[simp] theorem pol_82 : ep.pol 82 = 0 := rfl
@[simp] theorem vms_82 : ep.vms 82 = true := rfl
theorem nm_83 : (Tryd.f83.name == "runtime.NumGoroutine") = false := by kernel_rfl
theorem fn_83 : ep.F 83 = some Tryd.f83 := by
  unfold ep
  exact epOf_F Tryd.func83 nm_83
@[simp] theorem pol_83 : ep.pol 83 = 0 := rfl
@[simp] theorem vms_83 : ep.vms 83 = true := rfl
theorem nm_84 : (Tryd.f84.name == "runtime.NumGoroutine") = false := by kernel_rfl
theorem fn_84 : ep.F 84 = some Tryd.f84 := by
  unfold ep
  exact epOf_F Tryd.func84 nm_84
@[simp] theorem pol_84 : ep.pol 84 = 0 := rfl
@[simp] theorem vms_84 : ep.vms 84 = true := rfl
theorem nm_85 : (Tryd.f85.name == "runtime.NumGoroutine") = false := by kernel_rfl
theorem fn_85 : ep.F 85 = some Tryd.f85 := by
  unfold ep
  exact epOf_F Tryd.func85 nm_85
@[simp] theorem pol_85 : ep.pol 85 = 0 := rfl
@[simp] theorem vms_85 : ep.vms 85 = true := rfl
theorem nm_86 : (Tryd.f86.name == "runtime.NumGoroutine") = false := by kernel_rfl
theorem fn_86 : ep.F 86 = some Tryd.f86 := by
  unfold ep
  exact epOf_F Tryd.func86 nm_86
@[simp] theorem pol_86 : ep.pol 86 = 0 := rfl
@[simp] theorem vms_86 : ep.vms 86 = true := rfl
theorem nm_87 : (Tryd.f87.name == "runtime.NumGoroutine") = false := by kernel_rfl
theorem fn_87 : ep.F 87 = some Tryd.f87 := by
  unfold ep
  exact epOf_F Tryd.func87 nm_87
@[simp] theorem pol_87 : ep.pol 87 = 0 := rfl
@[simp] theorem vms_87 : ep.vms 87 = true := rfl
theorem nm_88 : (Tryd.f88.name == "runtime.NumGoroutine") = false := by kernel_rfl
theorem fn_88 : ep.F 88 = some Tryd.f88 := by
  unfold ep
  exact epOf_F Tryd.func88 nm_88
@[simp] theorem pol_88 : ep.pol 88 = 0 := rfl
@[simp] theorem vms_88 : ep.vms 88 = true := rfl
theorem nm_89 : (Tryd.f89.name == "runtime.NumGoroutine") = false := by kernel_rfl
theorem fn_89 : ep.F 89 = some Tryd.f89 := by
  unfold ep
  exact epOf_F Tryd.func89 nm_89
@[simp] theorem pol_89 : ep.pol 89 = 0 := rfl
@[simp] theorem vms_89 : ep.vms 89 = true := rfl
theorem nm_90 : (Tryd.f90.name == "runtime.NumGoroutine") = false := by kernel_rfl
theorem fn_90 : ep.F 90 = some Tryd.f90 := by
  unfold ep
  exact epOf_F Tryd.func90 nm_90
@[simp] theorem pol_90 : ep.pol 90 = 0 := rfl
@[simp] theorem vms_90 : ep.vms 90 = true := rfl
theorem nm_91 : (Tryd.f91.name == "runtime.NumGoroutine") = false := by kernel_rfl
theorem fn_91 : ep.F 91 = some Tryd.f91 := by
  unfold ep
  exact epOf_F Tryd.func91 nm_91
@[simp] theorem pol_91 : ep.pol 91 = 0 := rfl
@[simp] theorem vms_91 : ep.vms 91 = true := rfl
theorem nm_92 : (Tryd.f92.name == "runtime.NumGoroutine") = false := by kernel_rfl
theorem fn_92 : ep.F 92 = some Tryd.f92 := by
  unfold ep
  exact epOf_F Tryd.func92 nm_92
@[simp] theorem pol_92 : ep.pol 92 = 0 := rfl
@[simp] theorem vms_92 : ep.vms 92 = true := rfl
theorem nm_93 : (Tryd.f93.name == "runtime.NumGoroutine") = false := by kernel_rfl
theorem fn_93 : ep.F 93 = some Tryd.f93 := by
  unfold ep
  exact epOf_F Tryd.func93 nm_93
@[simp] theorem pol_93 : ep.pol 93 = 0 := rfl
@[simp] theorem vms_93 : ep.vms 93 = true := rfl
theorem nm_94 : (Tryd.f94.name == "runtime.NumGoroutine") = false := by kernel_rfl
theorem fn_94 : ep.F 94 = some Tryd.f94 := by
  unfold ep
  exact epOf_F Tryd.func94 nm_94
@[simp] theorem pol_94 : ep.pol 94 = 0 := rfl
@[simp] theorem vms_94 : ep.vms 94 = true := rfl
theorem nm_95 : (Tryd.f95.name == "runtime.NumGoroutine") = false := by kernel_rfl
theorem fn_95 : ep.F 95 = some Tryd.f95 := by
  unfold ep
  exact epOf_F Tryd.func95 nm_95
@[simp] theorem pol_95 : ep.pol 95 = 0 := rfl
@[simp] theorem vms_95 : ep.vms 95 = true := rfl
theorem nm_96 : (Tryd.f96.name == "runtime.NumGoroutine") = false := by kernel_rfl
theorem fn_96 : ep.F 96 = some Tryd.f96 := by
  unfold ep
  exact epOf_F Tryd.func96 nm_96
@[simp] theorem pol_96 : ep.pol 96 = 0 := rfl
@[simp] theorem vms_96 : ep.vms 96 = true := rfl
theorem nm_97 : (Tryd.f97.name == "runtime.NumGoroutine") = false := by kernel_rfl
theorem fn_97 : ep.F 97 = some Tryd.f97 := by
  unfold ep
  exact epOf_F Tryd.func97 nm_97
@[simp] theorem pol_97 : ep.pol 97 = 0 := rfl
@[simp] theorem vms_97 : ep.vms 97 = true := rfl
theorem nm_98 : (Tryd.f98.name == "runtime.NumGoroutine") = false := by kernel_rfl
theorem fn_98 : ep.F 98 = some Tryd.f98 := by
  unfold ep
  exact epOf_F Tryd.func98 nm_98
@[simp] theorem pol_98 : ep.pol 98 = 0 := rfl
@[simp] theorem vms_98 : ep.vms 98 = true := rfl
theorem nm_99 : (Tryd.f99.name == "runtime.NumGoroutine") = false := by kernel_rfl
theorem fn_99 : ep.F 99 = some Tryd.f99 := by
  unfold ep
  exact epOf_F Tryd.func99 nm_99
@[simp] theorem pol_99 : ep.pol 99 = 0 := rfl
@[simp] theorem vms_99 : ep.vms 99 = true := rfl
theorem nm_100 : (Tryd.f100.name == "runtime.NumGoroutine") = false := by kernel_rfl
theorem fn_100 : ep.F 100 = some Tryd.f100 := by
  unfold ep
  exact epOf_F Tryd.func100 nm_100
@[simp] theorem pol_100 : ep.pol 100 = 0 := rfl
@[simp] theorem vms_100 : ep.vms 100 = true := rfl
theorem nm_101 : (Tryd.f101.name == "runtime.NumGoroutine") = false := by kernel_rfl
theorem fn_101 : ep.F 101 = some Tryd.f101 := by
  unfold ep
  exact epOf_F Tryd.func101 nm_101
@[simp] theorem pol_101 : ep.pol 101 = 0 := rfl
@[simp] theorem vms_101 : ep.vms 101 = true := rfl
theorem nm_102 : (Tryd.f102.name == "runtime.NumGoroutine") = false := by kernel_rfl
theorem fn_102 : ep.F 102 = some Tryd.f102 := by
  unfold ep
  exact epOf_F Tryd.func102 nm_102
@[simp] theorem pol_102 : ep.pol 102 = 0 := rfl
@[simp] theorem vms_102 : ep.vms 102 = true := rfl
theorem nm_103 : (Tryd.f103.name == "runtime.NumGoroutine") = false := by kernel_rfl
theorem fn_103 : ep.F 103 = some Tryd.f103 := by
  unfold ep
  exact epOf_F Tryd.func103 nm_103
@[simp] theorem pol_103 : ep.pol 103 = 0 := rfl
@[simp] theorem vms_103 : ep.vms 103 = true := rfl
theorem nm_104 : (Tryd.f104.name == "runtime.NumGoroutine") = false := by kernel_rfl
theorem fn_104 : ep.F 104 = some Tryd.f104 := by
  unfold ep
  exact epOf_F Tryd.func104 nm_104
@[simp] theorem pol_104 : ep.pol 104 = 0 := rfl
@[simp] theorem vms_104 : ep.vms 104 = true := rfl
theorem nm_105 : (Tryd.f105.name == "runtime.NumGoroutine") = false := by kernel_rfl
theorem fn_105 : ep.F 105 = some Tryd.f105 := by
  unfold ep
  exact epOf_F Tryd.func105 nm_105
@[simp] theorem pol_105 : ep.pol 105 = 0 := rfl
@[simp] theorem vms_105 : ep.vms 105 = true := rfl
theorem nm_106 : (Tryd.f106.name == "runtime.NumGoroutine") = false := by kernel_rfl
theorem fn_106 : ep.F 106 = some Tryd.f106 := by
  unfold ep
  exact epOf_F Tryd.func106 nm_106
@[simp] theorem pol_106 : ep.pol 106 = 0 := rfl
@[simp] theorem vms_106 : ep.vms 106 = true := rfl
theorem nm_107 : (Tryd.f107.name == "runtime.NumGoroutine") = false := by kernel_rfl
theorem fn_107 : ep.F 107 = some Tryd.f107 := by
  unfold ep
  exact epOf_F Tryd.func107 nm_107
@[simp] theorem pol_107 : ep.pol 107 = 0 := rfl
@[simp] theorem vms_107 : ep.vms 107 = true := rfl
theorem nm_108 : (Tryd.f108.name == "runtime.NumGoroutine") = false := by kernel_rfl
theorem fn_108 : ep.F 108 = some Tryd.f108 := by
  unfold ep
  exact epOf_F Tryd.func108 nm_108
@[simp] theorem pol_108 : ep.pol 108 = 0 := rfl
@[simp] theorem vms_108 : ep.vms 108 = true := rfl
theorem nm_109 : (Tryd.f109.name == "runtime.NumGoroutine") = false := by kernel_rfl
theorem fn_109 : ep.F 109 = some Tryd.f109 := by
  unfold ep
  exact epOf_F Tryd.func109 nm_109
@[simp] theorem pol_109 : ep.pol 109 = 0 := rfl
@[simp] theorem vms_109 : ep.vms 109 = true := rfl
theorem nm_110 : (Tryd.f110.name == "runtime.NumGoroutine") = false := by kernel_rfl
theorem fn_110 : ep.F 110 = some Tryd.f110 := by
  unfold ep
  exact epOf_F Tryd.func110 nm_110
@[simp] theorem pol_110 : ep.pol 110 = 0 := rfl
@[simp] theorem vms_110 : ep.vms 110 = true := rfl
theorem nm_111 : (Tryd.f111.name == "runtime.NumGoroutine") = false := by kernel_rfl
theorem fn_111 : ep.F 111 = some Tryd.f111 := by
  unfold ep
  exact epOf_F Tryd.func111 nm_111
@[simp] theorem pol_111 : ep.pol 111 = 0 := rfl
@[simp] theorem vms_111 : ep.vms 111 = true := rfl
theorem nm_112 : (Tryd.f112.name == "runtime.NumGoroutine") = false := by kernel_rfl
theorem fn_112 : ep.F 112 = some Tryd.f112 := by
  unfold ep
  exact epOf_F Tryd.func112 nm_112
@[simp] theorem pol_112 : ep.pol 112 = 0 := rfl
@[simp] theorem vms_112 : ep.vms 112 = true := rfl
theorem nm_113 : (Tryd.f113.name == "runtime.NumGoroutine") = false := by kernel_rfl
theorem fn_113 : ep.F 113 = some Tryd.f113 := by
  unfold ep
  exact epOf_F Tryd.func113 nm_113
@[simp] theorem pol_113 : ep.pol 113 = 0 := rfl
@[simp] theorem vms_113 : ep.vms 113 = true := rfl
theorem nm_114 : (Tryd.f114.name == "runtime.NumGoroutine") = false := by kernel_rfl
theorem fn_114 : ep.F 114 = some Tryd.f114 := by
  unfold ep
  exact epOf_F Tryd.func114 nm_114
@[simp] theorem pol_114 : ep.pol 114 = 0 := rfl
@[simp] theorem vms_114 : ep.vms 114 = true := rfl
theorem nm_115 : (Tryd.f115.name == "runtime.NumGoroutine") = false := by kernel_rfl
theorem fn_115 : ep.F 115 = some Tryd.f115 := by
  unfold ep
  exact epOf_F Tryd.func115 nm_115
@[simp] theorem pol_115 : ep.pol 115 = 0 := rfl
@[simp] theorem vms_115 : ep.vms 115 = true := rfl
theorem nm_116 : (Tryd.f116.name == "runtime.NumGoroutine") = false := by kernel_rfl
theorem fn_116 : ep.F 116 = some Tryd.f116 := by
  unfold ep
  exact epOf_F Tryd.func116 nm_116
@[simp] theorem pol_116 : ep.pol 116 = 0 := rfl
@[simp] theorem vms_116 : ep.vms 116 = true := rfl
theorem nm_117 : (Tryd.f117.name == "runtime.NumGoroutine") = false := by kernel_rfl
theorem fn_117 : ep.F 117 = some Tryd.f117 := by
  unfold ep
  exact epOf_F Tryd.func117 nm_117
@[simp] theorem pol_117 : ep.pol 117 = 0 := rfl
@[simp] theorem vms_117 : ep.vms 117 = true := rfl
theorem nm_118 : (Tryd.f118.name == "runtime.NumGoroutine") = false := by kernel_rfl
theorem fn_118 : ep.F 118 = some Tryd.f118 := by
  unfold ep
  exact epOf_F Tryd.func118 nm_118
@[simp] theorem pol_118 : ep.pol 118 = 0 := rfl
@[simp] theorem vms_118 : ep.vms 118 = true := rfl
theorem nm_119 : (Tryd.f119.name == "runtime.NumGoroutine") = false := by kernel_rfl
theorem fn_119 : ep.F 119 = some Tryd.f119 := by
  unfold ep
  exact epOf_F Tryd.func119 nm_119
@[simp] theorem pol_119 : ep.pol 119 = 0 := rfl
@[simp] theorem vms_119 : ep.vms 119 = true := rfl
theorem nm_120 : (Tryd.f120.name == "runtime.NumGoroutine") = false := by kernel_rfl
theorem fn_120 : ep.F 120 = some Tryd.f120 := by
  unfold ep
  exact epOf_F Tryd.func120 nm_120
@[simp] theorem pol_120 : ep.pol 120 = 0 := rfl
@[simp] theorem vms_120 : ep.vms 120 = true := rfl
theorem nm_121 : (Tryd.f121.name == "runtime.NumGoroutine") = false := by kernel_rfl
theorem fn_121 : ep.F 121 = some Tryd.f121 := by
  unfold ep
  exact epOf_F Tryd.func121 nm_121
@[simp] theorem pol_121 : ep.pol 121 = 0 := rfl
@[simp] theorem vms_121 : ep.vms 121 = true := rfl
theorem nm_122 : (Tryd.f122.name == "runtime.NumGoroutine") = false := by kernel_rfl
theorem fn_122 : ep.F 122 = some Tryd.f122 := by
  unfold ep
  exact epOf_F Tryd.func122 nm_122
@[simp] theorem pol_122 : ep.pol 122 = 0 := rfl
@[simp] theorem vms_122 : ep.vms 122 = true := rfl
theorem nm_123 : (Tryd.f123.name == "runtime.NumGoroutine") = false := by kernel_rfl
theorem fn_123 : ep.F 123 = some Tryd.f123 := by
  unfold ep
  exact epOf_F Tryd.func123 nm_123
@[simp] theorem pol_123 : ep.pol 123 = 0 := rfl
@[simp] theorem vms_123 : ep.vms 123 = true := rfl
theorem nm_124 : (Tryd.f124.name == "runtime.NumGoroutine") = false := by kernel_rfl
theorem fn_124 : ep.F 124 = some Tryd.f124 := by
  unfold ep
  exact epOf_F Tryd.func124 nm_124
@[simp] theorem pol_124 : ep.pol 124 = 0 := rfl
@[simp] theorem vms_124 : ep.vms 124 = true := rfl
theorem nm_125 : (Tryd.f125.name == "runtime.NumGoroutine") = false := by kernel_rfl
theorem fn_125 : ep.F 125 = some Tryd.f125 := by
  unfold ep
  exact epOf_F Tryd.func125 nm_125
@[simp] theorem pol_125 : ep.pol 125 = 0 := rfl
@[simp] theorem vms_125 : ep.vms 125 = true := rfl
theorem nm_126 : (Tryd.f126.name == "runtime.NumGoroutine") = false := by kernel_rfl
theorem fn_126 : ep.F 126 = some Tryd.f126 := by
  unfold ep
  exact epOf_F Tryd.func126 nm_126
@[simp] theorem pol_126 : ep.pol 126 = 0 := rfl
@[simp] theorem vms_126 : ep.vms 126 = true := rfl
theorem nm_127 : (Tryd.f127.name == "runtime.NumGoroutine") = false := by kernel_rfl
theorem fn_127 : ep.F 127 = some Tryd.f127 := by
  unfold ep
  exact epOf_F Tryd.func127 nm_127
@[simp] theorem pol_127 : ep.pol 127 = 0 := rfl
@[simp] theorem vms_127 : ep.vms 127 = true := rfl
theorem nm_147 : (Tryd.f147.name == "runtime.NumGoroutine") = false := by kernel_rfl
theorem fn_147 : ep.F 147 = some Tryd.f147 := by
  unfold ep
  exact epOf_F Tryd.func147 nm_147
@[simp] theorem pol_147 : ep.pol 147 = 0 := rfl
@[simp] theorem vms_147 : ep.vms 147 = true := rfl
end Go.Ev
end

/- What small functions of lex, slices, cmp compute. -/
section
namespace Go.Ev
open Go Go.Proofs
set_option linter.unusedSimpArgs false
set_option linter.unusedVariables false
set_option maxRecDepth 100000

def isSmall (c : Int) : Bool := decide (97 ≤ c) && decide (c ≤ 122)
def isDigit (c : Int) : Bool := decide (48 ≤ c) && decide (c ≤ 57)

theorem small_ok (c : Int) (H : Heap) : CallR ep dQ 103 [.int .u8 c] H (.bool (isSmall c)) H [] := by
  refine CallW.is (CallW.body rfl fn_103 (by unfold Tryd.f103; rfl) (by rfl) (by unfold Tryd.f103; simp) ?_)
  unfold Tryd.f103
  simp (config := { contextual := true, maxSteps := 1000000 }) [-Int.not_le, -Int.not_lt, -Nat.not_le, -Nat.not_lt, isSmall]
theorem digit_ok (c : Int) (H : Heap) : CallR ep dQ 104 [.int .u8 c] H (.bool (isDigit c)) H [] := by
  refine CallW.is (CallW.body rfl fn_104 (by unfold Tryd.f104; rfl) (by rfl) (by unfold Tryd.f104; simp) ?_)
  unfold Tryd.f104
  simp (config := { contextual := true, maxSteps := 1000000 }) [-Int.not_le, -Int.not_lt, -Nat.not_le, -Nat.not_lt, isDigit]
theorem score_ok (c : Int) (H : Heap) : CallR ep dQ 105 [.int .u8 c] H (.bool (c == 95)) H [] := by
  refine CallW.is (CallW.body rfl fn_105 (by unfold Tryd.f105; rfl) (by rfl) (by unfold Tryd.f105; simp) ?_)
  unfold Tryd.f105
  simp (config := { contextual := true, maxSteps := 1000000 }) [-Int.not_le, -Int.not_lt, -Nat.not_le, -Nat.not_lt]
theorem isNaN_ok (s : Str) (H : Heap) : CallR ep dQ 100 [.str s] H (.bool false) H [] := by
  refine CallW.is (CallW.body rfl fn_100 (by unfold Tryd.f100; rfl) (by rfl) (by unfold Tryd.f100; simp) ?_)
  unfold Tryd.f100
  simp (config := { contextual := true, maxSteps := 1000000 }) [-Int.not_le, -Int.not_lt, -Nat.not_le, -Nat.not_lt]
theorem isNaN2_ok (s : Str) (H : Heap) : CallR ep dQ 96 [.str s] H (.bool false) H [] := by
  refine CallW.is (CallW.body rfl fn_96 (by unfold Tryd.f96; rfl) (by rfl) (by unfold Tryd.f96; simp) ?_)
  unfold Tryd.f96
  simp (config := { contextual := true, maxSteps := 1000000 }) [-Int.not_le, -Int.not_lt, -Nat.not_le, -Nat.not_lt]
theorem less_ok (s t : Str) (H : Heap) : CallR ep dQ 95 [.str s, .str t] H (.bool (Op.bytesLess s t)) H [] := by
  refine CallW.is (CallW.body rfl fn_95 (by unfold Tryd.f95; rfl) (by rfl) (by unfold Tryd.f95; simp) ?_)
  unfold Tryd.f95
  simp (config := { contextual := true, maxSteps := 1000000 }) [-Int.not_le, -Int.not_lt, -Nat.not_le, -Nat.not_lt, (isNaN_ok _ _).val]
theorem prefix_take (s t : Str) : (t.length ≤ s.length → (s.take t.length == t) = t.isPrefixOf s) ∧ (¬ t.length ≤ s.length → t.isPrefixOf s = false) := by
  refine ⟨fun h => ?_, fun h => ?_⟩
  · rw [Bool.eq_iff_iff, List.isPrefixOf_iff_prefix, beq_iff_eq, List.prefix_iff_eq_take]
    exact ⟨fun h => h.symm, fun h => h.symm⟩
  · rw [Bool.eq_false_iff]
    intro hp
    rw [List.isPrefixOf_iff_prefix] at hp
    exact h hp.length_le
theorem hasPrefix_ok (s t : Str) (H : Heap) : CallR ep dQ 113 [.str s, .str t] H (.bool (t.isPrefixOf s)) H [] := by
  refine CallW.is (CallW.body rfl fn_113 (by unfold Tryd.f113; rfl) (by rfl) (by unfold Tryd.f113; simp) ?_)
  unfold Tryd.f113
  simp (config := { contextual := true, maxSteps := 1000000 }) [-Int.not_le, -Int.not_lt, -Nat.not_le, -Nat.not_lt]
  by_cases h : t.length ≤ s.length
  · simp only [h, decide_true, Bool.true_and, (prefix_take s t).1 h]
  · simp only [h, decide_false, Bool.false_and, (prefix_take s t).2 h]
theorem less_self : ∀ t : Str, Op.bytesLess t t = false
  | [] => rfl
  | a :: t => by simp [Op.bytesLess, less_self t]
theorem compare_ok (s t : Str) (H : Heap) : CallR ep dQ 79 [.str s, .str t] H (.int .i64 (if Op.bytesLess s t then -1 else if s = t then 0 else 1)) H [] := by
  refine CallW.is (CallW.body rfl fn_79 (by unfold Tryd.f79; rfl) (by rfl) (by unfold Tryd.f79; simp) ?_)
  unfold Tryd.f79
  simp (config := { contextual := true, maxSteps := 1000000 }) [-Int.not_le, -Int.not_lt, -Nat.not_le, -Nat.not_lt, (isNaN_ok _ _).val, less_self]
def cutPre (s t : Str) : Str × Bool := if t.isPrefixOf s then (s.drop t.length, true) else (s, false)
theorem cutPrefix0_ok (s t : Str) (H : Heap) : CallR ep dQ 97 [.str s, .str t] H (.tup [.str (cutPre s t).1, .bool (cutPre s t).2]) H [] := by
  refine CallW.is (CallW.body rfl fn_97 (by unfold Tryd.f97; rfl) (by rfl) (by unfold Tryd.f97; simp) ?_)
  unfold Tryd.f97
  simp (config := { contextual := true, maxSteps := 1000000 }) [-Int.not_le, -Int.not_lt, -Nat.not_le, -Nat.not_lt, (hasPrefix_ok _ _ _).val, cutPre, List.IsPrefix.length_le]
theorem cutPrefix_ok (s t : Str) (H : Heap) : CallR ep dQ 68 [.str s, .str t] H (.tup [.str (cutPre s t).1, .bool (cutPre s t).2]) H [] := by
  refine CallW.is (CallW.body rfl fn_68 (by unfold Tryd.f68; rfl) (by rfl) (by unfold Tryd.f68; simp) ?_)
  unfold Tryd.f68
  simp (config := { contextual := true, maxSteps := 1000000 }) [-Int.not_le, -Int.not_lt, -Nat.not_le, -Nat.not_lt, (cutPrefix0_ok _ _ _).val]

/-- Where the first is that fits; below 0: none. -/
def idx {α : Type} (p : α → Bool) (l : List α) : Int := match l.findIdx? p with
  | some i => i
  | none => -1
theorem idx_at {α : Type} {p : α → Bool} {l : List α} {i : Nat} (h : ∀ (j : Nat) (h : j < l.length), j < i → p l[j] = false) (hi : i < l.length) (hp : p l[i] = true) : idx p l = i := by
  have : l.findIdx? p = some i := by
    rw [List.findIdx?_eq_some_iff_getElem]
    exact ⟨hi, hp, fun j hj => by simpa using h j (by omega) hj⟩
  simp [idx, this]
theorem idx_none {α : Type} {p : α → Bool} {l : List α} (h : ∀ (j : Nat) (h : j < l.length), p l[j] = false) : idx p l = -1 := by
  have : l.findIdx? p = none := by
    rw [List.findIdx?_eq_none_iff]
    intro x hx
    obtain ⟨j, hj, rfl⟩ := List.mem_iff_getElem.1 hx
    exact h j hj
  simp [idx, this]
theorem idx_any {α : Type} (p : α → Bool) (l : List α) : decide (0 ≤ idx p l) = l.any p := by
  unfold idx
  cases h : l.findIdx? p with
  | none =>
    rw [List.findIdx?_eq_none_iff] at h
    simp
    exact h
  | some i =>
    rw [List.findIdx?_eq_some_iff_getElem] at h
    obtain ⟨hi, hp, _⟩ := h
    simp
    exact ⟨_, List.getElem_mem hi, hp⟩

theorem indexFuncI_ok (l : List Int) (k : Cap) (g : Nat) (a b : List EV) (p : Int → Bool) (H : Heap) (hp : ∀ x ∈ l, CallR ep dQ g (a ++ EV.int .i64 x :: b) H (.bool (p x)) H []) (hl : l.length < 2 ^ 62) :
    CallR ep dQ 92 [.fz (ints l) k, .fn g a b] H (.int .i64 (idx p l)) H [] := by
  refine CallW.is (CallW.body rfl fn_92 (by unfold Tryd.f92; rfl) (by rfl) (by unfold Tryd.f92; simp) ?_)
  unfold Tryd.f92
  simp (config := { contextual := true, maxSteps := 1000000 }) [-Int.not_le, -Int.not_lt, -Nat.not_le, -Nat.not_lt]
  refine LoopI.inv (fun i : Nat => [(0, .fz (ints l) k), (1, .fn g a b), (7, .int .i64 l.length), (8, .int .i64 i)]) (fun _ => H) (fun i W => W = [] ∧ i ≤ l.length ∧ ∀ (j : Nat) (h : j < l.length), j < i → p l[j] = false) (fun i => l.length - i) 0 (by simp) ?_
  rintro i W ⟨rfl, hi, hj⟩
  have hw := wrap_succ (i := i) (by omega)
  have hc := fun (h : i < l.length) => (hp l[i] (List.getElem_mem h)).val
  simp (config := { contextual := true, maxSteps := 1000000 }) [-Int.not_le, -Int.not_lt, -Nat.not_le, -Nat.not_lt, hc, hw]
  refine ⟨fun h => ⟨fun h1 => (idx_at hj h h1).symm, fun h1 => ⟨i + 1, by omega, ⟨h, fun j hjl hji => ?_⟩, by simp⟩⟩, fun h => (idx_none fun j hjl => hj j hjl (by omega)).symm⟩
  rcases Nat.lt_or_eq_of_le (Nat.le_of_lt_succ hji) with h2 | h2
  · exact hj j hjl h2
  · subst h2; exact h1
theorem containsFuncI_ok (l : List Int) (k : Cap) (g : Nat) (a b : List EV) (p : Int → Bool) (H : Heap) (hp : ∀ x ∈ l, CallR ep dQ g (a ++ EV.int .i64 x :: b) H (.bool (p x)) H []) (hl : l.length < 2 ^ 62) :
    CallR ep dQ 59 [.fz (ints l) k, .fn g a b] H (.bool (l.any p)) H [] := by
  refine CallW.is (CallW.body rfl fn_59 (by unfold Tryd.f59; rfl) (by rfl) (by unfold Tryd.f59; simp) ?_)
  unfold Tryd.f59
  simp (config := { contextual := true, maxSteps := 1000000 }) [-Int.not_le, -Int.not_lt, -Nat.not_le, -Nat.not_lt, (indexFuncI_ok l k g a b p H hp hl).val, idx_any]
theorem indexFuncS_ok (l : List Str) (k : Cap) (g : Nat) (a b : List EV) (p : Str → Bool) (H : Heap) (hp : ∀ x ∈ l, CallR ep dQ g (a ++ EV.str x :: b) H (.bool (p x)) H []) (hl : l.length < 2 ^ 62) :
    CallR ep dQ 101 [.fz (strs l) k, .fn g a b] H (.int .i64 (idx p l)) H [] := by
  refine CallW.is (CallW.body rfl fn_101 (by unfold Tryd.f101; rfl) (by rfl) (by unfold Tryd.f101; simp) ?_)
  unfold Tryd.f101
  simp (config := { contextual := true, maxSteps := 1000000 }) [-Int.not_le, -Int.not_lt, -Nat.not_le, -Nat.not_lt]
  refine LoopI.inv (fun i : Nat => [(0, .fz (strs l) k), (1, .fn g a b), (7, .int .i64 l.length), (8, .int .i64 i)]) (fun _ => H) (fun i W => W = [] ∧ i ≤ l.length ∧ ∀ (j : Nat) (h : j < l.length), j < i → p l[j] = false) (fun i => l.length - i) 0 (by simp) ?_
  rintro i W ⟨rfl, hi, hj⟩
  have hw := wrap_succ (i := i) (by omega)
  have hc := fun (h : i < l.length) => (hp l[i] (List.getElem_mem h)).val
  simp (config := { contextual := true, maxSteps := 1000000 }) [-Int.not_le, -Int.not_lt, -Nat.not_le, -Nat.not_lt, hc, hw]
  refine ⟨fun h => ⟨fun h1 => (idx_at hj h h1).symm, fun h1 => ⟨i + 1, by omega, ⟨h, fun j hjl hji => ?_⟩, by simp⟩⟩, fun h => (idx_none fun j hjl => hj j hjl (by omega)).symm⟩
  rcases Nat.lt_or_eq_of_le (Nat.le_of_lt_succ hji) with h2 | h2
  · exact hj j hjl h2
  · subst h2; exact h1
theorem containsFuncS_ok (l : List Str) (k : Cap) (g : Nat) (a b : List EV) (p : Str → Bool) (H : Heap) (hp : ∀ x ∈ l, CallR ep dQ g (a ++ EV.str x :: b) H (.bool (p x)) H []) (hl : l.length < 2 ^ 62) :
    CallR ep dQ 80 [.fz (strs l) k, .fn g a b] H (.bool (l.any p)) H [] := by
  refine CallW.is (CallW.body rfl fn_80 (by unfold Tryd.f80; rfl) (by rfl) (by unfold Tryd.f80; simp) ?_)
  unfold Tryd.f80
  simp (config := { contextual := true, maxSteps := 1000000 }) [-Int.not_le, -Int.not_lt, -Nat.not_le, -Nat.not_lt, (indexFuncS_ok l k g a b p H hp hl).val, idx_any]
theorem indexFuncF_ok (l : List EV) (k : Cap) (g : Nat) (a b : List EV) (p : EV → Bool) (H : Heap) (hp : ∀ x ∈ l, CallR ep dQ g (a ++ x :: b) H (.bool (p x)) H []) (hl : l.length < 2 ^ 62) :
    CallR ep dQ 120 [.fz (vals l) k, .fn g a b] H (.int .i64 (idx p l)) H [] := by
  refine CallW.is (CallW.body rfl fn_120 (by unfold Tryd.f120; rfl) (by rfl) (by unfold Tryd.f120; simp) ?_)
  unfold Tryd.f120
  simp (config := { contextual := true, maxSteps := 1000000 }) [-Int.not_le, -Int.not_lt, -Nat.not_le, -Nat.not_lt]
  refine LoopI.inv (fun i : Nat => [(0, .fz (vals l) k), (1, .fn g a b), (7, .int .i64 l.length), (8, .int .i64 i)]) (fun _ => H) (fun i W => W = [] ∧ i ≤ l.length ∧ ∀ (j : Nat) (h : j < l.length), j < i → p l[j] = false) (fun i => l.length - i) 0 (by simp) ?_
  rintro i W ⟨rfl, hi, hj⟩
  have hw := wrap_succ (i := i) (by omega)
  have hc := fun (h : i < l.length) => (hp l[i] (List.getElem_mem h)).val
  simp (config := { contextual := true, maxSteps := 1000000 }) [-Int.not_le, -Int.not_lt, -Nat.not_le, -Nat.not_lt, hc, hw]
  refine ⟨fun h => ⟨fun h1 => (idx_at hj h h1).symm, fun h1 => ⟨i + 1, by omega, ⟨h, fun j hjl hji => ?_⟩, by simp⟩⟩, fun h => (idx_none fun j hjl => hj j hjl (by omega)).symm⟩
  rcases Nat.lt_or_eq_of_le (Nat.le_of_lt_succ hji) with h2 | h2
  · exact hj j hjl h2
  · subst h2; exact h1
theorem containsFuncF_ok (l : List EV) (k : Cap) (g : Nat) (a b : List EV) (p : EV → Bool) (H : Heap) (hp : ∀ x ∈ l, CallR ep dQ g (a ++ x :: b) H (.bool (p x)) H []) (hl : l.length < 2 ^ 62) :
    CallR ep dQ 114 [.fz (vals l) k, .fn g a b] H (.bool (l.any p)) H [] := by
  refine CallW.is (CallW.body rfl fn_114 (by unfold Tryd.f114; rfl) (by rfl) (by unfold Tryd.f114; simp) ?_)
  unfold Tryd.f114
  simp (config := { contextual := true, maxSteps := 1000000 }) [-Int.not_le, -Int.not_lt, -Nat.not_le, -Nat.not_lt, (indexFuncF_ok l k g a b p H hp hl).val, idx_any]

def keyWords : List Str := [[109, 111, 100, 117, 108, 101], [105, 109, 112, 111, 114, 116], [116, 121, 112, 101], [102, 110], [108, 101, 116], [105, 110], [105, 102], [116, 104, 101, 110], [101, 108, 115, 101], [105, 115], [97, 115], [116, 114, 117, 101], [102, 97, 108, 115, 101], [110, 117, 108, 108], [100, 121, 110], [98, 111, 111, 108], [105, 110, 116], [114, 101, 99]]
theorem theG_keys : theG 0 = some (.fp (keyWords.map .str)) := rfl
theorem keyWords_length : keyWords.length = 18 := rfl
theorem contains_at {α : Type} [BEq α] [LawfulBEq α] {l : List α} {i : Nat} (h : i < l.length) {x : α} (e : l[i] = x) : l.contains x = true := by
  rw [List.contains_iff_mem, ← e]
  exact List.getElem_mem h
theorem contains_none {α : Type} [BEq α] [LawfulBEq α] {l : List α} {x : α} (h : ∀ (j : Nat) (h : j < l.length), l[j] ≠ x) : l.contains x = false := by
  rw [Bool.eq_false_iff, ne_eq, List.contains_iff_mem]
  intro hm
  obtain ⟨j, hj, e⟩ := List.mem_iff_getElem.1 hm
  exact h j hj e
theorem isKey_ok (s : Str) (H : Heap) : CallR ep dQ 70 [.str s] H (.bool (keyWords.contains s)) H [] := by
  refine CallW.is (CallW.body rfl fn_70 (by unfold Tryd.f70; rfl) (by rfl) (by unfold Tryd.f70; simp) ?_)
  unfold Tryd.f70
  simp (config := { contextual := true, maxSteps := 1000000 }) [-Int.not_le, -Int.not_lt, -Nat.not_le, -Nat.not_lt]
  refine LoopI.inv (fun i : Nat => [(0, .str s), (4, .int .i64 i)]) (fun _ => H) (fun i W => W = [] ∧ i ≤ 18 ∧ ∀ (j : Nat) (h : j < keyWords.length), j < i → keyWords[j] ≠ s) (fun i => 18 - i) 0 (by simp) ?_
  rintro i W ⟨rfl, hi, hj⟩
  have hw := wrap_succ (i := i) (by omega)
  have hi' : (i : Int) < 18 ↔ i < 18 := by omega
  have hle : i < 18 → i ≤ 18 := by omega
  have hge : i < 18 → 1 ≤ 18 - i := by omega
  simp (config := { contextual := true, maxSteps := 1000000 }) [-Int.not_le, -Int.not_lt, -Nat.not_le, -Nat.not_lt, hw, theG_keys, keyWords_length, hi', hle, hge]
  refine ⟨fun h => ⟨fun e => e ▸ List.getElem_mem _, fun h1 => ⟨i + 1, by omega, ⟨h, fun j hjl hji => ?_⟩, by simp⟩⟩, fun h hm => ?_⟩
  · rcases Nat.lt_or_eq_of_le (Nat.le_of_lt_succ hji) with h2 | h2
    · exact hj j hjl h2
    · subst h2; exact h1
  · obtain ⟨j, hjl, e⟩ := List.mem_iff_getElem.1 hm
    rw [keyWords_length] at hjl
    exact hj j hjl (by omega) e
theorem formed1_ok (s : Str) (g so io i : Nat) (p : Int → Bool) (H : Heap) (hs : H[so]? = some (.cells [.str s])) (hio : H[io]? = some (.cells [.int .i64 i])) (hi : i < s.length) (hp : CallR ep dQ g [EV.int .u8 s[i].toNat] H (.bool (p s[i].toNat)) H []) :
    CallR ep dQ 115 [.fn g [] [], .ptr so 0, .ptr io 0] H (.bool (p s[i].toNat)) H [] := by
  refine CallW.is (CallW.body rfl fn_115 (by unfold Tryd.f115; rfl) (by rfl) (by unfold Tryd.f115; simp) ?_)
  unfold Tryd.f115
  simp (config := { contextual := true, maxSteps := 1000000 }) [-Int.not_le, -Int.not_lt, -Nat.not_le, -Nat.not_lt, hs, hio, hi, hp.val]
/-- Is it of one of some sorts? -/
def formedP (p : Int → Bool) (ps : List EV) (q : EV → Int → Bool) (s : Str) : Bool := decide (s ≠ []) && decide (s.length ≤ 16) && s.head?.any (fun c => p c.toNat) && s.all fun c => ps.any fun f => q f c.toNat
theorem formed_ok (s : Str) (g : Nat) (p : Int → Bool) (hg : ∀ c H, CallR ep dQ g [EV.int .u8 c] H (.bool (p c)) H []) (fs : List EV) (q : EV → Int → Bool) (hfs : ∀ f ∈ fs, ∃ g, f = .fn g [] [] ∧ ∀ c H, CallR ep dQ g [EV.int .u8 c] H (.bool (q f c)) H []) (hlen : fs.length < 2 ^ 62) (k : Cap) (H : Heap) :
    CallR ep dQ 102 [.str s, .fn g [] [], .fz (vals fs) k] H (.bool (formedP p fs q s)) H [] := by
  refine CallW.is (CallW.body rfl fn_102 (by unfold Tryd.f102; rfl) (by rfl) (by unfold Tryd.f102; simp) ?_)
  unfold Tryd.f102
  have hg' := fun c H => (hg c H).val
  cases s with
  | nil =>
    simp (config := { contextual := true, maxSteps := 1000000 }) [-Int.not_le, -Int.not_lt, -Nat.not_le, -Nat.not_lt, hg']
    simp [formedP]
  | cons c s =>
    by_cases hlong : 16 < s.length + 1
    · simp (config := { contextual := true, maxSteps := 1000000 }) [-Int.not_le, -Int.not_lt, -Nat.not_le, -Nat.not_lt, hg', hlong]
      simp [formedP]
      omega
    have hl2 : ¬ (16 : Int) < s.length + 1 := by omega
    simp (config := { contextual := true, maxSteps := 1000000 }) [-Int.not_le, -Int.not_lt, -Nat.not_le, -Nat.not_lt, hg', hl2]
    refine ⟨fun h => by simp [formedP, h], fun h => ?_⟩
    refine LoopI.inv (fun i : Nat × Heap => [(2, .fz (vals fs) k), (3, .ptr H.length 0), (23, .int .i64 (s.length + 1)), (24, .int .i64 i.1)]) (fun i => i.2) (fun i W => (∀ o ∈ W, H.length ≤ o) ∧ i.1 ≤ s.length + 1 ∧ (∀ (j : Nat) (h : j < (c :: s).length), j < i.1 → fs.any (fun f => q f (c :: s)[j].toNat) = true) ∧ i.2[H.length]? = some (.cells [.str (c :: s)])) (fun i => s.length + 1 - i.1) (0, H ++ [.cells [.str (c :: s)]]) (by simp) ?_
    rintro ⟨i, H'⟩ W ⟨hW, hi, hj, hH⟩
    have hw := wrap_succ (i := i) (by omega)
    have hlt : H.length < H'.length := (List.getElem?_eq_some_iff.1 hH).1
    simp (config := { contextual := true, maxSteps := 1000000 }) [-Int.not_le, -Int.not_lt, -Nat.not_le, -Nat.not_lt, hw]
    refine ⟨fun h => ?_, fun h => ?_⟩
    · have hil : i < (c :: s).length := by simp; omega
      have hc := (containsFuncF_ok fs k 115 [] [.ptr H.length 0, .ptr H'.length 0] (fun f => q f (c :: s)[i].toNat) (H' ++ [.cells [.int .i64 i]]) (fun x hx => by
        obtain ⟨g', rfl, hg2⟩ := hfs x hx
        exact formed1_ok (c :: s) g' H.length H'.length i (q (.fn g' [] [])) _ (by rw [List.getElem?_append_left hlt]; exact hH) (by simp) hil (hg2 _ _)) hlen).val
      have hf := far (H := H) (W := W ++ [H'.length]) (by
        intro o ho
        rcases List.mem_append.1 ho with ho | ho
        · exact hW o ho
        · simp at ho; omega)
      simp only [hc]
      simp (config := { contextual := true, maxSteps := 1000000 }) [-Int.not_le, -Int.not_lt, -Nat.not_le, -Nat.not_lt, finish0 hf, hw]
      refine ⟨fun hn => ?_, fun x hx hq => ⟨i + 1, by omega, _, ⟨?_, by omega, ?_, ?_⟩, rfl, by simp⟩⟩
      · simp only [formedP, Bool.and_eq_false_iff]
        right
        rw [List.all_eq_false]
        exact ⟨(c :: s)[i], List.getElem_mem hil, by simpa using hn⟩
      · intro o ho
        rcases ho with ho | ho
        · exact hW o ho
        · omega
      · intro j hjl hji
        rcases Nat.lt_or_eq_of_le (Nat.le_of_lt_succ hji) with h2 | h2
        · simpa using hj j (by simpa using hjl) h2
        · subst h2; exact ⟨x, hx, hq⟩
      · rw [List.getElem?_append_left hlt]
        exact hH
    · simp (config := { contextual := true, maxSteps := 1000000 }) [-Int.not_le, -Int.not_lt, -Nat.not_le, -Nat.not_lt, finish0 (far hW)]
      simp only [formedP, Bool.and_eq_true, List.all_eq_true]
      refine ⟨⟨⟨by simp, by simp; omega⟩, by simpa using (by assumption : p c.toNat = true)⟩, fun x hx => ?_⟩
      obtain ⟨j, hjl, rfl⟩ := List.mem_iff_getElem.1 hx
      have := hj j hjl (by simp at hjl hi ⊢; omega)
      simpa using this
def isTagged (s : Str) : Bool := formedP isSmall [.fn 103 [] [], .fn 104 [] [], .fn 105 [] []] (fun f c => match f with
  | .fn g _ _ => if g = 103 then isSmall c else if g = 104 then isDigit c else c == 95
  | _ => false) s
theorem tagged_ok (s : Str) (H : Heap) : CallR ep dQ 82 [.str s] H (.bool (isTagged s)) H [] := by
  refine CallW.is (CallW.body rfl fn_82 (by unfold Tryd.f82; rfl) (by rfl) (by unfold Tryd.f82; simp) ?_)
  unfold Tryd.f82
  have hc := fun k => (formed_ok s 103 isSmall small_ok [.fn 103 [] [], .fn 104 [] [], .fn 105 [] []] (fun f c => match f with
    | .fn g _ _ => if g = 103 then isSmall c else if g = 104 then isDigit c else c == 95
    | _ => false) (by
      intro f hf
      simp only [List.mem_cons, List.not_mem_nil, or_false] at hf
      rcases hf with rfl | rfl | rfl
      · exact ⟨_, rfl, fun c H => small_ok c H⟩
      · exact ⟨_, rfl, fun c H => digit_ok c H⟩
      · exact ⟨_, rfl, fun c H => score_ok c H⟩) (by simp) k H).val
  simp only [vals, List.map_cons, List.map_nil] at hc
  simp (config := { contextual := true, maxSteps := 1000000 }) [-Int.not_le, -Int.not_lt, -Nat.not_le, -Nat.not_lt, hc, isTagged]
def isName (s : Str) : Bool := isTagged s && !keyWords.contains s
theorem isName_ok (s : Str) (H : Heap) : CallR ep dQ 51 [.str s] H (.bool (isName s)) H [] := by
  refine CallW.is (CallW.body rfl fn_51 (by unfold Tryd.f51; rfl) (by rfl) (by unfold Tryd.f51; simp) ?_)
  unfold Tryd.f51
  simp (config := { contextual := true, maxSteps := 1000000 }) [-Int.not_le, -Int.not_lt, -Nat.not_le, -Nat.not_lt, (tagged_ok _ _).val, (isKey_ok _ _).val, isName]
end Go.Ev
end
