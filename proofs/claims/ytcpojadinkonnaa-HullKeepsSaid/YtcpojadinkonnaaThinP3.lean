/-
  hull.Thin, walked.
-/
import Derived.Test.YtcpojadinkonnaaThinP2
import Derived.Deep.LoopGhost
namespace Go.Proofs.Ytcpojadinkonnaa
open Go.RowKit

def Fr0 (b off c n g len cw S X : Nat) (t at_ : Int) (Aw : Option Addr) (a : Act) : Prop := ∃ u : Nat → Value, a = { tmps := #[.slice (some ⟨b, off, none⟩) n c, .int .i64 t, u 2, u 3, u 4, u 5, .slice (some ⟨g, 0, none⟩) n n, .slice Aw len cw, .pointer (some ⟨S, 0, none⟩), .int .i64 at_, .pointer (some ⟨X, 0, none⟩), u 11, u 12, u 13, u 14, u 15, u 16, u 17, u 18, u 19, u 20, u 21, u 22, u 23, u 24, u 25, u 26, u 27, u 28, u 29, u 30, u 31, u 32, u 33, u 34, u 35, u 36, u 37, u 38, u 39, u 40, u 41, u 42, u 43, u 44, u 45, u 46, u 47, u 48, u 49, u 50, u 51, u 52, u 53, u 54, u 55, u 56, u 57, u 58, u 59, u 60, u 61, u 62, u 63, u 64, u 65, u 66, u 67, u 68, u 69, u 70, u 71, u 72, u 73, u 74, u 75, u 76, u 77, u 78, u 79, u 80, u 81, u 82, u 83, u 84, u 85, u 86, u 87, u 88, u 89, u 90, u 91, u 92, u 93, u 94, u 95, u 96, u 97, u 98, u 99, u 100, u 101, u 102, u 103, u 104, u 105, u 106, u 107, u 108, u 109, u 110, u 111, u 112, u 113, u 114, u 115, u 116, u 117, u 118, u 119, u 120, u 121, u 122, u 123, u 124, u 125, u 126, u 127, u 128, u 129, u 130, u 131, u 132, u 133, u 134, u 135, u 136, u 137, u 138, u 139], defers := [] }
def Fr1 (b off c n g len cw : Nat) (t : Int) (Aw : Option Addr) (a : Act) : Prop := ∃ u : Nat → Value, a = { tmps := #[.slice (some ⟨b, off, none⟩) n c, .int .i64 t, u 2, u 3, u 4, u 5, .slice (some ⟨g, 0, none⟩) n n, .slice Aw len cw, u 8, u 9, u 10, u 11, u 12, u 13, u 14, u 15, u 16, u 17, u 18, u 19, u 20, u 21, u 22, u 23, u 24, u 25, u 26, u 27, u 28, u 29, u 30, u 31, u 32, u 33, u 34, u 35, u 36, u 37, u 38, u 39, u 40, u 41, u 42, u 43, u 44, u 45, u 46, u 47, u 48, u 49, u 50, u 51, u 52, u 53, u 54, u 55, u 56, u 57, u 58, u 59, u 60, u 61, u 62, u 63, u 64, u 65, u 66, u 67, u 68, u 69, u 70, u 71, u 72, u 73, u 74, u 75, u 76, u 77, u 78, u 79, u 80, u 81, u 82, u 83, u 84, u 85, u 86, u 87, u 88, u 89, u 90, u 91, u 92, u 93, u 94, u 95, u 96, u 97, u 98, u 99, u 100, u 101, u 102, u 103, u 104, u 105, u 106, u 107, u 108, u 109, u 110, u 111, u 112, u 113, u 114, u 115, u 116, u 117, u 118, u 119, u 120, u 121, u 122, u 123, u 124, u 125, u 126, u 127, u 128, u 129, u 130, u 131, u 132, u 133, u 134, u 135, u 136, u 137, u 138, u 139], defers := [] }
def Fr2 (b off c n g len cw S X : Nat) (t at_ k : Int) (Aw : Option Addr) (a : Act) : Prop := ∃ u : Nat → Value, a = { tmps := #[.slice (some ⟨b, off, none⟩) n c, .int .i64 t, u 2, u 3, u 4, u 5, .slice (some ⟨g, 0, none⟩) n n, .slice Aw len cw, .pointer (some ⟨S, 0, none⟩), .int .i64 at_, .pointer (some ⟨X, 0, none⟩), .int .i64 k, u 12, u 13, u 14, u 15, u 16, u 17, u 18, u 19, u 20, u 21, u 22, u 23, u 24, u 25, u 26, u 27, u 28, u 29, u 30, u 31, u 32, u 33, u 34, u 35, u 36, u 37, u 38, u 39, u 40, u 41, u 42, u 43, u 44, u 45, u 46, u 47, u 48, u 49, u 50, u 51, u 52, u 53, u 54, u 55, u 56, u 57, u 58, u 59, u 60, u 61, u 62, u 63, u 64, u 65, u 66, u 67, u 68, u 69, u 70, u 71, u 72, u 73, u 74, u 75, u 76, u 77, u 78, u 79, u 80, u 81, u 82, u 83, u 84, u 85, u 86, u 87, u 88, u 89, u 90, u 91, u 92, u 93, u 94, u 95, u 96, u 97, u 98, u 99, u 100, u 101, u 102, u 103, u 104, u 105, u 106, u 107, u 108, u 109, u 110, u 111, u 112, u 113, u 114, u 115, u 116, u 117, u 118, u 119, u 120, u 121, u 122, u 123, u 124, u 125, u 126, u 127, u 128, u 129, u 130, u 131, u 132, u 133, u 134, u 135, u 136, u 137, u 138, u 139], defers := [] }
def Fr3 (b off c n g len cw S X D : Nat) (t at_ k : Int) (Aw : Option Addr) (a : Act) : Prop := ∃ u : Nat → Value, a = { tmps := #[.slice (some ⟨b, off, none⟩) n c, .int .i64 t, u 2, u 3, u 4, u 5, .slice (some ⟨g, 0, none⟩) n n, .slice Aw len cw, .pointer (some ⟨S, 0, none⟩), .int .i64 at_, .pointer (some ⟨X, 0, none⟩), .int .i64 k, .pointer (some ⟨D, 0, none⟩), u 13, u 14, u 15, u 16, u 17, u 18, u 19, u 20, u 21, u 22, u 23, u 24, u 25, u 26, u 27, u 28, u 29, u 30, u 31, u 32, u 33, u 34, u 35, u 36, u 37, u 38, u 39, u 40, u 41, u 42, u 43, u 44, u 45, u 46, u 47, u 48, u 49, u 50, u 51, u 52, u 53, u 54, u 55, u 56, u 57, u 58, u 59, u 60, u 61, u 62, u 63, u 64, u 65, u 66, u 67, u 68, u 69, u 70, u 71, u 72, u 73, u 74, u 75, u 76, u 77, u 78, u 79, u 80, u 81, u 82, u 83, u 84, u 85, u 86, u 87, u 88, u 89, u 90, u 91, u 92, u 93, u 94, u 95, u 96, u 97, u 98, u 99, u 100, u 101, u 102, u 103, u 104, u 105, u 106, u 107, u 108, u 109, u 110, u 111, u 112, u 113, u 114, u 115, u 116, u 117, u 118, u 119, u 120, u 121, u 122, u 123, u 124, u 125, u 126, u 127, u 128, u 129, u 130, u 131, u 132, u 133, u 134, u 135, u 136, u 137, u 138, u 139], defers := [] }
section
variable {b off c n g len cw S X D : Nat} {t at_ k : Int} {Aw : Option Addr}
set_option maxRecDepth 100000 in
theorem fr0_mk {x2 x3 x4 x5 x11 x12 x13 x14 x15 x16 x17 x18 x19 x20 x21 x22 x23 x24 x25 x26 x27 x28 x29 x30 x31 x32 x33 x34 x35 x36 x37 x38 x39 x40 x41 x42 x43 x44 x45 x46 x47 x48 x49 x50 x51 x52 x53 x54 x55 x56 x57 x58 x59 x60 x61 x62 x63 x64 x65 x66 x67 x68 x69 x70 x71 x72 x73 x74 x75 x76 x77 x78 x79 x80 x81 x82 x83 x84 x85 x86 x87 x88 x89 x90 x91 x92 x93 x94 x95 x96 x97 x98 x99 x100 x101 x102 x103 x104 x105 x106 x107 x108 x109 x110 x111 x112 x113 x114 x115 x116 x117 x118 x119 x120 x121 x122 x123 x124 x125 x126 x127 x128 x129 x130 x131 x132 x133 x134 x135 x136 x137 x138 x139 : Value} : Fr0 b off c n g len cw S X t at_ Aw { tmps := #[.slice (some ⟨b, off, none⟩) n c, .int .i64 t, x2, x3, x4, x5, .slice (some ⟨g, 0, none⟩) n n, .slice Aw len cw, .pointer (some ⟨S, 0, none⟩), .int .i64 at_, .pointer (some ⟨X, 0, none⟩), x11, x12, x13, x14, x15, x16, x17, x18, x19, x20, x21, x22, x23, x24, x25, x26, x27, x28, x29, x30, x31, x32, x33, x34, x35, x36, x37, x38, x39, x40, x41, x42, x43, x44, x45, x46, x47, x48, x49, x50, x51, x52, x53, x54, x55, x56, x57, x58, x59, x60, x61, x62, x63, x64, x65, x66, x67, x68, x69, x70, x71, x72, x73, x74, x75, x76, x77, x78, x79, x80, x81, x82, x83, x84, x85, x86, x87, x88, x89, x90, x91, x92, x93, x94, x95, x96, x97, x98, x99, x100, x101, x102, x103, x104, x105, x106, x107, x108, x109, x110, x111, x112, x113, x114, x115, x116, x117, x118, x119, x120, x121, x122, x123, x124, x125, x126, x127, x128, x129, x130, x131, x132, x133, x134, x135, x136, x137, x138, x139], defers := [] } := ⟨fun i => ([undef, undef, x2, x3, x4, x5, undef, undef, undef, undef, undef, x11, x12, x13, x14, x15, x16, x17, x18, x19, x20, x21, x22, x23, x24, x25, x26, x27, x28, x29, x30, x31, x32, x33, x34, x35, x36, x37, x38, x39, x40, x41, x42, x43, x44, x45, x46, x47, x48, x49, x50, x51, x52, x53, x54, x55, x56, x57, x58, x59, x60, x61, x62, x63, x64, x65, x66, x67, x68, x69, x70, x71, x72, x73, x74, x75, x76, x77, x78, x79, x80, x81, x82, x83, x84, x85, x86, x87, x88, x89, x90, x91, x92, x93, x94, x95, x96, x97, x98, x99, x100, x101, x102, x103, x104, x105, x106, x107, x108, x109, x110, x111, x112, x113, x114, x115, x116, x117, x118, x119, x120, x121, x122, x123, x124, x125, x126, x127, x128, x129, x130, x131, x132, x133, x134, x135, x136, x137, x138, x139] : List Value).getD i undef, rfl⟩
set_option maxRecDepth 100000 in
theorem fr1_mk {x2 x3 x4 x5 x8 x9 x10 x11 x12 x13 x14 x15 x16 x17 x18 x19 x20 x21 x22 x23 x24 x25 x26 x27 x28 x29 x30 x31 x32 x33 x34 x35 x36 x37 x38 x39 x40 x41 x42 x43 x44 x45 x46 x47 x48 x49 x50 x51 x52 x53 x54 x55 x56 x57 x58 x59 x60 x61 x62 x63 x64 x65 x66 x67 x68 x69 x70 x71 x72 x73 x74 x75 x76 x77 x78 x79 x80 x81 x82 x83 x84 x85 x86 x87 x88 x89 x90 x91 x92 x93 x94 x95 x96 x97 x98 x99 x100 x101 x102 x103 x104 x105 x106 x107 x108 x109 x110 x111 x112 x113 x114 x115 x116 x117 x118 x119 x120 x121 x122 x123 x124 x125 x126 x127 x128 x129 x130 x131 x132 x133 x134 x135 x136 x137 x138 x139 : Value} : Fr1 b off c n g len cw t Aw { tmps := #[.slice (some ⟨b, off, none⟩) n c, .int .i64 t, x2, x3, x4, x5, .slice (some ⟨g, 0, none⟩) n n, .slice Aw len cw, x8, x9, x10, x11, x12, x13, x14, x15, x16, x17, x18, x19, x20, x21, x22, x23, x24, x25, x26, x27, x28, x29, x30, x31, x32, x33, x34, x35, x36, x37, x38, x39, x40, x41, x42, x43, x44, x45, x46, x47, x48, x49, x50, x51, x52, x53, x54, x55, x56, x57, x58, x59, x60, x61, x62, x63, x64, x65, x66, x67, x68, x69, x70, x71, x72, x73, x74, x75, x76, x77, x78, x79, x80, x81, x82, x83, x84, x85, x86, x87, x88, x89, x90, x91, x92, x93, x94, x95, x96, x97, x98, x99, x100, x101, x102, x103, x104, x105, x106, x107, x108, x109, x110, x111, x112, x113, x114, x115, x116, x117, x118, x119, x120, x121, x122, x123, x124, x125, x126, x127, x128, x129, x130, x131, x132, x133, x134, x135, x136, x137, x138, x139], defers := [] } := ⟨fun i => ([undef, undef, x2, x3, x4, x5, undef, undef, x8, x9, x10, x11, x12, x13, x14, x15, x16, x17, x18, x19, x20, x21, x22, x23, x24, x25, x26, x27, x28, x29, x30, x31, x32, x33, x34, x35, x36, x37, x38, x39, x40, x41, x42, x43, x44, x45, x46, x47, x48, x49, x50, x51, x52, x53, x54, x55, x56, x57, x58, x59, x60, x61, x62, x63, x64, x65, x66, x67, x68, x69, x70, x71, x72, x73, x74, x75, x76, x77, x78, x79, x80, x81, x82, x83, x84, x85, x86, x87, x88, x89, x90, x91, x92, x93, x94, x95, x96, x97, x98, x99, x100, x101, x102, x103, x104, x105, x106, x107, x108, x109, x110, x111, x112, x113, x114, x115, x116, x117, x118, x119, x120, x121, x122, x123, x124, x125, x126, x127, x128, x129, x130, x131, x132, x133, x134, x135, x136, x137, x138, x139] : List Value).getD i undef, rfl⟩
set_option maxRecDepth 100000 in
theorem fr2_mk {x2 x3 x4 x5 x12 x13 x14 x15 x16 x17 x18 x19 x20 x21 x22 x23 x24 x25 x26 x27 x28 x29 x30 x31 x32 x33 x34 x35 x36 x37 x38 x39 x40 x41 x42 x43 x44 x45 x46 x47 x48 x49 x50 x51 x52 x53 x54 x55 x56 x57 x58 x59 x60 x61 x62 x63 x64 x65 x66 x67 x68 x69 x70 x71 x72 x73 x74 x75 x76 x77 x78 x79 x80 x81 x82 x83 x84 x85 x86 x87 x88 x89 x90 x91 x92 x93 x94 x95 x96 x97 x98 x99 x100 x101 x102 x103 x104 x105 x106 x107 x108 x109 x110 x111 x112 x113 x114 x115 x116 x117 x118 x119 x120 x121 x122 x123 x124 x125 x126 x127 x128 x129 x130 x131 x132 x133 x134 x135 x136 x137 x138 x139 : Value} : Fr2 b off c n g len cw S X t at_ k Aw { tmps := #[.slice (some ⟨b, off, none⟩) n c, .int .i64 t, x2, x3, x4, x5, .slice (some ⟨g, 0, none⟩) n n, .slice Aw len cw, .pointer (some ⟨S, 0, none⟩), .int .i64 at_, .pointer (some ⟨X, 0, none⟩), .int .i64 k, x12, x13, x14, x15, x16, x17, x18, x19, x20, x21, x22, x23, x24, x25, x26, x27, x28, x29, x30, x31, x32, x33, x34, x35, x36, x37, x38, x39, x40, x41, x42, x43, x44, x45, x46, x47, x48, x49, x50, x51, x52, x53, x54, x55, x56, x57, x58, x59, x60, x61, x62, x63, x64, x65, x66, x67, x68, x69, x70, x71, x72, x73, x74, x75, x76, x77, x78, x79, x80, x81, x82, x83, x84, x85, x86, x87, x88, x89, x90, x91, x92, x93, x94, x95, x96, x97, x98, x99, x100, x101, x102, x103, x104, x105, x106, x107, x108, x109, x110, x111, x112, x113, x114, x115, x116, x117, x118, x119, x120, x121, x122, x123, x124, x125, x126, x127, x128, x129, x130, x131, x132, x133, x134, x135, x136, x137, x138, x139], defers := [] } := ⟨fun i => ([undef, undef, x2, x3, x4, x5, undef, undef, undef, undef, undef, undef, x12, x13, x14, x15, x16, x17, x18, x19, x20, x21, x22, x23, x24, x25, x26, x27, x28, x29, x30, x31, x32, x33, x34, x35, x36, x37, x38, x39, x40, x41, x42, x43, x44, x45, x46, x47, x48, x49, x50, x51, x52, x53, x54, x55, x56, x57, x58, x59, x60, x61, x62, x63, x64, x65, x66, x67, x68, x69, x70, x71, x72, x73, x74, x75, x76, x77, x78, x79, x80, x81, x82, x83, x84, x85, x86, x87, x88, x89, x90, x91, x92, x93, x94, x95, x96, x97, x98, x99, x100, x101, x102, x103, x104, x105, x106, x107, x108, x109, x110, x111, x112, x113, x114, x115, x116, x117, x118, x119, x120, x121, x122, x123, x124, x125, x126, x127, x128, x129, x130, x131, x132, x133, x134, x135, x136, x137, x138, x139] : List Value).getD i undef, rfl⟩
set_option maxRecDepth 100000 in
theorem fr3_mk {x2 x3 x4 x5 x13 x14 x15 x16 x17 x18 x19 x20 x21 x22 x23 x24 x25 x26 x27 x28 x29 x30 x31 x32 x33 x34 x35 x36 x37 x38 x39 x40 x41 x42 x43 x44 x45 x46 x47 x48 x49 x50 x51 x52 x53 x54 x55 x56 x57 x58 x59 x60 x61 x62 x63 x64 x65 x66 x67 x68 x69 x70 x71 x72 x73 x74 x75 x76 x77 x78 x79 x80 x81 x82 x83 x84 x85 x86 x87 x88 x89 x90 x91 x92 x93 x94 x95 x96 x97 x98 x99 x100 x101 x102 x103 x104 x105 x106 x107 x108 x109 x110 x111 x112 x113 x114 x115 x116 x117 x118 x119 x120 x121 x122 x123 x124 x125 x126 x127 x128 x129 x130 x131 x132 x133 x134 x135 x136 x137 x138 x139 : Value} : Fr3 b off c n g len cw S X D t at_ k Aw { tmps := #[.slice (some ⟨b, off, none⟩) n c, .int .i64 t, x2, x3, x4, x5, .slice (some ⟨g, 0, none⟩) n n, .slice Aw len cw, .pointer (some ⟨S, 0, none⟩), .int .i64 at_, .pointer (some ⟨X, 0, none⟩), .int .i64 k, .pointer (some ⟨D, 0, none⟩), x13, x14, x15, x16, x17, x18, x19, x20, x21, x22, x23, x24, x25, x26, x27, x28, x29, x30, x31, x32, x33, x34, x35, x36, x37, x38, x39, x40, x41, x42, x43, x44, x45, x46, x47, x48, x49, x50, x51, x52, x53, x54, x55, x56, x57, x58, x59, x60, x61, x62, x63, x64, x65, x66, x67, x68, x69, x70, x71, x72, x73, x74, x75, x76, x77, x78, x79, x80, x81, x82, x83, x84, x85, x86, x87, x88, x89, x90, x91, x92, x93, x94, x95, x96, x97, x98, x99, x100, x101, x102, x103, x104, x105, x106, x107, x108, x109, x110, x111, x112, x113, x114, x115, x116, x117, x118, x119, x120, x121, x122, x123, x124, x125, x126, x127, x128, x129, x130, x131, x132, x133, x134, x135, x136, x137, x138, x139], defers := [] } := ⟨fun i => ([undef, undef, x2, x3, x4, x5, undef, undef, undef, undef, undef, undef, undef, x13, x14, x15, x16, x17, x18, x19, x20, x21, x22, x23, x24, x25, x26, x27, x28, x29, x30, x31, x32, x33, x34, x35, x36, x37, x38, x39, x40, x41, x42, x43, x44, x45, x46, x47, x48, x49, x50, x51, x52, x53, x54, x55, x56, x57, x58, x59, x60, x61, x62, x63, x64, x65, x66, x67, x68, x69, x70, x71, x72, x73, x74, x75, x76, x77, x78, x79, x80, x81, x82, x83, x84, x85, x86, x87, x88, x89, x90, x91, x92, x93, x94, x95, x96, x97, x98, x99, x100, x101, x102, x103, x104, x105, x106, x107, x108, x109, x110, x111, x112, x113, x114, x115, x116, x117, x118, x119, x120, x121, x122, x123, x124, x125, x126, x127, x128, x129, x130, x131, x132, x133, x134, x135, x136, x137, x138, x139] : List Value).getD i undef, rfl⟩
end
theorem wide_farN {w : World} {g g' : Nat} {t : TypeId} {cs : Array Value} {u v : Value} (hg : g ≠ g') (h : Var w g t cs) : Var ((w.setCell ⟨g', 0, none⟩ u).setCell ⟨g', 1, none⟩ v) g t cs := var_far2 h hg u v
theorem wide_twoN {w : World} {g : Nat} {u v p q : Value} (h : Var w g 51 #[p, q]) : Var ((w.setCell ⟨g, 0, none⟩ u).setCell ⟨g, 1, none⟩ v) g 51 #[u, v] := var_two h u v
/-- A number of 128 bits as cells. -/
def W2 (x : Int) : Array Value := #[.int .i64 (hi64 x), .int .u64 (lo64 x)]

theorem own_set {W : World} {base g o : Nat} {e : TypeId} {size n : Nat} {v u : Value} {xs : List Value} (h : W.ownsRow base e size v n xs) (hg : g < base) : (W.setCell ⟨g, o, none⟩ u).ownsRow base e size v n xs :=
  h.kept (grown_set W g o u) (.inr fun e => by have := own_ge h g e; omega)
theorem four_ints {a b c d : Int} : ∀ u ∈ [Value.int .i64 a, .int .i64 b, .int .i64 c, .int .i64 d], u.oneCell' = true := by simp [Value.oneCell']
theorem wt_none {w V U : World} {s : Nat → Nat → Option Nat} {n g l i j : Nat} {G : Nat → Bool} {L' : List (Nat × Nat)} {v v' : Value} (h : Wt w s n g (g + 1) G (L'.concat (i, j)) v V) (hl : L'.length = l) (hsh : V.ownsRow (g + 1) 47 2 v' l (flatS L'))
    (hb : Below V.heap.size V U) (hN : s i j = none) : Wt w s n g (g + 1) G L' v' U := by
  subst hl
  rw [List.concat_eq_append] at h
  obtain ⟨f, hK, hG⟩ := h.kept
  refine ⟨own_keep hsh hb, fun x hx => h.bd x (by simp [hx]), ⟨f, hK.keep hb, fun k => by rw [← hG k, any_none2 hN]⟩, h.below.trans (hb.mono h.below.size), Nat.le_trans h.size hb.size, ?_⟩
  have := h.few
  rw [msr_app] at this
  omega
theorem wt_some {w V U w6 : World} {s : Nat → Nat → Option Nat} (hs : Between s) {n g l i j x : Nat} {G f : Nat → Bool} {L' : List (Nat × Nat)} {v v' v2 : Value} (h : Wt w s n g (g + 1) G (L'.concat (i, j)) v V) (hl : L'.length = l)
    (hb : Below V.heap.size V U) (hK : KeptAt (U.setCell ⟨g, x, none⟩ (.bool true)) g n (fun k => f k || k == x)) (hG : ∀ k, (f k || (L'.concat (i, j)).any (fun x => kept s x.1 x.2 k)) = G k) (hN : s i j = some x)
    (hgw : w.heap.size ≤ g) (hown2 : (U.setCell ⟨g, x, none⟩ (.bool true)).ownsRow (g + 1) 47 2 v2 l (flatS L'))
    (hown3 : w6.ownsRow (g + 1) 47 2 v' (l + 2) (flatS L' ++ [.int .i64 (i : Int), .int .i64 (x : Int), .int .i64 (x : Int), .int .i64 (j : Int)])) (hg3 : (U.setCell ⟨g, x, none⟩ (.bool true)).grownBy w6 v2.ownBlock) :
    Wt w s n g (g + 1) G (L' ++ [(i, x), (x, j)]) v' w6 := by
  subst hl
  rw [List.concat_eq_append] at h hG
  have hij := h.bd (i, j) (by simp)
  have hbt := hs i j x hN
  have hz := h.size
  have hzb := hb.size
  have hBU : Below w.heap.size w (U.setCell ⟨g, x, none⟩ (.bool true)) := (h.below.trans (hb.mono h.below.size)).setCell (p := ⟨g, x, none⟩) hgw _
  have hzs : (U.setCell ⟨g, x, none⟩ (.bool true)).heap.size = U.heap.size := by simp
  refine ⟨by rw [List.length_append, flatS_app]; exact hown3, fun y hy => ?_, ⟨_, hK.push hown2 (by omega) hg3, fun k => by rw [any_some2 hs hN]; exact hG k⟩, below_push hBU hown2 (by omega) (by have := h.below.size; omega) hg3, by have := hg3.size; omega, ?_⟩
  · simp only [List.mem_append, List.mem_cons, List.not_mem_nil, or_false] at hy
    rcases hy with hy | rfl | rfl
    · exact h.bd y (by simp [hy])
    · exact ⟨hbt.1, by have := hij.2; simp only at this ⊢; omega⟩
    · exact ⟨hbt.2, hij.2⟩
  · have := h.few
    rw [msr_app] at this ⊢
    simp only [msr] at this ⊢
    omega

set_option maxHeartbeats 8000000 in
set_option maxRecDepth 100000 in
theorem hullThin (ps : List Pt) (t : Int) (M : Nat) (A : Option Addr) (c : Nat) (w : World) (hP : PtsAt M w (.slice A ps.length c) ps) (hM : M ≤ w.heap.size) (hA : ps.length = 0 → A = none → c = 0) :
    Calls Try.prog 11 #[.slice A ps.length c, .int .i64 t] w (ThinSays ps t w) := by
  obtain ⟨n, hn⟩ : ∃ n, ps.length = n := ⟨_, rfl⟩
  have HCt := Lib.hid (fun h4 h => contains_ok ps M A c w hP hM h4 h)
  have HCf := Lib.hid (fun h4 h => contains_bad ps M A c w hP hM h4 h)
  have HCl := Lib.hid (fun h4 W (hb : Below w.heap.size w W) => clone_pts ps M A c W (hP.below (hb.mono hM)) (Nat.le_trans hM hb.size) h4 hA)
  rw [hn] at hP HCt HCf HCl ⊢
  have HP := Lib.hid (And.intro hP hn)
  clear hP hn hA
  rcases Nat.lt_or_ge 4096 n with hL | hL
  · have hLI : (4096 : Int) < (n : Int) := by omega
    go_enter Try.func11, Try.ntmps11
    go_wp2_with fail
    go_ret2
    exact thinSays_bad (tcode_long (by rw [HP.out.2]; exact hL)) (by omega) (Below.refl _ _)
  have hLI : ¬ (4096 : Int) < (n : Int) := by omega
  have HLn := Lib.hid (show ¬ 4096 < ps.length by rw [HP.out.2]; omega)
  rcases Int.lt_or_le t 0 with ht0 | ht0
  · go_enter Try.func11, Try.ntmps11
    go_wp2_with fail
    go_ret2
    exact thinSays_bad (tcode_tol HLn.out (.inl ht0)) (by omega) (Below.refl _ _)
  have ht0' : ¬ t < 0 := by omega
  rcases Int.lt_or_le 3037000498 t with ht1 | ht1
  · go_enter Try.func11, Try.ntmps11
    go_wp2_with fail
    go_ret2
    exact thinSays_bad (tcode_tol HLn.out (.inr ht1)) (by omega) (Below.refl _ _)
  have ht1' : ¬ 3037000498 < t := by omega
  have HT := Lib.hid (show Tol t ∧ ¬ BadTol t from ⟨⟨ht0, ht1⟩, fun h => h.elim (by omega) (by omega)⟩)
  clear ht0 ht1
  by_cases hps : IsL ps
  · have HC := Lib.hid (HCt.out hL hps)
    have HPS := Lib.hid hps
    clear hps HCt HCf
    rcases Nat.lt_or_ge n 3 with h3 | h3
    · have h3I : (n : Int) < 3 := by omega
      go_enter Try.func11, Try.ntmps11
      go_wp2_with fail
      refine HC.out.mono ?_
      rintro e w1 ⟨rfl, hb1⟩
      have H1 := Lib.hid hb1
      clear hb1
      go_wp2_with fail
      refine (HCl.out hL w1 H1.out).mono ?_
      rintro e w2 ⟨v, rfl, hown, hb2⟩
      have H2 := Lib.hid (And.intro hown (H1.out.trans (hb2.mono H1.out.size)))
      have hz := H1.out.size
      clear hown hb2
      go_wp2_with fail
      go_ret2
      have hc0 : tcode ps t = 0 := tcode_ok HLn.out HT.out.2 HPS.out
      have hl0 : tlist ps t = ps := by rw [tlist_ok hc0, thinF_few (by rw [HP.out.2]; exact h3)]
      refine ⟨v, by rw [hc0]; rfl, ?_, H2.out.2⟩
      rw [hl0, HP.out.2]
      exact own_less H2.out.1 hz
    · have h3I : ¬ (n : Int) < 3 := by omega
      go_enter Try.func11, Try.ntmps11
      go_wp2_with fail
      refine HC.out.mono ?_
      rintro e w1 ⟨rfl, hb1⟩
      have H1 := Lib.hid hb1
      clear hb1
      have hmk := make_bools n (by omega)
      obtain ⟨b, off, rfl, hb, hc⟩ : ∃ b off, A = some ⟨b, off, none⟩ ∧ b < M ∧ ∀ k, k < ps.length → w.cell? ⟨b, off + k * 2, none⟩ = some (.int .i32 (gp ps k).1) ∧ w.cell? ⟨b, off + k * 2 + 1, none⟩ = some (.int .i32 (gp ps k).2) := by
        rcases HP.out.1 with ⟨⟨A0, c0, _⟩, he⟩ | ⟨b, off, cap, he, hb, hc⟩
        · have := HP.out.2; rw [he] at this; simp at this; omega
        · injection he with he1 he2 he3
          exact ⟨b, off, he1, hb, hc⟩
      have HPt := Lib.hid hc
      clear hc HCl HC
      obtain ⟨e, he⟩ : ∃ e, n = e + 1 := ⟨n - 1, by omega⟩
      have hws : IntKind.i64.wrap ((n : Int) - 1) = (e : Int) := by simp only [IntKind.wrap, IntKind.signed, IntKind.bits]; simp; omega
      have HE := Lib.hid he
      have heI : (e : Int) < (n : Int) := by omega
      have hnI : (0 : Int) < (n : Int) := by omega
      have hee : e < n := by omega
      have hn0 : 0 < n := by omega
      clear he
      go_upto_region 10 with fail
      obtain ⟨g, hg⟩ : ∃ z, w1.heap.size = z := ⟨_, rfl⟩
      refine wp_gen (fun W hW => ?_)
      have hK0 : KeptAt W g n (fun _ => false) := by rw [hW, ← hg]; exact kept_new w1 n
      have hbW : Below w.heap.size w W := by rw [hW]; exact H1.out.trans (Below.mono (by go_grown) H1.out.size)
      have hgz := Var.lt hK0
      have hgw : w.heap.size ≤ g := by rw [← hg]; exact H1.out.size
      have k0 : W.cell? ⟨g, 0, none⟩ = some (.bool false) := hK0.at_ (by omega)
      have k1 : W.cell? ⟨g, e, none⟩ = some (.bool false) := hK0.at_ (by omega)
      have f0 := Var.free hK0 0
      have f1 := Var.free hK0 e
      have hK1 := hK0.put 0 (by omega)
      have ke : (W.setCell ⟨g, 0, none⟩ (.bool true)).cell? ⟨g, e, none⟩ = some (.bool (false || e == 0)) := hK1.at_ (by omega)
      have hK2 := hK1.put e (by omega)
      have hb2 := (hbW.setCell (p := ⟨g, 0, none⟩) hgw (.bool true)).setCell (p := ⟨g, e, none⟩) hgw (.bool true)
      have H2 := Lib.hid (And.intro hK2 hb2)
      rw [hg]
      clear hK0 hbW hK1 hK2 hb2 hW hmk H1 hg
      go_wp2_with fail
      have hz2 := H2.out.2.size
      refine wp_gen (fun V0 hV => ?_)
      obtain ⟨W2', hW2⟩ : ∃ z, (W.setCell ⟨g, 0, none⟩ (.bool true)).setCell ⟨g, e, none⟩ (.bool true) = z := ⟨_, rfl⟩
      rw [hW2] at hV H2
      have hsW : W2'.heap.size = W.heap.size := by rw [← hW2]; simp
      have hbV : Below W2'.heap.size W2' V0 := by rw [hV]; go_grown
      have vh : Var V0 W2'.heap.size 47 #[.int .i64 0, .int .i64 (e : Int)] := by rw [hV]; exact Var.new _ _ _
      obtain ⟨G, hG⟩ : ∃ G : Nat → Bool, G = fun k => endsK n (kept (far ps (t * t)) 0 e) k := ⟨_, rfl⟩
      have hWt0 : Wt w (far ps (t * t)) n g (g + 1) G [(0, e)] (.slice (some ⟨W2'.heap.size, 0, none⟩) 1 1) V0 := by
        refine ⟨⟨rfl, .inr ⟨W2'.heap.size, 1, _, rfl, by omega, vh, Nat.le_refl _, by unfold maxLen; omega, rfl, rfl⟩⟩, fun x hx => ?_, ⟨_, H2.out.1.keep hbV, fun k => ?_⟩, H2.out.2.trans (hbV.mono H2.out.2.size), by have := hbV.size; omega, ?_⟩
        · rw [List.mem_singleton.1 hx]
          exact ⟨by have := HE.out; simp only; omega, hee⟩
        · rw [hG]
          unfold endsK
          have h1 := HE.out
          rw [show n - 1 = e by omega, List.any_cons, List.any_nil]
          show _ = (kept (far ps (t * t)) 0 e k || k == 0 || k == e)
          generalize kept (far ps (t * t)) 0 e k = z1
          generalize (k == 0) = z2
          generalize (k == e) = z3
          cases z1 <;> cases z2 <;> cases z3 <;> rfl
        · simp only [msr]; omega
      have HG := Lib.hid hG
      rw [hsW] at hWt0
      have HW0 := Lib.hid hWt0
      clear hG hWt0 vh hbV hV hW2 hsW H2 hws k0 k1 f0 f1 ke hz2
      refine wp_loop_ghost_k (fun gk a V => ∃ (L : List (Nat × Nat)) (Aw : Option Addr) (cw : Nat), Fr1 b off c n g L.length cw t Aw a ∧ Wt w (far ps (t * t)) n g (g + 1) G L (.slice Aw L.length cw) V ∧ gk = msr L) (msr [(0, e)]) ?_ ?_
      · exact ⟨[(0, e)], _, 1, fr1_mk, HW0.out, rfl⟩
      · rintro gk _ V ⟨L, Aw, cw, ⟨u, rfl⟩, hWt, rfl⟩ J K hJ hK
        clear HW0
        rcases L.eq_nil_or_concat with rfl | ⟨L', ⟨i, j⟩, rfl⟩
        · simp only [List.length_nil]
          obtain ⟨f, hKf, hGf⟩ := hWt.kept
          have hfG : ∀ k, f k = G k := fun k => by have := hGf k; simp only [List.any_nil, Bool.or_false] at this; exact this
          have H0 := Lib.hid (And.intro hKf (And.intro hWt.below hfG))
          have hwV := hWt.below.size
          have hgV := hWt.size
          clear hKf hGf hfG hWt
          go_wp2_with fail
          go_loopw [13, 125] (fun o i wr => ∃ (m co : Nat) (Ao : Option Addr), m ≤ n ∧ i = .int .i64 (m : Int) ∧ o = .slice Ao (leftF ps f m).length co ∧ wr.ownsRow V.heap.size 32 2 (.slice Ao (leftF ps f m).length co) (leftF ps f m).length (flat (leftF ps f m)) ∧ KeptAt wr g n f ∧ Below w.heap.size w wr ∧ V.heap.size ≤ wr.heap.size) (fun _ i _ => n - (intOf i).toNat)
          case atStart => exact ⟨0, 0, none, by omega, rfl, rfl, World.ownsRow_nil _ _ _ _, H0.out.1, H0.out.2.1, Nat.le_refl _⟩
          case round =>
            obtain ⟨m, co, Ao, hm, rfl, rfl, hown, hK, hB, hz⟩ := hrel
            have hlm := leftF_length ps f m
            rcases Nat.lt_or_ge m n with hlt | hge
            · have hmI : (m : Int) < (n : Int) := by omega
              have hmp : m < ps.length := by rw [HP.out.2]; exact hlt
              have c1 := (hB.cell (p := ⟨b, off + m * 2, none⟩) (show b < w.heap.size by omega)).trans (HPt.out m hmp).1
              have c2 := (hB.cell (p := ⟨b, off + m * 2 + 1, none⟩) (show b < w.heap.size by omega)).trans (HPt.out m hmp).2
              have hbz : b < wr.heap.size := by omega
              have hgz' : g < wr.heap.size := by omega
              have HOW := Lib.hid (And.intro hown (And.intro hK hB))
              clear hown hK hB
              go_upto_region 29 with fail
              refine wp_gen (fun Wb hWb => ?_)
              have hbb : Below wr.heap.size wr Wb := by rw [hWb]; go_grown
              have vB : Var Wb wr.heap.size 32 #[.int .i32 (gp ps m).1, .int .i32 (gp ps m).2] := by rw [hWb]; exact Var.new _ _ _
              have b0 : Wb.cell? ⟨wr.heap.size, 0, none⟩ = some (.int .i32 (gp ps m).1) := vB.cell 0
              have b1 : Wb.cell? ⟨wr.heap.size, 1, none⟩ = some (.int .i32 (gp ps m).2) := vB.cell 1
              have zB := vB.lt
              have hzb := hbb.size
              have hKb := HOW.out.2.1.keep hbb
              have hBb := HOW.out.2.2.trans (hbb.mono HOW.out.2.2.size)
              have hob := own_keep HOW.out.1 hbb
              have ck : Wb.cell? ⟨g, m, none⟩ = some (.bool (f m)) := hKb.at_ hlt
              have hgzb : g < Wb.heap.size := by omega
              have hVb : V.heap.size ≤ Wb.heap.size := by omega
              have HS : Hid (∀ v, f m = v → leftF ps f (m + 1) = leftF ps f m ++ (if v then [gp ps m] else [])) := Lib.hid (fun v hv => by subst hv; rfl)
              have HK := Lib.hid (And.intro hKb hBb)
              obtain ⟨ls, hls⟩ : ∃ z, leftF ps f m = z := ⟨_, rfl⟩
              rw [hls] at hob hlm ⊢
              have HLS := Lib.hid hls
              clear hls hKb hBb HOW vB hWb hbb c1 c2
              have push : ∀ (_ : f m = true) (A' : Option Addr) (c' : Nat) (w' : World), w'.ownsRow V.heap.size 32 2 (.slice A' (ls.length + 1) c') (ls.length + 1) (flat ls ++ [.int .i32 (gp ps m).1, .int .i32 (gp ps m).2]) → Wb.grownBy w' (Value.slice Ao ls.length co).ownBlock →
                  ∃ (m' co' : Nat) (Ao' : Option Addr), m' ≤ n ∧ (.int .i64 ((m : Int) + 1) : Value) = .int .i64 (m' : Int) ∧ (.slice A' (ls.length + 1) c' : Value) = .slice Ao' (leftF ps f m').length co' ∧ w'.ownsRow V.heap.size 32 2 (.slice Ao' (leftF ps f m').length co') (leftF ps f m').length (flat (leftF ps f m')) ∧ KeptAt w' g n f ∧ Below w.heap.size w w' ∧ V.heap.size ≤ w'.heap.size := fun hE A' c' w' ho hg => by
                have e : leftF ps f (m + 1) = ls ++ [gp ps m] := by rw [HS.out true hE, HLS.out]; rfl
                have el : (leftF ps f (m + 1)).length = ls.length + 1 := by rw [e]; simp
                refine ⟨m + 1, c', A', by omega, by simp, by rw [el], ?_, Var.push HK.out.1 hob (by omega) hg, below_push HK.out.2 hob (by omega) (by omega) hg, Nat.le_trans hVb hg.size⟩
                rw [el, e, flat_snoc]
                exact ho
              have PU := Lib.hid push
              clear push
              cases hFm : f m with
              | true =>
                have HE := Lib.hid hFm
                rw [hFm] at ck
                clear hFm
                go_wp2_with (at_builtin; refine wpList_push rfl (.tmp 134) (.tmp 136) 23 rfl eltP V.heap.size Ao ls.length co (flat ls) rfl hob [_, _] rfl rfl (two_cells rfl rfl) (le_maxLen (by omega)) (by omega) hVb ?_; intro A' c' w' hown' hg')
                go_roundw
                case rel => exact PU.out HE.out _ _ _ hown' hg'
                case measure => simp [intOf]; omega
              | false =>
                rw [hFm] at ck
                have HE := Lib.hid hFm
                have HOW := Lib.hid (And.intro hob (And.intro hVb hlm))
                clear hFm hob
                go_wp2_with fail
                go_roundw
                case rel =>
                  have e : leftF ps f (m + 1) = ls := by rw [HS.out false HE.out, HLS.out]; simp
                  exact ⟨m + 1, co, Ao, by omega, by simp, by rw [e], by rw [e]; exact HOW.out.1, HK.out.1, HK.out.2, HOW.out.2.1⟩
                case measure => simp [intOf]; omega
            · have hmI : ¬ (m : Int) < (n : Int) := by omega
              obtain rfl : m = n := by omega
              have HOW := Lib.hid (And.intro hown hB)
              clear hown hB hK
              go_wp2_with fail
              go_ret2
              have hc0 : tcode ps t = 0 := tcode_ok HLn.out HT.out.2 HPS.out
              have hl0 : tlist ps t = leftF ps f m := by
                rw [tlist_ok hc0]
                unfold thinF
                rw [HP.out.2]
                refine leftF_eq fun k _ => ?_
                rw [H0.out.2.2 k, HG.out]
                have h1 := HE.out
                simp only [show m - 1 = e by omega]
              refine ⟨_, by rw [hc0]; rfl, ?_, HOW.out.2⟩
              rw [hl0]
              exact own_less HOW.out.1 hwV
        · obtain ⟨l, hl⟩ : ∃ z, L'.length = z := ⟨_, rfl⟩
          obtain ⟨l1, hl1⟩ : ∃ z, (L'.concat (i, j)).length = z := ⟨_, rfl⟩
          have hle : l1 = l + 1 := by rw [← hl1, ← hl]; simp
          have hown := hWt.own
          rw [hl1] at hown ⊢
          rw [List.concat_eq_append, flatS_app] at hown
          obtain ⟨R, rfl, hR, hRz, hcap, hget⟩ := own_at hown (by omega)
          have hij := hWt.bd (i, j) (by simp)
          have hij1 : i < j := hij.1
          have hjn : j < n := hij.2
          have p0 : V.cell? ⟨R, l * 2, none⟩ = some (.int .i64 (i : Int)) := hget _ _ (by rw [List.getElem?_append_right (by rw [flatS_length, hl]; omega), flatS_length, hl, Nat.sub_self]; rfl)
          have p1 : V.cell? ⟨R, l * 2 + 1, none⟩ = some (.int .i64 (j : Int)) := hget _ _ (by rw [List.getElem?_append_right (by rw [flatS_length, hl]; omega), flatS_length, hl, Nat.add_sub_cancel_left]; rfl)
          have hsh := own_short hown (by rw [flatS_length, hl]) (show l ≤ l1 by omega) (by omega)
          have hl0 : (0 : Int) < (l1 : Int) := by omega
          have hlI : (l : Int) < (l1 : Int) := by omega
          have hlc : (l : Int) ≤ (cw : Int) := by omega
          have hlw : IntKind.i64.wrap ((l1 : Int) - 1) = (l : Int) := by
            have h2 := len_msr (L := L'.concat (i, j)) (fun x hx => (hWt.bd x hx).1)
            have h3 := hWt.few
            rw [hl1] at h2
            simp only [IntKind.wrap, IntKind.signed, IntKind.bits]; simp; omega
          have HV := Lib.hid (And.intro hWt hsh)
          have HLe := Lib.hid (And.intro hl (And.intro hl1 hle))
          have hgR : g < R := hR
          have hwz := hWt.below.size
          clear hWt hown hget hij hsh hl hl1 hle hcap hR
          go_upto_region 15 with fail
          refine wp_gen (fun W1 hW1 => ?_)
          have hb1 : Below V.heap.size V W1 := by rw [hW1]; go_grown
          have vS1 : Var W1 V.heap.size 47 #[.int .i64 (i : Int), .int .i64 (j : Int)] := by rw [hW1]; exact Var.new _ _ _
          obtain ⟨S, hS⟩ : ∃ z, V.heap.size = z := ⟨_, rfl⟩
          obtain ⟨F, hF⟩ : ∃ F : Nat → Int, F = fun k => offP (gp ps i) (gp ps j) (gp ps k) := ⟨_, rfl⟩
          obtain ⟨bnd, hbnd⟩ : ∃ z, t * t * mx1 (lng (gp ps i) (gp ps j)) = z := ⟨_, rfl⟩
          have HFar : Hid (far ps (t * t) i j = scanP F bnd i (j - 1 - i)) := Lib.hid (by rw [hF, ← hbnd]; rfl)
          have HBD : Hid (∀ W, Calls Try.prog 32 #[(Value.agg #[.int .i32 ((gp ps i).1), .int .i32 ((gp ps i).2)]), (Value.agg #[.int .i32 ((gp ps j).1), .int .i32 ((gp ps j).2)]), .int .i64 t] W fun e w' => e = .returned (.agg #[.int .i64 (hi64 bnd), .int .u64 (lo64 bnd)]) ∧ Below W.heap.size W w') := Lib.hid (fun W => hbnd ▸ bound_any (HPS.out.gp i) (HPS.out.gp j) HT.out.1 W)
          have HOF : Hid (∀ k W, Calls Try.prog 33 #[(Value.agg #[.int .i32 ((gp ps i).1), .int .i32 ((gp ps i).2)]), (Value.agg #[.int .i32 ((gp ps j).1), .int .i32 ((gp ps j).2)]), (Value.agg #[.int .i32 ((gp ps k).1), .int .i32 ((gp ps k).2)])] W fun e w' => e = .returned (.agg #[.int .i64 (hi64 (F k)), .int .u64 (lo64 (F k))]) ∧ Below W.heap.size W w') := Lib.hid (fun k W => by rw [hF]; exact off_any (HPS.out.gp i) (HPS.out.gp j) (HPS.out.gp k) W)
          have HIN : Hid (In128 bnd ∧ ∀ k, In128 (F k)) := Lib.hid ⟨hbnd ▸ bound_in (HPS.out.gp i) (HPS.out.gp j) HT.out.1, fun k => by rw [hF]; exact offP_in (HPS.out.gp i) (HPS.out.gp j) (HPS.out.gp k)⟩
          have hbW1 : Below w.heap.size w W1 := HV.out.1.below.trans (hb1.mono hwz)
          have hCi : W1.cell? ⟨b, off + i * 2, none⟩ = some (.int .i32 (gp ps i).1) ∧ W1.cell? ⟨b, off + i * 2 + 1, none⟩ = some (.int .i32 (gp ps i).2) := ⟨(hbW1.cell (p := ⟨b, off + i * 2, none⟩) (show b < w.heap.size by omega)).trans (HPt.out i (by have := HP.out.2; omega)).1, (hbW1.cell (p := ⟨b, off + i * 2 + 1, none⟩) (show b < w.heap.size by omega)).trans (HPt.out i (by have := HP.out.2; omega)).2⟩
          have hCj : W1.cell? ⟨b, off + j * 2, none⟩ = some (.int .i32 (gp ps j).1) ∧ W1.cell? ⟨b, off + j * 2 + 1, none⟩ = some (.int .i32 (gp ps j).2) := ⟨(hbW1.cell (p := ⟨b, off + j * 2, none⟩) (show b < w.heap.size by omega)).trans (HPt.out j (by have := HP.out.2; omega)).1, (hbW1.cell (p := ⟨b, off + j * 2 + 1, none⟩) (show b < w.heap.size by omega)).trans (HPt.out j (by have := HP.out.2; omega)).2⟩
          obtain ⟨c1, c2⟩ := hCi
          obtain ⟨c3, c4⟩ := hCj
          have zS := vS1.lt
          have hz1 := hbW1.size
          have hzV1 := hb1.size
          have s0 : W1.cell? ⟨V.heap.size, 0, none⟩ = some (.int .i64 (i : Int)) := vS1.cell 0
          have s1 : W1.cell? ⟨V.heap.size, 1, none⟩ = some (.int .i64 (j : Int)) := vS1.cell 1
          rw [hS] at s0 s1 zS vS1 ⊢
          have H1 := Lib.hid (And.intro hb1 (And.intro vS1 hS))
          have hbz : b < W1.heap.size := by omega
          have hiN : (i : Int) < (n : Int) := by omega
          have hjN : (j : Int) < (n : Int) := by omega
          rw [hS] at hzV1 hRz hwz
          clear hF hbnd hb1 vS1 hW1 hbW1 p0 p1 hS
          refine wp_cutR (fun a' w' => ∃ X, Fr0 b off c n g l cw S X t (-1) (some ⟨R, 0, none⟩) a' ∧ W1.heap.size ≤ X ∧ Var w' X 51 (W2 bnd) ∧ Below W1.heap.size W1 w') ?_ ?_
          · go_region_held3 (fun w' => Below W1.heap.size W1 w' ∧ (∀ b o, b < W1.heap.size → w'.cell? ⟨b, o, none⟩ = W1.cell? ⟨b, o, none⟩))
              (first | assumption | (repeat' (first | assumption | (with_reducible exact held_refl _) | (with_reducible refine held_drew ?_) | (with_reducible refine held_alloc _ ?_) | (with_reducible refine held_set _ (by first | omega | (simp; done) | (simp; omega)) ?_))))
              (first
                | (go_at_call 32; with_reducible refine (HBD.out _).mono ?_; rintro e wk ⟨rfl, hb_wk⟩; have hS_wk := held_step hb_wk (W0 := W1) (by (first | assumption | (repeat' (first | assumption | (with_reducible exact held_refl _) | (with_reducible refine held_drew ?_) | (with_reducible refine held_alloc _ ?_))))); obtain ⟨hc_wk, hf_wk⟩ := bcell hb_wk; have hz_wk := hb_wk.size; (try simp at hz_wk); (try have hsp1 : W1.heap.size < wk.heap.size := (by omega))))
            all_goals
              refine ⟨rfl, _, fr0_mk, ?_, ?_, ((show Below W1.heap.size W1 _ ∧ (∀ b o, b < W1.heap.size → World.cell? _ ⟨b, o, none⟩ = W1.cell? ⟨b, o, none⟩) by (repeat' (first | assumption | (with_reducible exact held_refl _) | (with_reducible refine held_drew ?_) | (with_reducible refine held_alloc _ ?_) | (with_reducible refine held_set _ (by first | omega | (simp; done) | (simp; omega)) ?_)))).1)⟩
              · first | exact Nat.le_refl _ | (simp; done) | omega | (simp; omega)
              · unfold W2
                repeat' (first
                  | (with_reducible exact Var.new' _ _ _ (by first | rfl | (simp; done) | (simp; omega)))
                  | (with_reducible refine wide_twoN (p := .int .i64 0) (q := .int .u64 0) ?_)
                  | (with_reducible refine Var.drew ?_)
                  | (with_reducible refine Var.alloc ?_ _)
                  | (with_reducible refine Var.keep ?_ hb_wk))
          · rintro _ w2 ⟨X, ⟨u2, rfl⟩, hX, vX, hb2⟩
            have hS2 := H1.out.2.1.keep hb2
            have s0' : w2.cell? ⟨S, 0, none⟩ = some (.int .i64 (i : Int)) := hS2.cell 0
            have s1' : w2.cell? ⟨S, 1, none⟩ = some (.int .i64 (j : Int)) := hS2.cell 1
            have zS2 := hS2.lt
            have hw16 : IntKind.i64.wrap ((i : Int) + 1) = (i : Int) + 1 := by simp only [IntKind.wrap, IntKind.signed, IntKind.bits]; simp; omega
            have hm0 : Hid (Var w2 X 51 (W2 (farV F bnd (scanP F bnd i 0))) ∧ Below W1.heap.size W1 w2) := Lib.hid ⟨vX, hb2⟩
            clear s0 s1 hS2 vX hb2
            go_wp2_with fail
            clear s0' s1' zS2
            refine wp_loop_ghost_k (fun gk a U => ∃ m : Nat, m + gk = j - 1 - i ∧ Fr2 b off c n g l cw S X t (atI (scanP F bnd i m)) ((i : Int) + 1 + (m : Int)) (some ⟨R, 0, none⟩) a ∧ Var U X 51 (W2 (farV F bnd (scanP F bnd i m))) ∧ Below W1.heap.size W1 U) (j - 1 - i) ?_ ?_
            · exact ⟨0, by omega, by rw [show (i : Int) + 1 + ((0 : Nat) : Int) = (i : Int) + 1 by omega]; exact fr2_mk, hm0.out.1, hm0.out.2⟩
            · rintro gk _ U ⟨m, hm, ⟨u, rfl⟩, vX, hbU⟩ J2 K2 hJ2 hK2
              clear hm0
              have hSU := H1.out.2.1.keep hbU
              have t0 : U.cell? ⟨S, 0, none⟩ = some (.int .i64 (i : Int)) := hSU.cell 0
              have t1 : U.cell? ⟨S, 1, none⟩ = some (.int .i64 (j : Int)) := hSU.cell 1
              have zSU := hSU.lt
              have zXU := vX.lt
              have hzU := hbU.size
              have hbzU : b < U.heap.size := by omega
              rcases Nat.lt_or_ge m (j - 1 - i) with hlt | hge
              · obtain ⟨K3, hK3⟩ : ∃ K, i + 1 + m = K := ⟨_, rfl⟩
                have hkI : (i : Int) + 1 + (m : Int) = (K3 : Int) := by omega
                have hKj : (K3 : Int) < (j : Int) := by omega
                have hKn : (K3 : Int) < (n : Int) := by omega
                have hK0 : decide ((K3 : Int) < 0) = false := decide_eq_false (by omega)
                rw [hkI]
                have c1' := (hbU.cell (p := ⟨b, off + i * 2, none⟩) hbz).trans c1
                have c2' := (hbU.cell (p := ⟨b, off + i * 2 + 1, none⟩) hbz).trans c2
                have c3' := (hbU.cell (p := ⟨b, off + j * 2, none⟩) hbz).trans c3
                have c4' := (hbU.cell (p := ⟨b, off + j * 2 + 1, none⟩) hbz).trans c4
                have hbWU : Below w.heap.size w U := (HV.out.1.below.trans (H1.out.1.mono (H1.out.2.2 ▸ hwz))).trans (hbU.mono hz1)
                have c5' := (hbWU.cell (p := ⟨b, off + K3 * 2, none⟩) (show b < w.heap.size by omega)).trans (HPt.out K3 (by have := HP.out.2; omega)).1
                have c6' := (hbWU.cell (p := ⟨b, off + K3 * 2 + 1, none⟩) (show b < w.heap.size by omega)).trans (HPt.out K3 (by have := HP.out.2; omega)).2
                obtain ⟨fv, hfv⟩ : ∃ z, farV F bnd (scanP F bnd i m) = z := ⟨_, rfl⟩
                have hfin : In128 fv := by
                  rw [← hfv]
                  cases scanP F bnd i m with
                  | none => exact HIN.out.1
                  | some x => exact HIN.out.2 x
                rw [hfv] at vX
                have HU := Lib.hid (And.intro vX (And.intro hbU (And.intro hfv hfin)))
                have HK := Lib.hid hK3
                clear vX hbU hSU hfv hfin hbWU hkI hK3
                go_wp2_with fail
                refine wp_cutR (fun a' w' => ∃ D, Fr3 b off c n g l cw S X D t (atI (scanP F bnd i m)) (K3 : Int) (some ⟨R, 0, none⟩) a' ∧ U.heap.size ≤ D ∧ Var w' D 51 (W2 (F K3)) ∧ Below U.heap.size U w') ?_ ?_
                · go_region_held3 (fun w' => Below U.heap.size U w' ∧ (∀ b o, b < U.heap.size → w'.cell? ⟨b, o, none⟩ = U.cell? ⟨b, o, none⟩))
                    (first | assumption | (repeat' (first | assumption | (with_reducible exact held_refl _) | (with_reducible refine held_drew ?_) | (with_reducible refine held_alloc _ ?_) | (with_reducible refine held_set _ (by first | omega | (simp; done) | (simp; omega)) ?_))))
                    (first
                      | (go_at_call 33; with_reducible refine (HOF.out K3 _).mono ?_; rintro e wk ⟨rfl, hb_wk⟩; have hS_wk := held_step hb_wk (W0 := U) (by (first | assumption | (repeat' (first | assumption | (with_reducible exact held_refl _) | (with_reducible refine held_drew ?_) | (with_reducible refine held_alloc _ ?_))))); obtain ⟨hc_wk, hf_wk⟩ := bcell hb_wk; have hz_wk := hb_wk.size; (try simp at hz_wk); (try have hsp1 : U.heap.size < wk.heap.size := (by omega))))
                  all_goals
                    refine ⟨rfl, _, fr3_mk, ?_, ?_, ((show Below U.heap.size U _ ∧ (∀ b o, b < U.heap.size → World.cell? _ ⟨b, o, none⟩ = U.cell? ⟨b, o, none⟩) by (repeat' (first | assumption | (with_reducible exact held_refl _) | (with_reducible refine held_drew ?_) | (with_reducible refine held_alloc _ ?_) | (with_reducible refine held_set _ (by first | omega | (simp; done) | (simp; omega)) ?_)))).1)⟩
                    · first | exact Nat.le_refl _ | (simp; done) | omega | (simp; omega)
                    · unfold W2
                      repeat' (first
                        | (with_reducible exact Var.new' _ _ _ (by first | rfl | (simp; done) | (simp; omega)))
                        | (with_reducible refine wide_twoN (p := .int .i64 0) (q := .int .u64 0) ?_)
                        | (with_reducible refine Var.drew ?_)
                        | (with_reducible refine Var.alloc ?_ _)
                        | (with_reducible refine Var.keep ?_ hb_wk))
                · rintro _ w3 ⟨D, ⟨u3, rfl⟩, hD, vD, hb3⟩
                  have vX3 := HU.out.1.keep hb3
                  have d0 : w3.cell? ⟨D, 0, none⟩ = some (.int .i64 (hi64 (F K3))) := vD.cell 0
                  have d1 : w3.cell? ⟨D, 1, none⟩ = some (.int .u64 (lo64 (F K3))) := vD.cell 1
                  have x0 : w3.cell? ⟨X, 0, none⟩ = some (.int .i64 (hi64 fv)) := vX3.cell 0
                  have x1 : w3.cell? ⟨X, 1, none⟩ = some (.int .u64 (lo64 fv)) := vX3.cell 1
                  have H3 := Lib.hid (And.intro vD (And.intro vX3 (HU.out.2.1.trans (hb3.mono hzU))))
                  have hz3 := hb3.size
                  have zD3 := vD.lt
                  have zX3 := vX3.lt
                  clear vD vX3 hb3 c1' c2' c3' c4' c5' c6' t0 t1
                  go_wp2_with fail
                  refine (cmp_any (F K3) fv (HIN.out.2 K3) HU.out.2.2.2 w3).mono ?_
                  rintro e w4 ⟨rfl, hb4⟩
                  obtain ⟨sg, hsg⟩ : ∃ z, cmpI (F K3) fv = z := ⟨_, rfl⟩
                  have hpos : 0 < sg ↔ fv < F K3 := by rw [← hsg]; exact cmpI_pos
                  rw [hsg]
                  have vX4 := H3.out.2.1.keep hb4
                  have vD4 := H3.out.1.keep hb4
                  have d0' : w4.cell? ⟨D, 0, none⟩ = some (.int .i64 (hi64 (F K3))) := vD4.cell 0
                  have d1' : w4.cell? ⟨D, 1, none⟩ = some (.int .u64 (lo64 (F K3))) := vD4.cell 1
                  have x0' : w4.cell? ⟨X, 0, none⟩ = some (.int .i64 (hi64 fv)) := vX4.cell 0
                  have x1' : w4.cell? ⟨X, 1, none⟩ = some (.int .u64 (lo64 fv)) := vX4.cell 1
                  have fx0 := vX4.free 0
                  have fx1 := vX4.free 1
                  have zX4 := vX4.lt
                  have zD4 := vD4.lt
                  have hw18 : IntKind.i64.wrap ((K3 : Int) + 1) = (K3 : Int) + 1 := by simp only [IntKind.wrap, IntKind.signed, IntKind.bits]; simp; omega
                  have H4 := Lib.hid (And.intro vX4 (H3.out.2.2.trans (hb4.mono H3.out.2.2.size)))
                  clear vX4 vD4 hb4 d0 d1 x0 x1 H3 hsg
                  have hDX : ¬ D = X := by omega
                  have hXD : ¬ X = D := by omega
                  rcases Int.lt_or_le 0 sg with hs | hs
                  · have hS : scanP F bnd i (m + 1) = some K3 := by rw [← HK.out]; exact scanP_new (by rw [HU.out.2.2.1, HK.out]; exact hpos.1 hs)
                    have HS := Lib.hid hS
                    clear hS hpos
                    go_wp2_with fail
                    refine wp_cutR (fun a' w' => Fr3 b off c n g l cw S X D t (K3 : Int) (K3 : Int) (some ⟨R, 0, none⟩) a' ∧ Var w' X 51 (W2 (F K3)) ∧ Below W1.heap.size W1 w') ?_ ?_
                    · go_region
                      all_goals
                        refine ⟨rfl, fr3_mk, ?_, ?_⟩
                        · exact Var.drew (wide_twoN H4.out.1)
                        · exact (((H4.out.2.setCell (p := ⟨X, 0, none⟩) hX _).setCell (p := ⟨X, 1, none⟩) hX _)).drew
                    · rintro _ w5 ⟨⟨u5, rfl⟩, vX5, hb5⟩
                      have H5 := Lib.hid (And.intro vX5 hb5)
                      clear vX5 hb5
                      go_wp2_with fail
                      refine Handed.intro (j - 1 - i - (m + 1)) (by omega) (hJ2 _ _ _ ⟨m + 1, by omega, ?_, ?_, H5.out.2⟩)
                      · rw [HS.out, show (i : Int) + 1 + ((m + 1 : Nat) : Int) = (K3 : Int) + 1 by have := HK.out; omega]; exact fr2_mk
                      · rw [HS.out]; exact H5.out.1
                  · have hs' : ¬ 0 < sg := by omega
                    have hS : scanP F bnd i (m + 1) = scanP F bnd i m := scanP_old (by rw [HU.out.2.2.1, HK.out]; exact fun h => hs' (hpos.2 h))
                    have HS := Lib.hid hS
                    clear hS hpos hs
                    go_wp2_with fail
                    refine Handed.intro (j - 1 - i - (m + 1)) (by omega) (hJ2 _ _ _ ⟨m + 1, by omega, ?_, ?_, H4.out.2⟩)
                    · rw [HS.out, show (i : Int) + 1 + ((m + 1 : Nat) : Int) = (K3 : Int) + 1 by have := HK.out; omega]; exact fr2_mk
                    · rw [HS.out, HU.out.2.2.1]; exact H4.out.1
              · have hmE : m = j - 1 - i := by omega
                have hkI : ¬ (i : Int) + 1 + (m : Int) < (j : Int) := by omega
                have HFm : Hid (far ps (t * t) i j = scanP F bnd i m) := Lib.hid (by rw [hmE]; exact HFar.out)
                have hbVU : Below V.heap.size V U := H1.out.1.trans (hbU.mono (H1.out.2.2 ▸ hzV1))
                have HU := Lib.hid hbVU
                have HB1 := Lib.hid hbU
                clear vX hbU hSU hbVU
                cases hsc : scanP F bnd i m with
                | none =>
                  simp only [atI]
                  have HN := Lib.hid (HFm.out.trans hsc)
                  clear hsc HFm
                  go_wp2_with fail
                  refine Handed.intro (msr L') ?_ (hJ _ _ _ ⟨L', _, cw, by rw [HLe.out.1]; exact fr1_mk, ?_, rfl⟩)
                  · simp only [List.concat_eq_append, msr_app, msr]; omega
                  · rw [HLe.out.1]; exact wt_none HV.out.1 HLe.out.1 HV.out.2 HU.out HN.out
                | some x =>
                  simp only [atI]
                  have hx := scanP_bd hsc
                  have HN := Lib.hid (HFm.out.trans hsc)
                  clear hsc HFm
                  obtain ⟨fk, hKA, hKG⟩ := HV.out.1.kept
                  have hKU := hKA.keep HU.out
                  have hxn : x < n := by omega
                  have hxI : (x : Int) < (n : Int) := by omega
                  have hx0 : (0 : Int) ≤ (x : Int) := by omega
                  have hx1 : decide ((x : Int) < 0) = false := decide_eq_false (by omega)
                  have ck : U.cell? ⟨g, x, none⟩ = some (.bool (fk x)) := hKU.at_ hxn
                  have fg := Var.free hKU x
                  have zg := Var.lt hKU
                  have hgS : ¬ g = S := by omega
                  have hSg : ¬ S = g := by omega
                  have HKU := Lib.hid (And.intro (hKU.put x hxn) hKG)
                  have hown2 := own_set (o := x) (u := .bool true) (own_keep HV.out.2 HU.out) (show g < g + 1 by omega)
                  have hgU : g + 1 ≤ U.heap.size := by omega
                  have hl5 : l ≤ 8192 := by
                    have h2 := len_msr (L := L'.concat (i, j)) (fun x hx => (HV.out.1.bd x hx).1)
                    have h3 := HV.out.1.few
                    have := HLe.out.2
                    omega
                  clear hKA hKU hKG
                  go_upto_region 24 with fail
                  refine wp_gen (fun U2 hU2 => ?_)
                  have hSU2 : Var U2 S 47 #[.int .i64 (i : Int), .int .i64 (j : Int)] := by rw [hU2]; exact (H1.out.2.1.below HB1.out zS).far (p := ⟨g, x, none⟩) hSg _
                  have t0 : U2.cell? ⟨S, 0, none⟩ = some (.int .i64 (i : Int)) := hSU2.cell 0
                  have t1 : U2.cell? ⟨S, 1, none⟩ = some (.int .i64 (j : Int)) := hSU2.cell 1
                  have zSU2 := hSU2.lt
                  have hzU2 : U2.heap.size = U.heap.size := by rw [hU2]; simp
                  have HK2 := Lib.hid HKU.out
                  rw [← hU2] at HK2 hown2
                  have hbG : g + 1 ≤ U2.heap.size := by omega
                  have HU2 := Lib.hid hU2
                  clear hU2 hSU2
                  go_wp2_with (at_builtin; refine wpList_pushes rfl (.tmp 112) (.tmp 121) 48 rfl eltS (g + 1) (some ⟨R, 0, none⟩) l cw (flatS L') rfl hown2 2 [_, _, _, _] ?_ ?_ ?_ ?_ ?_ ?_ ?_ ?_)
                  · exact ⟨rfl, rfl, rfl⟩
                  · exact le_maxLen (by omega)
                  · omega
                  intro A3 c9 w6 hown3 hg3
                  have HE := Lib.hid (And.intro hown3 hg3)
                  clear hown3 hg3
                  go_wp2_with fail
                  refine Handed.intro (msr (L' ++ [(i, x), (x, j)])) ?_ (hJ _ _ _ ⟨L' ++ [(i, x), (x, j)], _, c9, by rw [List.length_append, HLe.out.1]; exact fr1_mk, ?_, rfl⟩)
                  · simp only [List.concat_eq_append, msr_app, msr]; omega
                  · rw [show (L' ++ [(i, x), (x, j)]).length = l + 2 by rw [List.length_append, HLe.out.1]; rfl]
                    exact wt_some (far_between ps (t * t)) HV.out.1 HLe.out.1 HU.out HKU.out.1 HKU.out.2 HN.out hgw (HU2.out ▸ hown2) HE.out.1 (HU2.out ▸ HE.out.2)
  · have HC := Lib.hid (HCf.out hL hps)
    have HPS := Lib.hid hps
    clear hps HCt HCf
    go_enter Try.func11, Try.ntmps11
    go_wp2_with fail
    refine HC.out.mono ?_
    rintro e w1 ⟨rfl, hb1⟩
    have H1 := Lib.hid hb1
    clear hb1
    go_wp2_with fail
    go_ret2
    exact thinSays_bad (tcode_out HLn.out HT.out.2 HPS.out) (by omega) H1.out

end Go.Proofs.Ytcpojadinkonnaa
