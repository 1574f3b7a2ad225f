/-
  The law WireFrames: the walk.
-/
import Derived.Test.YtiejgandjlldjaaFil
namespace Go.Proofs.Ytiejgandjlldjaa
open Go.RowKit

attribute [local go_sem] Oper.semAt_some

theorem own_cell2 {w : World} {base n c : Nat} {e : TypeId} {A : Option Addr} {xs : List Value} (h : w.ownsRow base e 2 (.slice A n c) n xs) {j : Nat} {u : Value} (hj : xs[j]? = some u) :
    ∃ g, A = some ⟨g, 0, none⟩ ∧ base ≤ g ∧ g < w.heap.size ∧ (∀ (i : Nat) v, xs[i]? = some v → w.cell? ⟨g, i, none⟩ = some v) ∧ n ≤ 9223372036854775807 := by
  have hl : ∀ {i : Nat} {v : Value}, xs[i]? = some v → i < n * 2 := fun {i} {v} hi => by
    have := h.1
    rcases Nat.lt_or_ge i xs.length with h0 | h0
    · omega
    · rw [List.getElem?_eq_none h0] at hi; cases hi
  rcases h.2 with ⟨_, h0⟩ | ⟨g, cap, cur, hv, hb, hg, hc, hmax, hsz, ht⟩
  · have := hl hj; omega
  · injection hv with hA
    refine ⟨g, hA, hb, Var.lt (t := e) hg, fun i v hi => ?_, by unfold maxLen at hmax; omega⟩
    rw [cell_of_row w g i cur _ (0, 0) hg]
    have := hi
    rw [← ht, List.getElem?_take_of_lt (hl hi)] at this
    simpa using this
theorem Fd.keep {base : Nat} {W W' : World} {v : Value} {L : List (Nat × List UInt8)} (h : Fd base W v L) (hb : Below W.heap.size W W') : Fd base W' v L := by
  obtain ⟨cs, h1, h2⟩ := h.own
  exact ⟨cs, own_keep h1 hb, fun j p b hj => by obtain ⟨A, c, h3, h4, h5⟩ := h2 j p b hj; exact ⟨A, c, h3, h4, h5.keep hb⟩⟩

/-- What holds between the rounds. -/
structure Mid (w : World) (Bx T b0 n1 cc cl : Nat) (Ac Al : Option Addr) (sl : List UInt8) (L : List (Nat × List UInt8)) (Ds : List Nat) (W : World) : Prop where
  r : Var W w.heap.size 4 #[.bool false]
  b : Below w.heap.size w W
  x : Var W Bx 23 #[.slice Ac n1 cc]
  c : Bs W Ac n1 cc sl
  t : Var W T 57 #[.slice Al L.length cl]
  f : Fd b0 W (.slice Al L.length cl) L
  d : ∀ D ∈ Ds, w.heap.size ≤ D ∧ W.heap[D]? = some (.deferred (some []))
  n : Ds.Nodup
section
variable {w W W' : World} {Bx T b0 n1 cc cl : Nat} {Ac Al : Option Addr} {sl : List UInt8} {L : List (Nat × List UInt8)} {Ds : List Nat}
theorem Mid.keep (h : Mid w Bx T b0 n1 cc cl Ac Al sl L Ds W) (hb : Below W.heap.size W W') : Mid w Bx T b0 n1 cc cl Ac Al sl L Ds W' :=
  ⟨h.r.keep hb, h.b.trans (hb.mono h.b.size), h.x.keep hb, h.c.below hb, h.t.keep hb, h.f.keep hb, fun D hD => ⟨(h.d D hD).1, (hb.block D (Array.getElem?_eq_some_iff.1 (h.d D hD).2).1).trans (h.d D hD).2⟩, h.n⟩
theorem Mid.more (h : Mid w Bx T b0 n1 cc cl Ac Al sl L Ds W) {N D : Nat} (hD : N ≤ D) (hlt : ∀ D' ∈ Ds, D' < N) (h0 : w.heap.size ≤ N) (hd : W.heap[D]? = some (.deferred (some []))) : Mid w Bx T b0 n1 cc cl Ac Al sl L (D :: Ds) W :=
  ⟨h.r, h.b, h.x, h.c, h.t, h.f, fun D' hD' => by
    rcases List.mem_cons.1 hD' with rfl | hD'
    · exact ⟨by omega, hd⟩
    · exact h.d D' hD', List.nodup_cons.2 ⟨fun hm => by have := hlt D hm; omega, h.n⟩⟩
theorem Mid.lt (h : Mid w Bx T b0 n1 cc cl Ac Al sl L Ds W) : ∀ D ∈ Ds, D < W.heap.size := fun D hD => (Array.getElem?_eq_some_iff.1 (h.d D hD).2).1
theorem Mid.apt (h : Mid w Bx T b0 n1 cc cl Ac Al sl L Ds W) {N base : Nat} (hN : W.heap.size ≤ N) (hb : W.heap.size ≤ base) : Apt N base Bx Ac n1 := by
  have hx := h.x.lt
  refine ⟨by omega, by omega, ?_⟩
  rcases h.c.at_ with h0 | ⟨g, o, e, hg, _⟩
  · exact .inl h0
  · exact .inr ⟨g, o, e, by omega, by omega⟩
end

set_option maxRecDepth 100000 in
theorem fr_ex (A0 A1 : Option Addr) (n0 c0 n1 c1 R Bx T : Nat) (r : Int) {x2 x3 x5 x6 x7 x8 x9 x10 x11 x12 x13 x14 x15 x16 x18 x21 x22 x23 x24 x25 x26 x27 x28 x29 x30 x31 x32 x33 x34 x35 x36 x37 x38 x39 x40 x41 x42 x43 x44 x45 x46 x47 x48 x49 x50 x51 x52 x53 x54 x55 x56 x57 x58 x59 x60 x61 x62 x63 x64 x65 x66 x67 x68 x69 x70 x71 x72 x73 x74 x75 x76 x77 x78 x79 x80 x81 x82 x83 x84 x85 x86 x87 x88 x89 x90 x91 x92 x93 x94 x95 x96 x97 x98 x99 x100 x101 x102 x103 x104 x105 x106 x107 x108 x109 x110 x111 x112 x113 x114 x115 x116 x117 x118 x119 x120 x121 x122 x123 x124 x125 x126 x127 x128 x129 x130 x131 x132 x133 x134 x135 x136 x137 x138 x139 x140 x141 x142 x143 x144 x145 x146 x147 x148 x149 x150 x151 x152 x153 x154 x155 x156 x157 x158 x159 x160 x161 x162 x163 x164 x165 x166 x167 x168 x169 x170 x171 x172 x173 x174 x175 x176 x177 x178 x179 x180 x181 x182 x183 x184 x185 x186 x187 x188 x189 x190 x191 x192 x193 x194 x195 x196 x197 x198 x199 x200 x201 x202 x203 x204 x205 x206 x207 x208 x209 x210 x211 x212 x213 x214 x215 : Value} {ds : List Deferred} : ∃ u : Nat → Value, ({ tmps := #[.slice A0 n0 c0, .slice A1 n1 c1, x2, x3, .pointer (some ⟨R, 0, none⟩), x5, x6, x7, x8, x9, x10, x11, x12, x13, x14, x15, x16, .func (.func 58) #[] #[.pointer (some ⟨Bx, 0, none⟩)], x18, .pointer (some ⟨T, 0, none⟩), .int .i64 r, x21, x22, x23, x24, x25, x26, x27, x28, x29, x30, x31, x32, x33, x34, x35, x36, x37, x38, x39, x40, x41, x42, x43, x44, x45, x46, x47, x48, x49, x50, x51, x52, x53, x54, x55, x56, x57, x58, x59, x60, x61, x62, x63, x64, x65, x66, x67, x68, x69, x70, x71, x72, x73, x74, x75, x76, x77, x78, x79, x80, x81, x82, x83, x84, x85, x86, x87, x88, x89, x90, x91, x92, x93, x94, x95, x96, x97, x98, x99, x100, x101, x102, x103, x104, x105, x106, x107, x108, x109, x110, x111, x112, x113, x114, x115, x116, x117, x118, x119, x120, x121, x122, x123, x124, x125, x126, x127, x128, x129, x130, x131, x132, x133, x134, x135, x136, x137, x138, x139, x140, x141, x142, x143, x144, x145, x146, x147, x148, x149, x150, x151, x152, x153, x154, x155, x156, x157, x158, x159, x160, x161, x162, x163, x164, x165, x166, x167, x168, x169, x170, x171, x172, x173, x174, x175, x176, x177, x178, x179, x180, x181, x182, x183, x184, x185, x186, x187, x188, x189, x190, x191, x192, x193, x194, x195, x196, x197, x198, x199, x200, x201, x202, x203, x204, x205, x206, x207, x208, x209, x210, x211, x212, x213, x214, x215], defers := ds } : Act) = { tmps := #[.slice A0 n0 c0, .slice A1 n1 c1, u 2, u 3, .pointer (some ⟨R, 0, none⟩), u 5, u 6, u 7, u 8, u 9, u 10, u 11, u 12, u 13, u 14, u 15, u 16, .func (.func 58) #[] #[.pointer (some ⟨Bx, 0, none⟩)], u 18, .pointer (some ⟨T, 0, none⟩), .int .i64 r, u 21, u 22, u 23, u 24, u 25, u 26, u 27, u 28, u 29, u 30, u 31, u 32, u 33, u 34, u 35, u 36, u 37, u 38, u 39, u 40, u 41, u 42, u 43, u 44, u 45, u 46, u 47, u 48, u 49, u 50, u 51, u 52, u 53, u 54, u 55, u 56, u 57, u 58, u 59, u 60, u 61, u 62, u 63, u 64, u 65, u 66, u 67, u 68, u 69, u 70, u 71, u 72, u 73, u 74, u 75, u 76, u 77, u 78, u 79, u 80, u 81, u 82, u 83, u 84, u 85, u 86, u 87, u 88, u 89, u 90, u 91, u 92, u 93, u 94, u 95, u 96, u 97, u 98, u 99, u 100, u 101, u 102, u 103, u 104, u 105, u 106, u 107, u 108, u 109, u 110, u 111, u 112, u 113, u 114, u 115, u 116, u 117, u 118, u 119, u 120, u 121, u 122, u 123, u 124, u 125, u 126, u 127, u 128, u 129, u 130, u 131, u 132, u 133, u 134, u 135, u 136, u 137, u 138, u 139, u 140, u 141, u 142, u 143, u 144, u 145, u 146, u 147, u 148, u 149, u 150, u 151, u 152, u 153, u 154, u 155, u 156, u 157, u 158, u 159, u 160, u 161, u 162, u 163, u 164, u 165, u 166, u 167, u 168, u 169, u 170, u 171, u 172, u 173, u 174, u 175, u 176, u 177, u 178, u 179, u 180, u 181, u 182, u 183, u 184, u 185, u 186, u 187, u 188, u 189, u 190, u 191, u 192, u 193, u 194, u 195, u 196, u 197, u 198, u 199, u 200, u 201, u 202, u 203, u 204, u 205, u 206, u 207, u 208, u 209, u 210, u 211, u 212, u 213, u 214, u 215], defers := ds } := ⟨fun i => ([undef, undef, x2, x3, undef, x5, x6, x7, x8, x9, x10, x11, x12, x13, x14, x15, x16, undef, x18, undef, undef, x21, x22, x23, x24, x25, x26, x27, x28, x29, x30, x31, x32, x33, x34, x35, x36, x37, x38, x39, x40, x41, x42, x43, x44, x45, x46, x47, x48, x49, x50, x51, x52, x53, x54, x55, x56, x57, x58, x59, x60, x61, x62, x63, x64, x65, x66, x67, x68, x69, x70, x71, x72, x73, x74, x75, x76, x77, x78, x79, x80, x81, x82, x83, x84, x85, x86, x87, x88, x89, x90, x91, x92, x93, x94, x95, x96, x97, x98, x99, x100, x101, x102, x103, x104, x105, x106, x107, x108, x109, x110, x111, x112, x113, x114, x115, x116, x117, x118, x119, x120, x121, x122, x123, x124, x125, x126, x127, x128, x129, x130, x131, x132, x133, x134, x135, x136, x137, x138, x139, x140, x141, x142, x143, x144, x145, x146, x147, x148, x149, x150, x151, x152, x153, x154, x155, x156, x157, x158, x159, x160, x161, x162, x163, x164, x165, x166, x167, x168, x169, x170, x171, x172, x173, x174, x175, x176, x177, x178, x179, x180, x181, x182, x183, x184, x185, x186, x187, x188, x189, x190, x191, x192, x193, x194, x195, x196, x197, x198, x199, x200, x201, x202, x203, x204, x205, x206, x207, x208, x209, x210, x211, x212, x213, x214, x215] : List Value).getD i undef, rfl⟩

set_option maxRecDepth 100000 in
theorem fr_next {w V : World} {A0 A1 Ac Al : Option Addr} {n0 c0 n1 c1 Bx T b0 cc cl r m : Nat} {sl : List UInt8} {L : List (Nat × List UInt8)} {Ds : List Nat} {x2 x3 x5 x6 x7 x8 x9 x10 x11 x12 x13 x14 x15 x16 x18 x21 x22 x23 x24 x25 x26 x27 x28 x29 x30 x31 x32 x33 x34 x35 x36 x37 x38 x39 x40 x41 x42 x43 x44 x45 x46 x47 x48 x49 x50 x51 x52 x53 x54 x55 x56 x57 x58 x59 x60 x61 x62 x63 x64 x65 x66 x67 x68 x69 x70 x71 x72 x73 x74 x75 x76 x77 x78 x79 x80 x81 x82 x83 x84 x85 x86 x87 x88 x89 x90 x91 x92 x93 x94 x95 x96 x97 x98 x99 x100 x101 x102 x103 x104 x105 x106 x107 x108 x109 x110 x111 x112 x113 x114 x115 x116 x117 x118 x119 x120 x121 x122 x123 x124 x125 x126 x127 x128 x129 x130 x131 x132 x133 x134 x135 x136 x137 x138 x139 x140 x141 x142 x143 x144 x145 x146 x147 x148 x149 x150 x151 x152 x153 x154 x155 x156 x157 x158 x159 x160 x161 x162 x163 x164 x165 x166 x167 x168 x169 x170 x171 x172 x173 x174 x175 x176 x177 x178 x179 x180 x181 x182 x183 x184 x185 x186 x187 x188 x189 x190 x191 x192 x193 x194 x195 x196 x197 x198 x199 x200 x201 x202 x203 x204 x205 x206 x207 x208 x209 x210 x211 x212 x213 x214 x215 : Value} (hr : r + m = 2) (hM : Mid w Bx T b0 n1 cc cl Ac Al sl L Ds V) :
    ∃ (r' : Nat) (Ds' : List Nat) (u : Nat → Value), r' + m = 2 ∧ ({ tmps := #[.slice A0 n0 c0, .slice A1 n1 c1, x2, x3, .pointer (some ⟨w.heap.size, 0, none⟩), x5, x6, x7, x8, x9, x10, x11, x12, x13, x14, x15, x16, .func (.func 58) #[] #[.pointer (some ⟨Bx, 0, none⟩)], x18, .pointer (some ⟨T, 0, none⟩), .int .i64 (r : Int), x21, x22, x23, x24, x25, x26, x27, x28, x29, x30, x31, x32, x33, x34, x35, x36, x37, x38, x39, x40, x41, x42, x43, x44, x45, x46, x47, x48, x49, x50, x51, x52, x53, x54, x55, x56, x57, x58, x59, x60, x61, x62, x63, x64, x65, x66, x67, x68, x69, x70, x71, x72, x73, x74, x75, x76, x77, x78, x79, x80, x81, x82, x83, x84, x85, x86, x87, x88, x89, x90, x91, x92, x93, x94, x95, x96, x97, x98, x99, x100, x101, x102, x103, x104, x105, x106, x107, x108, x109, x110, x111, x112, x113, x114, x115, x116, x117, x118, x119, x120, x121, x122, x123, x124, x125, x126, x127, x128, x129, x130, x131, x132, x133, x134, x135, x136, x137, x138, x139, x140, x141, x142, x143, x144, x145, x146, x147, x148, x149, x150, x151, x152, x153, x154, x155, x156, x157, x158, x159, x160, x161, x162, x163, x164, x165, x166, x167, x168, x169, x170, x171, x172, x173, x174, x175, x176, x177, x178, x179, x180, x181, x182, x183, x184, x185, x186, x187, x188, x189, x190, x191, x192, x193, x194, x195, x196, x197, x198, x199, x200, x201, x202, x203, x204, x205, x206, x207, x208, x209, x210, x211, x212, x213, x214, x215], defers := Ds.map mark } : Act) = { tmps := #[.slice A0 n0 c0, .slice A1 n1 c1, u 2, u 3, .pointer (some ⟨w.heap.size, 0, none⟩), u 5, u 6, u 7, u 8, u 9, u 10, u 11, u 12, u 13, u 14, u 15, u 16, .func (.func 58) #[] #[.pointer (some ⟨Bx, 0, none⟩)], u 18, .pointer (some ⟨T, 0, none⟩), .int .i64 (r' : Int), u 21, u 22, u 23, u 24, u 25, u 26, u 27, u 28, u 29, u 30, u 31, u 32, u 33, u 34, u 35, u 36, u 37, u 38, u 39, u 40, u 41, u 42, u 43, u 44, u 45, u 46, u 47, u 48, u 49, u 50, u 51, u 52, u 53, u 54, u 55, u 56, u 57, u 58, u 59, u 60, u 61, u 62, u 63, u 64, u 65, u 66, u 67, u 68, u 69, u 70, u 71, u 72, u 73, u 74, u 75, u 76, u 77, u 78, u 79, u 80, u 81, u 82, u 83, u 84, u 85, u 86, u 87, u 88, u 89, u 90, u 91, u 92, u 93, u 94, u 95, u 96, u 97, u 98, u 99, u 100, u 101, u 102, u 103, u 104, u 105, u 106, u 107, u 108, u 109, u 110, u 111, u 112, u 113, u 114, u 115, u 116, u 117, u 118, u 119, u 120, u 121, u 122, u 123, u 124, u 125, u 126, u 127, u 128, u 129, u 130, u 131, u 132, u 133, u 134, u 135, u 136, u 137, u 138, u 139, u 140, u 141, u 142, u 143, u 144, u 145, u 146, u 147, u 148, u 149, u 150, u 151, u 152, u 153, u 154, u 155, u 156, u 157, u 158, u 159, u 160, u 161, u 162, u 163, u 164, u 165, u 166, u 167, u 168, u 169, u 170, u 171, u 172, u 173, u 174, u 175, u 176, u 177, u 178, u 179, u 180, u 181, u 182, u 183, u 184, u 185, u 186, u 187, u 188, u 189, u 190, u 191, u 192, u 193, u 194, u 195, u 196, u 197, u 198, u 199, u 200, u 201, u 202, u 203, u 204, u 205, u 206, u 207, u 208, u 209, u 210, u 211, u 212, u 213, u 214, u 215], defers := Ds'.map mark } ∧ Mid w Bx T b0 n1 cc cl Ac Al sl L Ds' V := ⟨r, Ds, fun i => ([undef, undef, x2, x3, undef, x5, x6, x7, x8, x9, x10, x11, x12, x13, x14, x15, x16, undef, x18, undef, undef, x21, x22, x23, x24, x25, x26, x27, x28, x29, x30, x31, x32, x33, x34, x35, x36, x37, x38, x39, x40, x41, x42, x43, x44, x45, x46, x47, x48, x49, x50, x51, x52, x53, x54, x55, x56, x57, x58, x59, x60, x61, x62, x63, x64, x65, x66, x67, x68, x69, x70, x71, x72, x73, x74, x75, x76, x77, x78, x79, x80, x81, x82, x83, x84, x85, x86, x87, x88, x89, x90, x91, x92, x93, x94, x95, x96, x97, x98, x99, x100, x101, x102, x103, x104, x105, x106, x107, x108, x109, x110, x111, x112, x113, x114, x115, x116, x117, x118, x119, x120, x121, x122, x123, x124, x125, x126, x127, x128, x129, x130, x131, x132, x133, x134, x135, x136, x137, x138, x139, x140, x141, x142, x143, x144, x145, x146, x147, x148, x149, x150, x151, x152, x153, x154, x155, x156, x157, x158, x159, x160, x161, x162, x163, x164, x165, x166, x167, x168, x169, x170, x171, x172, x173, x174, x175, x176, x177, x178, x179, x180, x181, x182, x183, x184, x185, x186, x187, x188, x189, x190, x191, x192, x193, x194, x195, x196, x197, x198, x199, x200, x201, x202, x203, x204, x205, x206, x207, x208, x209, x210, x211, x212, x213, x214, x215] : List Value).getD i undef, hr, rfl, hM⟩

set_option maxRecDepth 100000 in
set_option maxHeartbeats 4000000 in
theorem frames_walk (A0 A1 : Option Addr) (n0 c0 n1 c1 : Nat) (bl sl : List UInt8) (w : World) (h0 : Bs w A0 n0 c0 bl) (h1 : Bs w A1 n1 c1 sl) (hA0 : A0 = none → c0 = 0) (hA1 : A1 = none → c1 = 0) (hn0 : n0 ≤ 1048576) (hn1 : n1 ≤ 1048576) :
    Calls Try.prog 7 #[.slice A0 n0 c0, .slice A1 n1 c1] w fun e w' => e = .returned (.bool true) ∧ Below w.heap.size w w' := by
  have HL := Lib.hid (And.intro h0 (And.intro h1 (And.intro hA0 hA1)))
  have hl0 := h0.len
  have hl1 := h1.len
  have hc0 := h0.cap
  have hc1 := h1.cap
  clear h0 h1 hA0 hA1
  refine (callsIn_wide (n := 6)).1 ?_
  refine callsIn_of_wp_marks Try.func7 rfl trivial ?_ rfl
  simp only [Try.ntmps7, List.size_toArray, List.length_cons, List.length_nil, Nat.reduceAdd, Nat.reduceSub, Array.replicate_succ, Array.replicate_zero, List.push_toArray, List.append_toArray, List.nil_append, List.cons_append]
  refine wpIn_wide.2 ?_
  go_upto_region 1 with fail
  refine wp_gen (fun W hW => ?_)
  have vR : Var W w.heap.size 4 #[.bool false] := by rw [hW]; exact Var.new _ _ _
  have hbW : Below w.heap.size w W := by rw [hW]; go_grown
  clear hW
  obtain ⟨C0, hcp, hin⟩ := made_copy A0 n0 c0 bl W (HL.out.1.below hbW) HL.out.2.2.1 (by omega)
  have hmk := make20 n0 (by omega) W
  have HW := Lib.hid (And.intro vR (And.intro hbW hin))
  have zR := vR.lt
  clear vR hbW hin
  have hw1 : IntKind.i64.wrap ((n1 : Int) + 20) = (n1 : Int) + 20 := by simp only [IntKind.wrap, IntKind.signed, IntKind.bits]; simp; omega
  have hw0 : IntKind.i64.wrap ((n0 : Int) + 20) = (n0 : Int) + 20 := by simp only [IntKind.wrap, IntKind.signed, IntKind.bits]; simp; omega
  go_upto_region 4 with fail
  have hbC : Below W.heap.size W (W.alloc (.cells C0 5)) := by go_grown
  have H3 := Lib.hid (And.intro (HW.out.1.keep hbC) (And.intro (HW.out.2.1.trans (hbC.mono HW.out.2.1.size)) (And.intro HW.out.2.2 (HL.out.1.below (HW.out.2.1.trans (hbC.mono HW.out.2.1.size))))))
  obtain ⟨gi, hgi⟩ : ∃ z, W.heap.size = z := ⟨_, rfl⟩
  obtain ⟨w3, hw3⟩ : ∃ z, W.alloc (.cells C0 5) = z := ⟨_, rfl⟩
  have hz3 : w3.heap.size = gi + 1 := by rw [← hw3, ← hgi]; simp
  rw [hw3, hgi] at H3
  rw [hw3, hgi]
  rw [hgi] at zR
  clear hbC HW hgi hw3 hcp hmk hw0
  go_wp2_with fail
  refine (frame_both (some ⟨gi, 0, none⟩) n0 (n0 + 20) bl w3 H3.out.2.2.1.1).mono ?_
  rintro e w4 ⟨Af, nf, cf, rfl, hnil, hf4, hb4⟩
  have hz4 := hb4.size
  have hpf := hf4.1.place
  have hnf : nf ≤ 8192 := by rw [← hf4.1.1.len]; exact fbytes_len bl
  have H4 := Lib.hid (And.intro (H3.out.1.keep hb4) (And.intro (H3.out.2.1.trans (hb4.mono H3.out.2.1.size)) (And.intro (H3.out.2.2.1.keep hb4) (And.intro (H3.out.2.2.2.below hb4) hf4))))
  clear H3 hb4 hf4
  go_wp2_with fail
  refine (frame_both (some ⟨gi, 0, none⟩) n0 (n0 + 20) bl w4 H4.out.2.2.1.1).mono ?_
  rintro e w5 ⟨Ag, ng, cg, rfl, _, hf5, hb5⟩
  have hz5 := hb5.size
  have H5 := Lib.hid (And.intro (H4.out.1.keep hb5) (And.intro (H4.out.2.1.trans (hb5.mono H4.out.2.1.size)) (And.intro (H4.out.2.2.1.keep hb5) (And.intro (H4.out.2.2.2.1.below hb5) (And.intro (And.intro (H4.out.2.2.2.2.1.keep hb5) (H4.out.2.2.2.2.2.keep hb5)) hf5)))))
  clear H4 hb5 hf5
  go_wp2_with fail
  refine (frame_ref_both A0 n0 c0 bl w5 H5.out.2.2.2.1).mono ?_
  rintro e w6 ⟨Ah, nh, ch, rfl, hf6, hb6⟩
  have hz6 := hb6.size
  have H6 := Lib.hid (And.intro (H5.out.1.keep hb6) (And.intro (H5.out.2.1.trans (hb6.mono H5.out.2.1.size)) (And.intro (H5.out.2.2.1.keep hb6) (And.intro (H5.out.2.2.2.1.below hb6) (And.intro (And.intro (H5.out.2.2.2.2.1.1.keep hb6) (H5.out.2.2.2.2.1.2.keep hb6)) (And.intro (H5.out.2.2.2.2.2.1.keep hb6) hf6))))))
  clear H5 hb6 hf6
  go_wp2_with fail
  refine (Crc_any (some ⟨gi, 0, none⟩) n0 (n0 + 20) bl w6 H6.out.2.2.1.1).mono ?_
  rintro e w7 ⟨rfl, hb7⟩
  have hz7 := hb7.size
  have H7 := Lib.hid (And.intro (H6.out.1.keep hb7) (And.intro (H6.out.2.1.trans (hb7.mono H6.out.2.1.size)) (And.intro (H6.out.2.2.1.keep hb7) (And.intro (H6.out.2.2.2.1.below hb7) (And.intro (And.intro (H6.out.2.2.2.2.1.1.keep hb7) (H6.out.2.2.2.2.1.2.keep hb7)) (And.intro (H6.out.2.2.2.2.2.1.keep hb7) (H6.out.2.2.2.2.2.2.keep hb7)))))))
  clear H6 hb7
  go_wp2_with fail
  refine (crc_ref A0 n0 c0 bl w7 H7.out.2.2.2.1).mono ?_
  rintro e w8 ⟨rfl, hb8⟩
  have hz8 := hb8.size
  have H8 := Lib.hid (And.intro (H7.out.1.keep hb8) (And.intro (H7.out.2.1.trans (hb8.mono H7.out.2.1.size)) (And.intro (H7.out.2.2.1.keep hb8) (And.intro (H7.out.2.2.2.1.below hb8) (And.intro (And.intro (H7.out.2.2.2.2.1.1.keep hb8) (H7.out.2.2.2.2.1.2.keep hb8)) (And.intro (H7.out.2.2.2.2.2.1.keep hb8) (H7.out.2.2.2.2.2.2.keep hb8)))))))
  clear H7 hb8
  have hcv1 := bs_str H8.out.2.2.1.1
  have hcv2 := bs_str H8.out.2.2.2.1
  have hcv3 := bs_str H8.out.2.2.2.2.1.1.1
  have hcv4 := bs_str H8.out.2.2.2.2.2.1.1
  have hcv5 := bs_str H8.out.2.2.2.2.2.2.1
  go_wp2_with fail
  clear hcv1 hcv2 hcv3 hcv4 hcv5
  have H9 := Lib.hid (And.intro H8.out.1 (And.intro H8.out.2.1 (And.intro (And.intro H8.out.2.2.2.2.1.1 H8.out.2.2.2.2.1.2) (And.intro H8.out.2.2.2.2.2.1 H8.out.2.2.2.2.2.2))))
  clear H8
  have HP := Lib.hid (And.intro hpf hnil)
  clear hpf hnil
  go_loopw [12] (fun t wr => ∃ (k : Nat) (l' : List UInt8), k ≤ nf ∧ w8.heap.size ≤ wr.heap.size ∧ t = .int .i64 (k : Int) ∧ Var wr w.heap.size 4 #[.bool false] ∧ Below w.heap.size w wr ∧ Fil wr w3.heap.size Af nf cf l' ∧ Br wr w4.heap.size Ag ng cg (fbytes bl) ∧ Br wr w5.heap.size Ah nh ch (fbytes bl)) (fun t _ => nf - (intOf t).toNat)
  case atStart => exact ⟨0, _, by omega, Nat.le_refl _, rfl, H9.out.1, H9.out.2.1, H9.out.2.2.1, H9.out.2.2.2.1, H9.out.2.2.2.2⟩
  case round =>
    obtain ⟨k, l', hk, hz9, rfl, vR, hB, hf, hg, hh⟩ := hrel
    rcases Nat.lt_or_ge k nf with hlt | hge
    · have hkI : (k : Int) < (nf : Int) := by omega
      obtain ⟨gf, off, rfl, hg1, hg2⟩ : ∃ g o, Af = some ⟨g, o, none⟩ ∧ w3.heap.size ≤ g ∧ g < w4.heap.size := by
        rcases HP.out.1 with h | h
        · omega
        · exact h
      obtain ⟨⟨x, cF⟩, fF, zF, _, hfp⟩ := hf.put hlt (51 : UInt8)
      rw [show (((51 : UInt8).toNat : Nat) : Int) = 51 from rfl] at hfp
      have ha := apart_set wr gf (off + k) (.int .u8 51)
      have HX := Lib.hid (And.intro (vR.far (p := ⟨gf, off + k, none⟩) (show w.heap.size ≠ gf by omega) (.int .u8 51)) (And.intro (hB.setCell (p := ⟨gf, off + k, none⟩) (show w.heap.size ≤ gf by omega) (.int .u8 51)) (And.intro hfp (And.intro (hg.apart ha (by omega)) (hh.apart ha (by omega))))))
      clear vR hB hf hg hh hfp ha
      go_wp2_with fail
      go_roundw
      case rel => exact ⟨k + 1, _, by omega, by simpa using hz9, by go_num, HX.out.1, HX.out.2.1, HX.out.2.2.1, HX.out.2.2.2.1, HX.out.2.2.2.2⟩
      case measure => simp [intOf]; omega
    · have hkI : ¬ (k : Int) < (nf : Int) := by omega
      have HX := Lib.hid (And.intro vR (And.intro hB (And.intro hg hh)))
      clear vR hB hg hh
      go_wp2_with (at_builtin; refine wpList_app1 rfl (.tmp 96) (.tmp 97) rfl rfl hf (1 : UInt8) rfl (by omega) (by omega) ?_; intro v9 w9 row9 hg9 hrow9; have hr9 := row_where HP.out.1 HP.out.2 hrow9; have hzR := HX.out.1.lt; have H9 := Lib.hid (And.intro (HX.out.1.grown hg9 (fun e => by have := (hr9 _ e.symm).1; omega)) (And.intro (HX.out.2.1.grown hg9 (Nat.le_of_lt hzR) (fun k e => by have := (hr9 _ e).1; omega)) (And.intro (HX.out.2.2.1.far hg9 (fun k e => (hr9 _ e).2)) (HX.out.2.2.2.far hg9 (fun k e => by have := (hr9 _ e).2; omega))))); have hz9' := hg9.size; have hcv4 := bs_str H9.out.2.2.1.1; have hcv5 := bs_str H9.out.2.2.2.1; obtain ⟨C1, hcp1, hin1⟩ := made_copy A1 n1 c1 sl w9 (HL.out.2.1.below H9.out.2.1) HL.out.2.2.2 (by omega); have HI := Lib.hid hin1; have hmk1 := make20 n1 (by omega) w9; clear hf hg9 hrow9 hr9 HX hin1)
      have hbC : Below w9.heap.size w9 (w9.alloc (.cells C1 5)) := by go_grown
      have hB10 := H9.out.2.1.trans (hbC.mono H9.out.2.1.size)
      have H10 := Lib.hid (And.intro (H9.out.1.keep hbC) (And.intro hB10 (And.intro HI.out (HL.out.2.1.below hB10))))
      obtain ⟨gs, hgs⟩ : ∃ z, w9.heap.size = z := ⟨_, rfl⟩
      obtain ⟨w10, hw10⟩ : ∃ z, w9.alloc (.cells C1 5) = z := ⟨_, rfl⟩
      have hz10 : w10.heap.size = gs + 1 := by rw [← hw10, ← hgs]; simp
      have zR9 := H9.out.1.lt
      rw [hw10, hgs] at H10
      rw [hw10, hgs]
      rw [hgs] at zR9
      clear hbC hB10 H9 HI hcv4 hcv5 hcp1 hmk1 hgs hw10 hw1
      refine (open_any (some ⟨gs, 0, none⟩) n1 (n1 + 20) sl w10 H10.out.2.2.1.1 (by omega)).mono ?_
      rintro e w11 ⟨Aa, na, ca, rfl, hs11, hf11, hb11⟩
      have hz11 := hb11.size
      have H11 := Lib.hid (And.intro (H10.out.1.keep hb11) (And.intro (H10.out.2.1.trans (hb11.mono H10.out.2.1.size)) (And.intro (H10.out.2.2.1.keep hb11) (And.intro (H10.out.2.2.2.below hb11) (show Br w11 w10.heap.size Aa na ca (openBody sl) from ⟨hs11, hf11⟩)))))
      clear H10 hb11 hs11 hf11
      go_wp2_with fail
      refine (open_ref A1 n1 c1 sl w11 H11.out.2.2.2.1 (by omega)).mono ?_
      rintro e w12 ⟨Ab, nb, cb, rfl, hs12, hb12⟩
      have hz12 := hb12.size
      have H12 := Lib.hid (And.intro (H11.out.1.keep hb12) (And.intro (H11.out.2.1.trans (hb12.mono H11.out.2.1.size)) (And.intro (H11.out.2.2.1.keep hb12) (H11.out.2.2.2.2.keep hb12))))
      have hpa := H12.out.2.2.2.place
      have hnb := H12.out.2.2.2.1.len
      have hcv1 := bs_str H12.out.2.2.2.1
      have hcv2 := bs_str hs12
      clear H11 hb12 hs12
      go_wp2_with fail
      clear hcv1 hcv2
      have HQ := Lib.hid hpa
      clear hpa
      have hnb2 : na ≤ 1048576 := by
        rw [← hnb]
        unfold openBody
        split
        · rw [List.length_drop]; omega
        · simp
      clear hnb
      go_loopw [16] (fun t wr => ∃ (k : Nat) (l' : List UInt8), k ≤ na ∧ w12.heap.size ≤ wr.heap.size ∧ t = .int .i64 (k : Int) ∧ Var wr w.heap.size 4 #[.bool false] ∧ Below w.heap.size w wr ∧ Br wr w10.heap.size Aa na ca l' ∧ Br wr gs (some ⟨gs, 0, none⟩) n1 (n1 + 20) sl) (fun t _ => na - (intOf t).toNat)
      case atStart => exact ⟨0, _, by omega, Nat.le_refl _, rfl, H12.out.1, H12.out.2.1, H12.out.2.2.2, H12.out.2.2.1⟩
      case round =>
        obtain ⟨k, l', hk, hz13, rfl, vR, hB, hf, hg⟩ := hrel
        rcases Nat.lt_or_ge k na with hlt | hge
        · have hkI : (k : Int) < (na : Int) := by omega
          obtain ⟨ga, off, rfl, hg1, hg2⟩ : ∃ g o, Aa = some ⟨g, o, none⟩ ∧ w10.heap.size ≤ g ∧ g < w12.heap.size := by
            rcases HQ.out with h | h
            · omega
            · exact h
          obtain ⟨⟨x, cF⟩, fF, zF, _, hfp⟩ := hf.put hlt (51 : UInt8)
          rw [show (((51 : UInt8).toNat : Nat) : Int) = 51 from rfl] at hfp
          have ha := apart_set wr ga (off + k) (.int .u8 51)
          have HX := Lib.hid (And.intro (vR.far (p := ⟨ga, off + k, none⟩) (show w.heap.size ≠ ga by omega) (.int .u8 51)) (And.intro (hB.setCell (p := ⟨ga, off + k, none⟩) (show w.heap.size ≤ ga by omega) (.int .u8 51)) (And.intro hfp (hg.apartne ha (fun g o e => by injection e with e; injection e with e1 _; omega)))))
          clear vR hB hf hg hfp ha
          go_wp2_with fail
          go_roundw
          case rel => exact ⟨k + 1, _, by omega, by simpa using hz13, by go_num, HX.out.1, HX.out.2.1, HX.out.2.2.1, HX.out.2.2.2⟩
          case measure => simp [intOf]; omega
        · have hkI : ¬ (k : Int) < (na : Int) := by omega
          have hnil : ∀ B W, (binOp .eql 52 (.func (.func 58) #[] #[.pointer (some ⟨B, 0, none⟩)]) .nilFunc : Sem Value).run Try.prog W = .ok (.bool false) W := fun _ _ => by rfl
          have HX := Lib.hid (And.intro vR (And.intro hB (And.intro hg (HL.out.2.1.below hB))))
          clear vR hB hf hg
          go_wp2_with fail
          refine (frames_any (some ⟨gs, 0, none⟩) n1 (n1 + 20) sl wr HX.out.2.2.1.1 (by omega)).mono ?_
          rintro e w14 ⟨Ac, cc, rfl, hX14, hc14, hb14⟩
          obtain ⟨Bx, hBx⟩ : ∃ z, wr.heap.size = z := ⟨_, rfl⟩
          have hz14 := hb14.size
          have zR13 := HX.out.1.lt
          have H14 := Lib.hid (And.intro (HX.out.1.keep hb14) (And.intro (HX.out.2.1.trans (hb14.mono HX.out.2.1.size)) (And.intro (HX.out.2.2.1.keep hb14) (And.intro (HX.out.2.2.2.below hb14) (And.intro hX14 hc14)))))
          rw [hBx] at H14 zR13 hz13 hz14
          rw [hBx]
          have hcv1 := bs_str H14.out.2.2.1.1
          have hcv2 := bs_str H14.out.2.2.2.1
          clear HX hX14 hc14 hb14 hBx
          go_wp2_with fail
          clear hcv1 hcv2 hnil hkI
          go_loopw [18] (fun t wr => ∃ (k : Nat) (l' : List UInt8), k ≤ n1 ∧ w14.heap.size ≤ wr.heap.size ∧ t = .int .i64 (k : Int) ∧ Var wr w.heap.size 4 #[.bool false] ∧ Below w.heap.size w wr ∧ Br wr gs (some ⟨gs, 0, none⟩) n1 (n1 + 20) l' ∧ Var wr Bx 23 #[.slice Ac n1 cc] ∧ Br wr Bx Ac n1 cc sl) (fun t _ => n1 - (intOf t).toNat)
          case atStart => exact ⟨0, _, by omega, Nat.le_refl _, rfl, H14.out.1, H14.out.2.1, H14.out.2.2.1, H14.out.2.2.2.2.1, H14.out.2.2.2.2.2⟩
          case round =>
            obtain ⟨k, l', hk, hz15, rfl, vR, hB, hf, vB, hc⟩ := hrel
            rcases Nat.lt_or_ge k n1 with hlt | hge
            · have hkI : (k : Int) < (n1 : Int) := by omega
              obtain ⟨⟨x, cF⟩, fF, zF, _, hfp⟩ := hf.put hlt (68 : UInt8)
              rw [show (((68 : UInt8).toNat : Nat) : Int) = 68 from rfl] at hfp
              rw [Nat.zero_add] at cF fF hfp
              have ha := apart_set wr gs k (.int .u8 68)
              have HX := Lib.hid (And.intro (vR.far (p := ⟨gs, k, none⟩) (show w.heap.size ≠ gs by omega) (.int .u8 68)) (And.intro (hB.setCell (p := ⟨gs, k, none⟩) (show w.heap.size ≤ gs by omega) (.int .u8 68)) (And.intro hfp (And.intro (vB.far (p := ⟨gs, k, none⟩) (show Bx ≠ gs by omega) (.int .u8 68)) (hc.apart ha (by omega))))))
              clear vR hB hf vB hc hfp ha
              go_wp2_with fail
              go_roundw
              case rel => exact ⟨k + 1, _, by omega, by simpa using hz15, by go_num, HX.out.1, HX.out.2.1, HX.out.2.2.1, HX.out.2.2.2.1, HX.out.2.2.2.2⟩
              case measure => simp [intOf]; omega
            · have hkI : ¬ (k : Int) < (n1 : Int) := by omega
              have HX := Lib.hid (And.intro vR (And.intro hB (And.intro vB hc)))
              have HS := HL.out.2.1.below hB
              clear vR hB hf vB hc
              go_wp2_with fail
              refine (frames_ref A1 n1 c1 sl wr HS (by omega)).mono ?_
              rintro e w16 ⟨Al, cl, rfl, hF16, hb16⟩
              have hz16 := hb16.size
              obtain ⟨L, hL⟩ : ∃ z, framesF sl 0 = z := ⟨_, rfl⟩
              rw [hL] at hF16
              rw [hL]
              have H16 := Lib.hid (And.intro (HX.out.1.keep hb16) (And.intro (HX.out.2.1.trans (hb16.mono HX.out.2.1.size)) (And.intro (HX.out.2.2.1.keep hb16) (And.intro (HX.out.2.2.2.keep hb16) (And.intro hF16 hL)))))
              clear HX HS hb16 hF16 hL
              go_wp2_with fail
              refine wp_gen (fun W hW => ?_)
              have hbW : Below w16.heap.size w16 W := by rw [hW]; go_grown
              have vT : Var W w16.heap.size 57 #[.slice Al L.length cl] := by rw [hW]; exact Var.new _ _ _
              have HM : Hid (Mid w Bx w16.heap.size wr.heap.size n1 cc cl Ac Al sl L [] W) := Lib.hid ⟨H16.out.1.keep hbW, H16.out.2.1.trans (hbW.mono H16.out.2.1.size), H16.out.2.2.1.keep hbW, H16.out.2.2.2.1.1.below hbW, vT, H16.out.2.2.2.2.1.keep hbW, (by intro D hD; cases hD), List.nodup_nil⟩
              have HE := Lib.hid H16.out.2.2.2.2.2
              obtain ⟨T, hT⟩ : ∃ z, w16.heap.size = z := ⟨_, rfl⟩
              obtain ⟨b0, hb0⟩ : ∃ z, wr.heap.size = z := ⟨_, rfl⟩
              rw [hT, hb0] at HM
              rw [hT]
              clear H16 hbW vT hW hT hb0
              refine wp_loop_ghost_k (fun m a V => ∃ (r : Nat) (Ds : List Nat) (u : Nat → Value), r + m = 2 ∧ a = { tmps := #[.slice A0 n0 c0, .slice A1 n1 c1, u 2, u 3, .pointer (some ⟨w.heap.size, 0, none⟩), u 5, u 6, u 7, u 8, u 9, u 10, u 11, u 12, u 13, u 14, u 15, u 16, .func (.func 58) #[] #[.pointer (some ⟨Bx, 0, none⟩)], u 18, .pointer (some ⟨T, 0, none⟩), .int .i64 (r : Int), u 21, u 22, u 23, u 24, u 25, u 26, u 27, u 28, u 29, u 30, u 31, u 32, u 33, u 34, u 35, u 36, u 37, u 38, u 39, u 40, u 41, u 42, u 43, u 44, u 45, u 46, u 47, u 48, u 49, u 50, u 51, u 52, u 53, u 54, u 55, u 56, u 57, u 58, u 59, u 60, u 61, u 62, u 63, u 64, u 65, u 66, u 67, u 68, u 69, u 70, u 71, u 72, u 73, u 74, u 75, u 76, u 77, u 78, u 79, u 80, u 81, u 82, u 83, u 84, u 85, u 86, u 87, u 88, u 89, u 90, u 91, u 92, u 93, u 94, u 95, u 96, u 97, u 98, u 99, u 100, u 101, u 102, u 103, u 104, u 105, u 106, u 107, u 108, u 109, u 110, u 111, u 112, u 113, u 114, u 115, u 116, u 117, u 118, u 119, u 120, u 121, u 122, u 123, u 124, u 125, u 126, u 127, u 128, u 129, u 130, u 131, u 132, u 133, u 134, u 135, u 136, u 137, u 138, u 139, u 140, u 141, u 142, u 143, u 144, u 145, u 146, u 147, u 148, u 149, u 150, u 151, u 152, u 153, u 154, u 155, u 156, u 157, u 158, u 159, u 160, u 161, u 162, u 163, u 164, u 165, u 166, u 167, u 168, u 169, u 170, u 171, u 172, u 173, u 174, u 175, u 176, u 177, u 178, u 179, u 180, u 181, u 182, u 183, u 184, u 185, u 186, u 187, u 188, u 189, u 190, u 191, u 192, u 193, u 194, u 195, u 196, u 197, u 198, u 199, u 200, u 201, u 202, u 203, u 204, u 205, u 206, u 207, u 208, u 209, u 210, u 211, u 212, u 213, u 214, u 215], defers := Ds.map mark } ∧ Mid w Bx T b0 n1 cc cl Ac Al sl L Ds V) 2 ?_ ?_
              · obtain ⟨u, hu⟩ := fr_ex A0 A1 n0 c0 n1 c1 w.heap.size Bx T 0
                exact ⟨0, [], u, rfl, hu, HM.out⟩
              · rintro m _ V ⟨r, Ds, u, hr, rfl, hM⟩ J K hJ hK
                clear HM HL
                rcases Nat.lt_or_ge r 2 with hlt | hge
                · have hrI : (r : Int) < 2 := by omega
                  have zR := hM.r.lt
                  have zT := hM.t.lt
                  have HV := Lib.hid hM
                  clear hM
                  go_upto_region 39 with fail
                  refine wp_gen (fun W1 hW1 => ?_)
                  have hb1 : Below V.heap.size V W1 := by rw [hW1]; go_grown
                  have vN1 : Var W1 V.heap.size 3 #[.int .i64 0] := by rw [hW1]; exact Var.new _ _ _
                  obtain ⟨N, hN⟩ : ∃ z, V.heap.size = z := ⟨_, rfl⟩
                  have hseq := frames1_told 5 (by omega) N Bx Ac cc sl W1 (by omega) (hl1 ▸ HV.out.x.keep hb1) (hl1 ▸ HV.out.c.below hb1) (hl1 ▸ HV.out.apt (by omega) hb1.size)
                  rw [HE.out] at hseq
                  have zN1 := vN1.lt
                  have zb1 := hb1.size
                  have H1 := Lib.hid (And.intro hb1 (And.intro vN1 hseq))
                  rw [hN] at H1 zN1 zb1 zR zT ⊢
                  clear hW1 vN1 hb1 hseq
                  go_wp2_with fail
                  refine (wpIn_wide (n := 6)).1 ?_
                  refine wpIn_rangeFunc_told (by omega) (gf := 58) (lb := #[.pointer (some ⟨Bx, 0, none⟩)]) rfl (enters_of Try.func58 (by kernel_rfl) rfl)
                    H1.out.2.2 kpf_t kpf_b (Below.refl _ _) (fun _ => rfl)
                    (fun pre U => Below N V U ∧ Var U N 3 #[.int .i64 (pre.length : Int)])
                    (fun _ _ _ => False)
                    (OwnFrom.and (ownFrom_below (Nat.le_of_eq hN.symm) (by omega)) (Go.Own.from (own_var (fun pre : List Fx => #[.int .i64 (pre.length : Int)])) _))
                    (fun c => ownFrom_pure _ _)
                    ⟨H1.out.1, H1.out.2.1⟩
                    (fun pre x a' U => ((pre ++ [x]).map Fx.pair <+: L ∧ a' = { tmps := #[.slice A0 n0 c0, .slice A1 n1 c1, u 2, u 3, .pointer (some ⟨w.heap.size, 0, none⟩), u 5, u 6, u 7, u 8, u 9, u 10, u 11, u 12, u 13, u 14, u 15, u 16, .func (.func 58) #[] #[.pointer (some ⟨Bx, 0, none⟩)], u 18, .pointer (some ⟨T, 0, none⟩), .int .i64 (r : Int), .pointer (some ⟨N, 0, none⟩), .int .i64 (x.p : Int), .slice x.A x.b.length x.c, u 24, u 25, u 26, u 27, u 28, u 29, u 30, u 31, u 32, u 33, u 34, u 35, u 36, u 37, u 38, u 39, u 40, u 41, u 42, u 43, u 44, u 45, u 46, u 47, u 48, u 49, u 50, u 51, u 52, u 53, u 54, u 55, u 56, u 57, u 58, u 59, u 60, u 61, u 62, u 63, u 64, u 65, u 66, u 67, u 68, u 69, u 70, u 71, u 72, u 73, u 74, u 75, u 76, u 77, u 78, u 79, u 80, u 81, u 82, u 83, u 84, u 85, u 86, u 87, u 88, u 89, u 90, u 91, u 92, u 93, u 94, u 95, u 96, u 97, u 98, u 99, u 100, u 101, u 102, u 103, u 104, u 105, u 106, u 107, u 108, u 109, u 110, u 111, u 112, u 113, u 114, u 115, u 116, u 117, u 118, u 119, u 120, u 121, u 122, u 123, u 124, u 125, u 126, u 127, u 128, u 129, u 130, u 131, u 132, u 133, u 134, u 135, u 136, u 137, u 138, u 139, u 140, u 141, u 142, u 143, u 144, u 145, u 146, u 147, u 148, u 149, u 150, u 151, u 152, u 153, u 154, u 155, u 156, u 157, u 158, u 159, u 160, u 161, u 162, u 163, u 164, u 165, .int .i64 (r : Int), .bool true, u 168, u 169, .func (.func 58) #[] #[.pointer (some ⟨Bx, 0, none⟩)], .int .i64 (x.p : Int), .slice x.A x.b.length x.c, u 173, u 174, u 175, u 176, u 177, u 178, u 179, u 180, u 181, u 182, u 183, u 184, u 185, u 186, u 187, u 188, u 189, u 190, u 191, u 192, u 193, u 194, u 195, u 196, u 197, u 198, u 199, u 200, u 201, u 202, u 203, u 204, u 205, u 206, u 207, u 208, u 209, u 210, u 211, u 212, u 213, u 214, u 215], defers := [] }) ∧ Br U W1.heap.size x.A x.b.length x.c x.b)
                    (fun pre x a' => OwnFrom.and (ownFrom_pure _ _) (Go.Own.from own_br _))
                    ?assign ?body ?done ?stop
                  case assign =>
                    rintro l1 pre x U K hI ⟨hpf, hbr⟩ hK
                    unfold fxs
                    gi_wp2
                    exact hK _ _ (KeepsFrom.refl _ _) ⟨Nat.le_refl _, fun _ _ _ => rfl, fun _ _ _ _ _ h _ => h⟩ hI ⟨⟨hpf, rfl⟩, hbr⟩
                  case body =>
                    rintro l1 pre x a' U hl1 ⟨hbU, vN⟩ ⟨⟨hpf, rfl⟩, hbr⟩
                    have hpx := prefix_last (by rw [List.map_append] at hpf; exact hpf)
                    rw [List.length_map] at hpx
                    obtain ⟨n, hn⟩ : ∃ z, pre.length = z := ⟨_, rfl⟩
                    rw [hn] at hpx vN
                    have hnl : n < L.length := (List.getElem?_eq_some_iff.1 hpx).1
                    obtain ⟨xp, xb, xA, xc⟩ := x
                    dsimp only at hbr ⊢
                    have hVU := HV.out.keep (hN.symm ▸ hbU)
                    obtain ⟨cs, hown, hcs⟩ := hVU.f.own
                    obtain ⟨Ae, ce, hcp, hca, hbe⟩ := hcs n xp xb hpx
                    obtain ⟨g, rfl, _, hg, hget, hLm⟩ := own_cell2 hown hcp
                    have cP := hget _ _ hcp
                    have cB := hget _ _ hca
                    have cT : U.cell? ⟨T, 0, none⟩ = some (.slice (some ⟨g, 0, none⟩) L.length cl) := hVU.t.cell 0
                    have cN : U.cell? ⟨N, 0, none⟩ = some (.int .i64 (n : Int)) := vN.cell 0
                    have fN := vN.free 0
                    have zN := vN.lt
                    have hge0 : decide ((L.length : Int) ≤ (n : Int)) = false := decide_eq_false (by omega)
                    have hcv1 : ∀ k, (convert 23 9 (.slice xA xb.length xc)).run Try.prog (U.drewN k) = .ok (.string ⟨xb.toArray⟩) (U.drewN k) := fun k => bs_str (hbr.1.below (below_drewN (Below.refl _ _) k))
                    have hcv2 : ∀ k, (convert 23 9 (.slice Ae xb.length ce)).run Try.prog (U.drewN k) = .ok (.string ⟨xb.toArray⟩) (U.drewN k) := fun k => bs_str (hbe.1.below (below_drewN (Below.refl _ _) k))
                    have hnI : (n : Int) < (L.length : Int) := by omega
                    have HB := Lib.hid (And.intro hbU (And.intro vN (And.intro hn hbr)))
                    clear hbU hpf hpx hVU hown hcs hcp hca hbe hget vN hn hbr H1
                    gi_wp2
                    refine wpIn_region_quietR rfl (by kernel_rfl) (by kernel_rfl) (by kernel_rfl) ?_
                    repeat (quiet_step_in (fail))
                    refine wpQuietIn_nil ?_
                    rintro _ ⟨nq, rfl⟩
                    clear hcv1 hcv2 cP cB cT hge0
                    gi_wp2
                    have hxl : xb.length ≤ 9223372036854775807 := by
                      have h1 := HB.out.2.2.2.1.cap
                      have h2 := HB.out.2.2.2.1.big
                      unfold maxLen at h2
                      omega
                    clear cN fN
                    gi_loopw [24] (fun t wr => ∃ (k : Nat) (l' : List UInt8), k ≤ xb.length ∧ t = .int .i64 (k : Int) ∧ KpF N W1.heap.size U wr ∧ KeepsFrom W1.heap.size U wr ∧ Below N V wr ∧ Var wr N 3 #[.int .i64 (n : Int)] ∧ Br wr W1.heap.size xA xb.length xc l') (fun t _ => xb.length - (intOf t).toNat)
                    case atStart => exact ⟨0, xb, by omega, rfl, ⟨Nat.le_refl _, fun _ _ _ => rfl, fun _ _ _ _ _ h _ => h⟩, ⟨Nat.le_refl _, fun _ _ _ h _ => h⟩, below_drewN HB.out.1 nq, HB.out.2.1, HB.out.2.2.2.keep (below_drewN (Below.refl _ _) nq)⟩
                    case round =>
                      obtain ⟨k, l', hk, rfl, hkp, hkf, hB, vN, hbr⟩ := hrel
                      rcases Nat.lt_or_ge k xb.length with hlt | hge
                      · have hkI : (k : Int) < (xb.length : Int) := by omega
                        obtain ⟨gx, off, rfl⟩ := hbr.addr (by omega)
                        obtain ⟨cur, hvx⟩ := hbr.var (by omega)
                        obtain ⟨⟨x, cF⟩, fF, zF, hgx, hfp⟩ := hbr.put hlt (85 : UInt8)
                        rw [show (((85 : UInt8).toNat : Nat) : Int) = 85 from rfl] at hfp
                        have HX := Lib.hid (And.intro (kpf_t hkp (kpf_put hgx hvx (off + k) (.int .u8 85))) (And.intro (hkf.trans ((KeepsOthers.setCell wr ⟨gx, off + k, none⟩ (.int .u8 85)).from _)) (And.intro (hB.setCell (p := ⟨gx, off + k, none⟩) (show N ≤ gx by omega) (.int .u8 85)) (And.intro (vN.far (p := ⟨gx, off + k, none⟩) (show N ≠ gx by omega) (.int .u8 85)) hfp))))
                        clear hkp hkf hB vN hbr hvx hfp
                        gi_wp2
                        go_roundw
                        case rel => exact ⟨k + 1, _, by omega, by go_num, HX.out.1, HX.out.2.1, HX.out.2.2.1, HX.out.2.2.2.1, HX.out.2.2.2.2⟩
                        case measure => simp [intOf]; omega
                      · have hkI : ¬ (k : Int) < (xb.length : Int) := by omega
                        have cN : wr.cell? ⟨N, 0, none⟩ = some (.int .i64 (n : Int)) := vN.cell 0
                        have fN := vN.free 0
                        have zN := vN.lt
                        have HX := Lib.hid (And.intro hkp (And.intro hkf (And.intro hB (And.intro vN hbr))))
                        clear hkp hkf hB vN hbr
                        have hinc : IntKind.i64.wrap ((n : Int) + 1) = (n : Int) + 1 := by
                          simp only [IntKind.wrap, IntKind.signed, IntKind.bits]
                          simp
                          omega
                        gi_wp2
                        refine ⟨HX.out.2.1.trans ((KeepsOthers.setCell wr ⟨N, 0, none⟩ (.int .i64 ((n : Int) + 1))).from _), kpf_t HX.out.1 (kpf_set zN1 0 _), HX.out.2.2.1.setCell (p := ⟨N, 0, none⟩) (Nat.le_refl _) _, ?_⟩
                        rw [List.length_append, HB.out.2.2.1]
                        exact HX.out.2.2.2.1.store 0 _
                  case done =>
                    rintro D xs U hD hS ⟨hbU, vN⟩ hKD
                    have hxl : xs.length = L.length := by rw [← List.length_map (f := Fx.pair), hS]
                    rw [hxl] at vN
                    have hVU := HV.out.keep (hN.symm ▸ hbU)
                    have hlt' := HV.out.lt
                    rw [hN] at hlt'
                    have hMU := hVU.more (D := D) (N := N) (by omega) hlt' (by omega) hKD
                    have cT : U.cell? ⟨T, 0, none⟩ = some (.slice Al L.length cl) := hVU.t.cell 0
                    have cN : U.cell? ⟨N, 0, none⟩ = some (.int .i64 (L.length : Int)) := vN.cell 0
                    have hb2 : Below U.heap.size U U := Below.refl _ _
                    have hseq := frames1_told 5 (by omega) U.heap.size Bx Ac cc sl U (by omega) (hl1 ▸ hMU.x) (hl1 ▸ hMU.c) (hl1 ▸ hMU.apt (by omega) (by omega))
                    have H2 := Lib.hid (And.intro hMU hseq)
                    clear hbU vN hVU hMU hseq hS hKD hxl hlt' hb2 H1
                    obtain ⟨r', hr'⟩ : ∃ z : Nat, r + 1 = z := ⟨_, rfl⟩
                    have hri : IntKind.i64.wrap ((r : Int) + 1) = (r' : Int) := by
                      simp only [IntKind.wrap, IntKind.signed, IntKind.bits]
                      simp
                      omega
                    go_wp2_with fail
                    refine (wpIn_wide (n := 6)).1 ?_
                    refine wpIn_rangeFunc_told (by omega) (gf := 58) (lb := #[.pointer (some ⟨Bx, 0, none⟩)]) rfl (enters_of Try.func58 (by kernel_rfl) rfl)
                      H2.out.2 kpf_t kpf_b (Below.refl _ _) (fun _ => rfl)
                      (fun pre Z => Below U.heap.size U Z)
                      (fun c pre Z => c = Code.exit 12 ∧ Below U.heap.size U Z)
                      (ownFrom_below (Nat.le_refl _) (Nat.le_refl _))
                      (fun c => OwnFrom.and (ownFrom_pure _ _) (ownFrom_below (Nat.le_refl _) (Nat.le_refl _)))
                      (Below.refl _ _)
                      (fun pre x a' Z => True)
                      (fun pre x a' => ownFrom_pure _ _)
                      ?assign2 ?body2 ?done2 ?stop2
                    case assign2 =>
                      rintro l1 pre x Z K hI _ hK
                      gi_wp2
                      exact hK _ _ (KeepsFrom.refl _ _) ⟨Nat.le_refl _, fun _ _ _ => rfl, fun _ _ _ _ _ h _ => h⟩ hI trivial
                    case body2 =>
                      rintro l1 pre x a' Z hl1 hI _
                      gi_wp2
                      exact ⟨KeepsFrom.refl _ _, rfl, hI⟩
                    case done2 =>
                      rintro D2 xs Z hD2 _ hI hKD
                      have hMZ := (H2.out.1.keep hI).more (D := D2) (N := U.heap.size) hD2 H2.out.1.lt H2.out.1.b.size hKD
                      clear H2
                      go_wp2_with fail
                      refine Handed.intro (m - 1) (by omega) (hJ _ _ _ ?_)
                      exact fr_next (by omega) hMZ
                    case stop2 =>
                      rintro D2 c pre Z hD2 _ ⟨rfl, hI⟩ hKD
                      have hMZ := (H2.out.1.keep hI).more (D := D2) (N := U.heap.size) hD2 H2.out.1.lt H2.out.1.b.size hKD
                      clear H2
                      refine wpIn_wide.2 ?_
                      go_wp2_with fail
                      refine Handed.intro (m - 1) (by omega) (hJ _ _ _ ?_)
                      exact fr_next (by omega) hMZ
                  case stop =>
                    rintro D c pre U hD _ hF hKD
                    exact hF.elim
                · have hrI : ¬ (r : Int) < 2 := by omega
                  have HV := Lib.hid hM
                  clear hM
                  go_wp2_with fail
                  refine (works_any V).mono ?_
                  rintro e w9 ⟨rfl, hb9⟩
                  have hM9 := HV.out.keep hb9
                  have cR9 : w9.cell? ⟨w.heap.size, 0, none⟩ = some (.bool false) := hM9.r.cell 0
                  have fR9 := hM9.r.free 0
                  have zR9 := hM9.r.lt
                  have H9 := Lib.hid hM9
                  clear hM9 hb9 HV
                  go_wp2_with fail
                  refine leaves_marks (B := w.heap.size) Ds _ H9.out.n (fun D hD => ⟨(H9.out.d D hD).1, ?_⟩) (fun w' hb hk => ?_)
                  · exact (KeepsOthers.setCell w9 ⟨w.heap.size, 0, none⟩ (.bool true)).same D _ (H9.out.d D hD).2 rfl
                  · have hv : Var w' w.heap.size 4 #[.bool true] := hk _ _ _ _ (H9.out.r.store 0 (.bool true))
                    have hc5 : w'.cell? ⟨w.heap.size, 0, none⟩ = some (.bool true) := hv.cell 0
                    refine ⟨.bool true, ?_, rfl, (H9.out.b.setCell (p := ⟨w.heap.size, 0, none⟩) (Nat.le_refl _) _).trans hb⟩
                    simp [results, Try.f7, go_sem, hc5]

end Go.Proofs.Ytiejgandjlldjaa
