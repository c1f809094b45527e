/- The law SewBack, its last loop: no two runs could be one. -/
import Derived.Test.YtdljcemnbbamcaaFM
namespace Go.Words
open Go
/-- A block of a function's code, by its number. -/
def blkOf (n : Nat) : Code → Option Code
  | .block m c => if m = n then some (.block m c) else blkOf n c
  | .seq a b => (blkOf n a).orElse fun _ => blkOf n b
  | .cond _ a b => (blkOf n a).orElse fun _ => blkOf n b
  | .loop c => blkOf n c
  | .scope c => blkOf n c
  | _ => none
end Go.Words
namespace Go.Proofs.Ytdljcemnbbamcaa
open Go Go.RowKit Go.Words Go.Mesh

set_option maxRecDepth 40000 in
set_option maxHeartbeats 8000000 in
theorem sewback_tail {R : List T3} {n B' cap4 : Nat} {A4 : Option Addr} (hsep : Sep R) (hokr : ∀ r ∈ R, okR (n : Int) r) (hn : n ≤ 30) (hfew2 : R.length ≤ 20) (x0 x1 x2 x3 x4 x6 x7 x8 x9 x10 x11 x12 x13 x15 x16 x17 x18 x19 x20 x21 x22 x23 x24 x25 x26 x27 x28 x29 x30 x31 x32 x33 x34 x35 x36 x37 x38 x39 x40 x41 x42 x43 x44 x45 x46 x47 x48 x49 x50 x51 x52 x53 x54 x55 x56 x57 x58 x59 x60 x61 x62 x63 x64 x65 x66 x67 x68 x69 x70 x71 x72 x73 x74 x75 x76 x77 x78 x79 x80 x81 x82 x83 x84 x85 x86 x87 x88 x89 x90 x91 x92 x93 x94 x95 x96 x97 x98 x99 x100 x101 x102 x103 x104 x105 x106 x107 x108 x109 x110 x111 x112 x113 x114 x115 x116 x117 x118 x119 x120 x121 x122 x123 x124 x125 x126 x127 x128 x129 x130 x131 x132 x133 x134 x135 x136 x137 x138 x139 x140 x141 x142 x143 x144 x145 x146 x147 x148 x149 x150 x151 x152 x153 x154 x155 x156 x157 x158 x159 x160 x161 x162 x163 x164 x165 x166 x167 x168 x169 x170 x171 x172 x173 x174 x175 x176 x177 x178 x179 x180 x181 x182 x183 x184 x185 x186 x187 x188 x189 x190 x191 x192 x193 x194 x195 x196 x197 x198 x199 x200 x201 x202 x203 : Value) (w9 : World) (hsl : Sl 3 RTri w9 B' (.slice A4 R.length cap4) R) (hB' : B' ≤ w9.heap.size) (Q : Exit → Act → World → Prop)
    (hQ : ∀ (y4 y14 y137 y138 y139 y140 y141 y142 y143 y144 y145 y146 y147 y148 y149 y150 y151 y152 y153 y154 y155 y156 y157 y158 y159 y160 y161 y162 y163 y164 y165 y166 y167 y168 y169 y170 y171 y172 y173 y174 y175 y176 y177 y178 y179 y180 y181 y182 y183 y184 y185 y186 y187 y188 y189 y190 y191 y192 y193 y194 y195 y196 y197 y198 y199 y200 y201 y202 y203 : Value) wz, Below w9.heap.size w9 wz → Q .normal { tmps := #[x0, x1, x2, x3, y4, .slice A4 R.length cap4, x6, x7, x8, x9, x10, x11, x12, x13, y14, x15, x16, x17, x18, x19, x20, x21, x22, x23, x24, x25, x26, x27, x28, x29, x30, x31, x32, x33, x34, x35, x36, x37, x38, x39, x40, x41, x42, x43, x44, x45, x46, x47, x48, x49, x50, x51, x52, x53, x54, x55, x56, x57, x58, x59, x60, x61, x62, x63, x64, x65, x66, x67, x68, x69, x70, x71, x72, x73, x74, x75, x76, x77, x78, x79, x80, x81, x82, x83, x84, x85, x86, x87, x88, x89, x90, x91, x92, x93, x94, x95, x96, x97, x98, x99, x100, x101, x102, x103, x104, x105, x106, x107, x108, x109, x110, x111, x112, x113, x114, x115, x116, x117, x118, x119, x120, x121, x122, x123, x124, x125, x126, x127, x128, x129, x130, x131, x132, x133, x134, x135, x136, y137, y138, y139, y140, y141, y142, y143, y144, y145, y146, y147, y148, y149, y150, y151, y152, y153, y154, y155, y156, y157, y158, y159, y160, y161, y162, y163, y164, y165, y166, y167, y168, y169, y170, y171, y172, y173, y174, y175, y176, y177, y178, y179, y180, y181, y182, y183, y184, y185, y186, y187, y188, y189, y190, y191, y192, y193, y194, y195, y196, y197, y198, y199, y200, y201, y202, y203], defers := [] } wz) :
    ∀ c, (Try.f4.body).bind (blkOf 4) = some c → Code.wp Try.prog c Q { tmps := #[x0, x1, x2, x3, x4, .slice A4 R.length cap4, x6, x7, x8, x9, x10, x11, x12, x13, .int .i64 1, x15, x16, x17, x18, x19, x20, x21, x22, x23, x24, x25, x26, x27, x28, x29, x30, x31, x32, x33, x34, x35, x36, x37, x38, x39, x40, x41, x42, x43, x44, x45, x46, x47, x48, x49, x50, x51, x52, x53, x54, x55, x56, x57, x58, x59, x60, x61, x62, x63, x64, x65, x66, x67, x68, x69, x70, x71, x72, x73, x74, x75, x76, x77, x78, x79, x80, x81, x82, x83, x84, x85, x86, x87, x88, x89, x90, x91, x92, x93, x94, x95, x96, x97, x98, x99, x100, x101, x102, x103, x104, x105, x106, x107, x108, x109, x110, x111, x112, x113, x114, x115, x116, x117, x118, x119, x120, x121, x122, x123, x124, x125, x126, x127, x128, x129, x130, x131, x132, x133, x134, x135, x136, x137, x138, x139, x140, x141, x142, x143, x144, x145, x146, x147, x148, x149, x150, x151, x152, x153, x154, x155, x156, x157, x158, x159, x160, x161, x162, x163, x164, x165, x166, x167, x168, x169, x170, x171, x172, x173, x174, x175, x176, x177, x178, x179, x180, x181, x182, x183, x184, x185, x186, x187, x188, x189, x190, x191, x192, x193, x194, x195, x196, x197, x198, x199, x200, x201, x202, x203], defers := [] } w9 := by
  intro c hc
  obtain rfl := Option.some.inj (hc.symm.trans (rfl : (Try.f4.body).bind (blkOf 4) = some _))
  clear hc
  have hQ' := Lib.hid hQ
  clear hQ
  have Hhsep := Lib.hid hsep; clear hsep; have Hhokr := Lib.hid hokr; clear hokr; have Hhsl := Lib.hid hsl; clear hsl
  go_wp2_with fail
  go_loopw [14] (fun iv wr => ∃ m : Nat, iv = .int .i64 ((m : Int) + 1) ∧ (m < R.length ∨ m = 0) ∧ Below w9.heap.size w9 wr) (fun iv _ => R.length - (intOf iv).toNat)
  case atStart => exact ⟨0, rfl, .inr rfl, Below.refl _ _⟩
  case round =>
    obtain ⟨m, rfl, hm, hbel10⟩ := hrel
    by_cases hml : m + 1 < R.length
    · have hslr9 := Hhsl.out.below keeps_tri (hbel10.mono hB')
      obtain ⟨b, o, rfl, hb, c1, c2, c3⟩ := hslr9.tri_at (k := m) (by omega)
      obtain ⟨b', o', hee, hb', d1, d2, d3⟩ := hslr9.tri_at (k := m + 1) hml
      injection hee with hee
      injection hee with hee1 hee2
      subst hee1; subst hee2
      have hs1 := List.pairwise_iff_getElem.1 Hhsep.out.1 m (m + 1) (by omega) hml (by omega)
      have hs2 := Hhsep.out.2 m _ _ (List.getElem?_eq_getElem (by omega)) (List.getElem?_eq_getElem hml)
      have ho1 := Hhokr.out _ (List.getElem_mem (show m < R.length by omega))
      have ho2 := Hhokr.out _ (List.getElem_mem hml)
      generalize R[m] = r at *
      generalize R[m + 1] = t at *
      obtain ⟨r1, r2, r3⟩ := r
      obtain ⟨t1, t2, t3⟩ := t
      obtain ⟨xf1, xf2, xf3, xf4, xf5, xf6⟩ := ho1
      obtain ⟨yf1, yf2, yf3, yf4, yf5, yf6⟩ := ho2
      simp only [] at c1 c2 c3 d1 d2 d3 hs1 hs2 xf1 xf2 xf3 xf4 xf5 xf6 yf1 yf2 yf3 yf4 yf5 yf6
      have hm1 : (m : Int) + 1 - 1 = (m : Int) := by omega
      have hml2 : (m : Int) + 1 < (R.length : Int) := by omega
      have hlen9 : R.length ≤ 20 := hfew2
      have hno : r1 + r3 ≤ t1 := by omega
      have hbz := hbel10.drew
      have w1' : -1000 ≤ r1 + r3 ∧ r1 + r3 ≤ 1000 := by omega
      have w2' : -1000 ≤ r2 - r3 ∧ r2 - r3 ≤ 1000 := by omega
      obtain ⟨w1a, w1b⟩ := w1'
      obtain ⟨w2a, w2b⟩ := w2'
      have hmm20 : m ≤ 20 := by omega
      have hnn : ∀ n : Nat, n = m + 1 → n < R.length := fun n hn => by omega
      clear xf1 xf2 xf3 xf4 xf5 xf6 yf1 yf2 yf3 yf4 yf5 yf6 hs1 hnn hm hb hb'
      by_cases he : t1 = r1 + r3
      · have g1 : (t1 == r1 + r3) = true := by rw [he]; exact beq_self_eq_true _
        have g2 : (t2 == r2 - r3) = false := by rw [beq_eq_false_iff_ne]; exact fun h9 => hs2 ⟨he, h9⟩
        have Hhs2 := Lib.hid hs2; clear hs2; have Hhe := Lib.hid he; clear he; have Hhslr9 := Lib.hid hslr9; clear hslr9; have Hhbz := Lib.hid hbz; clear hbz
        go_wp2_with fail
        refine Go.Canon.wp_region_text mixed (by kernel_rfl) ?_
        go_wp2_with fail
        all_goals first | (exfalso; omega) | skip
        refine Go.Canon.chk (by rfl) ?_
        go_wp2_with fail
        exact ⟨⟨m + 1, by simp, .inl (by omega), Hhbz.out⟩, by simp [intOf]; omega⟩
      · have g1 : (t1 == r1 + r3) = false := by rw [beq_eq_false_iff_ne]; exact he
        have Hhs2 := Lib.hid hs2; clear hs2; have Hhe := Lib.hid he; clear he; have Hhslr9 := Lib.hid hslr9; clear hslr9; have Hhbz := Lib.hid hbz; clear hbz
        go_wp2_with fail
        refine Go.Canon.wp_region_text mixed (by kernel_rfl) ?_
        go_wp2_with fail
        all_goals first | (exfalso; omega) | skip
        refine Go.Canon.chk (by rfl) ?_
        go_wp2_with fail
        exact ⟨⟨m + 1, by simp, .inl (by omega), Hhbz.out⟩, by simp [intOf]; omega⟩
    · go_wp2_with fail
      all_goals first | (exfalso; omega) | skip
      exact hQ'.out _ _ _ _ _ _ _ _ _ _ _ _ _ _ _ _ _ _ _ _ _ _ _ _ _ _ _ _ _ _ _ _ _ _ _ _ _ _ _ _ _ _ _ _ _ _ _ _ _ _ _ _ _ _ _ _ _ _ _ _ _ _ _ _ _ _ _ _ _ _ hbel10
end Go.Proofs.Ytdljcemnbbamcaa
