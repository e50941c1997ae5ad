/- The table is what the program's functions come to. Printed by program. -/
import Derived.Test.YtimfbnojmdnlnaaKLaF
import Derived.Test.YtimfbnojmdnlnaaProg
import Derived.KernelRfl
namespace Go.Proofs.Ytimfbnojmdnlnaa
namespace AM
theorem t4 : compF Try.prog [36] 4 = some a4 := by kernel_rfl
theorem t8 : compF Try.prog [36] 8 = some a8 := by kernel_rfl
theorem t11 : compF Try.prog [36] 11 = some a11 := by kernel_rfl
theorem t12 : compF Try.prog [36] 12 = some a12 := by kernel_rfl
theorem t13 : compF Try.prog [36] 13 = some a13 := by kernel_rfl
theorem t14 : compF Try.prog [36] 14 = some a14 := by kernel_rfl
theorem t15 : compF Try.prog [36] 15 = some a15 := by kernel_rfl
theorem t16 : compF Try.prog [36] 16 = some a16 := by kernel_rfl
theorem t17 : compF Try.prog [36] 17 = some a17 := by kernel_rfl
theorem t19 : compF Try.prog [36] 19 = some a19 := by kernel_rfl
theorem t28 : compF Try.prog [36] 28 = some a28 := by kernel_rfl
theorem t30 : compF Try.prog [36] 30 = some a30 := by kernel_rfl
theorem t31 : compF Try.prog [36] 31 = some a31 := by kernel_rfl
theorem t32 : compF Try.prog [36] 32 = some a32 := by kernel_rfl
theorem t34 : compF Try.prog [36] 34 = some a34 := by kernel_rfl
theorem t35 : compF Try.prog [36] 35 = some a35 := by kernel_rfl
theorem t36 : compF Try.prog [36] 36 = some a36 := by kernel_rfl
theorem t37 : compF Try.prog [36] 37 = some a37 := by kernel_rfl
theorem t38 : compF Try.prog [36] 38 = some a38 := by kernel_rfl
theorem t39 : compF Try.prog [36] 39 = some a39 := by kernel_rfl
theorem t40 : compF Try.prog [36] 40 = some a40 := by kernel_rfl
theorem t41 : compF Try.prog [36] 41 = some a41 := by kernel_rfl
theorem t42 : compF Try.prog [36] 42 = some a42 := by kernel_rfl
theorem t43 : compF Try.prog [36] 43 = some a43 := by kernel_rfl
theorem t44 : compF Try.prog [36] 44 = some a44 := by kernel_rfl
theorem t45 : compF Try.prog [36] 45 = some a45 := by kernel_rfl
theorem t46 : compF Try.prog [36] 46 = some a46 := by kernel_rfl
theorem t52 : compF Try.prog [36] 52 = some a52 := by kernel_rfl
theorem t55 : compF Try.prog [36] 55 = some a55 := by kernel_rfl
theorem t63 : compF Try.prog [36] 63 = some a63 := by kernel_rfl
theorem t64 : compF Try.prog [36] 64 = some a64 := by kernel_rfl
theorem t65 : compF Try.prog [36] 65 = some a65 := by kernel_rfl
theorem t66 : compF Try.prog [36] 66 = some a66 := by kernel_rfl
theorem t67 : compF Try.prog [36] 67 = some a67 := by kernel_rfl
theorem t68 : compF Try.prog [36] 68 = some a68 := by kernel_rfl
theorem t69 : compF Try.prog [36] 69 = some a69 := by kernel_rfl
theorem t70 : compF Try.prog [36] 70 = some a70 := by kernel_rfl
theorem t72 : compF Try.prog [36] 72 = some a72 := by kernel_rfl
theorem t73 : compF Try.prog [36] 73 = some a73 := by kernel_rfl
theorem t74 : compF Try.prog [36] 74 = some a74 := by kernel_rfl
theorem t75 : compF Try.prog [36] 75 = some a75 := by kernel_rfl
theorem t76 : compF Try.prog [36] 76 = some a76 := by kernel_rfl
theorem t77 : compF Try.prog [36] 77 = some a77 := by kernel_rfl
theorem t78 : compF Try.prog [36] 78 = some a78 := by kernel_rfl
theorem t79 : compF Try.prog [36] 79 = some a79 := by kernel_rfl
theorem t80 : compF Try.prog [36] 80 = some a80 := by kernel_rfl
theorem t81 : compF Try.prog [36] 81 = some a81 := by kernel_rfl
theorem t82 : compF Try.prog [36] 82 = some a82 := by kernel_rfl
theorem t83 : compF Try.prog [36] 83 = some a83 := by kernel_rfl
theorem t88 : compF Try.prog [36] 88 = some a88 := by kernel_rfl
theorem t96 : compF Try.prog [36] 96 = some a96 := by kernel_rfl
theorem t97 : compF Try.prog [36] 97 = some a97 := by kernel_rfl
theorem t98 : compF Try.prog [36] 98 = some a98 := by kernel_rfl
theorem t99 : compF Try.prog [36] 99 = some a99 := by kernel_rfl
theorem t100 : compF Try.prog [36] 100 = some a100 := by kernel_rfl
theorem t101 : compF Try.prog [36] 101 = some a101 := by kernel_rfl
theorem t102 : compF Try.prog [36] 102 = some a102 := by kernel_rfl
theorem t104 : compF Try.prog [36] 104 = some a104 := by kernel_rfl
theorem t126 : compF Try.prog [36] 126 = some a126 := by kernel_rfl
theorem t127 : compF Try.prog [36] 127 = some a127 := by kernel_rfl
theorem t128 : compF Try.prog [36] 128 = some a128 := by kernel_rfl
theorem t129 : compF Try.prog [36] 129 = some a129 := by kernel_rfl
theorem t130 : compF Try.prog [36] 130 = some a130 := by kernel_rfl
theorem t131 : compF Try.prog [36] 131 = some a131 := by kernel_rfl
theorem t132 : compF Try.prog [36] 132 = some a132 := by kernel_rfl
theorem t133 : compF Try.prog [36] 133 = some a133 := by kernel_rfl
theorem t134 : compF Try.prog [36] 134 = some a134 := by kernel_rfl
theorem t135 : compF Try.prog [36] 135 = some a135 := by kernel_rfl
theorem t136 : compF Try.prog [36] 136 = some a136 := by kernel_rfl
theorem t137 : compF Try.prog [36] 137 = some a137 := by kernel_rfl
theorem t138 : compF Try.prog [36] 138 = some a138 := by kernel_rfl
theorem t142 : compF Try.prog [36] 142 = some a142 := by kernel_rfl
theorem t150 : compF Try.prog [36] 150 = some a150 := by kernel_rfl
theorem t151 : compF Try.prog [36] 151 = some a151 := by kernel_rfl
theorem t152 : compF Try.prog [36] 152 = some a152 := by kernel_rfl
theorem t156 : compF Try.prog [36] 156 = some a156 := by kernel_rfl
theorem t159 : compF Try.prog [36] 159 = some a159 := by kernel_rfl
theorem t184 : compF Try.prog [36] 184 = some a184 := by kernel_rfl
theorem t185 : compF Try.prog [36] 185 = some a185 := by kernel_rfl
theorem t186 : compF Try.prog [36] 186 = some a186 := by kernel_rfl
theorem t187 : compF Try.prog [36] 187 = some a187 := by kernel_rfl
theorem t188 : compF Try.prog [36] 188 = some a188 := by kernel_rfl
theorem t189 : compF Try.prog [36] 189 = some a189 := by kernel_rfl
theorem t190 : compF Try.prog [36] 190 = some a190 := by kernel_rfl
theorem t191 : compF Try.prog [36] 191 = some a191 := by kernel_rfl
theorem t192 : compF Try.prog [36] 192 = some a192 := by kernel_rfl
theorem t193 : compF Try.prog [36] 193 = some a193 := by kernel_rfl
theorem t194 : compF Try.prog [36] 194 = some a194 := by kernel_rfl
theorem t195 : compF Try.prog [36] 195 = some a195 := by kernel_rfl
theorem t196 : compF Try.prog [36] 196 = some a196 := by kernel_rfl
theorem t197 : compF Try.prog [36] 197 = some a197 := by kernel_rfl
theorem tab_ok : ∀ q ∈ fnTab, compF Try.prog [36] q.1 = some q.2 := by
  intro q hq
  simp only [fnTab, List.mem_cons, List.not_mem_nil, or_false] at hq
  rcases hq with rfl | rfl | rfl | rfl | rfl | rfl | rfl | rfl | rfl | rfl | rfl | rfl | rfl | rfl | rfl | rfl | rfl | rfl | rfl | rfl | rfl | rfl | rfl | rfl | rfl | rfl | rfl | rfl | rfl | rfl | rfl | rfl | rfl | rfl | rfl | rfl | rfl | rfl | rfl | rfl | rfl | rfl | rfl | rfl | rfl | rfl | rfl | rfl | rfl | rfl | rfl | rfl | rfl | rfl | rfl | rfl | rfl | rfl | rfl | rfl | rfl | rfl | rfl | rfl | rfl | rfl | rfl | rfl | rfl | rfl | rfl | rfl | rfl | rfl | rfl | rfl | rfl | rfl | rfl | rfl | rfl | rfl | rfl | rfl | rfl | rfl | rfl | rfl | rfl | rfl | rfl
  · exact t4
  · exact t8
  · exact t11
  · exact t12
  · exact t13
  · exact t14
  · exact t15
  · exact t16
  · exact t17
  · exact t19
  · exact t28
  · exact t30
  · exact t31
  · exact t32
  · exact t34
  · exact t35
  · exact t36
  · exact t37
  · exact t38
  · exact t39
  · exact t40
  · exact t41
  · exact t42
  · exact t43
  · exact t44
  · exact t45
  · exact t46
  · exact t52
  · exact t55
  · exact t63
  · exact t64
  · exact t65
  · exact t66
  · exact t67
  · exact t68
  · exact t69
  · exact t70
  · exact t72
  · exact t73
  · exact t74
  · exact t75
  · exact t76
  · exact t77
  · exact t78
  · exact t79
  · exact t80
  · exact t81
  · exact t82
  · exact t83
  · exact t88
  · exact t96
  · exact t97
  · exact t98
  · exact t99
  · exact t100
  · exact t101
  · exact t102
  · exact t104
  · exact t126
  · exact t127
  · exact t128
  · exact t129
  · exact t130
  · exact t131
  · exact t132
  · exact t133
  · exact t134
  · exact t135
  · exact t136
  · exact t137
  · exact t138
  · exact t142
  · exact t150
  · exact t151
  · exact t152
  · exact t156
  · exact t159
  · exact t184
  · exact t185
  · exact t186
  · exact t187
  · exact t188
  · exact t189
  · exact t190
  · exact t191
  · exact t192
  · exact t193
  · exact t194
  · exact t195
  · exact t196
  · exact t197
theorem fn_tab (f : Nat) (af : AFunc) (h : (fnTab.find? (fun q => q.1 == f)).map (·.2) = some af) : compF Try.prog [36] f = some af := by
  obtain ⟨q, hq, rfl⟩ := Option.map_eq_some_iff.1 h
  have h1 := List.mem_of_find?_eq_some hq
  have h2 := List.find?_some hq
  simp only [beq_iff_eq] at h2
  rw [← h2]; exact tab_ok q h1
theorem pre9_ok : ∃ fn x, Try.prog.funcs[9]? = some fn ∧ fn.body.map (fun c => match c with | .seq x _ => compC Try.prog fn.ntmps [] x | _ => none) = some (some pre9) ∧ x = 0 := ⟨_, 0, Try.func9, by kernel_rfl, rfl⟩

end AM
end Go.Proofs.Ytimfbnojmdnlnaa
