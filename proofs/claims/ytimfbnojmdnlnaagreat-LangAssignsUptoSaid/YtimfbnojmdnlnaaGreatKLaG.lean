/- The table is what the program's functions come to. Printed by program. -/
import Derived.Test.YtimfbnojmdnlnaaGreatKLaF
import Derived.Test.YtimfbnojmdnlnaaGreatProg
import Derived.KernelRfl
namespace Go.Proofs.YtimfbnojmdnlnaaGreat
namespace AM
theorem t3 : compF Tryz.prog theEsc 3 = some a3 := by kernel_rfl
theorem t11 : compF Tryz.prog theEsc 11 = some a11 := by kernel_rfl
theorem t12 : compF Tryz.prog theEsc 12 = some a12 := by kernel_rfl
theorem t13 : compF Tryz.prog theEsc 13 = some a13 := by kernel_rfl
theorem t14 : compF Tryz.prog theEsc 14 = some a14 := by kernel_rfl
theorem t15 : compF Tryz.prog theEsc 15 = some a15 := by kernel_rfl
theorem t16 : compF Tryz.prog theEsc 16 = some a16 := by kernel_rfl
theorem t17 : compF Tryz.prog theEsc 17 = some a17 := by kernel_rfl
theorem t18 : compF Tryz.prog theEsc 18 = some a18 := by kernel_rfl
theorem t19 : compF Tryz.prog theEsc 19 = some a19 := by kernel_rfl
theorem t20 : compF Tryz.prog theEsc 20 = some a20 := by kernel_rfl
theorem t21 : compF Tryz.prog theEsc 21 = some a21 := by kernel_rfl
theorem t22 : compF Tryz.prog theEsc 22 = some a22 := by kernel_rfl
theorem t25 : compF Tryz.prog theEsc 25 = some a25 := by kernel_rfl
theorem t31 : compF Tryz.prog theEsc 31 = some a31 := by kernel_rfl
theorem t42 : compF Tryz.prog theEsc 42 = some a42 := by kernel_rfl
theorem t43 : compF Tryz.prog theEsc 43 = some a43 := by kernel_rfl
theorem t44 : compF Tryz.prog theEsc 44 = some a44 := by kernel_rfl
theorem t46 : compF Tryz.prog theEsc 46 = some a46 := by kernel_rfl
theorem t47 : compF Tryz.prog theEsc 47 = some a47 := by kernel_rfl
theorem t48 : compF Tryz.prog theEsc 48 = some a48 := by kernel_rfl
theorem t49 : compF Tryz.prog theEsc 49 = some a49 := by kernel_rfl
theorem t50 : compF Tryz.prog theEsc 50 = some a50 := by kernel_rfl
theorem t51 : compF Tryz.prog theEsc 51 = some a51 := by kernel_rfl
theorem t52 : compF Tryz.prog theEsc 52 = some a52 := by kernel_rfl
theorem t53 : compF Tryz.prog theEsc 53 = some a53 := by kernel_rfl
theorem t54 : compF Tryz.prog theEsc 54 = some a54 := by kernel_rfl
theorem t55 : compF Tryz.prog theEsc 55 = some a55 := by kernel_rfl
theorem t56 : compF Tryz.prog theEsc 56 = some a56 := by kernel_rfl
theorem t59 : compF Tryz.prog theEsc 59 = some a59 := by kernel_rfl
theorem t65 : compF Tryz.prog theEsc 65 = some a65 := by kernel_rfl
theorem t75 : compF Tryz.prog theEsc 75 = some a75 := by kernel_rfl
theorem t76 : compF Tryz.prog theEsc 76 = some a76 := by kernel_rfl
theorem t77 : compF Tryz.prog theEsc 77 = some a77 := by kernel_rfl
theorem t79 : compF Tryz.prog theEsc 79 = some a79 := by kernel_rfl
theorem t80 : compF Tryz.prog theEsc 80 = some a80 := by kernel_rfl
theorem t81 : compF Tryz.prog theEsc 81 = some a81 := by kernel_rfl
theorem t82 : compF Tryz.prog theEsc 82 = some a82 := by kernel_rfl
theorem t83 : compF Tryz.prog theEsc 83 = some a83 := by kernel_rfl
theorem t84 : compF Tryz.prog theEsc 84 = some a84 := by kernel_rfl
theorem t85 : compF Tryz.prog theEsc 85 = some a85 := by kernel_rfl
theorem t86 : compF Tryz.prog theEsc 86 = some a86 := by kernel_rfl
theorem t87 : compF Tryz.prog theEsc 87 = some a87 := by kernel_rfl
theorem t88 : compF Tryz.prog theEsc 88 = some a88 := by kernel_rfl
theorem t89 : compF Tryz.prog theEsc 89 = some a89 := by kernel_rfl
theorem t90 : compF Tryz.prog theEsc 90 = some a90 := by kernel_rfl
theorem t91 : compF Tryz.prog theEsc 91 = some a91 := by kernel_rfl
theorem t92 : compF Tryz.prog theEsc 92 = some a92 := by kernel_rfl
theorem t93 : compF Tryz.prog theEsc 93 = some a93 := by kernel_rfl
theorem t102 : compF Tryz.prog theEsc 102 = some a102 := by kernel_rfl
theorem t103 : compF Tryz.prog theEsc 103 = some a103 := by kernel_rfl
theorem t104 : compF Tryz.prog theEsc 104 = some a104 := by kernel_rfl
theorem t105 : compF Tryz.prog theEsc 105 = some a105 := by kernel_rfl
theorem t111 : compF Tryz.prog theEsc 111 = some a111 := by kernel_rfl
theorem t112 : compF Tryz.prog theEsc 112 = some a112 := by kernel_rfl
theorem t113 : compF Tryz.prog theEsc 113 = some a113 := by kernel_rfl
theorem t114 : compF Tryz.prog theEsc 114 = some a114 := by kernel_rfl
theorem t115 : compF Tryz.prog theEsc 115 = some a115 := by kernel_rfl
theorem t136 : compF Tryz.prog theEsc 136 = some a136 := by kernel_rfl
theorem t137 : compF Tryz.prog theEsc 137 = some a137 := by kernel_rfl
theorem t138 : compF Tryz.prog theEsc 138 = some a138 := by kernel_rfl
theorem t139 : compF Tryz.prog theEsc 139 = some a139 := by kernel_rfl
theorem t140 : compF Tryz.prog theEsc 140 = some a140 := by kernel_rfl
theorem t142 : compF Tryz.prog theEsc 142 = some a142 := by kernel_rfl
theorem t143 : compF Tryz.prog theEsc 143 = some a143 := by kernel_rfl
theorem t144 : compF Tryz.prog theEsc 144 = some a144 := by kernel_rfl
theorem t148 : compF Tryz.prog theEsc 148 = some a148 := by kernel_rfl
theorem t161 : compF Tryz.prog theEsc 161 = some a161 := by kernel_rfl
theorem t162 : compF Tryz.prog theEsc 162 = some a162 := by kernel_rfl
theorem t163 : compF Tryz.prog theEsc 163 = some a163 := by kernel_rfl
theorem t164 : compF Tryz.prog theEsc 164 = some a164 := by kernel_rfl
theorem t165 : compF Tryz.prog theEsc 165 = some a165 := by kernel_rfl
theorem t166 : compF Tryz.prog theEsc 166 = some a166 := by kernel_rfl
theorem t167 : compF Tryz.prog theEsc 167 = some a167 := by kernel_rfl
theorem t168 : compF Tryz.prog theEsc 168 = some a168 := by kernel_rfl
theorem t169 : compF Tryz.prog theEsc 169 = some a169 := by kernel_rfl
theorem t170 : compF Tryz.prog theEsc 170 = some a170 := by kernel_rfl
theorem t171 : compF Tryz.prog theEsc 171 = some a171 := by kernel_rfl
theorem t172 : compF Tryz.prog theEsc 172 = some a172 := by kernel_rfl
theorem t173 : compF Tryz.prog theEsc 173 = some a173 := by kernel_rfl
theorem t177 : compF Tryz.prog theEsc 177 = some a177 := by kernel_rfl
theorem t180 : compF Tryz.prog theEsc 180 = some a180 := by kernel_rfl
theorem t183 : compF Tryz.prog theEsc 183 = some a183 := by kernel_rfl
theorem t184 : compF Tryz.prog theEsc 184 = some a184 := by kernel_rfl
theorem t185 : compF Tryz.prog theEsc 185 = some a185 := by kernel_rfl
theorem t209 : compF Tryz.prog theEsc 209 = some a209 := by kernel_rfl
theorem t210 : compF Tryz.prog theEsc 210 = some a210 := by kernel_rfl
theorem t211 : compF Tryz.prog theEsc 211 = some a211 := by kernel_rfl
theorem t212 : compF Tryz.prog theEsc 212 = some a212 := by kernel_rfl
theorem t213 : compF Tryz.prog theEsc 213 = some a213 := by kernel_rfl
theorem t214 : compF Tryz.prog theEsc 214 = some a214 := by kernel_rfl
theorem t215 : compF Tryz.prog theEsc 215 = some a215 := by kernel_rfl
theorem t216 : compF Tryz.prog theEsc 216 = some a216 := by kernel_rfl
theorem t217 : compF Tryz.prog theEsc 217 = some a217 := by kernel_rfl
theorem t218 : compF Tryz.prog theEsc 218 = some a218 := by kernel_rfl
theorem t219 : compF Tryz.prog theEsc 219 = some a219 := by kernel_rfl
theorem t220 : compF Tryz.prog theEsc 220 = some a220 := by kernel_rfl
theorem t221 : compF Tryz.prog theEsc 221 = some a221 := by kernel_rfl
theorem t222 : compF Tryz.prog theEsc 222 = some a222 := by kernel_rfl
theorem tab_ok : ∀ q ∈ fnTab, compF Tryz.prog theEsc q.1 = some q.2 := by
 intro q hq
 simp only [fnTab, List.mem_cons, List.not_mem_nil, or_false] at hq
 rcases hq with rfl | rfl | rfl | rfl | rfl | rfl | rfl | rfl | rfl | rfl | rfl | rfl | rfl | rfl | rfl | rfl | rfl | rfl | rfl | rfl | rfl | rfl | rfl | rfl | rfl | rfl | rfl | rfl | rfl | rfl | rfl | rfl | rfl | rfl | rfl | rfl | rfl | rfl | rfl | rfl | rfl | rfl | rfl | rfl | rfl | rfl | rfl | rfl | rfl | rfl | rfl | rfl | rfl | rfl | rfl | rfl | rfl | rfl | rfl | rfl | rfl | rfl | rfl | rfl | rfl | rfl | rfl | rfl | rfl | rfl | rfl | rfl | rfl | rfl | rfl | rfl | rfl | rfl | rfl | rfl | rfl | rfl | rfl | rfl | rfl | rfl | rfl | rfl | rfl | rfl | rfl | rfl | rfl | rfl | rfl | rfl | rfl | rfl | rfl
 ·exact t3
 ·exact t11
 ·exact t12
 ·exact t13
 ·exact t14
 ·exact t15
 ·exact t16
 ·exact t17
 ·exact t18
 ·exact t19
 ·exact t20
 ·exact t21
 ·exact t22
 ·exact t25
 ·exact t31
 ·exact t42
 ·exact t43
 ·exact t44
 ·exact t46
 ·exact t47
 ·exact t48
 ·exact t49
 ·exact t50
 ·exact t51
 ·exact t52
 ·exact t53
 ·exact t54
 ·exact t55
 ·exact t56
 ·exact t59
 ·exact t65
 ·exact t75
 ·exact t76
 ·exact t77
 ·exact t79
 ·exact t80
 ·exact t81
 ·exact t82
 ·exact t83
 ·exact t84
 ·exact t85
 ·exact t86
 ·exact t87
 ·exact t88
 ·exact t89
 ·exact t90
 ·exact t91
 ·exact t92
 ·exact t93
 ·exact t102
 ·exact t103
 ·exact t104
 ·exact t105
 ·exact t111
 ·exact t112
 ·exact t113
 ·exact t114
 ·exact t115
 ·exact t136
 ·exact t137
 ·exact t138
 ·exact t139
 ·exact t140
 ·exact t142
 ·exact t143
 ·exact t144
 ·exact t148
 ·exact t161
 ·exact t162
 ·exact t163
 ·exact t164
 ·exact t165
 ·exact t166
 ·exact t167
 ·exact t168
 ·exact t169
 ·exact t170
 ·exact t171
 ·exact t172
 ·exact t173
 ·exact t177
 ·exact t180
 ·exact t183
 ·exact t184
 ·exact t185
 ·exact t209
 ·exact t210
 ·exact t211
 ·exact t212
 ·exact t213
 ·exact t214
 ·exact t215
 ·exact t216
 ·exact t217
 ·exact t218
 ·exact t219
 ·exact t220
 ·exact t221
 ·exact t222
theorem fn_tab (f : Nat) (af : AFunc) (h : (fnTab.find? (fun q => q.1 == f)).map (·.2) = some af) : compF Tryz.prog theEsc f = some af := by
 obtain ⟨q, hq, rfl⟩ := Option.map_eq_some_iff.1 h
 have h1 := List.mem_of_find?_eq_some hq
 have h2 := List.find?_some hq
 simp only [beq_iff_eq] at h2
 rw [← h2]; exact tab_ok q h1
end AM
end Go.Proofs.YtimfbnojmdnlnaaGreat
