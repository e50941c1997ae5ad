/- The table is what the program's functions come to. Printed by program. -/
import Derived.Test.YtimfbnojmdnlnaaKLaF
import Derived.Test.YtimfbnojmdnlnaaProg
import Derived.KernelRfl
namespace Go.Proofs.Ytimfbnojmdnlnaa
namespace AM
theorem t7:compF Try.prog theEsc 7=some a7:=by kernel_rfl
theorem t8:compF Try.prog theEsc 8=some a8:=by kernel_rfl
theorem t17:compF Try.prog theEsc 17=some a17:=by kernel_rfl
theorem t21:compF Try.prog theEsc 21=some a21:=by kernel_rfl
theorem t22:compF Try.prog theEsc 22=some a22:=by kernel_rfl
theorem t23:compF Try.prog theEsc 23=some a23:=by kernel_rfl
theorem t24:compF Try.prog theEsc 24=some a24:=by kernel_rfl
theorem t25:compF Try.prog theEsc 25=some a25:=by kernel_rfl
theorem t26:compF Try.prog theEsc 26=some a26:=by kernel_rfl
theorem t27:compF Try.prog theEsc 27=some a27:=by kernel_rfl
theorem t28:compF Try.prog theEsc 28=some a28:=by kernel_rfl
theorem t30:compF Try.prog theEsc 30=some a30:=by kernel_rfl
theorem t31:compF Try.prog theEsc 31=some a31:=by kernel_rfl
theorem t32:compF Try.prog theEsc 32=some a32:=by kernel_rfl
theorem t34:compF Try.prog theEsc 34=some a34:=by kernel_rfl
theorem t56:compF Try.prog theEsc 56=some a56:=by kernel_rfl
theorem t58:compF Try.prog theEsc 58=some a58:=by kernel_rfl
theorem t59:compF Try.prog theEsc 59=some a59:=by kernel_rfl
theorem t60:compF Try.prog theEsc 60=some a60:=by kernel_rfl
theorem t61:compF Try.prog theEsc 61=some a61:=by kernel_rfl
theorem t62:compF Try.prog theEsc 62=some a62:=by kernel_rfl
theorem t63:compF Try.prog theEsc 63=some a63:=by kernel_rfl
theorem t64:compF Try.prog theEsc 64=some a64:=by kernel_rfl
theorem t65:compF Try.prog theEsc 65=some a65:=by kernel_rfl
theorem t66:compF Try.prog theEsc 66=some a66:=by kernel_rfl
theorem t67:compF Try.prog theEsc 67=some a67:=by kernel_rfl
theorem t72:compF Try.prog theEsc 72=some a72:=by kernel_rfl
theorem t73:compF Try.prog theEsc 73=some a73:=by kernel_rfl
theorem t76:compF Try.prog theEsc 76=some a76:=by kernel_rfl
theorem t90:compF Try.prog theEsc 90=some a90:=by kernel_rfl
theorem t91:compF Try.prog theEsc 91=some a91:=by kernel_rfl
theorem t92:compF Try.prog theEsc 92=some a92:=by kernel_rfl
theorem t94:compF Try.prog theEsc 94=some a94:=by kernel_rfl
theorem t95:compF Try.prog theEsc 95=some a95:=by kernel_rfl
theorem t96:compF Try.prog theEsc 96=some a96:=by kernel_rfl
theorem t97:compF Try.prog theEsc 97=some a97:=by kernel_rfl
theorem t98:compF Try.prog theEsc 98=some a98:=by kernel_rfl
theorem t114:compF Try.prog theEsc 114=some a114:=by kernel_rfl
theorem t115:compF Try.prog theEsc 115=some a115:=by kernel_rfl
theorem t116:compF Try.prog theEsc 116=some a116:=by kernel_rfl
theorem t117:compF Try.prog theEsc 117=some a117:=by kernel_rfl
theorem t118:compF Try.prog theEsc 118=some a118:=by kernel_rfl
theorem t119:compF Try.prog theEsc 119=some a119:=by kernel_rfl
theorem t120:compF Try.prog theEsc 120=some a120:=by kernel_rfl
theorem t121:compF Try.prog theEsc 121=some a121:=by kernel_rfl
theorem t122:compF Try.prog theEsc 122=some a122:=by kernel_rfl
theorem t123:compF Try.prog theEsc 123=some a123:=by kernel_rfl
theorem t124:compF Try.prog theEsc 124=some a124:=by kernel_rfl
theorem t125:compF Try.prog theEsc 125=some a125:=by kernel_rfl
theorem t126:compF Try.prog theEsc 126=some a126:=by kernel_rfl
theorem t127:compF Try.prog theEsc 127=some a127:=by kernel_rfl
theorem t128:compF Try.prog theEsc 128=some a128:=by kernel_rfl
theorem t129:compF Try.prog theEsc 129=some a129:=by kernel_rfl
theorem t130:compF Try.prog theEsc 130=some a130:=by kernel_rfl
theorem t139:compF Try.prog theEsc 139=some a139:=by kernel_rfl
theorem t140:compF Try.prog theEsc 140=some a140:=by kernel_rfl
theorem t141:compF Try.prog theEsc 141=some a141:=by kernel_rfl
theorem t142:compF Try.prog theEsc 142=some a142:=by kernel_rfl
theorem t143:compF Try.prog theEsc 143=some a143:=by kernel_rfl
theorem t144:compF Try.prog theEsc 144=some a144:=by kernel_rfl
theorem t145:compF Try.prog theEsc 145=some a145:=by kernel_rfl
theorem t146:compF Try.prog theEsc 146=some a146:=by kernel_rfl
theorem t147:compF Try.prog theEsc 147=some a147:=by kernel_rfl
theorem t148:compF Try.prog theEsc 148=some a148:=by kernel_rfl
theorem t149:compF Try.prog theEsc 149=some a149:=by kernel_rfl
theorem t150:compF Try.prog theEsc 150=some a150:=by kernel_rfl
theorem t153:compF Try.prog theEsc 153=some a153:=by kernel_rfl
theorem t154:compF Try.prog theEsc 154=some a154:=by kernel_rfl
theorem t155:compF Try.prog theEsc 155=some a155:=by kernel_rfl
theorem t156:compF Try.prog theEsc 156=some a156:=by kernel_rfl
theorem t157:compF Try.prog theEsc 157=some a157:=by kernel_rfl
theorem t158:compF Try.prog theEsc 158=some a158:=by kernel_rfl
theorem t159:compF Try.prog theEsc 159=some a159:=by kernel_rfl
theorem t160:compF Try.prog theEsc 160=some a160:=by kernel_rfl
theorem t162:compF Try.prog theEsc 162=some a162:=by kernel_rfl
theorem t184:compF Try.prog theEsc 184=some a184:=by kernel_rfl
theorem t185:compF Try.prog theEsc 185=some a185:=by kernel_rfl
theorem t186:compF Try.prog theEsc 186=some a186:=by kernel_rfl
theorem t187:compF Try.prog theEsc 187=some a187:=by kernel_rfl
theorem t188:compF Try.prog theEsc 188=some a188:=by kernel_rfl
theorem t189:compF Try.prog theEsc 189=some a189:=by kernel_rfl
theorem t190:compF Try.prog theEsc 190=some a190:=by kernel_rfl
theorem t191:compF Try.prog theEsc 191=some a191:=by kernel_rfl
theorem t192:compF Try.prog theEsc 192=some a192:=by kernel_rfl
theorem t193:compF Try.prog theEsc 193=some a193:=by kernel_rfl
theorem t194:compF Try.prog theEsc 194=some a194:=by kernel_rfl
theorem t195:compF Try.prog theEsc 195=some a195:=by kernel_rfl
theorem t196:compF Try.prog theEsc 196=some a196:=by kernel_rfl
theorem t197:compF Try.prog theEsc 197=some a197:=by kernel_rfl
theorem tab_ok:∀ q∈fnTab,compF Try.prog theEsc q.1=some q.2:=by
 intro q hq
 simp only [fnTab,List.mem_cons,List.not_mem_nil,or_false] at hq
 rcases hq with rfl | rfl | rfl | rfl | rfl | rfl | rfl | rfl | rfl | rfl | rfl | rfl | rfl | rfl | rfl | rfl | rfl | rfl | rfl | rfl | rfl | rfl | rfl | rfl | rfl | rfl | rfl | rfl | rfl | rfl | rfl | rfl | rfl | rfl | rfl | rfl | rfl | rfl | rfl | rfl | rfl | rfl | rfl | rfl | rfl | rfl | rfl | rfl | rfl | rfl | rfl | rfl | rfl | rfl | rfl | rfl | rfl | rfl | rfl | rfl | rfl | rfl | rfl | rfl | rfl | rfl | rfl | rfl | rfl | rfl | rfl | rfl | rfl | rfl | rfl | rfl | rfl | rfl | rfl | rfl | rfl | rfl | rfl | rfl | rfl | rfl | rfl | rfl | rfl
 ·exact t7
 ·exact t8
 ·exact t17
 ·exact t21
 ·exact t22
 ·exact t23
 ·exact t24
 ·exact t25
 ·exact t26
 ·exact t27
 ·exact t28
 ·exact t30
 ·exact t31
 ·exact t32
 ·exact t34
 ·exact t56
 ·exact t58
 ·exact t59
 ·exact t60
 ·exact t61
 ·exact t62
 ·exact t63
 ·exact t64
 ·exact t65
 ·exact t66
 ·exact t67
 ·exact t72
 ·exact t73
 ·exact t76
 ·exact t90
 ·exact t91
 ·exact t92
 ·exact t94
 ·exact t95
 ·exact t96
 ·exact t97
 ·exact t98
 ·exact t114
 ·exact t115
 ·exact t116
 ·exact t117
 ·exact t118
 ·exact t119
 ·exact t120
 ·exact t121
 ·exact t122
 ·exact t123
 ·exact t124
 ·exact t125
 ·exact t126
 ·exact t127
 ·exact t128
 ·exact t129
 ·exact t130
 ·exact t139
 ·exact t140
 ·exact t141
 ·exact t142
 ·exact t143
 ·exact t144
 ·exact t145
 ·exact t146
 ·exact t147
 ·exact t148
 ·exact t149
 ·exact t150
 ·exact t153
 ·exact t154
 ·exact t155
 ·exact t156
 ·exact t157
 ·exact t158
 ·exact t159
 ·exact t160
 ·exact t162
 ·exact t184
 ·exact t185
 ·exact t186
 ·exact t187
 ·exact t188
 ·exact t189
 ·exact t190
 ·exact t191
 ·exact t192
 ·exact t193
 ·exact t194
 ·exact t195
 ·exact t196
 ·exact t197
theorem fn_tab (f:Nat) (af:AFunc) (h:(fnTab.find? (fun q=>q.1 == f)).map (·.2)=some af):compF Try.prog theEsc f=some af:=by
 obtain ⟨q,hq,rfl⟩:=Option.map_eq_some_iff.1 h
 have h1:=List.mem_of_find?_eq_some hq
 have h2:=List.find?_some hq
 simp only [beq_iff_eq] at h2
 rw [← h2]; exact tab_ok q h1
end AM
end Go.Proofs.Ytimfbnojmdnlnaa
