/- The table is what the program's functions come to. Printed by program. -/
import Derived.Test.YtimfbnojmdnlnaaGreatKLaF
import Derived.Test.YtimfbnojmdnlnaaGreatProg
import Derived.KernelRfl
namespace Go.Proofs.YtimfbnojmdnlnaaGreat
namespace AM
theorem t8:compF Tryz.prog theEsc 8=some a8:=by kernel_rfl
theorem t11:compF Tryz.prog theEsc 11=some a11:=by kernel_rfl
theorem t26:compF Tryz.prog theEsc 26=some a26:=by kernel_rfl
theorem t27:compF Tryz.prog theEsc 27=some a27:=by kernel_rfl
theorem t28:compF Tryz.prog theEsc 28=some a28:=by kernel_rfl
theorem t30:compF Tryz.prog theEsc 30=some a30:=by kernel_rfl
theorem t31:compF Tryz.prog theEsc 31=some a31:=by kernel_rfl
theorem t35:compF Tryz.prog theEsc 35=some a35:=by kernel_rfl
theorem t36:compF Tryz.prog theEsc 36=some a36:=by kernel_rfl
theorem t37:compF Tryz.prog theEsc 37=some a37:=by kernel_rfl
theorem t40:compF Tryz.prog theEsc 40=some a40:=by kernel_rfl
theorem t42:compF Tryz.prog theEsc 42=some a42:=by kernel_rfl
theorem t43:compF Tryz.prog theEsc 43=some a43:=by kernel_rfl
theorem t44:compF Tryz.prog theEsc 44=some a44:=by kernel_rfl
theorem t49:compF Tryz.prog theEsc 49=some a49:=by kernel_rfl
theorem t61:compF Tryz.prog theEsc 61=some a61:=by kernel_rfl
theorem t63:compF Tryz.prog theEsc 63=some a63:=by kernel_rfl
theorem t64:compF Tryz.prog theEsc 64=some a64:=by kernel_rfl
theorem t65:compF Tryz.prog theEsc 65=some a65:=by kernel_rfl
theorem t66:compF Tryz.prog theEsc 66=some a66:=by kernel_rfl
theorem t68:compF Tryz.prog theEsc 68=some a68:=by kernel_rfl
theorem t70:compF Tryz.prog theEsc 70=some a70:=by kernel_rfl
theorem t71:compF Tryz.prog theEsc 71=some a71:=by kernel_rfl
theorem t75:compF Tryz.prog theEsc 75=some a75:=by kernel_rfl
theorem t76:compF Tryz.prog theEsc 76=some a76:=by kernel_rfl
theorem t77:compF Tryz.prog theEsc 77=some a77:=by kernel_rfl
theorem t79:compF Tryz.prog theEsc 79=some a79:=by kernel_rfl
theorem t80:compF Tryz.prog theEsc 80=some a80:=by kernel_rfl
theorem t81:compF Tryz.prog theEsc 81=some a81:=by kernel_rfl
theorem t84:compF Tryz.prog theEsc 84=some a84:=by kernel_rfl
theorem t89:compF Tryz.prog theEsc 89=some a89:=by kernel_rfl
theorem t95:compF Tryz.prog theEsc 95=some a95:=by kernel_rfl
theorem t96:compF Tryz.prog theEsc 96=some a96:=by kernel_rfl
theorem t97:compF Tryz.prog theEsc 97=some a97:=by kernel_rfl
theorem t99:compF Tryz.prog theEsc 99=some a99:=by kernel_rfl
theorem t100:compF Tryz.prog theEsc 100=some a100:=by kernel_rfl
theorem t101:compF Tryz.prog theEsc 101=some a101:=by kernel_rfl
theorem t102:compF Tryz.prog theEsc 102=some a102:=by kernel_rfl
theorem t103:compF Tryz.prog theEsc 103=some a103:=by kernel_rfl
theorem t104:compF Tryz.prog theEsc 104=some a104:=by kernel_rfl
theorem t105:compF Tryz.prog theEsc 105=some a105:=by kernel_rfl
theorem t106:compF Tryz.prog theEsc 106=some a106:=by kernel_rfl
theorem t107:compF Tryz.prog theEsc 107=some a107:=by kernel_rfl
theorem t111:compF Tryz.prog theEsc 111=some a111:=by kernel_rfl
theorem t112:compF Tryz.prog theEsc 112=some a112:=by kernel_rfl
theorem t113:compF Tryz.prog theEsc 113=some a113:=by kernel_rfl
theorem t114:compF Tryz.prog theEsc 114=some a114:=by kernel_rfl
theorem t116:compF Tryz.prog theEsc 116=some a116:=by kernel_rfl
theorem t117:compF Tryz.prog theEsc 117=some a117:=by kernel_rfl
theorem t118:compF Tryz.prog theEsc 118=some a118:=by kernel_rfl
theorem t119:compF Tryz.prog theEsc 119=some a119:=by kernel_rfl
theorem t120:compF Tryz.prog theEsc 120=some a120:=by kernel_rfl
theorem t121:compF Tryz.prog theEsc 121=some a121:=by kernel_rfl
theorem t122:compF Tryz.prog theEsc 122=some a122:=by kernel_rfl
theorem t123:compF Tryz.prog theEsc 123=some a123:=by kernel_rfl
theorem t124:compF Tryz.prog theEsc 124=some a124:=by kernel_rfl
theorem t125:compF Tryz.prog theEsc 125=some a125:=by kernel_rfl
theorem t126:compF Tryz.prog theEsc 126=some a126:=by kernel_rfl
theorem t127:compF Tryz.prog theEsc 127=some a127:=by kernel_rfl
theorem t128:compF Tryz.prog theEsc 128=some a128:=by kernel_rfl
theorem t129:compF Tryz.prog theEsc 129=some a129:=by kernel_rfl
theorem t130:compF Tryz.prog theEsc 130=some a130:=by kernel_rfl
theorem t131:compF Tryz.prog theEsc 131=some a131:=by kernel_rfl
theorem t132:compF Tryz.prog theEsc 132=some a132:=by kernel_rfl
theorem t133:compF Tryz.prog theEsc 133=some a133:=by kernel_rfl
theorem t134:compF Tryz.prog theEsc 134=some a134:=by kernel_rfl
theorem t135:compF Tryz.prog theEsc 135=some a135:=by kernel_rfl
theorem t136:compF Tryz.prog theEsc 136=some a136:=by kernel_rfl
theorem t137:compF Tryz.prog theEsc 137=some a137:=by kernel_rfl
theorem t138:compF Tryz.prog theEsc 138=some a138:=by kernel_rfl
theorem t139:compF Tryz.prog theEsc 139=some a139:=by kernel_rfl
theorem t140:compF Tryz.prog theEsc 140=some a140:=by kernel_rfl
theorem t141:compF Tryz.prog theEsc 141=some a141:=by kernel_rfl
theorem t142:compF Tryz.prog theEsc 142=some a142:=by kernel_rfl
theorem t143:compF Tryz.prog theEsc 143=some a143:=by kernel_rfl
theorem t144:compF Tryz.prog theEsc 144=some a144:=by kernel_rfl
theorem t145:compF Tryz.prog theEsc 145=some a145:=by kernel_rfl
theorem t146:compF Tryz.prog theEsc 146=some a146:=by kernel_rfl
theorem t147:compF Tryz.prog theEsc 147=some a147:=by kernel_rfl
theorem t148:compF Tryz.prog theEsc 148=some a148:=by kernel_rfl
theorem t149:compF Tryz.prog theEsc 149=some a149:=by kernel_rfl
theorem t150:compF Tryz.prog theEsc 150=some a150:=by kernel_rfl
theorem t151:compF Tryz.prog theEsc 151=some a151:=by kernel_rfl
theorem t152:compF Tryz.prog theEsc 152=some a152:=by kernel_rfl
theorem t153:compF Tryz.prog theEsc 153=some a153:=by kernel_rfl
theorem t154:compF Tryz.prog theEsc 154=some a154:=by kernel_rfl
theorem t155:compF Tryz.prog theEsc 155=some a155:=by kernel_rfl
theorem t156:compF Tryz.prog theEsc 156=some a156:=by kernel_rfl
theorem t157:compF Tryz.prog theEsc 157=some a157:=by kernel_rfl
theorem t158:compF Tryz.prog theEsc 158=some a158:=by kernel_rfl
theorem t159:compF Tryz.prog theEsc 159=some a159:=by kernel_rfl
theorem t160:compF Tryz.prog theEsc 160=some a160:=by kernel_rfl
theorem t161:compF Tryz.prog theEsc 161=some a161:=by kernel_rfl
theorem t162:compF Tryz.prog theEsc 162=some a162:=by kernel_rfl
theorem t163:compF Tryz.prog theEsc 163=some a163:=by kernel_rfl
theorem t164:compF Tryz.prog theEsc 164=some a164:=by kernel_rfl
theorem t165:compF Tryz.prog theEsc 165=some a165:=by kernel_rfl
theorem t166:compF Tryz.prog theEsc 166=some a166:=by kernel_rfl
theorem t167:compF Tryz.prog theEsc 167=some a167:=by kernel_rfl
theorem t168:compF Tryz.prog theEsc 168=some a168:=by kernel_rfl
theorem t169:compF Tryz.prog theEsc 169=some a169:=by kernel_rfl
theorem t170:compF Tryz.prog theEsc 170=some a170:=by kernel_rfl
theorem t171:compF Tryz.prog theEsc 171=some a171:=by kernel_rfl
theorem t172:compF Tryz.prog theEsc 172=some a172:=by kernel_rfl
theorem t173:compF Tryz.prog theEsc 173=some a173:=by kernel_rfl
theorem t174:compF Tryz.prog theEsc 174=some a174:=by kernel_rfl
theorem t175:compF Tryz.prog theEsc 175=some a175:=by kernel_rfl
theorem t176:compF Tryz.prog theEsc 176=some a176:=by kernel_rfl
theorem t177:compF Tryz.prog theEsc 177=some a177:=by kernel_rfl
theorem t178:compF Tryz.prog theEsc 178=some a178:=by kernel_rfl
theorem t179:compF Tryz.prog theEsc 179=some a179:=by kernel_rfl
theorem t180:compF Tryz.prog theEsc 180=some a180:=by kernel_rfl
theorem t181:compF Tryz.prog theEsc 181=some a181:=by kernel_rfl
theorem t182:compF Tryz.prog theEsc 182=some a182:=by kernel_rfl
theorem t183:compF Tryz.prog theEsc 183=some a183:=by kernel_rfl
theorem t184:compF Tryz.prog theEsc 184=some a184:=by kernel_rfl
theorem t185:compF Tryz.prog theEsc 185=some a185:=by kernel_rfl
theorem t186:compF Tryz.prog theEsc 186=some a186:=by kernel_rfl
theorem t209:compF Tryz.prog theEsc 209=some a209:=by kernel_rfl
theorem t210:compF Tryz.prog theEsc 210=some a210:=by kernel_rfl
theorem t211:compF Tryz.prog theEsc 211=some a211:=by kernel_rfl
theorem t212:compF Tryz.prog theEsc 212=some a212:=by kernel_rfl
theorem t213:compF Tryz.prog theEsc 213=some a213:=by kernel_rfl
theorem t214:compF Tryz.prog theEsc 214=some a214:=by kernel_rfl
theorem t215:compF Tryz.prog theEsc 215=some a215:=by kernel_rfl
theorem t216:compF Tryz.prog theEsc 216=some a216:=by kernel_rfl
theorem t217:compF Tryz.prog theEsc 217=some a217:=by kernel_rfl
theorem t218:compF Tryz.prog theEsc 218=some a218:=by kernel_rfl
theorem t219:compF Tryz.prog theEsc 219=some a219:=by kernel_rfl
theorem t220:compF Tryz.prog theEsc 220=some a220:=by kernel_rfl
theorem t221:compF Tryz.prog theEsc 221=some a221:=by kernel_rfl
theorem t222:compF Tryz.prog theEsc 222=some a222:=by kernel_rfl
theorem tab_ok:∀ q∈fnTab,compF Tryz.prog theEsc q.1=some q.2:=by
 intro q hq
 simp only [fnTab,List.mem_cons,List.not_mem_nil,or_false] at hq
 rcases hq with rfl | rfl | rfl | rfl | rfl | rfl | rfl | rfl | rfl | rfl | rfl | rfl | rfl | rfl | rfl | rfl | rfl | rfl | rfl | rfl | rfl | rfl | rfl | rfl | rfl | rfl | rfl | rfl | rfl | rfl | rfl | rfl | rfl | rfl | rfl | rfl | rfl | rfl | rfl | rfl | rfl | rfl | rfl | rfl | rfl | rfl | rfl | rfl | rfl | rfl | rfl | rfl | rfl | rfl | rfl | rfl | rfl | rfl | rfl | rfl | rfl | rfl | rfl | rfl | rfl | rfl | rfl | rfl | rfl | rfl | rfl | rfl | rfl | rfl | rfl | rfl | rfl | rfl | rfl | rfl | rfl | rfl | rfl | rfl | rfl | rfl | rfl | rfl | rfl | rfl | rfl | rfl | rfl | rfl | rfl | rfl | rfl | rfl | rfl | rfl | rfl | rfl | rfl | rfl | rfl | rfl | rfl | rfl | rfl | rfl | rfl | rfl | rfl | rfl | rfl | rfl | rfl | rfl | rfl | rfl | rfl | rfl | rfl | rfl | rfl | rfl | rfl | rfl | rfl | rfl | rfl | rfl
 ·exact t8
 ·exact t11
 ·exact t26
 ·exact t27
 ·exact t28
 ·exact t30
 ·exact t31
 ·exact t35
 ·exact t36
 ·exact t37
 ·exact t40
 ·exact t42
 ·exact t43
 ·exact t44
 ·exact t49
 ·exact t61
 ·exact t63
 ·exact t64
 ·exact t65
 ·exact t66
 ·exact t68
 ·exact t70
 ·exact t71
 ·exact t75
 ·exact t76
 ·exact t77
 ·exact t79
 ·exact t80
 ·exact t81
 ·exact t84
 ·exact t89
 ·exact t95
 ·exact t96
 ·exact t97
 ·exact t99
 ·exact t100
 ·exact t101
 ·exact t102
 ·exact t103
 ·exact t104
 ·exact t105
 ·exact t106
 ·exact t107
 ·exact t111
 ·exact t112
 ·exact t113
 ·exact t114
 ·exact t116
 ·exact t117
 ·exact t118
 ·exact t119
 ·exact t120
 ·exact t121
 ·exact t122
 ·exact t123
 ·exact t124
 ·exact t125
 ·exact t126
 ·exact t127
 ·exact t128
 ·exact t129
 ·exact t130
 ·exact t131
 ·exact t132
 ·exact t133
 ·exact t134
 ·exact t135
 ·exact t136
 ·exact t137
 ·exact t138
 ·exact t139
 ·exact t140
 ·exact t141
 ·exact t142
 ·exact t143
 ·exact t144
 ·exact t145
 ·exact t146
 ·exact t147
 ·exact t148
 ·exact t149
 ·exact t150
 ·exact t151
 ·exact t152
 ·exact t153
 ·exact t154
 ·exact t155
 ·exact t156
 ·exact t157
 ·exact t158
 ·exact t159
 ·exact t160
 ·exact t161
 ·exact t162
 ·exact t163
 ·exact t164
 ·exact t165
 ·exact t166
 ·exact t167
 ·exact t168
 ·exact t169
 ·exact t170
 ·exact t171
 ·exact t172
 ·exact t173
 ·exact t174
 ·exact t175
 ·exact t176
 ·exact t177
 ·exact t178
 ·exact t179
 ·exact t180
 ·exact t181
 ·exact t182
 ·exact t183
 ·exact t184
 ·exact t185
 ·exact t186
 ·exact t209
 ·exact t210
 ·exact t211
 ·exact t212
 ·exact t213
 ·exact t214
 ·exact t215
 ·exact t216
 ·exact t217
 ·exact t218
 ·exact t219
 ·exact t220
 ·exact t221
 ·exact t222
theorem fn_tab (f:Nat) (af:AFunc) (h:(fnTab.find? (fun q=>q.1 == f)).map (·.2)=some af):compF Tryz.prog theEsc f=some af:=by
 obtain ⟨q,hq,rfl⟩:=Option.map_eq_some_iff.1 h
 have h1:=List.mem_of_find?_eq_some hq
 have h2:=List.find?_some hq
 simp only [beq_iff_eq] at h2
 rw [← h2]; exact tab_ok q h1
end AM
end Go.Proofs.YtimfbnojmdnlnaaGreat
