/-
  What the walks want to know of the program: which functions have bodies; its slice types. Written by a program of the session. Slices of bytes in memory of their own: what append, a store and a cut leave of them. By the session itself. bytes.Clone walked. By the session itself. A mailbox in memory: messages as structs of four cells; a box that reads, a box that is new. By the session itself.
-/
import Derived.Test.YtellahclbhfdiaaGreatDoorProg
import Derived.Test.YtellahclbhfdiaaGreatDoorZ02
namespace Go.Proofs
open Go.Vc
theorem Tryz.mixed:Tryz.prog.follows .mixedOrders = true:=by kernel_rfl
@[go_sem] theorem Tryz.go3:isGo Tryz.prog 3 = true:=by kernel_rfl
@[go_sem] theorem Tryz.go4:isGo Tryz.prog 4 = true:=by kernel_rfl
@[go_sem] theorem Tryz.go5:isGo Tryz.prog 5 = true:=by kernel_rfl
@[go_sem] theorem Tryz.go6:isGo Tryz.prog 6 = true:=by kernel_rfl
@[go_sem] theorem Tryz.go7:isGo Tryz.prog 7 = true:=by kernel_rfl
@[go_sem] theorem Tryz.go8:isGo Tryz.prog 8 = true:=by kernel_rfl
@[go_sem] theorem Tryz.go9:isGo Tryz.prog 9 = true:=by kernel_rfl
@[go_sem] theorem Tryz.go10:isGo Tryz.prog 10 = true:=by kernel_rfl
@[go_sem] theorem Tryz.go11:isGo Tryz.prog 11 = true:=by kernel_rfl
@[go_sem] theorem Tryz.go12:isGo Tryz.prog 12 = true:=by kernel_rfl
@[go_sem] theorem Tryz.go13:isGo Tryz.prog 13 = true:=by kernel_rfl
@[go_sem] theorem Tryz.go14:isGo Tryz.prog 14 = true:=by kernel_rfl
@[go_sem] theorem Tryz.go15:isGo Tryz.prog 15 = true:=by kernel_rfl
@[go_sem] theorem Tryz.go16:isGo Tryz.prog 16 = true:=by kernel_rfl
@[go_sem] theorem Tryz.go17:isGo Tryz.prog 17 = true:=by kernel_rfl
@[go_sem] theorem Tryz.go18:isGo Tryz.prog 18 = true:=by kernel_rfl
@[go_sem] theorem Tryz.go19:isGo Tryz.prog 19 = true:=by kernel_rfl
@[go_sem] theorem Tryz.go20:isGo Tryz.prog 20 = true:=by kernel_rfl
@[go_sem] theorem Tryz.go21:isGo Tryz.prog 21 = true:=by kernel_rfl
@[go_sem] theorem Tryz.go22:isGo Tryz.prog 22 = true:=by kernel_rfl
@[go_sem] theorem Tryz.go23:isGo Tryz.prog 23 = true:=by kernel_rfl
@[go_sem] theorem Tryz.go24:isGo Tryz.prog 24 = true:=by kernel_rfl
@[go_sem] theorem Tryz.go25:isGo Tryz.prog 25 = true:=by kernel_rfl
@[go_sem] theorem Tryz.go26:isGo Tryz.prog 26 = true:=by kernel_rfl
@[go_sem] theorem Tryz.go27:isGo Tryz.prog 27 = true:=by kernel_rfl
@[go_sem] theorem Tryz.go28:isGo Tryz.prog 28 = true:=by kernel_rfl
@[go_sem] theorem Tryz.go29:isGo Tryz.prog 29 = true:=by kernel_rfl
@[go_sem] theorem Tryz.go30:isGo Tryz.prog 30 = true:=by kernel_rfl
@[go_sem] theorem Tryz.go31:isGo Tryz.prog 31 = true:=by kernel_rfl
@[go_sem] theorem Tryz.go32:isGo Tryz.prog 32 = true:=by kernel_rfl
@[go_sem] theorem Tryz.go33:isGo Tryz.prog 33 = true:=by kernel_rfl
@[go_sem] theorem Tryz.go34:isGo Tryz.prog 34 = true:=by kernel_rfl
@[go_sem] theorem Tryz.go35:isGo Tryz.prog 35 = true:=by kernel_rfl
@[go_sem] theorem Tryz.go36:isGo Tryz.prog 36 = true:=by kernel_rfl
@[go_sem] theorem Tryz.go37:isGo Tryz.prog 37 = true:=by kernel_rfl
@[go_sem] theorem Tryz.go38:isGo Tryz.prog 38 = true:=by kernel_rfl
@[go_sem] theorem Tryz.go39:isGo Tryz.prog 39 = true:=by kernel_rfl
@[go_sem] theorem Tryz.go40:isGo Tryz.prog 40 = true:=by kernel_rfl
@[go_sem] theorem Tryz.go41:isGo Tryz.prog 41 = true:=by kernel_rfl
@[go_sem] theorem Tryz.go42:isGo Tryz.prog 42 = true:=by kernel_rfl
@[go_sem] theorem Tryz.go43:isGo Tryz.prog 43 = true:=by kernel_rfl
@[go_sem] theorem Tryz.go44:isGo Tryz.prog 44 = true:=by kernel_rfl
@[go_sem] theorem Tryz.go45:isGo Tryz.prog 45 = true:=by kernel_rfl
@[go_sem] theorem Tryz.go46:isGo Tryz.prog 46 = true:=by kernel_rfl
@[go_sem] theorem Tryz.go47:isGo Tryz.prog 47 = true:=by kernel_rfl
@[go_sem] theorem Tryz.go48:isGo Tryz.prog 48 = true:=by kernel_rfl
@[go_sem] theorem Tryz.go49:isGo Tryz.prog 49 = true:=by kernel_rfl
@[go_sem] theorem Tryz.go50:isGo Tryz.prog 50 = true:=by kernel_rfl
@[go_sem] theorem Tryz.go51:isGo Tryz.prog 51 = true:=by kernel_rfl
@[go_sem] theorem Tryz.go52:isGo Tryz.prog 52 = true:=by kernel_rfl
@[go_sem] theorem Tryz.go53:isGo Tryz.prog 53 = true:=by kernel_rfl
@[go_sem] theorem Tryz.go54:isGo Tryz.prog 54 = true:=by kernel_rfl
@[go_sem] theorem Tryz.go55:isGo Tryz.prog 55 = true:=by kernel_rfl
@[go_sem] theorem Tryz.go56:isGo Tryz.prog 56 = true:=by kernel_rfl
@[go_sem] theorem Tryz.go57:isGo Tryz.prog 57 = true:=by kernel_rfl
@[go_sem] theorem Tryz.go58:isGo Tryz.prog 58 = true:=by kernel_rfl
@[go_sem] theorem Tryz.go59:isGo Tryz.prog 59 = true:=by kernel_rfl
@[go_sem] theorem Tryz.go60:isGo Tryz.prog 60 = true:=by kernel_rfl
@[go_sem] theorem Tryz.go61:isGo Tryz.prog 61 = true:=by kernel_rfl
@[go_sem] theorem Tryz.go62:isGo Tryz.prog 62 = true:=by kernel_rfl
@[go_sem] theorem Tryz.go63:isGo Tryz.prog 63 = true:=by kernel_rfl
@[go_sem] theorem Tryz.go64:isGo Tryz.prog 64 = true:=by kernel_rfl
@[go_sem] theorem Tryz.go65:isGo Tryz.prog 65 = true:=by kernel_rfl
@[go_sem] theorem Tryz.go66:isGo Tryz.prog 66 = true:=by kernel_rfl
@[go_sem] theorem Tryz.go67:isGo Tryz.prog 67 = true:=by kernel_rfl
@[go_sem] theorem Tryz.go68:isGo Tryz.prog 68 = true:=by kernel_rfl
@[go_sem] theorem Tryz.go69:isGo Tryz.prog 69 = true:=by kernel_rfl
@[go_sem] theorem Tryz.go70:isGo Tryz.prog 70 = true:=by kernel_rfl
@[go_sem] theorem Tryz.go71:isGo Tryz.prog 71 = true:=by kernel_rfl
@[go_sem] theorem Tryz.go72:isGo Tryz.prog 72 = true:=by kernel_rfl
@[go_sem] theorem Tryz.go73:isGo Tryz.prog 73 = true:=by kernel_rfl
@[go_sem] theorem Tryz.go74:isGo Tryz.prog 74 = true:=by kernel_rfl
@[go_sem] theorem Tryz.go75:isGo Tryz.prog 75 = true:=by kernel_rfl
@[go_sem] theorem Tryz.go76:isGo Tryz.prog 76 = true:=by kernel_rfl
@[go_sem] theorem Tryz.go77:isGo Tryz.prog 77 = true:=by kernel_rfl
@[go_sem] theorem Tryz.go78:isGo Tryz.prog 78 = true:=by kernel_rfl
@[go_sem] theorem Tryz.go79:isGo Tryz.prog 79 = true:=by kernel_rfl
@[go_sem] theorem Tryz.go80:isGo Tryz.prog 80 = true:=by kernel_rfl
@[go_sem] theorem Tryz.go81:isGo Tryz.prog 81 = true:=by kernel_rfl
@[go_sem] theorem Tryz.go82:isGo Tryz.prog 82 = true:=by kernel_rfl
@[go_sem] theorem Tryz.go83:isGo Tryz.prog 83 = true:=by kernel_rfl
@[go_sem] theorem Tryz.go84:isGo Tryz.prog 84 = true:=by kernel_rfl
@[go_sem] theorem Tryz.go85:isGo Tryz.prog 85 = true:=by kernel_rfl
@[go_sem] theorem Tryz.go86:isGo Tryz.prog 86 = true:=by kernel_rfl
@[go_sem] theorem Tryz.go87:isGo Tryz.prog 87 = true:=by kernel_rfl
@[go_sem] theorem Tryz.go88:isGo Tryz.prog 88 = true:=by kernel_rfl
@[go_sem] theorem Tryz.go89:isGo Tryz.prog 89 = true:=by kernel_rfl
@[go_sem] theorem Tryz.go90:isGo Tryz.prog 90 = true:=by kernel_rfl
@[go_sem] theorem Tryz.go91:isGo Tryz.prog 91 = true:=by kernel_rfl
@[go_sem] theorem Tryz.go92:isGo Tryz.prog 92 = true:=by kernel_rfl
@[go_sem] theorem Tryz.go93:isGo Tryz.prog 93 = true:=by kernel_rfl
@[go_sem] theorem Tryz.go94:isGo Tryz.prog 94 = true:=by kernel_rfl
@[go_sem] theorem Tryz.go95:isGo Tryz.prog 95 = true:=by kernel_rfl
@[go_sem] theorem Tryz.go96:isGo Tryz.prog 96 = true:=by kernel_rfl
@[go_sem] theorem Tryz.go97:isGo Tryz.prog 97 = true:=by kernel_rfl
@[go_sem] theorem Tryz.go98:isGo Tryz.prog 98 = true:=by kernel_rfl
@[go_sem] theorem Tryz.go99:isGo Tryz.prog 99 = true:=by kernel_rfl
@[go_sem] theorem Tryz.go100:isGo Tryz.prog 100 = true:=by kernel_rfl
@[go_sem] theorem Tryz.go101:isGo Tryz.prog 101 = true:=by kernel_rfl
@[go_sem] theorem Tryz.go102:isGo Tryz.prog 102 = true:=by kernel_rfl
@[go_sem] theorem Tryz.go103:isGo Tryz.prog 103 = true:=by kernel_rfl
@[go_sem] theorem Tryz.go104:isGo Tryz.prog 104 = true:=by kernel_rfl
@[go_sem] theorem Tryz.go105:isGo Tryz.prog 105 = true:=by kernel_rfl
@[go_sem] theorem Tryz.go106:isGo Tryz.prog 106 = true:=by kernel_rfl
@[go_sem] theorem Tryz.go107:isGo Tryz.prog 107 = true:=by kernel_rfl
@[go_sem] theorem Tryz.go108:isGo Tryz.prog 108 = true:=by kernel_rfl
@[go_sem] theorem Tryz.go109:isGo Tryz.prog 109 = true:=by kernel_rfl
@[go_sem] theorem Tryz.go110:isGo Tryz.prog 110 = true:=by kernel_rfl
@[go_sem] theorem Tryz.go111:isGo Tryz.prog 111 = true:=by kernel_rfl
@[go_sem] theorem Tryz.go112:isGo Tryz.prog 112 = true:=by kernel_rfl
@[go_sem] theorem Tryz.go113:isGo Tryz.prog 113 = true:=by kernel_rfl
@[go_sem] theorem Tryz.go114:isGo Tryz.prog 114 = true:=by kernel_rfl
@[go_sem] theorem Tryz.go115:isGo Tryz.prog 115 = true:=by kernel_rfl
@[go_sem] theorem Tryz.go116:isGo Tryz.prog 116 = true:=by kernel_rfl
@[go_sem] theorem Tryz.go117:isGo Tryz.prog 117 = true:=by kernel_rfl
@[go_sem] theorem Tryz.go118:isGo Tryz.prog 118 = true:=by kernel_rfl
@[go_sem] theorem Tryz.go119:isGo Tryz.prog 119 = true:=by kernel_rfl
@[go_sem] theorem Tryz.go120:isGo Tryz.prog 120 = true:=by kernel_rfl
@[go_sem] theorem Tryz.go121:isGo Tryz.prog 121 = true:=by kernel_rfl
@[go_sem] theorem Tryz.go122:isGo Tryz.prog 122 = true:=by kernel_rfl
@[go_sem] theorem Tryz.go123:isGo Tryz.prog 123 = true:=by kernel_rfl
@[go_sem] theorem Tryz.go124:isGo Tryz.prog 124 = true:=by kernel_rfl
@[go_sem] theorem Tryz.go125:isGo Tryz.prog 125 = true:=by kernel_rfl
@[go_sem] theorem Tryz.go126:isGo Tryz.prog 126 = true:=by kernel_rfl
@[go_sem] theorem Tryz.go127:isGo Tryz.prog 127 = true:=by kernel_rfl
@[go_sem] theorem Tryz.go128:isGo Tryz.prog 128 = true:=by kernel_rfl
@[go_sem] theorem Tryz.go129:isGo Tryz.prog 129 = true:=by kernel_rfl
@[go_sem] theorem Tryz.go130:isGo Tryz.prog 130 = true:=by kernel_rfl
@[go_sem] theorem Tryz.go131:isGo Tryz.prog 131 = true:=by kernel_rfl
@[go_sem] theorem Tryz.go132:isGo Tryz.prog 132 = true:=by kernel_rfl
@[go_sem] theorem Tryz.go133:isGo Tryz.prog 133 = true:=by kernel_rfl
@[go_sem] theorem Tryz.go134:isGo Tryz.prog 134 = true:=by kernel_rfl
@[go_sem] theorem Tryz.go135:isGo Tryz.prog 135 = true:=by kernel_rfl
@[go_sem] theorem Tryz.go136:isGo Tryz.prog 136 = true:=by kernel_rfl
@[go_sem] theorem Tryz.go137:isGo Tryz.prog 137 = true:=by kernel_rfl
@[go_sem] theorem Tryz.go138:isGo Tryz.prog 138 = true:=by kernel_rfl
@[go_sem] theorem Tryz.go139:isGo Tryz.prog 139 = true:=by kernel_rfl
@[go_sem] theorem Tryz.go140:isGo Tryz.prog 140 = true:=by kernel_rfl
@[go_sem] theorem Tryz.go141:isGo Tryz.prog 141 = true:=by kernel_rfl
@[go_sem] theorem Tryz.go142:isGo Tryz.prog 142 = true:=by kernel_rfl
@[go_sem] theorem Tryz.go143:isGo Tryz.prog 143 = true:=by kernel_rfl
@[go_sem] theorem Tryz.go144:isGo Tryz.prog 144 = true:=by kernel_rfl
@[go_sem] theorem Tryz.go145:isGo Tryz.prog 145 = true:=by kernel_rfl
@[go_sem] theorem Tryz.go146:isGo Tryz.prog 146 = true:=by kernel_rfl
@[go_sem] theorem Tryz.go147:isGo Tryz.prog 147 = true:=by kernel_rfl
@[go_sem] theorem Tryz.go148:isGo Tryz.prog 148 = true:=by kernel_rfl
@[go_sem] theorem Tryz.go149:isGo Tryz.prog 149 = true:=by kernel_rfl
@[go_sem] theorem Tryz.go150:isGo Tryz.prog 150 = true:=by kernel_rfl
@[go_sem] theorem Tryz.go151:isGo Tryz.prog 151 = true:=by kernel_rfl
@[go_sem] theorem Tryz.go152:isGo Tryz.prog 152 = true:=by kernel_rfl
@[go_sem] theorem Tryz.go153:isGo Tryz.prog 153 = true:=by kernel_rfl
@[go_sem] theorem Tryz.go154:isGo Tryz.prog 154 = true:=by kernel_rfl
@[go_sem] theorem Tryz.go155:isGo Tryz.prog 155 = true:=by kernel_rfl
@[go_sem] theorem Tryz.go156:isGo Tryz.prog 156 = true:=by kernel_rfl
@[go_sem] theorem Tryz.go157:isGo Tryz.prog 157 = true:=by kernel_rfl
@[go_sem] theorem Tryz.go158:isGo Tryz.prog 158 = true:=by kernel_rfl
@[go_sem] theorem Tryz.go159:isGo Tryz.prog 159 = true:=by kernel_rfl
@[go_sem] theorem Tryz.go160:isGo Tryz.prog 160 = true:=by kernel_rfl
@[go_sem] theorem Tryz.go161:isGo Tryz.prog 161 = true:=by kernel_rfl
@[go_sem] theorem Tryz.go162:isGo Tryz.prog 162 = true:=by kernel_rfl
@[go_sem] theorem Tryz.go163:isGo Tryz.prog 163 = true:=by kernel_rfl
@[go_sem] theorem Tryz.go164:isGo Tryz.prog 164 = true:=by kernel_rfl
@[go_sem] theorem Tryz.go165:isGo Tryz.prog 165 = true:=by kernel_rfl
@[go_sem] theorem Tryz.go166:isGo Tryz.prog 166 = true:=by kernel_rfl
@[go_sem] theorem Tryz.go167:isGo Tryz.prog 167 = true:=by kernel_rfl
@[go_sem] theorem Tryz.go168:isGo Tryz.prog 168 = true:=by kernel_rfl
@[go_sem] theorem Tryz.go169:isGo Tryz.prog 169 = true:=by kernel_rfl
@[go_sem] theorem Tryz.go170:isGo Tryz.prog 170 = true:=by kernel_rfl
@[go_sem] theorem Tryz.go171:isGo Tryz.prog 171 = true:=by kernel_rfl
@[go_sem] theorem Tryz.go172:isGo Tryz.prog 172 = true:=by kernel_rfl
@[go_sem] theorem Tryz.go173:isGo Tryz.prog 173 = true:=by kernel_rfl
@[go_sem] theorem Tryz.go174:isGo Tryz.prog 174 = true:=by kernel_rfl
@[go_sem] theorem Tryz.go175:isGo Tryz.prog 175 = true:=by kernel_rfl
@[go_sem] theorem Tryz.go176:isGo Tryz.prog 176 = true:=by kernel_rfl
@[go_sem] theorem Tryz.go177:isGo Tryz.prog 177 = true:=by kernel_rfl
@[go_sem] theorem Tryz.go178:isGo Tryz.prog 178 = true:=by kernel_rfl
@[go_sem] theorem Tryz.go179:isGo Tryz.prog 179 = true:=by kernel_rfl
@[go_sem] theorem Tryz.go180:isGo Tryz.prog 180 = true:=by kernel_rfl
@[go_sem] theorem Tryz.go181:isGo Tryz.prog 181 = true:=by kernel_rfl
@[go_sem] theorem Tryz.go182:isGo Tryz.prog 182 = true:=by kernel_rfl
@[go_sem] theorem Tryz.go183:isGo Tryz.prog 183 = true:=by kernel_rfl
@[go_sem] theorem Tryz.go184:isGo Tryz.prog 184 = true:=by kernel_rfl
@[go_sem] theorem Tryz.go185:isGo Tryz.prog 185 = true:=by kernel_rfl
@[go_sem] theorem Tryz.go186:isGo Tryz.prog 186 = true:=by kernel_rfl
@[go_sem] theorem Tryz.go187:isGo Tryz.prog 187 = true:=by kernel_rfl
@[go_sem] theorem Tryz.go188:isGo Tryz.prog 188 = true:=by kernel_rfl
@[go_sem] theorem Tryz.go189:isGo Tryz.prog 189 = true:=by kernel_rfl
@[go_sem] theorem Tryz.go190:isGo Tryz.prog 190 = true:=by kernel_rfl
@[go_sem] theorem Tryz.go191:isGo Tryz.prog 191 = true:=by kernel_rfl
@[go_sem] theorem Tryz.go192:isGo Tryz.prog 192 = true:=by kernel_rfl
@[go_sem] theorem Tryz.go193:isGo Tryz.prog 193 = true:=by kernel_rfl
@[go_sem] theorem Tryz.go194:isGo Tryz.prog 194 = true:=by kernel_rfl
@[go_sem] theorem Tryz.go195:isGo Tryz.prog 195 = true:=by kernel_rfl
@[go_sem] theorem Tryz.go196:isGo Tryz.prog 196 = true:=by kernel_rfl
@[go_sem] theorem Tryz.go197:isGo Tryz.prog 197 = true:=by kernel_rfl
@[go_sem] theorem Tryz.go198:isGo Tryz.prog 198 = true:=by kernel_rfl
@[go_sem] theorem Tryz.go199:isGo Tryz.prog 199 = true:=by kernel_rfl
@[go_sem] theorem Tryz.go200:isGo Tryz.prog 200 = true:=by kernel_rfl
@[go_sem] theorem Tryz.go201:isGo Tryz.prog 201 = true:=by kernel_rfl
@[go_sem] theorem Tryz.go202:isGo Tryz.prog 202 = true:=by kernel_rfl
@[go_sem] theorem Tryz.go203:isGo Tryz.prog 203 = true:=by kernel_rfl
@[go_sem] theorem Tryz.go204:isGo Tryz.prog 204 = true:=by kernel_rfl
@[go_sem] theorem Tryz.go205:isGo Tryz.prog 205 = true:=by kernel_rfl
@[go_sem] theorem Tryz.go206:isGo Tryz.prog 206 = true:=by kernel_rfl
@[go_sem] theorem Tryz.go207:isGo Tryz.prog 207 = true:=by kernel_rfl
@[go_sem] theorem Tryz.go208:isGo Tryz.prog 208 = true:=by kernel_rfl
@[go_sem] theorem Tryz.go209:isGo Tryz.prog 209 = true:=by kernel_rfl
@[go_sem] theorem Tryz.go210:isGo Tryz.prog 210 = true:=by kernel_rfl
@[go_sem] theorem Tryz.go211:isGo Tryz.prog 211 = true:=by kernel_rfl
@[go_sem] theorem Tryz.go212:isGo Tryz.prog 212 = true:=by kernel_rfl
@[go_sem] theorem Tryz.go213:isGo Tryz.prog 213 = true:=by kernel_rfl
@[go_sem] theorem Tryz.go214:isGo Tryz.prog 214 = true:=by kernel_rfl
@[go_sem] theorem Tryz.go215:isGo Tryz.prog 215 = true:=by kernel_rfl
@[go_sem] theorem Tryz.go216:isGo Tryz.prog 216 = true:=by kernel_rfl
@[go_sem] theorem Tryz.go217:isGo Tryz.prog 217 = true:=by kernel_rfl
@[go_sem] theorem Tryz.go218:isGo Tryz.prog 218 = true:=by kernel_rfl
@[go_sem] theorem Tryz.go219:isGo Tryz.prog 219 = true:=by kernel_rfl
@[go_sem] theorem Tryz.go220:isGo Tryz.prog 220 = true:=by kernel_rfl
@[go_sem] theorem Tryz.go221:isGo Tryz.prog 221 = true:=by kernel_rfl
@[go_sem] theorem Tryz.go222:isGo Tryz.prog 222 = true:=by kernel_rfl
@[go_sem] theorem Tryz.go223:isGo Tryz.prog 223 = true:=by kernel_rfl
@[go_sem] theorem Tryz.go224:isGo Tryz.prog 224 = true:=by kernel_rfl
@[go_sem] theorem Tryz.go225:isGo Tryz.prog 225 = true:=by kernel_rfl
@[go_sem] theorem Tryz.go226:isGo Tryz.prog 226 = true:=by kernel_rfl
@[go_sem] theorem Tryz.go227:isGo Tryz.prog 227 = true:=by kernel_rfl
@[go_sem] theorem Tryz.go228:isGo Tryz.prog 228 = true:=by kernel_rfl
@[go_sem] theorem Tryz.go229:isGo Tryz.prog 229 = true:=by kernel_rfl
@[go_sem] theorem Tryz.go230:isGo Tryz.prog 230 = true:=by kernel_rfl
@[go_sem] theorem Tryz.go231:isGo Tryz.prog 231 = true:=by kernel_rfl
@[go_sem] theorem Tryz.go232:isGo Tryz.prog 232 = true:=by kernel_rfl
@[go_sem] theorem Tryz.go233:isGo Tryz.prog 233 = true:=by kernel_rfl
@[go_sem] theorem Tryz.go234:isGo Tryz.prog 234 = true:=by kernel_rfl
@[go_sem] theorem Tryz.go235:isGo Tryz.prog 235 = true:=by kernel_rfl
@[go_sem] theorem Tryz.go236:isGo Tryz.prog 236 = true:=by kernel_rfl
@[go_sem] theorem Tryz.go237:isGo Tryz.prog 237 = true:=by kernel_rfl
@[go_sem] theorem Tryz.go239:isGo Tryz.prog 239 = true:=by kernel_rfl
@[go_sem] theorem Tryz.go240:isGo Tryz.prog 240 = true:=by kernel_rfl
@[go_sem] theorem Tryz.go241:isGo Tryz.prog 241 = true:=by kernel_rfl
@[go_sem] theorem Tryz.go242:isGo Tryz.prog 242 = true:=by kernel_rfl
@[go_sem] theorem Tryz.go243:isGo Tryz.prog 243 = true:=by kernel_rfl
@[go_sem] theorem Tryz.go244:isGo Tryz.prog 244 = true:=by kernel_rfl
@[go_sem] theorem Tryz.go245:isGo Tryz.prog 245 = true:=by kernel_rfl
@[go_sem] theorem Tryz.go246:isGo Tryz.prog 246 = true:=by kernel_rfl
@[go_sem] theorem Tryz.go247:isGo Tryz.prog 247 = true:=by kernel_rfl
@[go_sem] theorem Tryz.go248:isGo Tryz.prog 248 = true:=by kernel_rfl
@[go_sem] theorem Tryz.go249:isGo Tryz.prog 249 = true:=by kernel_rfl
@[go_sem] theorem Tryz.go250:isGo Tryz.prog 250 = true:=by kernel_rfl
@[go_sem] theorem Tryz.go251:isGo Tryz.prog 251 = true:=by kernel_rfl
@[go_sem] theorem Tryz.go252:isGo Tryz.prog 252 = true:=by kernel_rfl
@[go_sem] theorem Tryz.go253:isGo Tryz.prog 253 = true:=by kernel_rfl
@[go_sem] theorem Tryz.go254:isGo Tryz.prog 254 = true:=by kernel_rfl
@[go_sem] theorem Tryz.go255:isGo Tryz.prog 255 = true:=by kernel_rfl
@[go_sem] theorem Tryz.go256:isGo Tryz.prog 256 = true:=by kernel_rfl
@[go_sem] theorem Tryz.go257:isGo Tryz.prog 257 = true:=by kernel_rfl
@[go_sem] theorem Tryz.go258:isGo Tryz.prog 258 = true:=by kernel_rfl
@[go_sem] theorem Tryz.go259:isGo Tryz.prog 259 = true:=by kernel_rfl
@[go_sem] theorem Tryz.go260:isGo Tryz.prog 260 = true:=by kernel_rfl
@[go_sem] theorem Tryz.go261:isGo Tryz.prog 261 = true:=by kernel_rfl
@[go_sem] theorem Tryz.go262:isGo Tryz.prog 262 = true:=by kernel_rfl
@[go_sem] theorem Tryz.go263:isGo Tryz.prog 263 = true:=by kernel_rfl
@[go_sem] theorem Tryz.go265:isGo Tryz.prog 265 = true:=by kernel_rfl
@[go_sem] theorem Tryz.go266:isGo Tryz.prog 266 = true:=by kernel_rfl
@[go_sem] theorem Tryz.go267:isGo Tryz.prog 267 = true:=by kernel_rfl
@[go_sem] theorem Tryz.nz (a b args:Array Value) (w:World) (K:Value → World → Prop) (k:Stop K):callV Tryz.prog (.func (.func 238) a b) args w K k = wV K .mk (nzS Tryz.prog 23 (a ++ args ++ b) w):=callV_entry (e:=Extern.BytealgMakeNoZero.makeNoZero Tryz.f238.params Tryz.f238.resultTypes) Tryz.func238 (by kernel_rfl) (by kernel_rfl) (by kernel_rfl) (by kernel_rfl) a b args w K k
theorem Tryz.Su8:SlT Tryz.prog 23 5 1 1 (.int .u8 0):=⟨by kernel_rfl,by kernel_rfl,by rfl,by decide⟩
theorem Tryz.Sint:SlT Tryz.prog 22 3 1 8 (.int .i64 0):=⟨by kernel_rfl,by kernel_rfl,by rfl,by decide⟩
theorem Tryz.Srows:SlT Tryz.prog 125 23 1 24 (.slice none 0 0):=⟨by kernel_rfl,by kernel_rfl,by rfl,by decide⟩
theorem Tryz.Sstr:SlT Tryz.prog 55 9 1 16 (.string ⟨#[]⟩):=⟨by kernel_rfl,by kernel_rfl,by rfl,by decide⟩
end Go.Proofs
namespace Go.Proofs.YtellahclbhfdiaaGreatDoor
set_option linter.unusedSimpArgs false
set_option linter.unusedVariables false
set_option maxRecDepth 100000
open Go.Vc Go.RowKit
/-- A slice of bytes in memory of its own. -/
def Bs (w:World) (v:Value) (l:List UInt8) (B:Nat):Prop:=∃ A c,v = .slice A l.length c ∧ Ow w 5 1 A l.length c (l.map u8) ∧ ∀ a,A = some a → B ≤ a.block
theorem one_u8 (l:List UInt8):∀ u ∈ l.map u8,u.oneCell' = true:=by
 intro u hu
 obtain ⟨b,_,rfl⟩:=List.mem_map.1 hu
 rfl
theorem byteOf (n:Nat) (h:n < 256):u8 (UInt8.ofNat n) = .int .u8 (n:Int):=by
 simp [Nat.mod_eq_of_lt h]
theorem Bs.mono {w:World} {v:Value} {l:List UInt8} {B B':Nat} (h:Bs w v l B) (hB:B' ≤ B):Bs w v l B':=by
 obtain ⟨A,c,rfl,ho,hf⟩:=h
 exact ⟨A,c,rfl,ho,fun a ha => Nat.le_trans hB (hf a ha)⟩
theorem Bs.gs {w:World} {v:Value} {l:List UInt8} {B:Nat} (h:Bs w v l B):Gs w 5 1 v l.length (l.map u8) B:=h
theorem Bs.of_gs {w:World} {v:Value} {l:List UInt8} {n B:Nat} (h:Gs w 5 1 v n (l.map u8) B) (hn:n = l.length):Bs w v l B:=by
 subst hn; exact h
theorem Bs.nil (w:World) (B:Nat):Bs w (.slice none 0 0) [] B:=Gs.nil _ _ _ _
theorem Bs.kp {w w':World} {v:Value} {l:List UInt8} {B:Nat} {S:Nat → Prop} (h:Bs w v l B) (k:Kp S w w') (hn:∀ i,B ≤ i → i < w.heap.size → ¬ S i):Bs w' v l B:=Gs.kp h k hn
theorem Bs.nw {w w':World} {v:Value} {l:List UInt8} {B:Nat} (h:Bs w v l B) (k:Nw w w'):Bs w' v l B:=Gs.nw h k
/-- 'b = append(b, m...)'. -/
theorem bs_app {K:Value → World → Prop} {k:Stop K} {w:World} {ty:TypeId} {X:Option Addr} {v:Value} {d B:Nat} {l m:List UInt8}
  (ho:Bs w v l B) (hr:Rd w X (m.map u8)) (hl:l.length + m.length ≤ 140737488355328) (hB:B ≤ w.heap.size)
  (h:∀ v' w',Bs w' v' (l ++ m) B → Kp (Fr B) w w' → K v' w') :
  wV K k (appS Tryz.prog #[23,23] ty #[v,.slice X m.length d] w) :=
 gs_app Tryz.Su8 ho hr (by simp) (one_u8 m) (by omega) (by omega) hB fun v' w' hg hk => h v' w' (Bs.of_gs (by rw [List.map_append]; exact hg) (by rw [List.length_append])) hk
/-- 'b = append(b, x)'. -/
theorem bs_push {K:Value → World → Prop} {k:Stop K} {w:World} {ty:TypeId} {v:Value} {b B x:Nat} {l:List UInt8}
  (ho:Bs w v l B) (hb:b = w.heap.size) (hx:x < 256) (hl:l.length + 1 ≤ 140737488355328) (hB:B ≤ w.heap.size)
  (h:∀ v' w',Bs w' v' (l ++ [UInt8.ofNat x]) B → Kp (Fr B) w w' → K v' w') :
  wV K k (appS Tryz.prog #[23,23] ty #[v,.slice (some ⟨b,0,none⟩) 1 1] (w.alloc (.cells #[.int .u8 (x:Int)] 5))):=by
 have k0:Nw w (w.alloc (.cells #[.int .u8 (x:Int)] 5)):=(Kp.refl _ _).alloc _
 refine bs_app (m:=[UInt8.ofNat x]) (ho.nw k0) (Rd.fresh hb (by rw [List.map_cons,List.map_nil,byteOf x hx])) hl (Nat.le_trans hB k0.size) fun v' w' h1 h2 => h v' w' h1 ((k0.kp _).trans h2 fun _ _ h => h)
/-- Bytes in a slice whose memory lies in F. -/
def Bf (w:World) (v:Value) (l:List UInt8) (F:Nat → Prop):Prop:=∃ A c,v = .slice A l.length c ∧ Ow w 5 1 A l.length c (l.map u8) ∧ (∀ k,blk A k → F k) ∧ (∀ k,F k → k < w.heap.size)
theorem Bf.nil (w:World):Bf w (.slice none 0 0) [] (fun _ => False):=⟨none,0,rfl,Ow.nil _ _ _,fun _ h => h,fun _ h => h.elim⟩
theorem Bf.kp {S:Nat → Prop} {w w':World} {v:Value} {l:List UInt8} {F:Nat → Prop} (h:Bf w v l F) (k:Kp S w w') (hd:∀ i,F i → ¬ S i):Bf w' v l F:=by
 obtain ⟨A,c,rfl,ho,h1,h2⟩:=h
 exact ⟨A,c,rfl,ho.kp k (Off.of_blk fun i hi => hd _ (h1 _ hi)),h1,fun i hi => Nat.lt_of_lt_of_le (h2 i hi) k.size⟩
theorem Bf.nw {w w':World} {v:Value} {l:List UInt8} {F:Nat → Prop} (h:Bf w v l F) (k:Nw w w'):Bf w' v l F:=h.kp k fun _ _ h => h
theorem Bf.lt {w:World} {v:Value} {l:List UInt8} {F:Nat → Prop} (h:Bf w v l F):∀ k,F k → k < w.heap.size:=by
 obtain ⟨_,_,_,_,_,h⟩:=h
 exact h
theorem bf_app {K:Value → World → Prop} {k:Stop K} {w:World} {ty:TypeId} {X:Option Addr} {v:Value} {d:Nat} {l m:List UInt8} {F:Nat → Prop}
  (ho:Bf w v l F) (hr:Rd w X (m.map u8)) (hl:l.length + m.length ≤ 140737488355328)
  (h:∀ v' w' F',Bf w' v' (l ++ m) F' → Gr F F' w w' → Kp F w w' → K v' w') :
  wV K k (appS Tryz.prog #[23,23] ty #[v,.slice X m.length d] w):=by
 obtain ⟨A,c,rfl,ho,h1,h2⟩:=ho
 refine app Tryz.Su8 ho hr (by simp) (one_u8 m) (by omega) (by omega) fun A' c' w' ho' hk hAA => ?_
 have e:l.length + m.length = (l ++ m).length:=by simp
 have e2:l.map u8 ++ m.map u8 = (l ++ m).map u8:=by simp
 rw [e,e2] at ho'
 rw [e]
 refine h _ w' (blk A') ⟨A',c',rfl,ho',fun _ h => h,fun i hi => ?_⟩ (fun i hi => ?_) (hk.mono fun i _ hi => h1 i hi)
 ·obtain ⟨a,rfl,rfl⟩:=blk_of hi
  exact ho'.lt a rfl
 ·rcases hAA with rfl | ⟨rfl,hlt⟩
  ·exact .inl (h1 i hi)
  ·have hi:i = w.heap.size:=hi
   subst hi
   exact .inr ⟨Nat.le_refl _,hlt⟩
/-- 'append([]byte{}, m...)'. -/
theorem bs_fresh {K:Value → World → Prop} {k:Stop K} {w:World} {ty:TypeId} {X:Option Addr} {b d n:Nat} {m:List UInt8} (hb:b = w.heap.size) (hn:n = m.length) (hr:Rd w X (m.map u8)) (hl:m.length ≤ 140737488355328)
  (h:∀ v' w',Bs w' v' m w.heap.size → Nw w w' → K v' w') :
  wV K k (appS Tryz.prog #[23,23] ty #[.slice (some ⟨b,0,none⟩) 0 0,.slice X n d] (w.alloc (.cells #[] 5))):=by
 subst hb; subst hn
 have ka:Nw w (w.alloc (.cells #[] 5)):=(Kp.refl _ _).alloc _
 refine bs_app (m:=m) (l:=[]) (B:=w.heap.size) (Gs.made w 5 1 0 #[] rfl rfl rfl (by simp [maxLen]) (Nat.le_refl _)) (hr.nw ka) (by simpa using hl) ka.size fun v' w' h1 h2 => h v' w' (by simpa using h1) (Nw.fr ka h2 (Nat.le_refl _))
theorem clone_spec (A:Option Addr) (c:Nat) (l:List UInt8) (w:World) (hr:Rd w A (l.map u8)) (hl:l.length ≤ 140737488355328) :
  Cal Tryz.prog 55 #[.slice A l.length c] w fun v w' => Bs w' v l w.heap.size ∧ Nw w w':=by
 refine enter Tryz.mixed Tryz.func55 rfl (by kernel_rfl) ?_
 simp -dsimp [go_sem]
 refine cond_b (fun h => ?_) (fun h => ?_)
 ·obtain rfl:A = none:=by simpa using h
  have hn:l = []:=by
   cases l with
   | nil => rfl
   | cons b t => obtain ⟨_,_,e,_⟩:=hr 0 (u8 b) rfl; cases e
  subst hn
  simp -dsimp [go_sem]
  exact ⟨⟨none,0,rfl,Ow.nil _ _ _,by simp⟩,Kp.refl _ _⟩
 ·simp -dsimp [go_sem]
  refine app Tryz.Su8 (Ow.made w 5 1 0 #[] rfl (by simp [maxLen])) (hr.nw ((Kp.refl _ w).alloc _)) (m:=l.length) (by simp) (one_u8 l) (by omega) (by omega) ?_
  intro A' c' w' ho hk hA
  simp -dsimp [go_sem]
  refine ⟨⟨A',c',rfl,by simpa using ho,?_⟩,?_⟩
  ·rintro a rfl
   rcases hA with e | ⟨e,_⟩ <;> cases e <;> simp
  ·exact ((Kp.refl _ w).alloc _).trans hk (fun i hi h => by simp [blk] at h; omega)
set_option maxHeartbeats 1000000
structure Msg where
 uid:Int
 flags:Int
 date:Int
 body:List UInt8
structure Bx where
 name:ByteArray
 val:Int
 next:Int
 L:List Msg
/-- Messages, each with the value of its body. -/
abbrev MQ:=List (Msg × Value)
def mq (q:MQ):List Value:=q.flatMap fun p => [i64 p.1.uid,i64 p.1.flags,i64 p.1.date,p.2]
theorem mq_cons (p:Msg × Value) (q:MQ):mq (p :: q) = i64 p.1.uid :: i64 p.1.flags :: i64 p.1.date :: p.2 :: mq q:=rfl
theorem mq_len (q:MQ):(mq q).length = q.length * 4:=by
 induction q with
 | nil => rfl
 | cons p q ih => simp only [mq_cons,List.length_cons,ih]; omega
theorem mq_app (q r:MQ):mq (q ++ r) = mq q ++ mq r:=by simp [mq]
theorem mq_at:∀ (q:MQ) (i:Nat) (h:i < q.length),(mq q)[i * 4]? = some (i64 q[i].1.uid) ∧ (mq q)[i * 4 + 1]? = some (i64 q[i].1.flags) ∧ (mq q)[i * 4 + 2]? = some (i64 q[i].1.date) ∧ (mq q)[i * 4 + 3]? = some q[i].2
 | p :: q,0,_ => ⟨rfl,rfl,rfl,rfl⟩
 | p :: q,i + 1,h => by
  have ih:=mq_at q i (by simpa using h)
  rw [mq_cons,show (i + 1) * 4 = i * 4 + 1 + 1 + 1 + 1 by omega]
  simpa using ih
theorem mq_set_body:∀ (q:MQ) (i:Nat) (h:i < q.length) (v:Value),(mq q).set (i * 4 + 3) v = mq (q.set i (q[i].1,v))
 | p :: q,0,_,v => rfl
 | p :: q,i + 1,h,v => by
  have ih:=mq_set_body q i (by simpa using h) v
  rw [mq_cons,show (i + 1) * 4 + 3 = (i * 4 + 3) + 1 + 1 + 1 + 1 by omega]
  simp only [List.set_cons_succ,ih,List.getElem_cons_succ,mq_cons]
theorem mq_set_flags:∀ (q:MQ) (i:Nat) (h:i < q.length) (n:Int),(mq q).set (i * 4 + 1) (i64 n) = mq (q.set i ({ q[i].1 with flags:=n },q[i].2))
 | p :: q,0,_,v => rfl
 | p :: q,i + 1,h,v => by
  have ih:=mq_set_flags q i (by simpa using h) v
  rw [mq_cons,show (i + 1) * 4 + 1 = (i * 4 + 1) + 1 + 1 + 1 + 1 by omega]
  simp only [List.set_cons_succ,ih,List.getElem_cons_succ,mq_cons]
/-- A slice of bytes that reads, and does not lie in S. -/
def RdB (w:World) (v:Value) (l:List UInt8) (S:Nat → Prop):Prop:=∃ B d,v = .slice B l.length d ∧ Rd w B (l.map u8) ∧ Ofl B (l.map u8) S ∧ l.length ≤ d
section
variable {w w':World} {v:Value} {l:List UInt8} {S T:Nat → Prop}
theorem RdB.nw (h:RdB w v l S) (k:Nw w w'):RdB w' v l S:=by
 obtain ⟨B,d,h1,h2,h3,h4⟩:=h
 exact ⟨B,d,h1,h2.nw k,h3,h4⟩
theorem RdB.kp (h:RdB w v l S) (k:Kp S w w'):RdB w' v l S:=by
 obtain ⟨B,d,h1,h2,h3,h4⟩:=h
 exact ⟨B,d,h1,h2.kp k h3,h3,h4⟩
theorem RdB.one (h:RdB w v l S):v.oneCell' = true:=by
 obtain ⟨B,d,rfl,_⟩:=h
 cases B <;> rfl
theorem RdB.ofl (h:RdB w v l S) (hT:∀ i,T i → S i ∨ w.heap.size ≤ i):RdB w v l T:=by
 obtain ⟨B,d,h1,h2,h3,h4⟩:=h
 exact ⟨B,d,h1,h2,fun a ha hx ht => by
  rcases hT _ ht with h | h
  ·exact h3 a ha hx h
  ·exact h2.ofl (S:=fun i => w.heap.size ≤ i) (fun i hi => hi) a ha hx h,h4⟩
theorem Bs.rdb {B:Nat} (h:Bs w v l B):RdB w v l (fun k => k < B):=by
 obtain ⟨A,c,h1,ho,hA⟩:=h
 exact ⟨A,c,h1,ho.rd,fun a ha _ hk => by have:=hA a ha; omega,ho.2.1⟩
theorem RdB.any (h:RdB w v l S):RdB w v l (fun _ => False):=h.ofl fun _ h => h.elim
end
/-- Bodies that read. -/
def Bds (w:World) (q:MQ) (S:Nat → Prop):Prop:=∀ p ∈ q,RdB w p.2 p.1.body S
/-- A box that reads, none of it in S. -/
def RB (w:World) (v:Value) (b:Bx) (S:Nat → Prop):Prop :=
 ∃ A c,∃ q:MQ,v = .agg #[.string b.name,i64 b.val,i64 b.next,.slice A b.L.length c] ∧ q.map Prod.fst = b.L ∧ b.L.length ≤ c ∧ Rd w A (mq q) ∧ Ofl A (mq q) S ∧ Bds w q S
section
variable {w w':World} {v:Value} {b:Bx} {S T:Nat → Prop} {q:MQ}
theorem Bds.nw (h:Bds w q S) (k:Nw w w'):Bds w' q S:=fun p hp => (h p hp).nw k
theorem Bds.kp (h:Bds w q S) (k:Kp S w w'):Bds w' q S:=fun p hp => (h p hp).kp k
theorem RB.nw (h:RB w v b S) (k:Nw w w'):RB w' v b S:=by
 obtain ⟨A,c,q,h1,h2,h3,h4,h5,h6⟩:=h
 exact ⟨A,c,q,h1,h2,h3,h4.nw k,h5,h6.nw k⟩
theorem RB.kp (h:RB w v b S) (k:Kp S w w'):RB w' v b S:=by
 obtain ⟨A,c,q,h1,h2,h3,h4,h5,h6⟩:=h
 exact ⟨A,c,q,h1,h2,h3,h4.kp k h5,h5,h6.kp k⟩
theorem RB.ofl (h:RB w v b S) (hT:∀ i,T i → S i ∨ w.heap.size ≤ i):RB w v b T:=by
 obtain ⟨A,c,q,h1,h2,h3,h4,h5,h6⟩:=h
 exact ⟨A,c,q,h1,h2,h3,h4,fun a ha hx ht => by
  rcases hT _ ht with h | h
  ·exact h5 a ha hx h
  ·exact h4.ofl (S:=fun i => w.heap.size ≤ i) (fun i hi => hi) a ha hx h,fun p hp => (h6 p hp).ofl hT⟩
theorem RB.any (h:RB w v b S):RB w v b (fun _ => False):=h.ofl fun _ h => h.elim
end
theorem Smsg:SlT Tryz.prog 109 186 4 48 (.agg #[.int .i64 0,.int .i64 0,.int .i64 0,.slice none 0 0]):=⟨by kernel_rfl,by kernel_rfl,by rfl,by decide⟩
/-- Bytes in memory that is new since block B and no part of A's block. -/
def BsA (w:World) (v:Value) (l:List UInt8) (B:Nat) (A:Option Addr):Prop:=∃ X c,v = .slice X l.length c ∧ Ow w 5 1 X l.length c (l.map u8) ∧ ∀ a,X = some a → B ≤ a.block ∧ ¬ blk A a.block
section
variable {w w':World} {v:Value} {l:List UInt8} {B B':Nat} {A:Option Addr} {S:Nat → Prop}
theorem BsA.bs (h:BsA w v l B A):Bs w v l B:=by
 obtain ⟨X,c,h1,h2,h3⟩:=h
 exact ⟨X,c,h1,h2,fun a ha => (h3 a ha).1⟩
theorem BsA.kp (h:BsA w v l B A) (k:Kp S w w') (hn:∀ i,B ≤ i → i < w.heap.size → ¬ blk A i → ¬ S i):BsA w' v l B A:=by
 obtain ⟨X,c,h1,h2,h3⟩:=h
 exact ⟨X,c,h1,h2.kp k fun a ha => hn _ (h3 a ha).1 (h2.lt a ha) (h3 a ha).2,h3⟩
theorem BsA.nw (h:BsA w v l B A) (k:Nw w w'):BsA w' v l B A:=h.kp k fun _ _ _ _ h => h
theorem BsA.mono (h:BsA w v l B A) (hB:B' ≤ B):BsA w v l B' A:=by
 obtain ⟨X,c,h1,h2,h3⟩:=h
 exact ⟨X,c,h1,h2,fun a ha => ⟨Nat.le_trans hB (h3 a ha).1,(h3 a ha).2⟩⟩
theorem BsA.of {B0:Nat} (h:Bs w v l B) (hB:B0 ≤ B) (hA:∀ a,A = some a → a.block < B):BsA w v l B0 A:=by
 obtain ⟨X,c,h1,h2,h3⟩:=h
 exact ⟨X,c,h1,h2,fun a ha => ⟨Nat.le_trans hB (h3 a ha),fun hb => by
  obtain ⟨a',ha',e⟩:=blk_of hb
  have h4:=hA a' ha'
  have h5:=h3 a ha
  omega⟩⟩
/-- The other slice is put elsewhere, behind all there is. -/
theorem BsA.moved {A':Option Addr} (h:BsA w v l B A) (hA:A' = A ∨ ∃ a,A' = some a ∧ w.heap.size ≤ a.block):BsA w v l B A':=by
 obtain ⟨X,c,h1,h2,h3⟩:=h
 refine ⟨X,c,h1,h2,fun a ha => ⟨(h3 a ha).1,fun hb => ?_⟩⟩
 rcases hA with rfl | ⟨a',rfl,hle⟩
 ·exact (h3 a ha).2 hb
 ·have:=h2.lt a ha
  have hb:a.block = a'.block:=hb
  omega
/-- Another slice, all of it behind what there was. -/
theorem BsA.to {A':Option Addr} (h:BsA w v l B A) (hA:∀ k,blk A' k → w.heap.size ≤ k) (k:Kp S w w') (hS:∀ i,B ≤ i → i < w.heap.size → ¬ S i):BsA w' v l B A':=by
 obtain ⟨X,c,h1,h2,h3⟩:=h
 exact ⟨X,c,h1,h2.kp k fun a ha => hS _ (h3 a ha).1 (h2.lt a ha),fun a ha => ⟨(h3 a ha).1,fun hb => by have:=hA _ hb; have:=h2.lt a ha; omega⟩⟩
/-- Behind an append onto the other slice. -/
theorem BsA.grown {A':Option Addr} (h:BsA w v l B A) (k:Kp (blk A) w w') (hA:A' = A ∨ ∃ a,A' = some a ∧ w.heap.size ≤ a.block):BsA w' v l B A':=by
 have h2:=(h.moved hA)
 obtain ⟨X,c,h1,ho,h3⟩:=h
 obtain ⟨X',c',h1',ho',h3'⟩:=h2
 rw [h1] at h1'
 cases h1'
 exact ⟨X,c,h1,ho.kp k fun a ha => (h3 a ha).2,h3'⟩
end
/-- Messages in memory that is new since block B, all their bodies too, each on its own. -/
def OL (w:World) (v:Value) (L:List Msg) (B:Nat):Prop:=∃ (q:MQ) (A:Option Addr) (c:Nat),v = .slice A L.length c ∧ q.map Prod.fst = L ∧ Ow w 186 4 A L.length c (mq q) ∧ (∀ a,A = some a → B ≤ a.block) ∧ ∀ p ∈ q,BsA w p.2 p.1.body B A
/-- A box of memory that is new since block B. -/
def OB (w:World) (v:Value) (b:Bx) (B:Nat):Prop:=∃ vL,v = .agg #[.string b.name,i64 b.val,i64 b.next,vL] ∧ OL w vL b.L B
section
variable {w w':World} {v:Value} {b:Bx} {L:List Msg} {B B':Nat} {S:Nat → Prop}
theorem OL.nil (w:World) (B:Nat):OL w (.slice none 0 0) [] B:=⟨[],none,0,rfl,rfl,Ow.nil _ _ _,by simp,by simp⟩
theorem OL.kp (h:OL w v L B) (k:Kp S w w') (hn:∀ i,B ≤ i → i < w.heap.size → ¬ S i):OL w' v L B:=by
 obtain ⟨q,A,c,h0,h1,h2,h3,h4⟩:=h
 exact ⟨q,A,c,h0,h1,h2.kp k fun a ha => hn _ (h3 a ha) (h2.lt a ha),h3,fun p hp => (h4 p hp).kp k fun i h5 h6 _ => hn i h5 h6⟩
theorem OL.nw (h:OL w v L B) (k:Nw w w'):OL w' v L B:=h.kp k fun _ _ _ h => h
theorem OL.mono (h:OL w v L B) (hB:B' ≤ B):OL w v L B':=by
 obtain ⟨q,A,c,h0,h1,h2,h3,h4⟩:=h
 exact ⟨q,A,c,h0,h1,h2,fun a ha => Nat.le_trans hB (h3 a ha),fun p hp => (h4 p hp).mono hB⟩
theorem OB.nw (h:OB w v b B) (k:Nw w w'):OB w' v b B:=by
 obtain ⟨vL,h1,h2⟩:=h
 exact ⟨vL,h1,h2.nw k⟩
theorem OB.kp (h:OB w v b B) (k:Kp S w w') (hn:∀ i,B ≤ i → i < w.heap.size → ¬ S i):OB w' v b B:=by
 obtain ⟨vL,h1,h2⟩:=h
 exact ⟨vL,h1,h2.kp k hn⟩
theorem OB.mono (h:OB w v b B) (hB:B' ≤ B):OB w v b B':=by
 obtain ⟨vL,h1,h2⟩:=h
 exact ⟨vL,h1,h2.mono hB⟩
theorem OB.rb (h:OB w v b B):RB w v b (fun k => k < B):=by
 obtain ⟨vL,rfl,q,A,c,rfl,h1,ho,hA,h3⟩:=h
 exact ⟨A,c,q,rfl,h1,ho.2.1,ho.rd,fun a ha _ hk => by have:=hA a ha; omega,fun p hp => (h3 p hp).bs.rdb⟩
end
theorem kp_set4 (w:World) (g:Nat) (a b c d:Value):Kp (At g) w ((((w.setCell ⟨g,0,none⟩ a).setCell ⟨g,1,none⟩ b).setCell ⟨g,2,none⟩ c).setCell ⟨g,3,none⟩ d) :=
 ((((Kp.refl _ w).setCell_at _ _).setCell_at _ _).setCell_at _ _).setCell_at _ _
theorem ow_set {w:World} {e:TypeId} {g sz n c:Nat} {xs:List Value} (h:Ow w e sz (some ⟨g,0,none⟩) n c xs) (i:Nat) (u:Value):Ow (w.setCell ⟨g,i,none⟩ u) e sz (some ⟨g,0,none⟩) n c (xs.set i u):=by
 obtain ⟨h1,h2,h3,h4⟩:=h
 refine ⟨by simpa using h1,h2,h3,?_⟩
 rcases h4 with ⟨h4,_⟩ | ⟨g',cur,e,hg,h5,h6⟩
 ·cases h4
 ·cases e
  refine .inr ⟨_,_,rfl,hg.set i u,by simpa using h5,?_⟩
  subst h6
  rw [Array.toList_setIfInBounds,List.take_set]
theorem mq_one {w:World} {q:MQ} {S:Nat → Prop} (h:Bds w q S):∀ u ∈ mq q,u.oneCell' = true:=by
 intro u hu
 obtain ⟨p,hp,hu⟩:=List.mem_flatMap.1 hu
 simp only [List.mem_cons,List.not_mem_nil,or_false] at hu
 rcases hu with rfl | rfl | rfl | rfl
 ·rfl
 ·rfl
 ·rfl
 ·exact (h p hp).one
/-- A literal of one message. -/
theorem run_bsA4 {P:Program} {w:World} (t:TypeId) (a b c d:Value) (h:P.underlying t = some (.slice (P.elem t))) (hs:(sizeOf (P.elem t)).run P w = .ok 4 w) (hz:∃ x y z u,(zeroValue (P.elem t)).run P w = .ok (.agg #[x,y,z,u]) w) :
  bsR P t 1 #[(0,.agg #[a,b,c,d])] w = .ok (.slice (some ⟨w.heap.size,0,none⟩) 1 1) (w.alloc (.cells #[a,b,c,d] (P.elem t))):=by
 obtain ⟨x,y,z,u,hz⟩:=hz
 simp [bsR,Instr.buildSlice,run_underlying h,hs,hz,Instr.fill,Value.cells,newRow,show Array.range 1 = #[0] from rfl,show Array.range 4 = #[0,1,2,3] from rfl]
@[go_sem 20000] theorem bs_msg (a b c d:Value) (w:World):bsR Tryz.prog 109 1 #[(0,.agg #[a,b,c,d])] w = .ok (.slice (some ⟨w.heap.size,0,none⟩) 1 1) (w.alloc (.cells #[a,b,c,d] 186)) :=
 run_bsA4 _ a b c d (by kernel_rfl) (by rfl) ⟨_,_,_,_,rfl⟩
/-- What is handed back lies in a variable of its own. -/
@[go_sem] theorem resSem_cell (i:Nat) (t:TypeId) (s:St):resSem #[.cell i t] s = (do loadVar t (← asAddr (s i))):=by simp [resSem]
@[go_sem] theorem resSem_cell2 (i j:Nat) (t:TypeId) (s:St):resSem #[.cell i t,.tmp j] s = (do let v ← (do loadVar t (← asAddr (s i))); pure (.tuple #[v,s j])):=by simp [resSem]
@[go_sem] theorem resSem_cell3 (i j k:Nat) (t:TypeId) (s:St):resSem #[.cell i t,.tmp j,.tmp k] s = (do let v ← (do loadVar t (← asAddr (s i))); pure (.tuple #[v,s j,s k])):=by simp [resSem]
end Go.Proofs.YtellahclbhfdiaaGreatDoor
