/- Contracts of the functions that the statement reaches. -/
import Derived.Test.YtjgooecohepkoaaGreatDoorEAM
import Derived.Test.YtjgooecohepkoaaGreatDoorSAA
set_option linter.unusedVariables false
set_option linter.unusedSimpArgs false
namespace Go.Proofs.YtjgooecohepkoaaGreatDoor
open Go Go.Abs
set_option maxRecDepth 20000
/-- The powers of ten, as the program's text lays them. -/
def pow10 : List D := [.v (.int .i64 1), .v (.int .i64 10), .v (.int .i64 100), .v (.int .i64 1000), .v (.int .i64 10000), .v (.int .i64 100000), .v (.int .i64 1000000), .v (.int .i64 10000000), .v (.int .i64 100000000), .v (.int .i64 1000000000), .v (.int .i64 10000000000), .v (.int .i64 100000000000), .v (.int .i64 1000000000000), .v (.int .i64 10000000000000), .v (.int .i64 100000000000000), .v (.int .i64 1000000000000000), .v (.int .i64 10000000000000000), .v (.int .i64 100000000000000000), .v (.int .i64 1000000000000000000)]
def glob (i : Nat) : D := if i = 0 then .ep pow10 else .any
noncomputable def sys : Sy := ⟨Tryz.prog, tab.get, Tree.get_all tab_ok, mixed, glob⟩
@[go_sem] theorem gl0 : sys.gl 0 = .ep pow10 := rfl
@[go_sem] theorem T1 : sys.T 1 = some t1 := rfl
@[go_sem] theorem T2 : sys.T 2 = some t2 := rfl
@[go_sem] theorem T3 : sys.T 3 = some t3 := rfl
@[go_sem] theorem T4 : sys.T 4 = some t4 := rfl
@[go_sem] theorem T5 : sys.T 5 = some t5 := rfl
@[go_sem] theorem T6 : sys.T 6 = some t6 := rfl
@[go_sem] theorem T7 : sys.T 7 = some t7 := rfl
@[go_sem] theorem T8 : sys.T 8 = some t8 := rfl
@[go_sem] theorem T9 : sys.T 9 = some t9 := rfl
@[go_sem] theorem T10 : sys.T 10 = some t10 := rfl
@[go_sem] theorem T11 : sys.T 11 = some t11 := rfl
@[go_sem] theorem T12 : sys.T 12 = some t12 := rfl
@[go_sem] theorem T13 : sys.T 13 = some t13 := rfl
@[go_sem] theorem T14 : sys.T 14 = some t14 := rfl
@[go_sem] theorem T15 : sys.T 15 = some t15 := rfl
@[go_sem] theorem T16 : sys.T 16 = some t16 := rfl
@[go_sem] theorem T17 : sys.T 17 = some t17 := rfl
@[go_sem] theorem T18 : sys.T 18 = some t18 := rfl
@[go_sem] theorem T19 : sys.T 19 = some t19 := rfl
@[go_sem] theorem T20 : sys.T 20 = some t20 := rfl
@[go_sem] theorem T21 : sys.T 21 = some t21 := rfl
@[go_sem] theorem T22 : sys.T 22 = some t22 := rfl
@[go_sem] theorem T23 : sys.T 23 = some t23 := rfl
@[go_sem] theorem T24 : sys.T 24 = some t24 := rfl
@[go_sem] theorem T25 : sys.T 25 = some t25 := rfl
@[go_sem] theorem T26 : sys.T 26 = some t26 := rfl
@[go_sem] theorem T27 : sys.T 27 = some t27 := rfl
@[go_sem] theorem T28 : sys.T 28 = some t28 := rfl
@[go_sem] theorem T29 : sys.T 29 = some t29 := rfl
@[go_sem] theorem T30 : sys.T 30 = some t30 := rfl
@[go_sem] theorem T31 : sys.T 31 = some t31 := rfl
@[go_sem] theorem T32 : sys.T 32 = some t32 := rfl
@[go_sem] theorem T33 : sys.T 33 = some t33 := rfl
@[go_sem] theorem T34 : sys.T 34 = some t34 := rfl
@[go_sem] theorem T35 : sys.T 35 = some t35 := rfl
@[go_sem] theorem T36 : sys.T 36 = some t36 := rfl
@[go_sem] theorem T37 : sys.T 37 = some t37 := rfl
@[go_sem] theorem T39 : sys.T 39 = some t39 := rfl
@[go_sem] theorem T40 : sys.T 40 = some t40 := rfl
@[go_sem] theorem T41 : sys.T 41 = some t41 := rfl
@[go_sem] theorem T42 : sys.T 42 = some t42 := rfl
@[go_sem] theorem T43 : sys.T 43 = some t43 := rfl
@[go_sem] theorem T44 : sys.T 44 = some t44 := rfl
@[go_sem] theorem T45 : sys.T 45 = some t45 := rfl
@[go_sem] theorem T46 : sys.T 46 = some t46 := rfl
@[go_sem] theorem T47 : sys.T 47 = some t47 := rfl
@[go_sem] theorem T48 : sys.T 48 = some t48 := rfl
@[go_sem] theorem T49 : sys.T 49 = some t49 := rfl
@[go_sem] theorem T50 : sys.T 50 = some t50 := rfl
@[go_sem] theorem T51 : sys.T 51 = some t51 := rfl
@[go_sem] theorem T52 : sys.T 52 = some t52 := rfl
@[go_sem] theorem T53 : sys.T 53 = some t53 := rfl
@[go_sem] theorem T54 : sys.T 54 = some t54 := rfl
@[go_sem] theorem T55 : sys.T 55 = some t55 := rfl
@[go_sem] theorem T56 : sys.T 56 = some t56 := rfl
@[go_sem] theorem T57 : sys.T 57 = some t57 := rfl
@[go_sem] theorem T58 : sys.T 58 = some t58 := rfl
@[go_sem] theorem T59 : sys.T 59 = some t59 := rfl
@[go_sem] theorem T60 : sys.T 60 = some t60 := rfl
@[go_sem] theorem T61 : sys.T 61 = some t61 := rfl
@[go_sem] theorem T62 : sys.T 62 = some t62 := rfl
@[go_sem] theorem T63 : sys.T 63 = some t63 := rfl
@[go_sem] theorem T65 : sys.T 65 = some t65 := rfl
@[go_sem] theorem T66 : sys.T 66 = some t66 := rfl
@[go_sem] theorem T67 : sys.T 67 = some t67 := rfl
@[go_sem] theorem T68 : sys.T 68 = some t68 := rfl
@[go_sem] theorem T70 : sys.T 70 = some t70 := rfl
@[go_sem] theorem T71 : sys.T 71 = some t71 := rfl
@[go_sem] theorem T72 : sys.T 72 = some t72 := rfl
@[go_sem] theorem T73 : sys.T 73 = some t73 := rfl
@[go_sem] theorem T74 : sys.T 74 = some t74 := rfl
@[go_sem] theorem T75 : sys.T 75 = some t75 := rfl
@[go_sem] theorem T76 : sys.T 76 = some t76 := rfl
@[go_sem] theorem T77 : sys.T 77 = some t77 := rfl
@[go_sem] theorem T78 : sys.T 78 = some t78 := rfl
@[go_sem] theorem T79 : sys.T 79 = some t79 := rfl
@[go_sem] theorem T80 : sys.T 80 = some t80 := rfl
@[go_sem] theorem T81 : sys.T 81 = some t81 := rfl
@[go_sem] theorem T82 : sys.T 82 = some t82 := rfl
@[go_sem] theorem T83 : sys.T 83 = some t83 := rfl
@[go_sem] theorem T84 : sys.T 84 = some t84 := rfl
@[go_sem] theorem T85 : sys.T 85 = some t85 := rfl
@[go_sem] theorem T86 : sys.T 86 = some t86 := rfl
@[go_sem] theorem T87 : sys.T 87 = some t87 := rfl
@[go_sem] theorem T88 : sys.T 88 = some t88 := rfl
@[go_sem] theorem T89 : sys.T 89 = some t89 := rfl
@[go_sem] theorem T90 : sys.T 90 = some t90 := rfl
@[go_sem] theorem T91 : sys.T 91 = some t91 := rfl
@[go_sem] theorem T92 : sys.T 92 = some t92 := rfl
@[go_sem] theorem T93 : sys.T 93 = some t93 := rfl
@[go_sem] theorem T94 : sys.T 94 = some t94 := rfl
@[go_sem] theorem T95 : sys.T 95 = some t95 := rfl
@[go_sem] theorem T97 : sys.T 97 = some t97 := rfl
@[go_sem] theorem T98 : sys.T 98 = some t98 := rfl
@[go_sem] theorem T99 : sys.T 99 = some t99 := rfl
@[go_sem] theorem T100 : sys.T 100 = some t100 := rfl
@[go_sem] theorem T101 : sys.T 101 = some t101 := rfl
@[go_sem] theorem T102 : sys.T 102 = some t102 := rfl
@[go_sem] theorem T103 : sys.T 103 = some t103 := rfl
@[go_sem] theorem T104 : sys.T 104 = some t104 := rfl
@[go_sem] theorem T105 : sys.T 105 = some t105 := rfl
@[go_sem] theorem T106 : sys.T 106 = some t106 := rfl
@[go_sem] theorem T107 : sys.T 107 = some t107 := rfl
@[go_sem] theorem T108 : sys.T 108 = some t108 := rfl
@[go_sem] theorem T110 : sys.T 110 = some t110 := rfl
@[go_sem] theorem T111 : sys.T 111 = some t111 := rfl
@[go_sem] theorem T112 : sys.T 112 = some t112 := rfl
@[go_sem] theorem T113 : sys.T 113 = some t113 := rfl
@[go_sem] theorem T114 : sys.T 114 = some t114 := rfl
@[go_sem] theorem T115 : sys.T 115 = some t115 := rfl
@[go_sem] theorem T116 : sys.T 116 = some t116 := rfl
@[go_sem] theorem T117 : sys.T 117 = some t117 := rfl
@[go_sem] theorem T118 : sys.T 118 = some t118 := rfl
@[go_sem] theorem T119 : sys.T 119 = some t119 := rfl
@[go_sem] theorem T120 : sys.T 120 = some t120 := rfl
@[go_sem] theorem T121 : sys.T 121 = some t121 := rfl
@[go_sem] theorem T122 : sys.T 122 = some t122 := rfl
@[go_sem] theorem T123 : sys.T 123 = some t123 := rfl
@[go_sem] theorem T124 : sys.T 124 = some t124 := rfl
@[go_sem] theorem T125 : sys.T 125 = some t125 := rfl
@[go_sem] theorem T126 : sys.T 126 = some t126 := rfl
@[go_sem] theorem T127 : sys.T 127 = some t127 := rfl
@[go_sem] theorem T128 : sys.T 128 = some t128 := rfl
@[go_sem] theorem T129 : sys.T 129 = some t129 := rfl
@[go_sem] theorem T130 : sys.T 130 = some t130 := rfl
@[go_sem] theorem T132 : sys.T 132 = some t132 := rfl
@[go_sem] theorem T133 : sys.T 133 = some t133 := rfl
@[go_sem] theorem T134 : sys.T 134 = some t134 := rfl
@[go_sem] theorem T135 : sys.T 135 = some t135 := rfl
@[go_sem] theorem T136 : sys.T 136 = some t136 := rfl
@[go_sem] theorem T137 : sys.T 137 = some t137 := rfl
@[go_sem] theorem T138 : sys.T 138 = some t138 := rfl
@[go_sem] theorem T139 : sys.T 139 = some t139 := rfl
@[go_sem] theorem T140 : sys.T 140 = some t140 := rfl
@[go_sem] theorem T141 : sys.T 141 = some t141 := rfl
@[go_sem] theorem T142 : sys.T 142 = some t142 := rfl
@[go_sem] theorem T143 : sys.T 143 = some t143 := rfl
@[go_sem] theorem T144 : sys.T 144 = some t144 := rfl
@[go_sem] theorem T145 : sys.T 145 = some t145 := rfl
@[go_sem] theorem T146 : sys.T 146 = some t146 := rfl
@[go_sem] theorem T147 : sys.T 147 = some t147 := rfl
@[go_sem] theorem T148 : sys.T 148 = some t148 := rfl
@[go_sem] theorem T149 : sys.T 149 = some t149 := rfl
@[go_sem] theorem T150 : sys.T 150 = some t150 := rfl
@[go_sem] theorem T151 : sys.T 151 = some t151 := rfl
@[go_sem] theorem T152 : sys.T 152 = some t152 := rfl
@[go_sem] theorem T153 : sys.T 153 = some t153 := rfl
@[go_sem] theorem T154 : sys.T 154 = some t154 := rfl
@[go_sem] theorem T155 : sys.T 155 = some t155 := rfl
@[go_sem] theorem T156 : sys.T 156 = some t156 := rfl
@[go_sem] theorem T157 : sys.T 157 = some t157 := rfl
@[go_sem] theorem T158 : sys.T 158 = some t158 := rfl
@[go_sem] theorem T159 : sys.T 159 = some t159 := rfl
@[go_sem] theorem T160 : sys.T 160 = some t160 := rfl
@[go_sem] theorem T161 : sys.T 161 = some t161 := rfl
@[go_sem] theorem T162 : sys.T 162 = some t162 := rfl
@[go_sem] theorem T163 : sys.T 163 = some t163 := rfl
@[go_sem] theorem T164 : sys.T 164 = some t164 := rfl
@[go_sem] theorem T165 : sys.T 165 = some t165 := rfl
@[go_sem] theorem T166 : sys.T 166 = some t166 := rfl
@[go_sem] theorem T167 : sys.T 167 = some t167 := rfl
@[go_sem] theorem T169 : sys.T 169 = some t169 := rfl
@[go_sem] theorem T170 : sys.T 170 = some t170 := rfl
@[go_sem] theorem T171 : sys.T 171 = some t171 := rfl
@[go_sem] theorem T172 : sys.T 172 = some t172 := rfl
@[go_sem] theorem T173 : sys.T 173 = some t173 := rfl
@[go_sem] theorem T174 : sys.T 174 = some t174 := rfl
@[go_sem] theorem T175 : sys.T 175 = some t175 := rfl
@[go_sem] theorem T176 : sys.T 176 = some t176 := rfl
@[go_sem] theorem T177 : sys.T 177 = some t177 := rfl
@[go_sem] theorem T179 : sys.T 179 = some t179 := rfl
@[go_sem] theorem T180 : sys.T 180 = some t180 := rfl
@[go_sem] theorem T181 : sys.T 181 = some t181 := rfl
@[go_sem] theorem T182 : sys.T 182 = some t182 := rfl
@[go_sem] theorem T183 : sys.T 183 = some t183 := rfl
@[go_sem] theorem T185 : sys.T 185 = some t185 := rfl
@[go_sem] theorem T186 : sys.T 186 = some t186 := rfl
@[go_sem] theorem T187 : sys.T 187 = some t187 := rfl
@[go_sem] theorem T188 : sys.T 188 = some t188 := rfl
@[go_sem] theorem T189 : sys.T 189 = some t189 := rfl
@[go_sem] theorem T190 : sys.T 190 = some t190 := rfl
@[go_sem] theorem T192 : sys.T 192 = some t192 := rfl
@[go_sem] theorem T193 : sys.T 193 = some t193 := rfl
@[go_sem] theorem T194 : sys.T 194 = some t194 := rfl
@[go_sem] theorem T195 : sys.T 195 = some t195 := rfl
@[go_sem] theorem T196 : sys.T 196 = some t196 := rfl
@[go_sem] theorem T197 : sys.T 197 = some t197 := rfl
@[go_sem] theorem T198 : sys.T 198 = some t198 := rfl
@[go_sem] theorem T199 : sys.T 199 = some t199 := rfl
@[go_sem] theorem T200 : sys.T 200 = some t200 := rfl
@[go_sem] theorem T201 : sys.T 201 = some t201 := rfl
@[go_sem] theorem T203 : sys.T 203 = some t203 := rfl
@[go_sem] theorem T204 : sys.T 204 = some t204 := rfl
@[go_sem] theorem T205 : sys.T 205 = some t205 := rfl
@[go_sem] theorem T206 : sys.T 206 = some t206 := rfl
@[go_sem] theorem T207 : sys.T 207 = some t207 := rfl
@[go_sem] theorem T208 : sys.T 208 = some t208 := rfl
@[go_sem] theorem T209 : sys.T 209 = some t209 := rfl
@[go_sem] theorem T210 : sys.T 210 = some t210 := rfl
@[go_sem] theorem T211 : sys.T 211 = some t211 := rfl
@[go_sem] theorem T212 : sys.T 212 = some t212 := rfl
@[go_sem] theorem T213 : sys.T 213 = some t213 := rfl
@[go_sem] theorem T214 : sys.T 214 = some t214 := rfl
@[go_sem] theorem T215 : sys.T 215 = some t215 := rfl
@[go_sem] theorem T216 : sys.T 216 = some t216 := rfl
@[go_sem] theorem T217 : sys.T 217 = some t217 := rfl
@[go_sem] theorem T218 : sys.T 218 = some t218 := rfl
@[go_sem] theorem T219 : sys.T 219 = some t219 := rfl
@[go_sem] theorem T220 : sys.T 220 = some t220 := rfl
@[go_sem] theorem T221 : sys.T 221 = some t221 := rfl
@[go_sem] theorem T222 : sys.T 222 = some t222 := rfl
@[go_sem] theorem T223 : sys.T 223 = some t223 := rfl
@[go_sem] theorem T224 : sys.T 224 = some t224 := rfl
@[go_sem] theorem T225 : sys.T 225 = some t225 := rfl
@[go_sem] theorem T226 : sys.T 226 = some t226 := rfl
@[go_sem] theorem T227 : sys.T 227 = some t227 := rfl
@[go_sem] theorem T228 : sys.T 228 = some t228 := rfl
@[go_sem] theorem T230 : sys.T 230 = some t230 := rfl
@[go_sem] theorem T231 : sys.T 231 = some t231 := rfl
@[go_sem] theorem T232 : sys.T 232 = some t232 := rfl
@[go_sem] theorem T233 : sys.T 233 = some t233 := rfl
@[go_sem] theorem T234 : sys.T 234 = some t234 := rfl
@[go_sem] theorem T235 : sys.T 235 = some t235 := rfl
@[go_sem] theorem T236 : sys.T 236 = some t236 := rfl
@[go_sem] theorem T238 : sys.T 238 = some t238 := rfl
@[go_sem] theorem T240 : sys.T 240 = some t240 := rfl
@[go_sem] theorem T241 : sys.T 241 = some t241 := rfl
@[go_sem] theorem T242 : sys.T 242 = some t242 := rfl
@[go_sem] theorem T243 : sys.T 243 = some t243 := rfl
@[go_sem] theorem T245 : sys.T 245 = some t245 := rfl
@[go_sem] theorem T246 : sys.T 246 = some t246 := rfl
@[go_sem] theorem T247 : sys.T 247 = some t247 := rfl
@[go_sem] theorem T248 : sys.T 248 = some t248 := rfl
@[go_sem] theorem T249 : sys.T 249 = some t249 := rfl
@[go_sem] theorem T250 : sys.T 250 = some t250 := rfl
@[go_sem] theorem T251 : sys.T 251 = some t251 := rfl
@[go_sem] theorem T252 : sys.T 252 = some t252 := rfl
@[go_sem] theorem T253 : sys.T 253 = some t253 := rfl
@[go_sem] theorem T254 : sys.T 254 = some t254 := rfl
@[go_sem] theorem T255 : sys.T 255 = some t255 := rfl
@[go_sem] theorem T256 : sys.T 256 = some t256 := rfl
@[go_sem] theorem T257 : sys.T 257 = some t257 := rfl
@[go_sem] theorem T258 : sys.T 258 = some t258 := rfl
@[go_sem] theorem T259 : sys.T 259 = some t259 := rfl
@[go_sem] theorem T260 : sys.T 260 = some t260 := rfl
@[go_sem] theorem T262 : sys.T 262 = some t262 := rfl
@[go_sem] theorem T263 : sys.T 263 = some t263 := rfl
@[go_sem] theorem T264 : sys.T 264 = some t264 := rfl
@[go_sem] theorem T265 : sys.T 265 = some t265 := rfl
@[go_sem] theorem T266 : sys.T 266 = some t266 := rfl
@[go_sem] theorem T268 : sys.T 268 = some t268 := rfl
@[go_sem] theorem T269 : sys.T 269 = some t269 := rfl
@[go_sem] theorem T270 : sys.T 270 = some t270 := rfl
@[go_sem] theorem T271 : sys.T 271 = some t271 := rfl
@[go_sem] theorem T273 : sys.T 273 = some t273 := rfl
@[go_sem] theorem T275 : sys.T 275 = some t275 := rfl
@[go_sem] theorem T276 : sys.T 276 = some t276 := rfl
@[go_sem] theorem T278 : sys.T 278 = some t278 := rfl
@[go_sem] theorem T279 : sys.T 279 = some t279 := rfl
@[go_sem] theorem T280 : sys.T 280 = some t280 := rfl
@[go_sem] theorem T281 : sys.T 281 = some t281 := rfl
@[go_sem] theorem T283 : sys.T 283 = some t283 := rfl
@[go_sem] theorem T284 : sys.T 284 = some t284 := rfl
@[go_sem] theorem T288 : sys.T 288 = some t288 := rfl
@[go_sem] theorem T289 : sys.T 289 = some t289 := rfl
@[go_sem] theorem T290 : sys.T 290 = some t290 := rfl
@[go_sem] theorem T293 : sys.T 293 = some t293 := rfl
@[go_sem] theorem T294 : sys.T 294 = some t294 := rfl
@[go_sem] theorem T295 : sys.T 295 = some t295 := rfl
@[go_sem] theorem T296 : sys.T 296 = some t296 := rfl
@[go_sem] theorem T297 : sys.T 297 = some t297 := rfl
@[go_sem] theorem T298 : sys.T 298 = some t298 := rfl
@[go_sem] theorem T299 : sys.T 299 = some t299 := rfl
@[go_sem] theorem T300 : sys.T 300 = some t300 := rfl
@[go_sem] theorem T301 : sys.T 301 = some t301 := rfl
@[go_sem] theorem T302 : sys.T 302 = some t302 := rfl
@[go_sem] theorem T303 : sys.T 303 = some t303 := rfl
@[go_sem] theorem T304 : sys.T 304 = some t304 := rfl
@[go_sem] theorem T305 : sys.T 305 = some t305 := rfl
@[go_sem] theorem T306 : sys.T 306 = some t306 := rfl
@[go_sem] theorem T307 : sys.T 307 = some t307 := rfl
attribute [go_sem] t1 t2 t3 t4 t5 t6 t7 t8 t9 t10 t11 t12 t13 t14 t15 t16 t17 t18 t19 t20 t21 t22 t23 t24 t25 t26 t27 t28 t29 t30 t31 t32 t33 t34 t35 t36 t37 t39 t40 t41 t42 t43 t44 t45 t46 t47 t48 t49 t50 t51 t52 t53 t54 t55 t56 t57 t58 t59 t60 t61 t62 t63 t65 t66 t67 t68 t70 t71 t72 t73 t74 t75 t76 t77 t78 t79 t80 t81 t82 t83 t84 t85 t86 t87 t88 t89 t90 t91 t92 t93 t94 t95 t97 t98 t99 t100 t101 t102 t103 t104 t105 t106 t107 t108 t110 t111 t112 t113 t114 t115 t116 t117 t118 t119 t120 t121 t122 t123 t124 t125 t126 t127 t128 t129 t130 t132 t133 t134 t135 t136 t137 t138 t139 t140 t141 t142 t143 t144 t145 t146 t147 t148 t149 t150 t151 t152 t153 t154 t155 t156 t157 t158 t159 t160 t161 t162 t163 t164 t165 t166 t167 t169 t170 t171 t172 t173 t174 t175 t176 t177 t179 t180 t181 t182 t183 t185 t186 t187 t188 t189 t190 t192 t193 t194 t195 t196 t197 t198 t199 t200 t201 t203 t204 t205 t206 t207 t208 t209 t210 t211 t212 t213 t214 t215 t216 t217 t218 t219 t220 t221 t222 t223 t224 t225 t226 t227 t228 t230 t231 t232 t233 t234 t235 t236 t238 t240 t241 t242 t243 t245 t246 t247 t248 t249 t250 t251 t252 t253 t254 t255 t256 t257 t258 t259 t260 t262 t263 t264 t265 t266 t268 t269 t270 t271 t273 t275 t276 t278 t279 t280 t281 t283 t284 t288 t289 t290 t293 t294 t295 t296 t297 t298 t299 t300 t301 t302 t303 t304 t305 t306 t307
end Go.Proofs.YtjgooecohepkoaaGreatDoor
namespace Go.Proofs.YtjgooecohepkoaaGreatDoor
open Go Go.Abs

theorem nf11 : Tryz.prog.funcs[11]? = some Tryz.f11 ∧ (Tryz.f11.name == "runtime.NumGoroutine") = false := ⟨by kernel_rfl, rfl⟩
theorem nf15 : Tryz.prog.funcs[15]? = some Tryz.f15 ∧ (Tryz.f15.name == "runtime.NumGoroutine") = false := ⟨by kernel_rfl, rfl⟩
theorem nf18 : Tryz.prog.funcs[18]? = some Tryz.f18 ∧ (Tryz.f18.name == "runtime.NumGoroutine") = false := ⟨by kernel_rfl, rfl⟩
theorem nf19 : Tryz.prog.funcs[19]? = some Tryz.f19 ∧ (Tryz.f19.name == "runtime.NumGoroutine") = false := ⟨by kernel_rfl, rfl⟩
theorem nf22 : Tryz.prog.funcs[22]? = some Tryz.f22 ∧ (Tryz.f22.name == "runtime.NumGoroutine") = false := ⟨by kernel_rfl, rfl⟩
theorem nf26 : Tryz.prog.funcs[26]? = some Tryz.f26 ∧ (Tryz.f26.name == "runtime.NumGoroutine") = false := ⟨by kernel_rfl, rfl⟩
theorem nf27 : Tryz.prog.funcs[27]? = some Tryz.f27 ∧ (Tryz.f27.name == "runtime.NumGoroutine") = false := ⟨by kernel_rfl, rfl⟩
theorem nf28 : Tryz.prog.funcs[28]? = some Tryz.f28 ∧ (Tryz.f28.name == "runtime.NumGoroutine") = false := ⟨by kernel_rfl, rfl⟩
theorem nf44 : Tryz.prog.funcs[44]? = some Tryz.f44 ∧ (Tryz.f44.name == "runtime.NumGoroutine") = false := ⟨by kernel_rfl, rfl⟩
theorem nf45 : Tryz.prog.funcs[45]? = some Tryz.f45 ∧ (Tryz.f45.name == "runtime.NumGoroutine") = false := ⟨by kernel_rfl, rfl⟩
theorem nf46 : Tryz.prog.funcs[46]? = some Tryz.f46 ∧ (Tryz.f46.name == "runtime.NumGoroutine") = false := ⟨by kernel_rfl, rfl⟩
theorem nf47 : Tryz.prog.funcs[47]? = some Tryz.f47 ∧ (Tryz.f47.name == "runtime.NumGoroutine") = false := ⟨by kernel_rfl, rfl⟩
theorem nf48 : Tryz.prog.funcs[48]? = some Tryz.f48 ∧ (Tryz.f48.name == "runtime.NumGoroutine") = false := ⟨by kernel_rfl, rfl⟩
theorem nf52 : Tryz.prog.funcs[52]? = some Tryz.f52 ∧ (Tryz.f52.name == "runtime.NumGoroutine") = false := ⟨by kernel_rfl, rfl⟩
theorem nf53 : Tryz.prog.funcs[53]? = some Tryz.f53 ∧ (Tryz.f53.name == "runtime.NumGoroutine") = false := ⟨by kernel_rfl, rfl⟩
theorem nf54 : Tryz.prog.funcs[54]? = some Tryz.f54 ∧ (Tryz.f54.name == "runtime.NumGoroutine") = false := ⟨by kernel_rfl, rfl⟩
theorem nf55 : Tryz.prog.funcs[55]? = some Tryz.f55 ∧ (Tryz.f55.name == "runtime.NumGoroutine") = false := ⟨by kernel_rfl, rfl⟩
theorem nf58 : Tryz.prog.funcs[58]? = some Tryz.f58 ∧ (Tryz.f58.name == "runtime.NumGoroutine") = false := ⟨by kernel_rfl, rfl⟩
theorem nf59 : Tryz.prog.funcs[59]? = some Tryz.f59 ∧ (Tryz.f59.name == "runtime.NumGoroutine") = false := ⟨by kernel_rfl, rfl⟩
theorem nf60 : Tryz.prog.funcs[60]? = some Tryz.f60 ∧ (Tryz.f60.name == "runtime.NumGoroutine") = false := ⟨by kernel_rfl, rfl⟩
theorem nf61 : Tryz.prog.funcs[61]? = some Tryz.f61 ∧ (Tryz.f61.name == "runtime.NumGoroutine") = false := ⟨by kernel_rfl, rfl⟩
theorem nf65 : Tryz.prog.funcs[65]? = some Tryz.f65 ∧ (Tryz.f65.name == "runtime.NumGoroutine") = false := ⟨by kernel_rfl, rfl⟩
theorem nf66 : Tryz.prog.funcs[66]? = some Tryz.f66 ∧ (Tryz.f66.name == "runtime.NumGoroutine") = false := ⟨by kernel_rfl, rfl⟩
theorem nf67 : Tryz.prog.funcs[67]? = some Tryz.f67 ∧ (Tryz.f67.name == "runtime.NumGoroutine") = false := ⟨by kernel_rfl, rfl⟩
theorem nf71 : Tryz.prog.funcs[71]? = some Tryz.f71 ∧ (Tryz.f71.name == "runtime.NumGoroutine") = false := ⟨by kernel_rfl, rfl⟩
theorem nf72 : Tryz.prog.funcs[72]? = some Tryz.f72 ∧ (Tryz.f72.name == "runtime.NumGoroutine") = false := ⟨by kernel_rfl, rfl⟩
theorem nf73 : Tryz.prog.funcs[73]? = some Tryz.f73 ∧ (Tryz.f73.name == "runtime.NumGoroutine") = false := ⟨by kernel_rfl, rfl⟩
theorem nf74 : Tryz.prog.funcs[74]? = some Tryz.f74 ∧ (Tryz.f74.name == "runtime.NumGoroutine") = false := ⟨by kernel_rfl, rfl⟩
theorem nf75 : Tryz.prog.funcs[75]? = some Tryz.f75 ∧ (Tryz.f75.name == "runtime.NumGoroutine") = false := ⟨by kernel_rfl, rfl⟩
theorem nf76 : Tryz.prog.funcs[76]? = some Tryz.f76 ∧ (Tryz.f76.name == "runtime.NumGoroutine") = false := ⟨by kernel_rfl, rfl⟩
theorem nf77 : Tryz.prog.funcs[77]? = some Tryz.f77 ∧ (Tryz.f77.name == "runtime.NumGoroutine") = false := ⟨by kernel_rfl, rfl⟩
theorem nf78 : Tryz.prog.funcs[78]? = some Tryz.f78 ∧ (Tryz.f78.name == "runtime.NumGoroutine") = false := ⟨by kernel_rfl, rfl⟩
theorem nf81 : Tryz.prog.funcs[81]? = some Tryz.f81 ∧ (Tryz.f81.name == "runtime.NumGoroutine") = false := ⟨by kernel_rfl, rfl⟩
theorem nf86 : Tryz.prog.funcs[86]? = some Tryz.f86 ∧ (Tryz.f86.name == "runtime.NumGoroutine") = false := ⟨by kernel_rfl, rfl⟩
theorem nf91 : Tryz.prog.funcs[91]? = some Tryz.f91 ∧ (Tryz.f91.name == "runtime.NumGoroutine") = false := ⟨by kernel_rfl, rfl⟩
theorem nf92 : Tryz.prog.funcs[92]? = some Tryz.f92 ∧ (Tryz.f92.name == "runtime.NumGoroutine") = false := ⟨by kernel_rfl, rfl⟩
theorem nf93 : Tryz.prog.funcs[93]? = some Tryz.f93 ∧ (Tryz.f93.name == "runtime.NumGoroutine") = false := ⟨by kernel_rfl, rfl⟩
theorem nf94 : Tryz.prog.funcs[94]? = some Tryz.f94 ∧ (Tryz.f94.name == "runtime.NumGoroutine") = false := ⟨by kernel_rfl, rfl⟩
theorem nf95 : Tryz.prog.funcs[95]? = some Tryz.f95 ∧ (Tryz.f95.name == "runtime.NumGoroutine") = false := ⟨by kernel_rfl, rfl⟩
theorem nf96 : Tryz.prog.funcs[96]? = some Tryz.f96 ∧ (Tryz.f96.name == "runtime.NumGoroutine") = false := ⟨by kernel_rfl, rfl⟩
theorem nf97 : Tryz.prog.funcs[97]? = some Tryz.f97 ∧ (Tryz.f97.name == "runtime.NumGoroutine") = false := ⟨by kernel_rfl, rfl⟩
theorem nf98 : Tryz.prog.funcs[98]? = some Tryz.f98 ∧ (Tryz.f98.name == "runtime.NumGoroutine") = false := ⟨by kernel_rfl, rfl⟩
theorem nf100 : Tryz.prog.funcs[100]? = some Tryz.f100 ∧ (Tryz.f100.name == "runtime.NumGoroutine") = false := ⟨by kernel_rfl, rfl⟩
theorem nf101 : Tryz.prog.funcs[101]? = some Tryz.f101 ∧ (Tryz.f101.name == "runtime.NumGoroutine") = false := ⟨by kernel_rfl, rfl⟩
theorem nf102 : Tryz.prog.funcs[102]? = some Tryz.f102 ∧ (Tryz.f102.name == "runtime.NumGoroutine") = false := ⟨by kernel_rfl, rfl⟩
theorem nf106 : Tryz.prog.funcs[106]? = some Tryz.f106 ∧ (Tryz.f106.name == "runtime.NumGoroutine") = false := ⟨by kernel_rfl, rfl⟩
theorem nf107 : Tryz.prog.funcs[107]? = some Tryz.f107 ∧ (Tryz.f107.name == "runtime.NumGoroutine") = false := ⟨by kernel_rfl, rfl⟩
theorem nf108 : Tryz.prog.funcs[108]? = some Tryz.f108 ∧ (Tryz.f108.name == "runtime.NumGoroutine") = false := ⟨by kernel_rfl, rfl⟩
theorem nf109 : Tryz.prog.funcs[109]? = some Tryz.f109 ∧ (Tryz.f109.name == "runtime.NumGoroutine") = false := ⟨by kernel_rfl, rfl⟩
theorem nf110 : Tryz.prog.funcs[110]? = some Tryz.f110 ∧ (Tryz.f110.name == "runtime.NumGoroutine") = false := ⟨by kernel_rfl, rfl⟩
theorem nf114 : Tryz.prog.funcs[114]? = some Tryz.f114 ∧ (Tryz.f114.name == "runtime.NumGoroutine") = false := ⟨by kernel_rfl, rfl⟩
theorem nf115 : Tryz.prog.funcs[115]? = some Tryz.f115 ∧ (Tryz.f115.name == "runtime.NumGoroutine") = false := ⟨by kernel_rfl, rfl⟩
theorem nf116 : Tryz.prog.funcs[116]? = some Tryz.f116 ∧ (Tryz.f116.name == "runtime.NumGoroutine") = false := ⟨by kernel_rfl, rfl⟩
theorem nf117 : Tryz.prog.funcs[117]? = some Tryz.f117 ∧ (Tryz.f117.name == "runtime.NumGoroutine") = false := ⟨by kernel_rfl, rfl⟩
theorem nf118 : Tryz.prog.funcs[118]? = some Tryz.f118 ∧ (Tryz.f118.name == "runtime.NumGoroutine") = false := ⟨by kernel_rfl, rfl⟩
theorem nf119 : Tryz.prog.funcs[119]? = some Tryz.f119 ∧ (Tryz.f119.name == "runtime.NumGoroutine") = false := ⟨by kernel_rfl, rfl⟩
theorem nf120 : Tryz.prog.funcs[120]? = some Tryz.f120 ∧ (Tryz.f120.name == "runtime.NumGoroutine") = false := ⟨by kernel_rfl, rfl⟩
theorem nf121 : Tryz.prog.funcs[121]? = some Tryz.f121 ∧ (Tryz.f121.name == "runtime.NumGoroutine") = false := ⟨by kernel_rfl, rfl⟩
theorem nf122 : Tryz.prog.funcs[122]? = some Tryz.f122 ∧ (Tryz.f122.name == "runtime.NumGoroutine") = false := ⟨by kernel_rfl, rfl⟩
theorem nf123 : Tryz.prog.funcs[123]? = some Tryz.f123 ∧ (Tryz.f123.name == "runtime.NumGoroutine") = false := ⟨by kernel_rfl, rfl⟩
theorem nf124 : Tryz.prog.funcs[124]? = some Tryz.f124 ∧ (Tryz.f124.name == "runtime.NumGoroutine") = false := ⟨by kernel_rfl, rfl⟩
theorem nf127 : Tryz.prog.funcs[127]? = some Tryz.f127 ∧ (Tryz.f127.name == "runtime.NumGoroutine") = false := ⟨by kernel_rfl, rfl⟩
theorem nf138 : Tryz.prog.funcs[138]? = some Tryz.f138 ∧ (Tryz.f138.name == "runtime.NumGoroutine") = false := ⟨by kernel_rfl, rfl⟩
theorem nf139 : Tryz.prog.funcs[139]? = some Tryz.f139 ∧ (Tryz.f139.name == "runtime.NumGoroutine") = false := ⟨by kernel_rfl, rfl⟩
theorem nf140 : Tryz.prog.funcs[140]? = some Tryz.f140 ∧ (Tryz.f140.name == "runtime.NumGoroutine") = false := ⟨by kernel_rfl, rfl⟩
theorem nf141 : Tryz.prog.funcs[141]? = some Tryz.f141 ∧ (Tryz.f141.name == "runtime.NumGoroutine") = false := ⟨by kernel_rfl, rfl⟩
theorem nf142 : Tryz.prog.funcs[142]? = some Tryz.f142 ∧ (Tryz.f142.name == "runtime.NumGoroutine") = false := ⟨by kernel_rfl, rfl⟩
theorem nf146 : Tryz.prog.funcs[146]? = some Tryz.f146 ∧ (Tryz.f146.name == "runtime.NumGoroutine") = false := ⟨by kernel_rfl, rfl⟩
theorem nf147 : Tryz.prog.funcs[147]? = some Tryz.f147 ∧ (Tryz.f147.name == "runtime.NumGoroutine") = false := ⟨by kernel_rfl, rfl⟩
theorem nf148 : Tryz.prog.funcs[148]? = some Tryz.f148 ∧ (Tryz.f148.name == "runtime.NumGoroutine") = false := ⟨by kernel_rfl, rfl⟩
theorem nf149 : Tryz.prog.funcs[149]? = some Tryz.f149 ∧ (Tryz.f149.name == "runtime.NumGoroutine") = false := ⟨by kernel_rfl, rfl⟩
theorem nf150 : Tryz.prog.funcs[150]? = some Tryz.f150 ∧ (Tryz.f150.name == "runtime.NumGoroutine") = false := ⟨by kernel_rfl, rfl⟩
theorem nf151 : Tryz.prog.funcs[151]? = some Tryz.f151 ∧ (Tryz.f151.name == "runtime.NumGoroutine") = false := ⟨by kernel_rfl, rfl⟩
theorem nf152 : Tryz.prog.funcs[152]? = some Tryz.f152 ∧ (Tryz.f152.name == "runtime.NumGoroutine") = false := ⟨by kernel_rfl, rfl⟩
theorem nf153 : Tryz.prog.funcs[153]? = some Tryz.f153 ∧ (Tryz.f153.name == "runtime.NumGoroutine") = false := ⟨by kernel_rfl, rfl⟩
theorem nf154 : Tryz.prog.funcs[154]? = some Tryz.f154 ∧ (Tryz.f154.name == "runtime.NumGoroutine") = false := ⟨by kernel_rfl, rfl⟩
theorem nf155 : Tryz.prog.funcs[155]? = some Tryz.f155 ∧ (Tryz.f155.name == "runtime.NumGoroutine") = false := ⟨by kernel_rfl, rfl⟩
theorem nf156 : Tryz.prog.funcs[156]? = some Tryz.f156 ∧ (Tryz.f156.name == "runtime.NumGoroutine") = false := ⟨by kernel_rfl, rfl⟩
theorem nf157 : Tryz.prog.funcs[157]? = some Tryz.f157 ∧ (Tryz.f157.name == "runtime.NumGoroutine") = false := ⟨by kernel_rfl, rfl⟩
theorem nf158 : Tryz.prog.funcs[158]? = some Tryz.f158 ∧ (Tryz.f158.name == "runtime.NumGoroutine") = false := ⟨by kernel_rfl, rfl⟩
theorem nf159 : Tryz.prog.funcs[159]? = some Tryz.f159 ∧ (Tryz.f159.name == "runtime.NumGoroutine") = false := ⟨by kernel_rfl, rfl⟩
theorem nf163 : Tryz.prog.funcs[163]? = some Tryz.f163 ∧ (Tryz.f163.name == "runtime.NumGoroutine") = false := ⟨by kernel_rfl, rfl⟩
theorem nf164 : Tryz.prog.funcs[164]? = some Tryz.f164 ∧ (Tryz.f164.name == "runtime.NumGoroutine") = false := ⟨by kernel_rfl, rfl⟩
theorem nf165 : Tryz.prog.funcs[165]? = some Tryz.f165 ∧ (Tryz.f165.name == "runtime.NumGoroutine") = false := ⟨by kernel_rfl, rfl⟩
theorem nf166 : Tryz.prog.funcs[166]? = some Tryz.f166 ∧ (Tryz.f166.name == "runtime.NumGoroutine") = false := ⟨by kernel_rfl, rfl⟩
theorem nf175 : Tryz.prog.funcs[175]? = some Tryz.f175 ∧ (Tryz.f175.name == "runtime.NumGoroutine") = false := ⟨by kernel_rfl, rfl⟩
theorem nf176 : Tryz.prog.funcs[176]? = some Tryz.f176 ∧ (Tryz.f176.name == "runtime.NumGoroutine") = false := ⟨by kernel_rfl, rfl⟩
theorem nf177 : Tryz.prog.funcs[177]? = some Tryz.f177 ∧ (Tryz.f177.name == "runtime.NumGoroutine") = false := ⟨by kernel_rfl, rfl⟩
theorem nf178 : Tryz.prog.funcs[178]? = some Tryz.f178 ∧ (Tryz.f178.name == "runtime.NumGoroutine") = false := ⟨by kernel_rfl, rfl⟩
theorem nf179 : Tryz.prog.funcs[179]? = some Tryz.f179 ∧ (Tryz.f179.name == "runtime.NumGoroutine") = false := ⟨by kernel_rfl, rfl⟩
theorem nf180 : Tryz.prog.funcs[180]? = some Tryz.f180 ∧ (Tryz.f180.name == "runtime.NumGoroutine") = false := ⟨by kernel_rfl, rfl⟩
theorem nf189 : Tryz.prog.funcs[189]? = some Tryz.f189 ∧ (Tryz.f189.name == "runtime.NumGoroutine") = false := ⟨by kernel_rfl, rfl⟩
theorem nf192 : Tryz.prog.funcs[192]? = some Tryz.f192 ∧ (Tryz.f192.name == "runtime.NumGoroutine") = false := ⟨by kernel_rfl, rfl⟩
theorem nf193 : Tryz.prog.funcs[193]? = some Tryz.f193 ∧ (Tryz.f193.name == "runtime.NumGoroutine") = false := ⟨by kernel_rfl, rfl⟩
theorem nf194 : Tryz.prog.funcs[194]? = some Tryz.f194 ∧ (Tryz.f194.name == "runtime.NumGoroutine") = false := ⟨by kernel_rfl, rfl⟩
theorem nf195 : Tryz.prog.funcs[195]? = some Tryz.f195 ∧ (Tryz.f195.name == "runtime.NumGoroutine") = false := ⟨by kernel_rfl, rfl⟩
theorem nf196 : Tryz.prog.funcs[196]? = some Tryz.f196 ∧ (Tryz.f196.name == "runtime.NumGoroutine") = false := ⟨by kernel_rfl, rfl⟩
theorem nf197 : Tryz.prog.funcs[197]? = some Tryz.f197 ∧ (Tryz.f197.name == "runtime.NumGoroutine") = false := ⟨by kernel_rfl, rfl⟩
theorem nf198 : Tryz.prog.funcs[198]? = some Tryz.f198 ∧ (Tryz.f198.name == "runtime.NumGoroutine") = false := ⟨by kernel_rfl, rfl⟩
theorem nf199 : Tryz.prog.funcs[199]? = some Tryz.f199 ∧ (Tryz.f199.name == "runtime.NumGoroutine") = false := ⟨by kernel_rfl, rfl⟩
theorem nf200 : Tryz.prog.funcs[200]? = some Tryz.f200 ∧ (Tryz.f200.name == "runtime.NumGoroutine") = false := ⟨by kernel_rfl, rfl⟩
theorem nf201 : Tryz.prog.funcs[201]? = some Tryz.f201 ∧ (Tryz.f201.name == "runtime.NumGoroutine") = false := ⟨by kernel_rfl, rfl⟩
theorem nf202 : Tryz.prog.funcs[202]? = some Tryz.f202 ∧ (Tryz.f202.name == "runtime.NumGoroutine") = false := ⟨by kernel_rfl, rfl⟩
theorem nf203 : Tryz.prog.funcs[203]? = some Tryz.f203 ∧ (Tryz.f203.name == "runtime.NumGoroutine") = false := ⟨by kernel_rfl, rfl⟩
theorem nf204 : Tryz.prog.funcs[204]? = some Tryz.f204 ∧ (Tryz.f204.name == "runtime.NumGoroutine") = false := ⟨by kernel_rfl, rfl⟩
theorem nf216 : Tryz.prog.funcs[216]? = some Tryz.f216 ∧ (Tryz.f216.name == "runtime.NumGoroutine") = false := ⟨by kernel_rfl, rfl⟩
theorem nf217 : Tryz.prog.funcs[217]? = some Tryz.f217 ∧ (Tryz.f217.name == "runtime.NumGoroutine") = false := ⟨by kernel_rfl, rfl⟩
theorem nf218 : Tryz.prog.funcs[218]? = some Tryz.f218 ∧ (Tryz.f218.name == "runtime.NumGoroutine") = false := ⟨by kernel_rfl, rfl⟩
theorem nf219 : Tryz.prog.funcs[219]? = some Tryz.f219 ∧ (Tryz.f219.name == "runtime.NumGoroutine") = false := ⟨by kernel_rfl, rfl⟩
theorem nf220 : Tryz.prog.funcs[220]? = some Tryz.f220 ∧ (Tryz.f220.name == "runtime.NumGoroutine") = false := ⟨by kernel_rfl, rfl⟩
theorem nf221 : Tryz.prog.funcs[221]? = some Tryz.f221 ∧ (Tryz.f221.name == "runtime.NumGoroutine") = false := ⟨by kernel_rfl, rfl⟩
theorem nf222 : Tryz.prog.funcs[222]? = some Tryz.f222 ∧ (Tryz.f222.name == "runtime.NumGoroutine") = false := ⟨by kernel_rfl, rfl⟩
theorem nf223 : Tryz.prog.funcs[223]? = some Tryz.f223 ∧ (Tryz.f223.name == "runtime.NumGoroutine") = false := ⟨by kernel_rfl, rfl⟩
theorem nf224 : Tryz.prog.funcs[224]? = some Tryz.f224 ∧ (Tryz.f224.name == "runtime.NumGoroutine") = false := ⟨by kernel_rfl, rfl⟩
theorem nf225 : Tryz.prog.funcs[225]? = some Tryz.f225 ∧ (Tryz.f225.name == "runtime.NumGoroutine") = false := ⟨by kernel_rfl, rfl⟩
theorem nf226 : Tryz.prog.funcs[226]? = some Tryz.f226 ∧ (Tryz.f226.name == "runtime.NumGoroutine") = false := ⟨by kernel_rfl, rfl⟩
theorem nf241 : Tryz.prog.funcs[241]? = some Tryz.f241 ∧ (Tryz.f241.name == "runtime.NumGoroutine") = false := ⟨by kernel_rfl, rfl⟩
theorem nf242 : Tryz.prog.funcs[242]? = some Tryz.f242 ∧ (Tryz.f242.name == "runtime.NumGoroutine") = false := ⟨by kernel_rfl, rfl⟩
theorem nf243 : Tryz.prog.funcs[243]? = some Tryz.f243 ∧ (Tryz.f243.name == "runtime.NumGoroutine") = false := ⟨by kernel_rfl, rfl⟩
theorem nf244 : Tryz.prog.funcs[244]? = some Tryz.f244 ∧ (Tryz.f244.name == "runtime.NumGoroutine") = false := ⟨by kernel_rfl, rfl⟩
theorem nf245 : Tryz.prog.funcs[245]? = some Tryz.f245 ∧ (Tryz.f245.name == "runtime.NumGoroutine") = false := ⟨by kernel_rfl, rfl⟩
theorem nf246 : Tryz.prog.funcs[246]? = some Tryz.f246 ∧ (Tryz.f246.name == "runtime.NumGoroutine") = false := ⟨by kernel_rfl, rfl⟩
theorem nf247 : Tryz.prog.funcs[247]? = some Tryz.f247 ∧ (Tryz.f247.name == "runtime.NumGoroutine") = false := ⟨by kernel_rfl, rfl⟩
theorem nf248 : Tryz.prog.funcs[248]? = some Tryz.f248 ∧ (Tryz.f248.name == "runtime.NumGoroutine") = false := ⟨by kernel_rfl, rfl⟩
theorem nf268 : Tryz.prog.funcs[268]? = some Tryz.f268 ∧ (Tryz.f268.name == "runtime.NumGoroutine") = false := ⟨by kernel_rfl, rfl⟩
theorem nf269 : Tryz.prog.funcs[269]? = some Tryz.f269 ∧ (Tryz.f269.name == "runtime.NumGoroutine") = false := ⟨by kernel_rfl, rfl⟩
noncomputable def fns : Tree Func := (.node (.node (.node (.node (.node (.node (.node .leaf 11 Tryz.f11 .leaf) 15 Tryz.f15 (.node .leaf 18 Tryz.f18 .leaf)) 19 Tryz.f19 (.node (.node .leaf 22 Tryz.f22 .leaf) 26 Tryz.f26 (.node .leaf 27 Tryz.f27 .leaf))) 28 Tryz.f28 (.node (.node (.node .leaf 44 Tryz.f44 .leaf) 45 Tryz.f45 (.node .leaf 46 Tryz.f46 .leaf)) 47 Tryz.f47 (.node (.node .leaf 48 Tryz.f48 .leaf) 52 Tryz.f52 (.node .leaf 53 Tryz.f53 .leaf)))) 54 Tryz.f54 (.node (.node (.node (.node .leaf 55 Tryz.f55 .leaf) 58 Tryz.f58 (.node .leaf 59 Tryz.f59 .leaf)) 60 Tryz.f60 (.node (.node .leaf 61 Tryz.f61 .leaf) 65 Tryz.f65 (.node .leaf 66 Tryz.f66 .leaf))) 67 Tryz.f67 (.node (.node (.node .leaf 71 Tryz.f71 .leaf) 72 Tryz.f72 (.node .leaf 73 Tryz.f73 .leaf)) 74 Tryz.f74 (.node (.node .leaf 75 Tryz.f75 .leaf) 76 Tryz.f76 (.node .leaf 77 Tryz.f77 .leaf))))) 78 Tryz.f78 (.node (.node (.node (.node (.node .leaf 81 Tryz.f81 .leaf) 86 Tryz.f86 (.node .leaf 91 Tryz.f91 .leaf)) 92 Tryz.f92 (.node (.node .leaf 93 Tryz.f93 .leaf) 94 Tryz.f94 (.node .leaf 95 Tryz.f95 .leaf))) 96 Tryz.f96 (.node (.node (.node .leaf 97 Tryz.f97 .leaf) 98 Tryz.f98 (.node .leaf 100 Tryz.f100 .leaf)) 101 Tryz.f101 (.node (.node .leaf 102 Tryz.f102 .leaf) 106 Tryz.f106 (.node .leaf 107 Tryz.f107 .leaf)))) 108 Tryz.f108 (.node (.node (.node (.node .leaf 109 Tryz.f109 .leaf) 110 Tryz.f110 (.node .leaf 114 Tryz.f114 .leaf)) 115 Tryz.f115 (.node (.node .leaf 116 Tryz.f116 .leaf) 117 Tryz.f117 (.node .leaf 118 Tryz.f118 .leaf))) 119 Tryz.f119 (.node (.node (.node .leaf 120 Tryz.f120 .leaf) 121 Tryz.f121 (.node .leaf 122 Tryz.f122 .leaf)) 123 Tryz.f123 (.node (.node .leaf 124 Tryz.f124 .leaf) 127 Tryz.f127 (.node .leaf 138 Tryz.f138 .leaf)))))) 139 Tryz.f139 (.node (.node (.node (.node (.node (.node .leaf 140 Tryz.f140 .leaf) 141 Tryz.f141 (.node .leaf 142 Tryz.f142 .leaf)) 146 Tryz.f146 (.node (.node .leaf 147 Tryz.f147 .leaf) 148 Tryz.f148 (.node .leaf 149 Tryz.f149 .leaf))) 150 Tryz.f150 (.node (.node (.node .leaf 151 Tryz.f151 .leaf) 152 Tryz.f152 (.node .leaf 153 Tryz.f153 .leaf)) 154 Tryz.f154 (.node (.node .leaf 155 Tryz.f155 .leaf) 156 Tryz.f156 (.node .leaf 157 Tryz.f157 .leaf)))) 158 Tryz.f158 (.node (.node (.node (.node .leaf 159 Tryz.f159 .leaf) 163 Tryz.f163 (.node .leaf 164 Tryz.f164 .leaf)) 165 Tryz.f165 (.node (.node .leaf 166 Tryz.f166 .leaf) 175 Tryz.f175 (.node .leaf 176 Tryz.f176 .leaf))) 177 Tryz.f177 (.node (.node (.node .leaf 178 Tryz.f178 .leaf) 179 Tryz.f179 (.node .leaf 180 Tryz.f180 .leaf)) 189 Tryz.f189 (.node (.node .leaf 192 Tryz.f192 .leaf) 193 Tryz.f193 (.node .leaf 194 Tryz.f194 .leaf))))) 195 Tryz.f195 (.node (.node (.node (.node (.node .leaf 196 Tryz.f196 .leaf) 197 Tryz.f197 (.node .leaf 198 Tryz.f198 .leaf)) 199 Tryz.f199 (.node (.node .leaf 200 Tryz.f200 .leaf) 201 Tryz.f201 (.node .leaf 202 Tryz.f202 .leaf))) 203 Tryz.f203 (.node (.node (.node .leaf 204 Tryz.f204 .leaf) 216 Tryz.f216 (.node .leaf 217 Tryz.f217 .leaf)) 218 Tryz.f218 (.node (.node .leaf 219 Tryz.f219 .leaf) 220 Tryz.f220 (.node .leaf 221 Tryz.f221 .leaf)))) 222 Tryz.f222 (.node (.node (.node (.node .leaf 223 Tryz.f223 .leaf) 224 Tryz.f224 (.node .leaf 225 Tryz.f225 .leaf)) 226 Tryz.f226 (.node (.node .leaf 241 Tryz.f241 .leaf) 242 Tryz.f242 (.node .leaf 243 Tryz.f243 .leaf))) 244 Tryz.f244 (.node (.node (.node .leaf 245 Tryz.f245 .leaf) 246 Tryz.f246 (.node .leaf 247 Tryz.f247 .leaf)) 248 Tryz.f248 (.node (.node .leaf 268 Tryz.f268 .leaf) 269 Tryz.f269 .leaf))))))
theorem fns_all : fns.All (fun k fn => Tryz.prog.funcs[k]? = some fn ∧ (fn.name == "runtime.NumGoroutine") = false) := ⟨⟨⟨⟨⟨⟨⟨trivial, nf11, trivial⟩, nf15, ⟨trivial, nf18, trivial⟩⟩, nf19, ⟨⟨trivial, nf22, trivial⟩, nf26, ⟨trivial, nf27, trivial⟩⟩⟩, nf28, ⟨⟨⟨trivial, nf44, trivial⟩, nf45, ⟨trivial, nf46, trivial⟩⟩, nf47, ⟨⟨trivial, nf48, trivial⟩, nf52, ⟨trivial, nf53, trivial⟩⟩⟩⟩, nf54, ⟨⟨⟨⟨trivial, nf55, trivial⟩, nf58, ⟨trivial, nf59, trivial⟩⟩, nf60, ⟨⟨trivial, nf61, trivial⟩, nf65, ⟨trivial, nf66, trivial⟩⟩⟩, nf67, ⟨⟨⟨trivial, nf71, trivial⟩, nf72, ⟨trivial, nf73, trivial⟩⟩, nf74, ⟨⟨trivial, nf75, trivial⟩, nf76, ⟨trivial, nf77, trivial⟩⟩⟩⟩⟩, nf78, ⟨⟨⟨⟨⟨trivial, nf81, trivial⟩, nf86, ⟨trivial, nf91, trivial⟩⟩, nf92, ⟨⟨trivial, nf93, trivial⟩, nf94, ⟨trivial, nf95, trivial⟩⟩⟩, nf96, ⟨⟨⟨trivial, nf97, trivial⟩, nf98, ⟨trivial, nf100, trivial⟩⟩, nf101, ⟨⟨trivial, nf102, trivial⟩, nf106, ⟨trivial, nf107, trivial⟩⟩⟩⟩, nf108, ⟨⟨⟨⟨trivial, nf109, trivial⟩, nf110, ⟨trivial, nf114, trivial⟩⟩, nf115, ⟨⟨trivial, nf116, trivial⟩, nf117, ⟨trivial, nf118, trivial⟩⟩⟩, nf119, ⟨⟨⟨trivial, nf120, trivial⟩, nf121, ⟨trivial, nf122, trivial⟩⟩, nf123, ⟨⟨trivial, nf124, trivial⟩, nf127, ⟨trivial, nf138, trivial⟩⟩⟩⟩⟩⟩, nf139, ⟨⟨⟨⟨⟨⟨trivial, nf140, trivial⟩, nf141, ⟨trivial, nf142, trivial⟩⟩, nf146, ⟨⟨trivial, nf147, trivial⟩, nf148, ⟨trivial, nf149, trivial⟩⟩⟩, nf150, ⟨⟨⟨trivial, nf151, trivial⟩, nf152, ⟨trivial, nf153, trivial⟩⟩, nf154, ⟨⟨trivial, nf155, trivial⟩, nf156, ⟨trivial, nf157, trivial⟩⟩⟩⟩, nf158, ⟨⟨⟨⟨trivial, nf159, trivial⟩, nf163, ⟨trivial, nf164, trivial⟩⟩, nf165, ⟨⟨trivial, nf166, trivial⟩, nf175, ⟨trivial, nf176, trivial⟩⟩⟩, nf177, ⟨⟨⟨trivial, nf178, trivial⟩, nf179, ⟨trivial, nf180, trivial⟩⟩, nf189, ⟨⟨trivial, nf192, trivial⟩, nf193, ⟨trivial, nf194, trivial⟩⟩⟩⟩⟩, nf195, ⟨⟨⟨⟨⟨trivial, nf196, trivial⟩, nf197, ⟨trivial, nf198, trivial⟩⟩, nf199, ⟨⟨trivial, nf200, trivial⟩, nf201, ⟨trivial, nf202, trivial⟩⟩⟩, nf203, ⟨⟨⟨trivial, nf204, trivial⟩, nf216, ⟨trivial, nf217, trivial⟩⟩, nf218, ⟨⟨trivial, nf219, trivial⟩, nf220, ⟨trivial, nf221, trivial⟩⟩⟩⟩, nf222, ⟨⟨⟨⟨trivial, nf223, trivial⟩, nf224, ⟨trivial, nf225, trivial⟩⟩, nf226, ⟨⟨trivial, nf241, trivial⟩, nf242, ⟨trivial, nf243, trivial⟩⟩⟩, nf244, ⟨⟨⟨trivial, nf245, trivial⟩, nf246, ⟨trivial, nf247, trivial⟩⟩, nf248, ⟨⟨trivial, nf268, trivial⟩, nf269, trivial⟩⟩⟩⟩⟩⟩
theorem fns_ok : ∀ k fn, fns.get k = some fn → Tryz.prog.funcs[k]? = some fn ∧ (fn.name == "runtime.NumGoroutine") = false := Tree.get_all fns_all
end Go.Proofs.YtjgooecohepkoaaGreatDoor
namespace Go.Proofs.YtjgooecohepkoaaGreatDoor
open Go Go.Abs
def sub64E : Array Value → Sem Value := fun args => do
  let (x, y, b) ← Extern.MathBitsCarry.three "Sub64" args
  pure (Extern.MathBitsCarry.pair ((x + Extern.MathBitsCarry.m64 - y - b) % Extern.MathBitsCarry.m64) (if x < y + b then 1 else 0))
theorem run_sub64E {P : Program} (x y b : Nat) (hb : b ≤ 1) (w : World) :
    (sub64E #[.int .u64 x, .int .u64 y, .int .u64 b]).run P w =
      .ok (.tuple #[.int .u64 (((x + 18446744073709551616 - y - b) % 18446744073709551616 : Nat) : Int), .int .u64 ((if x < y + b then 1 else 0 : Nat) : Int)]) w := by
  have : b = 0 ∨ b = 1 := by omega
  rcases this with rfl | rfl <;> rfl
theorem ext161 (x y : Nat) (c : Nat) (hc : c ≤ 1) : ExtOK sys 161 [.v (.int .u64 x), .v (.int .u64 y), .v (.int .u64 c)] (.tup [.v (.int .u64 (((x + y + c) % 18446744073709551616 : Nat) : Int)), .v (.int .u64 (((x + y + c) / 18446744073709551616 : Nat) : Int))]) := by
  intro w g vs hvs
  have : vs = [.int .u64 x, .int .u64 y, .int .u64 c] := RepL.eq_v (ys := [.int .u64 x, .int .u64 y, .int .u64 c]) hvs
  subst this
  refine ⟨.tuple #[.int .u64 (((x + y + c) % 18446744073709551616 : Nat) : Int), .int .u64 (((x + y + c) / 18446744073709551616 : Nat) : Int)], ?_, ?_⟩
  · refine (run_callFunc_extern (P := Tryz.prog) (fn := Tryz.f161) (by kernel_rfl) (by kernel_rfl) (by kernel_rfl) (by kernel_rfl) (e := add64Entry) (by kernel_rfl) _ w).trans ?_
    rw [run_add64 x y c (by omega) (by omega) (by omega) (by omega)]
    simp only [Result.andThen]
    congr 5 <;> omega
  · simp only [Rep]
    exact ⟨_, rfl, by simp [RepL, Rep]⟩
theorem ext162 (x y : Nat) (b : Nat) (hb : b ≤ 1) : ExtOK sys 162 [.v (.int .u64 x), .v (.int .u64 y), .v (.int .u64 b)] (.tup [.v (.int .u64 (((x + 18446744073709551616 - y - b) % 18446744073709551616 : Nat) : Int)), .v (.int .u64 ((if x < y + b then 1 else 0 : Nat) : Int))]) := by
  intro w g vs hvs
  have : vs = [.int .u64 x, .int .u64 y, .int .u64 b] := RepL.eq_v (ys := [.int .u64 x, .int .u64 y, .int .u64 b]) hvs
  subst this
  refine ⟨.tuple #[.int .u64 (((x + 18446744073709551616 - y - b) % 18446744073709551616 : Nat) : Int), .int .u64 ((if x < y + b then 1 else 0 : Nat) : Int)], ?_, ?_⟩
  · refine (run_callFunc_extern (P := Tryz.prog) (fn := Tryz.f162) (by kernel_rfl) (by kernel_rfl) (by kernel_rfl) (by kernel_rfl) (e := sub64E) (by kernel_rfl) _ w).trans ?_
    rw [run_sub64E x y b hb]
    rfl
  · simp only [Rep]
    exact ⟨_, rfl, by simp [RepL, Rep]⟩
noncomputable def ext : Nat → List D → Option D := fun k args => match args with
  | [.v (.int .u64 (.ofNat x)), .v (.int .u64 (.ofNat y)), .v (.int .u64 (.ofNat c))] => whn (Nat.ble c 1) (match Nat.beq k 161 with
    | true => some (.tup [.v (.int .u64 (((x + y + c) % 18446744073709551616 : Nat) : Int)), .v (.int .u64 (((x + y + c) / 18446744073709551616 : Nat) : Int))])
    | false => whn (Nat.beq k 162) (some (.tup [.v (.int .u64 (((x + 18446744073709551616 - y - c) % 18446744073709551616 : Nat) : Int)), .v (.int .u64 ((bif Nat.blt x (y + c) then 1 else 0 : Nat) : Int))])))
  | _ => none
theorem ext_ok : ExtsOK sys ext := by
  intro k args d h
  unfold ext at h
  split at h
  · rename_i x y c
    simp only [whn_some, Nat.ble_eq] at h
    obtain ⟨hc, h⟩ := h
    split at h
    · rename_i hk
      cases h
      have := Nat.eq_of_beq_eq_true hk
      subst this
      exact ext161 x y c hc
    · simp only [whn_some] at h
      obtain ⟨hk, h⟩ := h
      cases h
      have := Nat.eq_of_beq_eq_true hk
      subst this
      have e : (bif Nat.blt x (y + c) then 1 else 0 : Nat) = if x < y + c then 1 else 0 := by
        by_cases hlt : x < y + c
        · have : Nat.blt x (y + c) = true := by simpa using hlt
          rw [this, if_pos hlt]; rfl
        · have : Nat.blt x (y + c) = false := by
            cases hb : Nat.blt x (y + c) with
            | false => rfl
            | true => simp at hb; omega
          rw [this, if_neg hlt]; rfl
      rw [e]
      exact ext162 x y c hc
  · cases h
end Go.Proofs.YtjgooecohepkoaaGreatDoor
namespace Go.Proofs.YtjgooecohepkoaaGreatDoor
open Go Go.Abs
set_option linter.unusedSimpArgs false
theorem f79_ok (ns : List (List D)) (rs : List (List (List D))) : FnOK sys 79 [.sl ns 1, .sl (rs.map fun r => [.sl r 7]) 1] [] (.v (.bool (rs.all fun r => r.length == ns.length))) [] := by
  refine FnOK.intro Tryz.f79 (by kernel_rfl) rfl rfl [.tmp 4] rfl 0 rfl (Nat.le_of_ble_eq_true rfl) rfl rfl fun E hN h0 => ?_
  refine W.bound 0 rfl fun hb0 => W.bound 1 rfl fun hb1 => W.code (N := 20) [] hN ?_
  simp only [List.length_map, maxLen] at hb1
  repeat (first | refine st_end rfl ?_ | ((first | refine st_op fun K k => ?_ | refine st_op0 fun K k => ?_ | refine st_opT fun K k => ?_ | refine st_grd rfl fun A B C k k' k2 => ?_ | refine st_cond fun A B k k' => ?_); simp only [go_sem, reduceIte, Nat.reduceEqDiff, Nat.reduceAdd, Nat.reduceMul, Nat.reduceSub, Nat.reduceLT, Nat.reduceLeDiff, Int.reduceToNat, reduceCtorEq, Int.reduceEq, Int.reduceBEq, Int.reduceLE, Int.reduceLT]; first | (refine k _ _ _ _ _ ?_; clear k K) | (refine k ?_; clear k k' k2 A B C) | (refine k' ?_; clear k k' k2 A B C) | (refine k2 ?_; clear k k' k2 A B C) | (refine k ?_; clear k k' A B) | (refine k' ?_; clear k k' A B)))
  refine W.loopP (fun i : Nat => ⟨[(0, .sl ns 1), (1, .sl (rs.map fun r => [.sl r 7]) 1), (5, .v (.int .i64 i))], [], 0, []⟩) (fun i => i ≤ rs.length ∧ ∀ j r, j < i → rs[j]? = some r → r.length = ns.length) (fun i => rs.length - i) 0 ⟨by omega, by omega⟩ (Into.weak ?_ trivial (Nat.le_refl _) rfl) fun i hi => W.code (N := 20) [] hN ?_
  · simp only [go_sem, reduceIte, Nat.reduceEqDiff, Nat.reduceAdd, Nat.reduceMul, Nat.reduceSub, Nat.reduceLT, Nat.reduceLeDiff, Int.reduceToNat, reduceCtorEq, Int.reduceEq, Int.reduceBEq, Int.reduceLE, Int.reduceLT]
    rfl
  repeat (first | refine st_end rfl ?_ | ((first | refine st_op fun K k => ?_ | refine st_op0 fun K k => ?_ | refine st_opT fun K k => ?_ | refine st_grd rfl fun A B C k k' k2 => ?_ | refine st_cond fun A B k k' => ?_); simp only [go_sem, reduceIte, Nat.reduceEqDiff, Nat.reduceAdd, Nat.reduceMul, Nat.reduceSub, Nat.reduceLT, Nat.reduceLeDiff, Int.reduceToNat, reduceCtorEq, Int.reduceEq, Int.reduceBEq, Int.reduceLE, Int.reduceLT]; first | (refine k _ _ _ _ _ ?_; clear k K) | (refine k ?_; clear k k' k2 A B C) | (refine k' ?_; clear k k' k2 A B C) | (refine k2 ?_; clear k k' k2 A B C) | (refine k ?_; clear k k' A B) | (refine k' ?_; clear k k' A B)))
  refine st_cond fun A B a b => ?_
  simp only [go_sem, reduceIte, Nat.reduceEqDiff, Nat.reduceAdd, Nat.reduceMul, Nat.reduceSub, Nat.reduceLT, Nat.reduceLeDiff, Int.reduceToNat, reduceCtorEq, Int.reduceEq, Int.reduceBEq, Int.reduceLE, Int.reduceLT]
  refine ⟨fun h => a ?_, fun h => b ?_⟩ <;> clear a b A B
  · have hlt : i < rs.length := by omega
    obtain ⟨r, hr⟩ : ∃ r, rs[i]? = some r := ⟨_, List.getElem?_eq_getElem hlt⟩
    repeat (first | refine st_end rfl ?_ | ((first | refine st_op fun K k => ?_ | refine st_op0 fun K k => ?_ | refine st_opT fun K k => ?_ | refine st_grd rfl fun A B C k k' k2 => ?_ | refine st_cond fun A B k k' => ?_); simp only [go_sem, reduceIte, Nat.reduceEqDiff, Nat.reduceAdd, Nat.reduceMul, Nat.reduceSub, Nat.reduceLT, Nat.reduceLeDiff, Int.reduceToNat, reduceCtorEq, Int.reduceEq, Int.reduceBEq, Int.reduceLE, Int.reduceLT, hr]; first | (refine k _ _ _ _ _ ?_; clear k K) | (refine k ?_; clear k k' k2 A B C) | (refine k' ?_; clear k k' k2 A B C) | (refine k2 ?_; clear k k' k2 A B C) | (refine k ?_; clear k k' A B) | (refine k' ?_; clear k k' A B)))
    refine st_cond fun A B a b => ?_
    simp only [go_sem, reduceIte, Nat.reduceEqDiff, Nat.reduceAdd, Nat.reduceMul, Nat.reduceSub, Nat.reduceLT, Nat.reduceLeDiff, Int.reduceToNat, reduceCtorEq, Int.reduceEq, Int.reduceBEq, Int.reduceLE, Int.reduceLT]
    refine ⟨fun g => a ?_, fun g => b ?_⟩ <;> clear a b A B
    · repeat (first | refine st_end rfl ?_ | ((first | refine st_op fun K k => ?_ | refine st_op0 fun K k => ?_ | refine st_opT fun K k => ?_ | refine st_grd rfl fun A B C k k' k2 => ?_ | refine st_cond fun A B k k' => ?_); simp only [go_sem, reduceIte, Nat.reduceEqDiff, Nat.reduceAdd, Nat.reduceMul, Nat.reduceSub, Nat.reduceLT, Nat.reduceLeDiff, Int.reduceToNat, reduceCtorEq, Int.reduceEq, Int.reduceBEq, Int.reduceLE, Int.reduceLT]; first | (refine k _ _ _ _ _ ?_; clear k K) | (refine k ?_; clear k k' k2 A B C) | (refine k' ?_; clear k k' k2 A B C) | (refine k2 ?_; clear k k' k2 A B C) | (refine k ?_; clear k k' A B) | (refine k' ?_; clear k k' A B)))
      refine iq Into.refl (Done.mk (.inr rfl) Into.refl rfl [] 0 rfl ?_ trivial rfl)
      simp only [go_sem, reduceIte, Nat.reduceEqDiff, Nat.reduceAdd, Nat.reduceMul, Nat.reduceSub, Nat.reduceLT, Nat.reduceLeDiff, Int.reduceToNat, reduceCtorEq, Int.reduceEq, Int.reduceBEq, Int.reduceLE, Int.reduceLT]
      refine (List.all_eq_false.2 ⟨r, List.mem_of_getElem? hr, ?_⟩).symm
      have h2 : ¬ (r.length : Int) = ns.length := by simpa using g
      simp; omega
    · repeat (first | refine st_end rfl ?_ | ((first | refine st_op fun K k => ?_ | refine st_op0 fun K k => ?_ | refine st_opT fun K k => ?_ | refine st_grd rfl fun A B C k k' k2 => ?_ | refine st_cond fun A B k k' => ?_); simp only [go_sem, reduceIte, Nat.reduceEqDiff, Nat.reduceAdd, Nat.reduceMul, Nat.reduceSub, Nat.reduceLT, Nat.reduceLeDiff, Int.reduceToNat, reduceCtorEq, Int.reduceEq, Int.reduceBEq, Int.reduceLE, Int.reduceLT]; first | (refine k _ _ _ _ _ ?_; clear k K) | (refine k ?_; clear k k' k2 A B C) | (refine k' ?_; clear k k' k2 A B C) | (refine k2 ?_; clear k k' k2 A B C) | (refine k ?_; clear k k' A B) | (refine k' ?_; clear k k' A B)))
      refine ⟨i + 1, ⟨by omega, ?_⟩, by omega, Into.weak ?_ trivial (Nat.le_refl _) rfl⟩
      · intro j r' hj hr'
        by_cases hji : j = i
        · subst hji
          rw [hr] at hr'
          cases hr'
          have h2 : (r.length : Int) = ns.length := by simpa using g
          omega
        · exact hi.2 j r' (by omega) hr'
      · simp only [go_sem, reduceIte, Nat.reduceEqDiff, Nat.reduceAdd, Nat.reduceMul, Nat.reduceSub, Nat.reduceLT, Nat.reduceLeDiff, Int.reduceToNat, reduceCtorEq, Int.reduceEq, Int.reduceBEq, Int.reduceLE, Int.reduceLT]
        rw [wrap64 _ (by omega) (by omega)]
        rfl
  · refine iq Into.refl ?_
    repeat (first | refine st_end rfl ?_ | ((first | refine st_op fun K k => ?_ | refine st_op0 fun K k => ?_ | refine st_opT fun K k => ?_ | refine st_grd rfl fun A B C k k' k2 => ?_ | refine st_cond fun A B k k' => ?_); simp only [go_sem, reduceIte, Nat.reduceEqDiff, Nat.reduceAdd, Nat.reduceMul, Nat.reduceSub, Nat.reduceLT, Nat.reduceLeDiff, Int.reduceToNat, reduceCtorEq, Int.reduceEq, Int.reduceBEq, Int.reduceLE, Int.reduceLT]; first | (refine k _ _ _ _ _ ?_; clear k K) | (refine k ?_; clear k k' k2 A B C) | (refine k' ?_; clear k k' k2 A B C) | (refine k2 ?_; clear k k' k2 A B C) | (refine k ?_; clear k k' A B) | (refine k' ?_; clear k k' A B)))
    refine Done.mk (.inr rfl) Into.refl rfl [] 0 rfl ?_ trivial rfl
    simp only [go_sem, reduceIte, Nat.reduceEqDiff, Nat.reduceAdd, Nat.reduceMul, Nat.reduceSub, Nat.reduceLT, Nat.reduceLeDiff, Int.reduceToNat, reduceCtorEq, Int.reduceEq, Int.reduceBEq, Int.reduceLE, Int.reduceLT]
    refine (List.all_eq_true.2 fun r hr => ?_).symm
    obtain ⟨j, hj, rfl⟩ := List.getElem_of_mem hr
    simpa using hi.2 j _ (by omega) (List.getElem?_eq_getElem hj)
end Go.Proofs.YtjgooecohepkoaaGreatDoor
namespace Go.Proofs.YtjgooecohepkoaaGreatDoor
open Go Go.Abs
set_option linter.unusedSimpArgs false
/-- A list of numbers, as data. -/
@[go_sem] def ints (L : List Int) : D := .sl (L.map fun x => [.v (.int .i64 x)]) 1
def nextV (L : List Int) (k : Nat) (n : Int) : Int := match L[k]? with | none => 0 | some x => (x.tmod n + n).tmod n
def nextK (L : List Int) (k : Nat) : Nat := if k < L.length then k + 1 else k
@[go_sem] def numBox (L : List Int) (k : Nat) : AO := .box [ints L, .v (.int .i64 k)]
theorem f49_ok (L : List Int) (k : Nat) (hk : k ≤ L.length) (n : Int) (h1 : 1 ≤ n) (h2 : n ≤ 1000000) :
    FnOK sys 49 [.ref 0 0, .v (.int .i64 n)] [(0, numBox L k)] (.v (.int .i64 (nextV L k n))) [(0, numBox L (nextK L k))] := by
  refine FnOK.intro Tryz.f49 (by kernel_rfl) rfl rfl [.tmp 4] rfl 1 rfl (Nat.le_of_ble_eq_true rfl) rfl rfl fun E hN h0 => W.boundS 0 (i := 0) rfl rfl fun hb => W.code (N := 43) [] hN ?_
  simp only [List.length_map, maxLen] at hb
  have hn : ¬ n < 1 := by omega
  by_cases hlt : k < L.length
  · have e1 : ¬ ((L.length : Int) ≤ k) := by omega
    obtain ⟨x, hx⟩ : ∃ x, L[k]? = some x := ⟨_, List.getElem?_eq_getElem hlt⟩
    have w1 : IntKind.wrap .i64 ((k : Int) + 1) = ((k + 1 : Nat) : Int) := wrapTo (by omega)
    have w2 : IntKind.wrap .i64 (((k + 1 : Nat) : Int) - 1) = (k : Int) := wrapTo (by omega)
    have b1 : -n < x.tmod n ∧ x.tmod n < n := by
      have q1 := Int.tmod_lt_of_pos x (show 0 < n by omega)
      have q2 := Int.lt_tmod_of_pos x (show 0 < n by omega)
      exact ⟨q2, q1⟩
    have w3 : IntKind.wrap .i64 (x.tmod n + n) = x.tmod n + n := wrapTo (by omega)
    have hn0 : ¬ n = 0 := by omega
    repeat (first | refine st_end rfl ?_ | ((first | refine st_op fun K k => ?_ | refine st_op0 fun K k => ?_ | refine st_opT fun K k => ?_ | refine st_grd rfl fun A B C k k' k2 => ?_ | refine st_cond fun A B k k' => ?_); simp only [go_sem, reduceIte, Nat.reduceEqDiff, Nat.reduceAdd, Nat.reduceMul, Nat.reduceSub, Nat.reduceLT, Nat.reduceLeDiff, Int.reduceToNat, reduceCtorEq, Int.reduceEq, Int.reduceBEq, Int.reduceLE, Int.reduceLT, e1, hn, decide_false, decide_true, w1, w2, hx, hn0, w3]; first | (refine k _ _ _ _ _ ?_; clear k K) | (refine k ?_; clear k k' k2 A B C) | (refine k' ?_; clear k k' k2 A B C) | (refine k2 ?_; clear k k' k2 A B C) | (refine k ?_; clear k k' A B) | (refine k' ?_; clear k k' A B)))
    refine ⟨.inr rfl, _, Into.refl, rfl, [(0, 0)], 1, rfl, ?_, ?_, rfl⟩
    · simp only [go_sem, reduceIte, Nat.reduceEqDiff, Nat.reduceAdd, Nat.reduceMul, Nat.reduceSub, Nat.reduceLT, Nat.reduceLeDiff, Int.reduceToNat, reduceCtorEq, Int.reduceEq, Int.reduceBEq, Int.reduceLE, Int.reduceLT, nextV, hx]
    · simp only [go_sem, reduceIte, Nat.reduceEqDiff, Nat.reduceAdd, Nat.reduceMul, Nat.reduceSub, Nat.reduceLT, Nat.reduceLeDiff, Int.reduceToNat, reduceCtorEq, Int.reduceEq, Int.reduceBEq, Int.reduceLE, Int.reduceLT, subS, subO, nextK, hlt]
  · have e1 : ((L.length : Int) ≤ k) := by omega
    repeat (first | refine st_end rfl ?_ | ((first | refine st_op fun K k => ?_ | refine st_op0 fun K k => ?_ | refine st_opT fun K k => ?_ | refine st_grd rfl fun A B C k k' k2 => ?_ | refine st_cond fun A B k k' => ?_); simp only [go_sem, reduceIte, Nat.reduceEqDiff, Nat.reduceAdd, Nat.reduceMul, Nat.reduceSub, Nat.reduceLT, Nat.reduceLeDiff, Int.reduceToNat, reduceCtorEq, Int.reduceEq, Int.reduceBEq, Int.reduceLE, Int.reduceLT, e1, hn, decide_false, decide_true]; first | (refine k _ _ _ _ _ ?_; clear k K) | (refine k ?_; clear k k' k2 A B C) | (refine k' ?_; clear k k' k2 A B C) | (refine k2 ?_; clear k k' k2 A B C) | (refine k ?_; clear k k' A B) | (refine k' ?_; clear k k' A B)))
    refine ⟨.inr rfl, _, Into.refl, rfl, [(0, 0)], 1, rfl, ?_, ?_, rfl⟩
    · simp only [go_sem, reduceIte, Nat.reduceEqDiff, Nat.reduceAdd, Nat.reduceMul, Nat.reduceSub, Nat.reduceLT, Nat.reduceLeDiff, Int.reduceToNat, reduceCtorEq, Int.reduceEq, Int.reduceBEq, Int.reduceLE, Int.reduceLT, nextV, List.getElem?_eq_none (Nat.le_of_not_lt hlt)]
    · simp only [go_sem, reduceIte, Nat.reduceEqDiff, Nat.reduceAdd, Nat.reduceMul, Nat.reduceSub, Nat.reduceLT, Nat.reduceLeDiff, Int.reduceToNat, reduceCtorEq, Int.reduceEq, Int.reduceBEq, Int.reduceLE, Int.reduceLT, subS, subO, nextK, hlt]
end Go.Proofs.YtjgooecohepkoaaGreatDoor
