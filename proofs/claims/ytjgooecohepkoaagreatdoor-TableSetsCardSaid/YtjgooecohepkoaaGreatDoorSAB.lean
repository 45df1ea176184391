/- Contracts of the functions that the statement reaches. -/
import Derived.Test.YtjgooecohepkoaaGreatDoorEAM
import Derived.Test.YtjgooecohepkoaaGreatDoorSAA
set_option linter.unusedVariables false
set_option linter.unusedSimpArgs false
namespace Go.Proofs.YtjgooecohepkoaaGreatDoor
open Go Go.Abs
set_option maxRecDepth 20000
/-- The powers of ten, as the program's text lays them. -/
def pow10 : List D := [.v (.int .i64 1), .v (.int .i64 10), .v (.int .i64 100), .v (.int .i64 1000), .v (.int .i64 10000), .v (.int .i64 100000), .v (.int .i64 1000000), .v (.int .i64 10000000), .v (.int .i64 100000000), .v (.int .i64 1000000000), .v (.int .i64 10000000000), .v (.int .i64 100000000000), .v (.int .i64 1000000000000), .v (.int .i64 10000000000000), .v (.int .i64 100000000000000), .v (.int .i64 1000000000000000), .v (.int .i64 10000000000000000), .v (.int .i64 100000000000000000), .v (.int .i64 1000000000000000000)]
def glob (i : Nat) : D := if i = 0 then .ep pow10 else .any
noncomputable def sys : Sy := ⟨Tryz.prog, tab.get, Tree.get_all tab_ok, mixed, glob⟩
@[go_sem] theorem gl0 : sys.gl 0 = .ep pow10 := rfl
@[go_sem] theorem T1 : sys.T 1 = some t1 := rfl
@[go_sem] theorem T2 : sys.T 2 = some t2 := rfl
@[go_sem] theorem T3 : sys.T 3 = some t3 := rfl
@[go_sem] theorem T4 : sys.T 4 = some t4 := rfl
@[go_sem] theorem T5 : sys.T 5 = some t5 := rfl
@[go_sem] theorem T6 : sys.T 6 = some t6 := rfl
@[go_sem] theorem T7 : sys.T 7 = some t7 := rfl
@[go_sem] theorem T8 : sys.T 8 = some t8 := rfl
@[go_sem] theorem T9 : sys.T 9 = some t9 := rfl
@[go_sem] theorem T10 : sys.T 10 = some t10 := rfl
@[go_sem] theorem T11 : sys.T 11 = some t11 := rfl
@[go_sem] theorem T12 : sys.T 12 = some t12 := rfl
@[go_sem] theorem T13 : sys.T 13 = some t13 := rfl
@[go_sem] theorem T14 : sys.T 14 = some t14 := rfl
@[go_sem] theorem T15 : sys.T 15 = some t15 := rfl
@[go_sem] theorem T16 : sys.T 16 = some t16 := rfl
@[go_sem] theorem T17 : sys.T 17 = some t17 := rfl
@[go_sem] theorem T18 : sys.T 18 = some t18 := rfl
@[go_sem] theorem T19 : sys.T 19 = some t19 := rfl
@[go_sem] theorem T20 : sys.T 20 = some t20 := rfl
@[go_sem] theorem T21 : sys.T 21 = some t21 := rfl
@[go_sem] theorem T22 : sys.T 22 = some t22 := rfl
@[go_sem] theorem T23 : sys.T 23 = some t23 := rfl
@[go_sem] theorem T24 : sys.T 24 = some t24 := rfl
@[go_sem] theorem T25 : sys.T 25 = some t25 := rfl
@[go_sem] theorem T26 : sys.T 26 = some t26 := rfl
@[go_sem] theorem T27 : sys.T 27 = some t27 := rfl
@[go_sem] theorem T28 : sys.T 28 = some t28 := rfl
@[go_sem] theorem T29 : sys.T 29 = some t29 := rfl
@[go_sem] theorem T30 : sys.T 30 = some t30 := rfl
@[go_sem] theorem T31 : sys.T 31 = some t31 := rfl
@[go_sem] theorem T32 : sys.T 32 = some t32 := rfl
@[go_sem] theorem T33 : sys.T 33 = some t33 := rfl
@[go_sem] theorem T34 : sys.T 34 = some t34 := rfl
@[go_sem] theorem T35 : sys.T 35 = some t35 := rfl
@[go_sem] theorem T36 : sys.T 36 = some t36 := rfl
@[go_sem] theorem T37 : sys.T 37 = some t37 := rfl
@[go_sem] theorem T39 : sys.T 39 = some t39 := rfl
@[go_sem] theorem T40 : sys.T 40 = some t40 := rfl
@[go_sem] theorem T41 : sys.T 41 = some t41 := rfl
@[go_sem] theorem T42 : sys.T 42 = some t42 := rfl
@[go_sem] theorem T43 : sys.T 43 = some t43 := rfl
@[go_sem] theorem T44 : sys.T 44 = some t44 := rfl
@[go_sem] theorem T45 : sys.T 45 = some t45 := rfl
@[go_sem] theorem T46 : sys.T 46 = some t46 := rfl
@[go_sem] theorem T47 : sys.T 47 = some t47 := rfl
@[go_sem] theorem T48 : sys.T 48 = some t48 := rfl
@[go_sem] theorem T49 : sys.T 49 = some t49 := rfl
@[go_sem] theorem T50 : sys.T 50 = some t50 := rfl
@[go_sem] theorem T51 : sys.T 51 = some t51 := rfl
@[go_sem] theorem T52 : sys.T 52 = some t52 := rfl
@[go_sem] theorem T53 : sys.T 53 = some t53 := rfl
@[go_sem] theorem T54 : sys.T 54 = some t54 := rfl
@[go_sem] theorem T55 : sys.T 55 = some t55 := rfl
@[go_sem] theorem T56 : sys.T 56 = some t56 := rfl
@[go_sem] theorem T57 : sys.T 57 = some t57 := rfl
@[go_sem] theorem T58 : sys.T 58 = some t58 := rfl
@[go_sem] theorem T59 : sys.T 59 = some t59 := rfl
@[go_sem] theorem T60 : sys.T 60 = some t60 := rfl
@[go_sem] theorem T61 : sys.T 61 = some t61 := rfl
@[go_sem] theorem T62 : sys.T 62 = some t62 := rfl
@[go_sem] theorem T63 : sys.T 63 = some t63 := rfl
@[go_sem] theorem T65 : sys.T 65 = some t65 := rfl
@[go_sem] theorem T66 : sys.T 66 = some t66 := rfl
@[go_sem] theorem T67 : sys.T 67 = some t67 := rfl
@[go_sem] theorem T68 : sys.T 68 = some t68 := rfl
@[go_sem] theorem T70 : sys.T 70 = some t70 := rfl
@[go_sem] theorem T71 : sys.T 71 = some t71 := rfl
@[go_sem] theorem T72 : sys.T 72 = some t72 := rfl
@[go_sem] theorem T73 : sys.T 73 = some t73 := rfl
@[go_sem] theorem T74 : sys.T 74 = some t74 := rfl
@[go_sem] theorem T75 : sys.T 75 = some t75 := rfl
@[go_sem] theorem T76 : sys.T 76 = some t76 := rfl
@[go_sem] theorem T77 : sys.T 77 = some t77 := rfl
@[go_sem] theorem T78 : sys.T 78 = some t78 := rfl
@[go_sem] theorem T79 : sys.T 79 = some t79 := rfl
@[go_sem] theorem T80 : sys.T 80 = some t80 := rfl
@[go_sem] theorem T81 : sys.T 81 = some t81 := rfl
@[go_sem] theorem T82 : sys.T 82 = some t82 := rfl
@[go_sem] theorem T83 : sys.T 83 = some t83 := rfl
@[go_sem] theorem T84 : sys.T 84 = some t84 := rfl
@[go_sem] theorem T85 : sys.T 85 = some t85 := rfl
@[go_sem] theorem T86 : sys.T 86 = some t86 := rfl
@[go_sem] theorem T87 : sys.T 87 = some t87 := rfl
@[go_sem] theorem T88 : sys.T 88 = some t88 := rfl
@[go_sem] theorem T89 : sys.T 89 = some t89 := rfl
@[go_sem] theorem T90 : sys.T 90 = some t90 := rfl
@[go_sem] theorem T91 : sys.T 91 = some t91 := rfl
@[go_sem] theorem T92 : sys.T 92 = some t92 := rfl
@[go_sem] theorem T93 : sys.T 93 = some t93 := rfl
@[go_sem] theorem T94 : sys.T 94 = some t94 := rfl
@[go_sem] theorem T95 : sys.T 95 = some t95 := rfl
@[go_sem] theorem T97 : sys.T 97 = some t97 := rfl
@[go_sem] theorem T98 : sys.T 98 = some t98 := rfl
@[go_sem] theorem T99 : sys.T 99 = some t99 := rfl
@[go_sem] theorem T100 : sys.T 100 = some t100 := rfl
@[go_sem] theorem T101 : sys.T 101 = some t101 := rfl
@[go_sem] theorem T102 : sys.T 102 = some t102 := rfl
@[go_sem] theorem T103 : sys.T 103 = some t103 := rfl
@[go_sem] theorem T104 : sys.T 104 = some t104 := rfl
@[go_sem] theorem T105 : sys.T 105 = some t105 := rfl
@[go_sem] theorem T106 : sys.T 106 = some t106 := rfl
@[go_sem] theorem T107 : sys.T 107 = some t107 := rfl
@[go_sem] theorem T108 : sys.T 108 = some t108 := rfl
@[go_sem] theorem T110 : sys.T 110 = some t110 := rfl
@[go_sem] theorem T111 : sys.T 111 = some t111 := rfl
@[go_sem] theorem T112 : sys.T 112 = some t112 := rfl
@[go_sem] theorem T113 : sys.T 113 = some t113 := rfl
@[go_sem] theorem T114 : sys.T 114 = some t114 := rfl
@[go_sem] theorem T115 : sys.T 115 = some t115 := rfl
@[go_sem] theorem T116 : sys.T 116 = some t116 := rfl
@[go_sem] theorem T117 : sys.T 117 = some t117 := rfl
@[go_sem] theorem T118 : sys.T 118 = some t118 := rfl
@[go_sem] theorem T119 : sys.T 119 = some t119 := rfl
@[go_sem] theorem T120 : sys.T 120 = some t120 := rfl
@[go_sem] theorem T121 : sys.T 121 = some t121 := rfl
@[go_sem] theorem T122 : sys.T 122 = some t122 := rfl
@[go_sem] theorem T123 : sys.T 123 = some t123 := rfl
@[go_sem] theorem T124 : sys.T 124 = some t124 := rfl
@[go_sem] theorem T125 : sys.T 125 = some t125 := rfl
@[go_sem] theorem T126 : sys.T 126 = some t126 := rfl
@[go_sem] theorem T127 : sys.T 127 = some t127 := rfl
@[go_sem] theorem T128 : sys.T 128 = some t128 := rfl
@[go_sem] theorem T129 : sys.T 129 = some t129 := rfl
@[go_sem] theorem T130 : sys.T 130 = some t130 := rfl
@[go_sem] theorem T132 : sys.T 132 = some t132 := rfl
@[go_sem] theorem T133 : sys.T 133 = some t133 := rfl
@[go_sem] theorem T134 : sys.T 134 = some t134 := rfl
@[go_sem] theorem T135 : sys.T 135 = some t135 := rfl
@[go_sem] theorem T136 : sys.T 136 = some t136 := rfl
@[go_sem] theorem T137 : sys.T 137 = some t137 := rfl
@[go_sem] theorem T138 : sys.T 138 = some t138 := rfl
@[go_sem] theorem T139 : sys.T 139 = some t139 := rfl
@[go_sem] theorem T140 : sys.T 140 = some t140 := rfl
@[go_sem] theorem T141 : sys.T 141 = some t141 := rfl
@[go_sem] theorem T142 : sys.T 142 = some t142 := rfl
@[go_sem] theorem T143 : sys.T 143 = some t143 := rfl
@[go_sem] theorem T144 : sys.T 144 = some t144 := rfl
@[go_sem] theorem T145 : sys.T 145 = some t145 := rfl
@[go_sem] theorem T146 : sys.T 146 = some t146 := rfl
@[go_sem] theorem T147 : sys.T 147 = some t147 := rfl
@[go_sem] theorem T148 : sys.T 148 = some t148 := rfl
@[go_sem] theorem T149 : sys.T 149 = some t149 := rfl
@[go_sem] theorem T150 : sys.T 150 = some t150 := rfl
@[go_sem] theorem T151 : sys.T 151 = some t151 := rfl
@[go_sem] theorem T152 : sys.T 152 = some t152 := rfl
@[go_sem] theorem T153 : sys.T 153 = some t153 := rfl
@[go_sem] theorem T154 : sys.T 154 = some t154 := rfl
@[go_sem] theorem T155 : sys.T 155 = some t155 := rfl
@[go_sem] theorem T156 : sys.T 156 = some t156 := rfl
@[go_sem] theorem T157 : sys.T 157 = some t157 := rfl
@[go_sem] theorem T158 : sys.T 158 = some t158 := rfl
@[go_sem] theorem T159 : sys.T 159 = some t159 := rfl
@[go_sem] theorem T160 : sys.T 160 = some t160 := rfl
@[go_sem] theorem T161 : sys.T 161 = some t161 := rfl
@[go_sem] theorem T162 : sys.T 162 = some t162 := rfl
@[go_sem] theorem T163 : sys.T 163 = some t163 := rfl
@[go_sem] theorem T164 : sys.T 164 = some t164 := rfl
@[go_sem] theorem T165 : sys.T 165 = some t165 := rfl
@[go_sem] theorem T166 : sys.T 166 = some t166 := rfl
@[go_sem] theorem T167 : sys.T 167 = some t167 := rfl
@[go_sem] theorem T169 : sys.T 169 = some t169 := rfl
@[go_sem] theorem T170 : sys.T 170 = some t170 := rfl
@[go_sem] theorem T171 : sys.T 171 = some t171 := rfl
@[go_sem] theorem T172 : sys.T 172 = some t172 := rfl
@[go_sem] theorem T173 : sys.T 173 = some t173 := rfl
@[go_sem] theorem T174 : sys.T 174 = some t174 := rfl
@[go_sem] theorem T175 : sys.T 175 = some t175 := rfl
@[go_sem] theorem T176 : sys.T 176 = some t176 := rfl
@[go_sem] theorem T177 : sys.T 177 = some t177 := rfl
@[go_sem] theorem T179 : sys.T 179 = some t179 := rfl
@[go_sem] theorem T180 : sys.T 180 = some t180 := rfl
@[go_sem] theorem T181 : sys.T 181 = some t181 := rfl
@[go_sem] theorem T182 : sys.T 182 = some t182 := rfl
@[go_sem] theorem T183 : sys.T 183 = some t183 := rfl
@[go_sem] theorem T185 : sys.T 185 = some t185 := rfl
@[go_sem] theorem T186 : sys.T 186 = some t186 := rfl
@[go_sem] theorem T187 : sys.T 187 = some t187 := rfl
@[go_sem] theorem T188 : sys.T 188 = some t188 := rfl
@[go_sem] theorem T189 : sys.T 189 = some t189 := rfl
@[go_sem] theorem T190 : sys.T 190 = some t190 := rfl
@[go_sem] theorem T192 : sys.T 192 = some t192 := rfl
@[go_sem] theorem T193 : sys.T 193 = some t193 := rfl
@[go_sem] theorem T194 : sys.T 194 = some t194 := rfl
@[go_sem] theorem T195 : sys.T 195 = some t195 := rfl
@[go_sem] theorem T196 : sys.T 196 = some t196 := rfl
@[go_sem] theorem T197 : sys.T 197 = some t197 := rfl
@[go_sem] theorem T198 : sys.T 198 = some t198 := rfl
@[go_sem] theorem T199 : sys.T 199 = some t199 := rfl
@[go_sem] theorem T200 : sys.T 200 = some t200 := rfl
@[go_sem] theorem T201 : sys.T 201 = some t201 := rfl
@[go_sem] theorem T203 : sys.T 203 = some t203 := rfl
@[go_sem] theorem T204 : sys.T 204 = some t204 := rfl
@[go_sem] theorem T205 : sys.T 205 = some t205 := rfl
@[go_sem] theorem T206 : sys.T 206 = some t206 := rfl
@[go_sem] theorem T207 : sys.T 207 = some t207 := rfl
@[go_sem] theorem T208 : sys.T 208 = some t208 := rfl
@[go_sem] theorem T209 : sys.T 209 = some t209 := rfl
@[go_sem] theorem T210 : sys.T 210 = some t210 := rfl
@[go_sem] theorem T211 : sys.T 211 = some t211 := rfl
@[go_sem] theorem T212 : sys.T 212 = some t212 := rfl
@[go_sem] theorem T213 : sys.T 213 = some t213 := rfl
@[go_sem] theorem T214 : sys.T 214 = some t214 := rfl
@[go_sem] theorem T215 : sys.T 215 = some t215 := rfl
@[go_sem] theorem T216 : sys.T 216 = some t216 := rfl
@[go_sem] theorem T217 : sys.T 217 = some t217 := rfl
@[go_sem] theorem T218 : sys.T 218 = some t218 := rfl
@[go_sem] theorem T219 : sys.T 219 = some t219 := rfl
@[go_sem] theorem T220 : sys.T 220 = some t220 := rfl
@[go_sem] theorem T221 : sys.T 221 = some t221 := rfl
@[go_sem] theorem T222 : sys.T 222 = some t222 := rfl
@[go_sem] theorem T223 : sys.T 223 = some t223 := rfl
@[go_sem] theorem T224 : sys.T 224 = some t224 := rfl
@[go_sem] theorem T225 : sys.T 225 = some t225 := rfl
@[go_sem] theorem T226 : sys.T 226 = some t226 := rfl
@[go_sem] theorem T227 : sys.T 227 = some t227 := rfl
@[go_sem] theorem T228 : sys.T 228 = some t228 := rfl
@[go_sem] theorem T230 : sys.T 230 = some t230 := rfl
@[go_sem] theorem T231 : sys.T 231 = some t231 := rfl
@[go_sem] theorem T232 : sys.T 232 = some t232 := rfl
@[go_sem] theorem T233 : sys.T 233 = some t233 := rfl
@[go_sem] theorem T234 : sys.T 234 = some t234 := rfl
@[go_sem] theorem T235 : sys.T 235 = some t235 := rfl
@[go_sem] theorem T236 : sys.T 236 = some t236 := rfl
@[go_sem] theorem T238 : sys.T 238 = some t238 := rfl
@[go_sem] theorem T240 : sys.T 240 = some t240 := rfl
@[go_sem] theorem T241 : sys.T 241 = some t241 := rfl
@[go_sem] theorem T242 : sys.T 242 = some t242 := rfl
@[go_sem] theorem T243 : sys.T 243 = some t243 := rfl
@[go_sem] theorem T245 : sys.T 245 = some t245 := rfl
@[go_sem] theorem T246 : sys.T 246 = some t246 := rfl
@[go_sem] theorem T247 : sys.T 247 = some t247 := rfl
@[go_sem] theorem T248 : sys.T 248 = some t248 := rfl
@[go_sem] theorem T249 : sys.T 249 = some t249 := rfl
@[go_sem] theorem T250 : sys.T 250 = some t250 := rfl
@[go_sem] theorem T251 : sys.T 251 = some t251 := rfl
@[go_sem] theorem T252 : sys.T 252 = some t252 := rfl
@[go_sem] theorem T253 : sys.T 253 = some t253 := rfl
@[go_sem] theorem T254 : sys.T 254 = some t254 := rfl
@[go_sem] theorem T255 : sys.T 255 = some t255 := rfl
@[go_sem] theorem T256 : sys.T 256 = some t256 := rfl
@[go_sem] theorem T257 : sys.T 257 = some t257 := rfl
@[go_sem] theorem T258 : sys.T 258 = some t258 := rfl
@[go_sem] theorem T259 : sys.T 259 = some t259 := rfl
@[go_sem] theorem T260 : sys.T 260 = some t260 := rfl
@[go_sem] theorem T262 : sys.T 262 = some t262 := rfl
@[go_sem] theorem T263 : sys.T 263 = some t263 := rfl
@[go_sem] theorem T264 : sys.T 264 = some t264 := rfl
@[go_sem] theorem T265 : sys.T 265 = some t265 := rfl
@[go_sem] theorem T266 : sys.T 266 = some t266 := rfl
@[go_sem] theorem T268 : sys.T 268 = some t268 := rfl
@[go_sem] theorem T269 : sys.T 269 = some t269 := rfl
@[go_sem] theorem T270 : sys.T 270 = some t270 := rfl
@[go_sem] theorem T271 : sys.T 271 = some t271 := rfl
@[go_sem] theorem T273 : sys.T 273 = some t273 := rfl
@[go_sem] theorem T275 : sys.T 275 = some t275 := rfl
@[go_sem] theorem T276 : sys.T 276 = some t276 := rfl
@[go_sem] theorem T278 : sys.T 278 = some t278 := rfl
@[go_sem] theorem T279 : sys.T 279 = some t279 := rfl
@[go_sem] theorem T280 : sys.T 280 = some t280 := rfl
@[go_sem] theorem T281 : sys.T 281 = some t281 := rfl
@[go_sem] theorem T283 : sys.T 283 = some t283 := rfl
@[go_sem] theorem T284 : sys.T 284 = some t284 := rfl
@[go_sem] theorem T288 : sys.T 288 = some t288 := rfl
@[go_sem] theorem T289 : sys.T 289 = some t289 := rfl
@[go_sem] theorem T290 : sys.T 290 = some t290 := rfl
@[go_sem] theorem T293 : sys.T 293 = some t293 := rfl
@[go_sem] theorem T294 : sys.T 294 = some t294 := rfl
@[go_sem] theorem T295 : sys.T 295 = some t295 := rfl
@[go_sem] theorem T296 : sys.T 296 = some t296 := rfl
@[go_sem] theorem T297 : sys.T 297 = some t297 := rfl
@[go_sem] theorem T298 : sys.T 298 = some t298 := rfl
@[go_sem] theorem T299 : sys.T 299 = some t299 := rfl
@[go_sem] theorem T300 : sys.T 300 = some t300 := rfl
@[go_sem] theorem T301 : sys.T 301 = some t301 := rfl
@[go_sem] theorem T302 : sys.T 302 = some t302 := rfl
@[go_sem] theorem T303 : sys.T 303 = some t303 := rfl
@[go_sem] theorem T304 : sys.T 304 = some t304 := rfl
@[go_sem] theorem T305 : sys.T 305 = some t305 := rfl
@[go_sem] theorem T306 : sys.T 306 = some t306 := rfl
@[go_sem] theorem T307 : sys.T 307 = some t307 := rfl
attribute [go_sem] t1 t2 t3 t4 t5 t6 t7 t8 t9 t10 t11 t12 t13 t14 t15 t16 t17 t18 t19 t20 t21 t22 t23 t24 t25 t26 t27 t28 t29 t30 t31 t32 t33 t34 t35 t36 t37 t39 t40 t41 t42 t43 t44 t45 t46 t47 t48 t49 t50 t51 t52 t53 t54 t55 t56 t57 t58 t59 t60 t61 t62 t63 t65 t66 t67 t68 t70 t71 t72 t73 t74 t75 t76 t77 t78 t79 t80 t81 t82 t83 t84 t85 t86 t87 t88 t89 t90 t91 t92 t93 t94 t95 t97 t98 t99 t100 t101 t102 t103 t104 t105 t106 t107 t108 t110 t111 t112 t113 t114 t115 t116 t117 t118 t119 t120 t121 t122 t123 t124 t125 t126 t127 t128 t129 t130 t132 t133 t134 t135 t136 t137 t138 t139 t140 t141 t142 t143 t144 t145 t146 t147 t148 t149 t150 t151 t152 t153 t154 t155 t156 t157 t158 t159 t160 t161 t162 t163 t164 t165 t166 t167 t169 t170 t171 t172 t173 t174 t175 t176 t177 t179 t180 t181 t182 t183 t185 t186 t187 t188 t189 t190 t192 t193 t194 t195 t196 t197 t198 t199 t200 t201 t203 t204 t205 t206 t207 t208 t209 t210 t211 t212 t213 t214 t215 t216 t217 t218 t219 t220 t221 t222 t223 t224 t225 t226 t227 t228 t230 t231 t232 t233 t234 t235 t236 t238 t240 t241 t242 t243 t245 t246 t247 t248 t249 t250 t251 t252 t253 t254 t255 t256 t257 t258 t259 t260 t262 t263 t264 t265 t266 t268 t269 t270 t271 t273 t275 t276 t278 t279 t280 t281 t283 t284 t288 t289 t290 t293 t294 t295 t296 t297 t298 t299 t300 t301 t302 t303 t304 t305 t306 t307
end Go.Proofs.YtjgooecohepkoaaGreatDoor
namespace Go.Proofs.YtjgooecohepkoaaGreatDoor
open Go Go.Abs
set_option linter.unusedSimpArgs false
set_option maxHeartbeats 2000000
/-- A list of numbers, as data. -/
@[go_sem] def ints (L : List Int) : D := .sl (L.map fun x => [.v (.int .i64 x)]) 1
def nextV (L : List Int) (k : Nat) (n : Int) : Int := match L[k]? with | none => 0 | some x => (x.tmod n + n).tmod n
def nextK (L : List Int) (k : Nat) : Nat := if k < L.length then k + 1 else k
@[go_sem] def numBox (L : List Int) (k : Nat) : AO := .box [ints L, .v (.int .i64 k)]
theorem f49_ok (L : List Int) (k : Nat) (hk : k ≤ L.length) (n : Int) (h1 : 1 ≤ n) (h2 : n ≤ 4000000000000000) :
    FnOK sys 49 [.ref 0 0, .v (.int .i64 n)] [(0, numBox L k)] (.v (.int .i64 (nextV L k n))) [(0, numBox L (nextK L k))] := by
  refine FnOK.intro Tryz.f49 (by kernel_rfl) rfl rfl [.tmp 4] rfl 1 rfl (Nat.le_of_ble_eq_true rfl) rfl rfl fun E hN h0 => W.boundS 0 (i := 0) rfl rfl fun hb => W.code (N := 43) [] hN ?_
  simp only [List.length_map, maxLen] at hb
  have hn : ¬ n < 1 := by omega
  by_cases hlt : k < L.length
  · have e1 : ¬ ((L.length : Int) ≤ k) := by omega
    obtain ⟨x, hx⟩ : ∃ x, L[k]? = some x := ⟨_, List.getElem?_eq_getElem hlt⟩
    have w1 : IntKind.wrap .i64 ((k : Int) + 1) = ((k + 1 : Nat) : Int) := wrapTo (by omega)
    have w2 : IntKind.wrap .i64 (((k + 1 : Nat) : Int) - 1) = (k : Int) := wrapTo (by omega)
    have b1 : -n < x.tmod n ∧ x.tmod n < n := by
      have q1 := Int.tmod_lt_of_pos x (show 0 < n by omega)
      have q2 := Int.lt_tmod_of_pos x (show 0 < n by omega)
      exact ⟨q2, q1⟩
    have w3 : IntKind.wrap .i64 (x.tmod n + n) = x.tmod n + n := wrapTo (by omega)
    have hn0 : ¬ n = 0 := by omega
    repeat (first | refine st_end rfl ?_ | ((first | refine st1 fun K k => ?_ | refine st2 fun K k => ?_ | refine st3 rfl fun K k => ?_ | refine st4 fun K k => ?_); simp only [go_sem, e1, hn, decide_false, decide_true, w1, w2, hx, hn0, w3]; refine k _ _ _ _ _ _ ?_; clear k K))
    refine ⟨.inr rfl, _, Into.refl, rfl, [(0, 0)], 1, rfl, ?_, ?_, rfl⟩
    · simp only [go_sem, nextV, hx]
    · simp only [go_sem, subS, subO, nextK, hlt]
  · have e1 : ((L.length : Int) ≤ k) := by omega
    repeat (first | refine st_end rfl ?_ | ((first | refine st1 fun K k => ?_ | refine st2 fun K k => ?_ | refine st3 rfl fun K k => ?_ | refine st4 fun K k => ?_); simp only [go_sem, e1, hn, decide_false, decide_true]; refine k _ _ _ _ _ _ ?_; clear k K))
    refine ⟨.inr rfl, _, Into.refl, rfl, [(0, 0)], 1, rfl, ?_, ?_, rfl⟩
    · simp only [go_sem, nextV, List.getElem?_eq_none (Nat.le_of_not_lt hlt)]
    · simp only [go_sem, subS, subO, nextK, hlt]
end Go.Proofs.YtjgooecohepkoaaGreatDoor
namespace Go.Proofs.YtjgooecohepkoaaGreatDoor
open Go Go.Abs
set_option linter.unusedSimpArgs false
set_option maxHeartbeats 2000000
/-- A value without columns and rows. -/
structure FV where
  kind : Int
  s : List UInt8
  dn : Int
  ds : Int
  num : Int
@[go_sem] def FV.cells (v : FV) : List D := [.v (.int .i64 v.kind), .s v.s, .v (.int .i64 v.dn), .v (.int .i64 v.ds), .v (.int .i64 v.num), .v (.slice none 0 0), .v (.slice none 0 0)]
def cellV (kind : Int) (m : Nat) : FV :=
  if m = 4 then ⟨0, [], 0, 0, 0⟩
  else if kind = 2 then (match m with | 0 => ⟨2, [], 1, 0, 0⟩ | 1 => ⟨2, [], -25, 1, 0⟩ | 2 => ⟨2, [], 3, 0, 0⟩ | _ => ⟨2, [], 1000000000000000, 0, 0⟩)
  else if kind = 3 then ⟨3, [], 0, 0, 738000 + m⟩
  else (match m with | 0 => ⟨1, [82, 111, 109, 101], 0, 0, 0⟩ | 1 => ⟨1, [79, 115, 108, 111], 0, 0, 0⟩ | 2 => ⟨1, [66, 101, 114, 103, 101, 110], 0, 0, 0⟩ | _ => ⟨1, [105, 116], 0, 0, 0⟩)
def mod5 (n : Int) : Nat := ((n.tmod 5 + 5).tmod 5).toNat
theorem f13_ok (kind n : Int) : FnOK sys 13 [.v (.int .i64 kind), .v (.int .i64 n)] [] (.agg (cellV kind (mod5 n)).cells) [] := by
  refine FnOK.intro Tryz.f13 (by kernel_rfl) rfl rfl [.cell 4 33] rfl 0 rfl (Nat.le_of_ble_eq_true rfl) rfl rfl fun E hN h0 => W.code (N := 36) [20, 31] hN ?_
  have b1 : -5 < n.tmod 5 ∧ n.tmod 5 < 5 := ⟨Int.lt_tmod_of_pos n (by omega), Int.tmod_lt_of_pos n (by omega)⟩
  have b2 := Int.tmod_nonneg 5 (show 0 ≤ n.tmod 5 + 5 by omega)
  have b3 := Int.tmod_lt_of_pos (n.tmod 5 + 5) (show (0 : Int) < 5 by omega)
  have w1 : IntKind.wrap .i64 (n.tmod 5 + 5) = n.tmod 5 + 5 := wrapTo (by omega)
  have hm : mod5 n = ((n.tmod 5 + 5).tmod 5).toNat := rfl
  have hcase : (n.tmod 5 + 5).tmod 5 = 0 ∨ (n.tmod 5 + 5).tmod 5 = 1 ∨ (n.tmod 5 + 5).tmod 5 = 2 ∨ (n.tmod 5 + 5).tmod 5 = 3 ∨ (n.tmod 5 + 5).tmod 5 = 4 := by omega
  by_cases h2 : kind = 2
  · subst h2
    rcases hcase with h | h | h | h | h <;> rw [h] at hm <;> rw [hm] <;>
    · repeat (first | refine st_end rfl ?_ | ((first | refine st1 fun K k => ?_ | refine st2 fun K k => ?_ | refine st3 rfl fun K k => ?_ | refine st4 fun K k => ?_); simp only [go_sem, w1, h, Int.reduceEq, Int.reduceBEq, Int.reduceLE]; refine k _ _ _ _ _ _ ?_; clear k K))
      refine Done.mk (.inr rfl) Into.refl rfl [] 0 rfl ?_ trivial rfl
      simp only [go_sem, cellV, FV.cells, Int.toNat, Int.reduceEq]
      try rfl
  · by_cases h3 : kind = 3
    · subst h3
      rcases hcase with h | h | h | h | h <;> rw [h] at hm <;> rw [hm] <;>
      · have w2 : IntKind.wrap .i64 (738000 + (n.tmod 5 + 5).tmod 5) = 738000 + (n.tmod 5 + 5).tmod 5 := wrapTo (by omega)
        rw [h] at w2
        repeat (first | refine st_end rfl ?_ | ((first | refine st1 fun K k => ?_ | refine st2 fun K k => ?_ | refine st3 rfl fun K k => ?_ | refine st4 fun K k => ?_); simp only [go_sem, w1, w2, h, Int.reduceEq, Int.reduceBEq, Int.reduceLE]; refine k _ _ _ _ _ _ ?_; clear k K))
        refine Done.mk (.inr rfl) Into.refl rfl [] 0 rfl ?_ trivial rfl
        simp only [go_sem, cellV, FV.cells, Int.toNat, Int.reduceEq]
        try rfl
    · have e2 : (kind == 2) = false := by simpa using h2
      have e3 : (kind == 3) = false := by simpa using h3
      rcases hcase with h | h | h | h | h <;> rw [h] at hm <;> rw [hm] <;>
      · repeat (first | refine st_end rfl ?_ | ((first | refine st1 fun K k => ?_ | refine st2 fun K k => ?_ | refine st3 rfl fun K k => ?_ | refine st4 fun K k => ?_); simp only [go_sem, w1, h, e2, e3, Int.reduceEq, Int.reduceBEq, Int.reduceLE]; refine k _ _ _ _ _ _ ?_; clear k K))
        refine Done.mk (.inr rfl) Into.refl rfl [] 0 rfl ?_ trivial rfl
        simp only [go_sem, cellV, FV.cells, h2, h3, Int.toNat]
        try rfl
end Go.Proofs.YtjgooecohepkoaaGreatDoor
namespace Go.Proofs.YtjgooecohepkoaaGreatDoor
open Go Go.Abs
set_option linter.unusedSimpArgs false
set_option maxHeartbeats 2000000
/-- The number that is drawn as the i-th one. -/
theorem nextV_min (L : List Int) (i : Nat) (n : Int) : nextV L (min i L.length) n = nextV L i n := by
  unfold nextV
  by_cases h : i < L.length
  · rw [Nat.min_eq_left (by omega)]
  · rw [Nat.min_eq_right (by omega), List.getElem?_eq_none (Nat.le_refl _), List.getElem?_eq_none (by omega)]
theorem nextK_min (L : List Int) (i : Nat) : nextK L (min i L.length) = min (i + 1) L.length := by
  unfold nextK
  split <;> omega
theorem nextV_pos (L : List Int) (i : Nat) {n : Int} (h : 1 ≤ n) : 0 ≤ nextV L i n ∧ nextV L i n < n := by
  unfold nextV
  split
  · omega
  · rename_i x _
    have q1 := Int.tmod_lt_of_pos x (show 0 < n by omega)
    have q2 := Int.lt_tmod_of_pos x (show 0 < n by omega)
    exact ⟨Int.tmod_nonneg n (by omega), Int.tmod_lt_of_pos _ (by omega)⟩
/-- Next, at the i-th number. -/
theorem f49_at (L : List Int) (i : Nat) (n : Int) (h1 : 1 ≤ n) (h2 : n ≤ 4000000000000000) :
    FnOK sys 49 [.ref 0 0, .v (.int .i64 n)] [(0, numBox L (min i L.length))] (.v (.int .i64 (nextV L i n))) [(0, numBox L (min (i + 1) L.length))] := by
  have := f49_ok L (min i L.length) (Nat.min_le_right _ _) n h1 h2
  rwa [nextV_min, nextK_min] at this

theorem call49 {S : Store} {nx : Nat} {K : KT} (l : Nat) (L : List Int) (i : Nat) {n : Int} (hl : Abs.look S l = some (numBox L (min i L.length))) (h1 : 1 ≤ n) (h2 : n ≤ 4000000000000000)
    (hK : K (.v (.int .i64 (nextV L i n))) (putS (delS S l) l (numBox L (min (i + 1) L.length))) nx [l] [l, l]) : CallRes sys 49 [.ref l 0, .v (.int .i64 n)] S nx K := by
  refine callT (FnOK.ren (args' := [.ref l 0, .v (.int .i64 n)]) [(l, 0)] (f49_at L i n h1 h2) rfl ?_ ?_ ?_) nx ?_ (Nat.le_refl _) ?_ ?_
  · simp [subL, subD, preOf, oldOf, idP, Abs.look]
  · simp [mapS, subO, subL, subD, newOf, numBox, ints]
  · simp [newOf]
  · simp [weakS, subS, subO, subL, subD, newOf, numBox, ints, Abs.look, hl]
  · simp [newIn, subS, Abs.look, subO, subL, subD, numBox, ints]
  · simpa [subS, Abs.look, subO, subL, subD, numBox, ints, namesL, putAll, delAll] using hK
def mMany (L : List Int) : Nat := 1 + (nextV L 0 4).toNat
def kinds4 : List Int := [1, 2, 1, 3]
def mKind (L : List Int) (j : Nat) : Int := if j = 0 then 1 else kinds4.getD ((j + 2 * (nextV L (1 + j) 2).toNat) % 4) 1
def names4 : List (List UInt8) := [[99, 105, 116, 121], [122, 105, 112], [99, 111, 117, 110, 116, 114, 121], [115, 105, 110, 99, 101]]
def mRows (L : List Int) : Nat := (nextV L (1 + mMany L) 7).toNat
def mCell (L : List Int) (r j : Nat) : FV := cellV (mKind L j) (mod5 (nextV L (2 + mMany L + r * mMany L + j) 5))
@[go_sem] def strsD (l : List (List UInt8)) : D := .sl (l.map fun s => [.s s]) 1
@[go_sem] def rowD (r : List FV) : D := .sl (r.map FV.cells) 7
@[go_sem] def rowsD (rs : List (List FV)) : D := .sl (rs.map fun r => [rowD r]) 1
def mRow (L : List Int) (r : Nat) : List FV := (List.range (mMany L)).map (mCell L r)
def mKind0 (L : List Int) (j : Nat) : Int := kinds4.getD ((j + 2 * (nextV L (1 + j) 2).toNat) % 4) 1
theorem names4_at {j : Nat} (h : j < 4) : ([[.s [99, 105, 116, 121]], [.s [122, 105, 112]], [.s [99, 111, 117, 110, 116, 114, 121]], [.s [115, 105, 110, 99, 101]]] : List (List D))[j]? = some [.s (names4.getD j [])] := by
  rcases j with _ | _ | _ | _ | j <;> first | rfl | omega
theorem kinds4_at {j : Nat} (h : j < 4) : ([[.v (.int .i64 1)], [.v (.int .i64 2)], [.v (.int .i64 1)], [.v (.int .i64 3)]] : List (List D))[j]? = some [.v (.int .i64 (kinds4.getD j 1))] := by
  rcases j with _ | _ | _ | _ | j <;> first | rfl | omega
theorem f12_ok (name : List UInt8) (L : List Int) : FnOK sys 12 [.s name, ints L] [] (.agg [.s name, strsD (names4.take (mMany L)), rowsD ((List.range (mRows L)).map (mRow L))]) [] := by
  refine FnOK.intro Tryz.f12 (by kernel_rfl) rfl rfl [.cell 4 28] rfl 0 rfl (Nat.le_of_ble_eq_true rfl) rfl rfl fun E hN h0 => W.code (N := 79) [29, 33, 37, 46, 70, 75] hN ?_
  repeat (first | refine st_end rfl ?_ | ((first | refine st1 fun K k => ?_ | refine st2 fun K k => ?_ | refine st3 rfl fun K k => ?_ | refine st4 fun K k => ?_); simp only [go_sem]; refine k _ _ _ _ _ _ ?_; clear k K))
  refine st_op fun K k => ?_
  simp only [go_sem]
  refine call49 1 L 0 (by simp only [go_sem]; simp) (by omega) (by omega) ?_
  simp only [go_sem]
  refine k _ _ _ _ _ ?_; clear k K
  obtain ⟨b1, b2⟩ := nextV_pos L 0 (n := 4) (by omega)
  have w1 : IntKind.wrap .i64 (1 + nextV L 0 4) = (mMany L : Int) := wrapTo (by unfold mMany; omega)
  repeat (first | refine st_end rfl ?_ | ((first | refine st1 fun K k => ?_ | refine st2 fun K k => ?_ | refine st3 rfl fun K k => ?_ | refine st4 fun K k => ?_); simp only [go_sem, w1]; refine k _ _ _ _ _ _ ?_; clear k K))
  have hmany : mMany L ≤ 4 := by unfold mMany; omega
  refine W.loopP (fun j : Nat => ⟨[(4, .ref 0 0), (5, .ref 1 0), (6, .ref 2 0), (7, .v (.int .i64 (mMany L))), (8, .own 4 j), (9, .v (.int .i64 j))],
      [(0, .box [.s [], .v (.slice none 0 0), .v (.slice none 0 0)]), (1, numBox L (min (1 + j) L.length)), (2, .box [.s name, .own 3 j, .v (.slice none 0 0)]),
        (3, .row 9 1 ((names4.take j).map fun s => [.s s])), (4, .row 3 1 ((List.range j).map fun i => [.v (.int .i64 (mKind0 L i))]))], 5, []⟩)
    (fun j => j ≤ mMany L) (fun j => mMany L - j) 0 (Nat.zero_le _)
    ((Into.nilCell 2 1 9 1 rfl rfl).trans ((Into.nilRow 8 3 1 rfl).trans (Into.le ?_ ?_ (Nat.le_refl _) rfl))) fun j hj => W.code (N := 79) [29, 33, 37, 46, 70, 75] hN ?_
  · simp only [go_sem]
    exact LeD.refl _
  · simp only [go_sem]
    exact LeO.refl _
  repeat (first | refine st_end rfl ?_ | ((first | refine st1 fun K k => ?_ | refine st2 fun K k => ?_ | refine st3 rfl fun K k => ?_ | refine st4 fun K k => ?_); simp only [go_sem]; refine k _ _ _ _ _ _ ?_; clear k K))
  refine st_cond fun A B a b => ?_; simp only [go_sem]; refine ⟨fun g => a ?_, fun g => b ?_⟩ <;> clear a b A B
  · have hj4 : j < 4 := by omega
    have e1 : (List.take j names4).length = j := by simp [names4]; omega
    have e2 : j + 1 ≤ maxLen := by unfold maxLen; omega
    have e3 : (j + 1) * 16 ≤ 140737488355328 := by omega
    have e4 : (j + 1) * 8 ≤ 140737488355328 := by omega
    repeat (first | refine st_end rfl ?_ | ((first | refine st1 fun K k => ?_ | refine st2 fun K k => ?_ | refine st3 rfl fun K k => ?_ | refine st4 fun K k => ?_); simp only [go_sem, names4_at hj4, e1, e2, e3]; refine k _ _ _ _ _ _ ?_; clear k K))
    refine st_op fun K k => ?_
    simp only [go_sem]
    refine call49 1 L (1 + j) (by simp only [go_sem]) (by omega) (by omega) ?_
    simp only [go_sem]
    refine k _ _ _ _ _ ?_; clear k K
    obtain ⟨c1, c2⟩ := nextV_pos L (1 + j) (n := 2) (by omega)
    obtain ⟨x, hx⟩ : ∃ x : Nat, nextV L (1 + j) 2 = x := ⟨_, (Int.toNat_of_nonneg c1).symm⟩
    have hx2 : (nextV L (1 + j) 2).toNat = x := by omega
    have w2 : IntKind.wrap .i64 (nextV L (1 + j) 2 * 2) = ((2 * x : Nat) : Int) := wrapTo (by omega)
    have w3 : IntKind.wrap .i64 ((j : Int) + ((2 * x : Nat) : Int)) = ((j + 2 * x : Nat) : Int) := wrapTo (by omega)
    have w4 : ((j + 2 * x : Nat) : Int).tmod 4 = (((j + 2 * x) % 4 : Nat) : Int) := rfl
    have w5 : IntKind.wrap .i64 ((j : Int) + 1) = ((j + 1 : Nat) : Int) := wrapTo (by omega)
    repeat (first | refine st_end rfl ?_ | ((first | refine st1 fun K k => ?_ | refine st2 fun K k => ?_ | refine st3 rfl fun K k => ?_ | refine st4 fun K k => ?_); simp only [go_sem, w2, w3, w4, w5, kinds4_at (Nat.mod_lt (j + 2 * x) (show 0 < 4 by omega)), List.length_range, e2, e4, e1]; refine k _ _ _ _ _ _ ?_; clear k K))
    refine ⟨j + 1, by omega, by omega, (Into.ren h0 [(0, 0), (1, 1), (2, 2), (3, 5), (4, 6)] 5 rfl).trans (Into.le ?_ ?_ (Nat.le_refl _) rfl)⟩
    · simp only [go_sem, newOf]
    · have e5 : names4.take (j + 1) = names4.take j ++ [names4.getD j []] := by
        rcases j with _ | _ | _ | _ | j <;> first | rfl | omega
      have e6 : mKind0 L j = kinds4.getD ((j + 2 * x) % 4) 1 := by unfold mKind0; rw [hx2]
      simp only [go_sem, newOf, e5, e6, Nat.add_assoc, List.range_succ]
  · obtain rfl : j = mMany L := by omega
    have hm1 : 1 ≤ mMany L := by unfold mMany; omega
    have hget : (List.range (mMany L))[0]? = some 0 := by
      rw [List.getElem?_range (by omega)]
    have hlt0 : (0 : Int) < (mMany L : Int) := by omega
    refine iq Into.refl ?_
    repeat (first | refine st_end rfl ?_ | ((first | refine st1 fun K k => ?_ | refine st2 fun K k => ?_ | refine st3 rfl fun K k => ?_ | refine st4 fun K k => ?_); simp only [go_sem, hget, hlt0]; refine k _ _ _ _ _ _ ?_; clear k K))
    refine st_op fun K k => ?_
    simp only [go_sem]
    refine call49 1 L (1 + mMany L) (by simp only [go_sem]) (by omega) (by omega) ?_
    simp only [go_sem]
    refine k _ _ _ _ _ ?_; clear k K
    obtain ⟨d1, d2⟩ := nextV_pos L (1 + mMany L) (n := 7) (by omega)
    have d3 : nextV L (1 + mMany L) 7 = (mRows L : Int) := (Int.toNat_of_nonneg d1).symm
    repeat (first | refine st_end rfl ?_ | ((first | refine st1 fun K k => ?_ | refine st2 fun K k => ?_ | refine st3 rfl fun K k => ?_ | refine st4 fun K k => ?_); simp only [go_sem, d3]; refine k _ _ _ _ _ _ ?_; clear k K))
    have hkinds : (List.map (fun i => [D.v (.int .i64 (mKind0 L i))]) (List.range (mMany L))).set 0 [.v (.int .i64 1)] = (List.range (mMany L)).map fun i => [D.v (.int .i64 (mKind L i))] := by
      refine List.ext_getElem? fun q => ?_
      rw [List.getElem?_set]
      by_cases hq : 0 = q
      · subst hq; simp [hget, mKind]; omega
      · rw [if_neg hq]
        simp only [List.getElem?_map]
        by_cases hqm : q < mMany L
        · rw [List.getElem?_range hqm]; simp [mKind, mKind0, Ne.symm hq]
        · rw [List.getElem?_eq_none (by simpa using hqm)]; rfl
    refine W.loopP (fun r : Nat => ⟨[(4, .ref 0 0), (5, .ref 1 0), (6, .ref 2 0), (7, .v (.int .i64 (mMany L))), (8, .sl ((List.range (mMany L)).map fun i => [.v (.int .i64 (mKind L i))]) 1), (10, .v (.int .i64 (mRows L))), (11, .v (.int .i64 r))],
        [(0, .box [.s [], .v (.slice none 0 0), .v (.slice none 0 0)]), (1, numBox L (min (2 + mMany L + r * mMany L) L.length)), (2, .box [.s name, strsD (names4.take (mMany L)), .own 5 r]),
          (5, .row 45 1 ((List.range r).map fun i => [rowD (mRow L i)]))], 6, []⟩)
      (fun r => r ≤ mRows L) (fun r => mRows L - r) 0 (Nat.zero_le _)
      ((Into.nilCell 2 2 45 1 rfl rfl).trans ((Into.frz [3, 4] ?_).trans (Into.le ?_ ?_ (Nat.le_refl _) rfl))) fun r hr => W.code (N := 79) [29, 33, 37, 46, 70, 75] hN ?_
    · simp only [go_sem]
      rw [hkinds]
      constructor
      · intro e he; obtain ⟨q, _, rfl⟩ := List.mem_map.1 he; rfl
      · intro e he; obtain ⟨q, _, rfl⟩ := List.mem_map.1 he; rfl
    · simp only [go_sem, hkinds, List.length_range]
      exact LeD.refl _
    · have f1 : (List.take (mMany L) names4).length = mMany L := by simp [names4]; omega
      simp only [go_sem, f1]
      have f2 : 1 + mMany L + 1 = 2 + mMany L + 0 * mMany L := by omega
      rw [f2]
      exact ⟨LeO.refl _, LeO.refl _⟩
    repeat (first | refine st_end rfl ?_ | ((first | refine st1 fun K k => ?_ | refine st2 fun K k => ?_ | refine st3 rfl fun K k => ?_ | refine st4 fun K k => ?_); simp only [go_sem]; refine k _ _ _ _ _ _ ?_; clear k K))
    refine st_cond fun A B a b => ?_; simp only [go_sem]; refine ⟨fun g => a ?_, fun g => b ?_⟩ <;> clear a b A B
    · have hr1 : r < mRows L := by omega
      repeat (first | refine st_end rfl ?_ | ((first | refine st1 fun K k => ?_ | refine st2 fun K k => ?_ | refine st3 rfl fun K k => ?_ | refine st4 fun K k => ?_); simp only [go_sem]; refine k _ _ _ _ _ _ ?_; clear k K))
      refine W.loopP (fun j : Nat => ⟨[(4, .ref 0 0), (5, .ref 1 0), (6, .ref 2 0), (7, .v (.int .i64 (mMany L))), (8, .sl ((List.range (mMany L)).map fun i => [.v (.int .i64 (mKind L i))]) 1), (10, .v (.int .i64 (mRows L))), (11, .v (.int .i64 r)), (12, .own 6 j), (13, .v (.int .i64 j))],
          [(0, .box [.s [], .v (.slice none 0 0), .v (.slice none 0 0)]), (1, numBox L (min (2 + mMany L + r * mMany L + j) L.length)), (2, .box [.s name, strsD (names4.take (mMany L)), .own 5 r]),
            (5, .row 45 1 ((List.range r).map fun i => [rowD (mRow L i)])), (6, .row 33 7 ((List.range j).map fun i => (mCell L r i).cells))], 7, []⟩)
        (fun j => j ≤ mMany L) (fun j => mMany L - j) 0 (Nat.zero_le _)
        ((Into.nilRow 12 33 7 rfl).trans (Into.le ?_ ?_ (Nat.le_refl _) rfl)) fun j hj => W.code (N := 79) [29, 33, 37, 46, 70, 75] hN ?_
      · simp only [go_sem]
        exact LeD.refl _
      · simp only [go_sem]
        exact LeO.refl _
      repeat (first | refine st_end rfl ?_ | ((first | refine st1 fun K k => ?_ | refine st2 fun K k => ?_ | refine st3 rfl fun K k => ?_ | refine st4 fun K k => ?_); simp only [go_sem]; refine k _ _ _ _ _ _ ?_; clear k K))
      refine st_cond fun A B a b => ?_; simp only [go_sem]; refine ⟨fun g => a ?_, fun g => b ?_⟩ <;> clear a b A B
      · have hjm : j < mMany L := by omega
        have hk : (List.range (mMany L))[j]? = some j := List.getElem?_range hjm
        repeat (first | refine st_end rfl ?_ | ((first | refine st1 fun K k => ?_ | refine st2 fun K k => ?_ | refine st3 rfl fun K k => ?_ | refine st4 fun K k => ?_); simp only [go_sem, hk]; refine k _ _ _ _ _ _ ?_; clear k K))
        refine st_op fun K k => ?_
        simp only [go_sem]
        refine call49 1 L (2 + mMany L + r * mMany L + j) (by simp only [go_sem]) (by omega) (by omega) ?_
        simp only [go_sem]
        refine k _ _ _ _ _ ?_; clear k K
        refine st_op fun K k => ?_
        simp only [go_sem]
        refine callP (f13_ok _ _) ?_
        refine k _ _ _ _ _ ?_; clear k K
        have e2 : j + 1 ≤ maxLen := by unfold maxLen; omega
        have e3 : (j + 1) * 96 ≤ 140737488355328 := by omega
        have w5 : IntKind.wrap .i64 ((j : Int) + 1) = ((j + 1 : Nat) : Int) := wrapTo (by omega)
        repeat (first | refine st_end rfl ?_ | ((first | refine st1 fun K k => ?_ | refine st2 fun K k => ?_ | refine st3 rfl fun K k => ?_ | refine st4 fun K k => ?_); simp only [go_sem, FV.cells, List.length_range, e2, e3, w5]; refine k _ _ _ _ _ _ ?_; clear k K))
        refine ⟨j + 1, by omega, by omega, (Into.ren h0 [(0, 0), (1, 1), (2, 2), (5, 5), (6, 7)] 7 rfl).trans (Into.le ?_ ?_ (Nat.le_refl _) rfl)⟩
        · simp only [go_sem, newOf]
        · simp only [go_sem, newOf, List.range_succ, mCell, ← Nat.add_assoc]
      · obtain rfl : j = mMany L := by omega
        refine iq (Into.frz [6] ?_) ?_
        · simp only [go_sem]
          intro e he; obtain ⟨q, _, rfl⟩ := List.mem_map.1 he; rfl
        have e2 : r + 1 ≤ maxLen := by unfold maxLen; omega
        have e3 : (r + 1) * 24 ≤ 140737488355328 := by omega
        have w5 : IntKind.wrap .i64 ((r : Int) + 1) = ((r + 1 : Nat) : Int) := wrapTo (by omega)
        repeat (first | refine st_end rfl ?_ | ((first | refine st1 fun K k => ?_ | refine st2 fun K k => ?_ | refine st3 rfl fun K k => ?_ | refine st4 fun K k => ?_); simp only [go_sem, List.length_range, e2, e3, w5]; refine k _ _ _ _ _ _ ?_; clear k K))
        have f3 : 2 + mMany L + (r + 1) * mMany L = 2 + mMany L + r * mMany L + mMany L := by rw [Nat.add_mul, Nat.one_mul]; omega
        refine ⟨r + 1, by omega, by omega, (Into.ren h0 [(0, 0), (1, 1), (2, 2), (5, 7)] 6 rfl).trans (Into.le ?_ ?_ (Nat.le_refl _) rfl)⟩
        · simp only [go_sem, newOf]
        · simp only [go_sem, newOf, List.range_succ, f3, mRow]
    · obtain rfl : r = mRows L := by omega
      refine iq (Into.frz [5] ?_) ?_
      · simp only [go_sem]
        intro e he; obtain ⟨q, _, rfl⟩ := List.mem_map.1 he; rfl
      repeat (first | refine st_end rfl ?_ | ((first | refine st1 fun K k => ?_ | refine st2 fun K k => ?_ | refine st3 rfl fun K k => ?_ | refine st4 fun K k => ?_); simp only [go_sem, List.length_range]; refine k _ _ _ _ _ _ ?_; clear k K))
      refine Done.mk (.inr rfl) Into.refl ?_ [] 0 ?_ ?_ ?_ ?_
      · rfl
      · rfl
      · simp only [go_sem]
      · trivial
      · rfl
end Go.Proofs.YtjgooecohepkoaaGreatDoor
namespace Go.Proofs.YtjgooecohepkoaaGreatDoor
open Go Go.Abs
set_option linter.unusedSimpArgs false
set_option maxHeartbeats 2000000
/-- The first place of an element, from k on; -1 if it is not there. -/
def idxFrom {α : Type} [DecidableEq α] : List α → α → Nat → Int
  | [], _, _ => -1
  | y :: r, x, k => if x = y then k else idxFrom r x (k + 1)
theorem drop_at {α : Type} {l : List α} {i : Nat} {x : α} (h : l[i]? = some x) : l.drop i = x :: l.drop (i + 1) := by
  obtain ⟨hlt, rfl⟩ := List.getElem?_eq_some_iff.1 h
  exact List.drop_eq_getElem_cons hlt
theorem getS {α : Type} {l : List α} {i : Nat} (h : i < l.length) : ∃ x, l[i]? = some x := ⟨_, List.getElem?_eq_getElem h⟩
theorem f52_ok (xs : List (List UInt8)) (x : List UInt8) : FnOK sys 52 [strsD xs, .s x] [] (.v (.int .i64 (idxFrom xs x 0))) [] := by
  refine FnOK.intro Tryz.f52 (by kernel_rfl) rfl rfl [.tmp 4] rfl 0 rfl (Nat.le_of_ble_eq_true rfl) rfl rfl fun E hN h0 => W.bound 0 rfl fun hb => W.code (N := 19) [] hN ?_
  simp only [List.length_map, maxLen] at hb
  repeat (first | refine st_end rfl ?_ | ((first | refine st1 fun K k => ?_ | refine st2 fun K k => ?_ | refine st3 rfl fun K k => ?_ | refine st4 fun K k => ?_); simp only [go_sem]; refine k _ _ _ _ _ _ ?_; clear k K))
  refine W.loopP (fun i : Nat => ⟨[(0, strsD xs), (1, .s x), (7, .v (.int .i64 xs.length)), (8, .v (.int .i64 i))], [], 0, []⟩)
    (fun i => i ≤ xs.length ∧ idxFrom (xs.drop i) x i = idxFrom xs x 0) (fun i => xs.length - i) 0 ⟨by omega, rfl⟩ (Into.le ?_ trivial (Nat.le_refl _) rfl) fun i hi => W.code (N := 19) [] hN ?_
  · simp only [go_sem]
    exact LeD.refl _
  repeat (first | refine st_end rfl ?_ | ((first | refine st1 fun K k => ?_ | refine st2 fun K k => ?_ | refine st3 rfl fun K k => ?_ | refine st4 fun K k => ?_); simp only [go_sem]; refine k _ _ _ _ _ _ ?_; clear k K))
  refine st_cond fun A B a b => ?_; simp only [go_sem]; refine ⟨fun g => a ?_, fun g => b ?_⟩ <;> clear a b A B
  · obtain ⟨y, hy⟩ := getS (l := xs) (i := i) (by omega)
    have hd := hi.2
    rw [drop_at hy, idxFrom] at hd
    repeat (first | refine st_end rfl ?_ | ((first | refine st1 fun K k => ?_ | refine st2 fun K k => ?_ | refine st3 rfl fun K k => ?_ | refine st4 fun K k => ?_); simp only [go_sem, hy]; refine k _ _ _ _ _ _ ?_; clear k K))
    refine st_cond fun A B a b => ?_; simp only [go_sem]; refine ⟨fun g => a ?_, fun g => b ?_⟩ <;> clear a b A B
    · repeat (first | refine st_end rfl ?_ | ((first | refine st1 fun K k => ?_ | refine st2 fun K k => ?_ | refine st3 rfl fun K k => ?_ | refine st4 fun K k => ?_); simp only [go_sem]; refine k _ _ _ _ _ _ ?_; clear k K))
      refine iq Into.refl (Done.mk (.inr rfl) Into.refl rfl [] 0 rfl ?_ trivial rfl)
      simp only [go_sem]
      have e : x = y := by simpa using g
      rw [if_pos e] at hd
      exact hd
    · repeat (first | refine st_end rfl ?_ | ((first | refine st1 fun K k => ?_ | refine st2 fun K k => ?_ | refine st3 rfl fun K k => ?_ | refine st4 fun K k => ?_); simp only [go_sem]; refine k _ _ _ _ _ _ ?_; clear k K))
      have e : ¬ x = y := by simpa using g
      rw [if_neg e] at hd
      refine ⟨i + 1, ⟨by omega, hd⟩, by omega, Into.le ?_ trivial (Nat.le_refl _) rfl⟩
      simp only [go_sem]
      rw [wrapTo (m := ((i + 1 : Nat) : Int)) (by omega)]
      exact LeD.refl _
  · refine iq Into.refl ?_
    repeat (first | refine st_end rfl ?_ | ((first | refine st1 fun K k => ?_ | refine st2 fun K k => ?_ | refine st3 rfl fun K k => ?_ | refine st4 fun K k => ?_); simp only [go_sem]; refine k _ _ _ _ _ _ ?_; clear k K))
    refine Done.mk (.inr rfl) Into.refl ?_ [] 0 ?_ ?_ ?_ ?_
    · rfl
    · rfl
    · simp only [go_sem]
      have := hi.2
      rw [List.drop_of_length_le (by omega)] at this
      simpa [idxFrom] using this
    · trivial
    · rfl
theorem f28_ok (xs ys : List (List UInt8)) : FnOK sys 28 [strsD xs, strsD ys] [] (.v (.bool (decide (xs = ys)))) [] := by
  refine FnOK.intro Tryz.f28 (by kernel_rfl) rfl rfl [.tmp 4] rfl 0 rfl (Nat.le_of_ble_eq_true rfl) rfl rfl fun E hN h0 => W.bound 0 rfl fun hb => W.code (N := 26) [] hN ?_
  simp only [List.length_map, maxLen] at hb
  repeat (first | refine st_end rfl ?_ | ((first | refine st1 fun K k => ?_ | refine st2 fun K k => ?_ | refine st3 rfl fun K k => ?_ | refine st4 fun K k => ?_); simp only [go_sem]; refine k _ _ _ _ _ _ ?_; clear k K))
  refine st_cond fun A B a b => ?_; simp only [go_sem]; refine ⟨fun g => a ?_, fun g => b ?_⟩ <;> clear a b A B
  · repeat (first | refine st_end rfl ?_ | ((first | refine st1 fun K k => ?_ | refine st2 fun K k => ?_ | refine st3 rfl fun K k => ?_ | refine st4 fun K k => ?_); simp only [go_sem]; refine k _ _ _ _ _ _ ?_; clear k K))
    refine Done.mk (.inr rfl) Into.refl rfl [] 0 rfl ?_ trivial rfl
    simp only [go_sem]
    have h : ¬ (xs.length : Int) = ys.length := by simpa using g
    have h2 : ¬ xs = ys := by rintro rfl; exact h rfl
    simp [h2]
  · have hl : (xs.length : Int) = ys.length := by simpa using g
    repeat (first | refine st_end rfl ?_ | ((first | refine st1 fun K k => ?_ | refine st2 fun K k => ?_ | refine st3 rfl fun K k => ?_ | refine st4 fun K k => ?_); simp only [go_sem]; refine k _ _ _ _ _ _ ?_; clear k K))
    refine W.loopP (fun i : Nat => ⟨[(0, strsD xs), (1, strsD ys), (5, .v (.int .i64 i))], [], 0, []⟩)
      (fun i => i ≤ xs.length ∧ ∀ j, j < i → xs[j]? = ys[j]?) (fun i => xs.length - i) 0 ⟨by omega, by omega⟩ (Into.le ?_ trivial (Nat.le_refl _) rfl) fun i hi => W.code (N := 26) [] hN ?_
    · simp only [go_sem]
      exact LeD.refl _
    repeat (first | refine st_end rfl ?_ | ((first | refine st1 fun K k => ?_ | refine st2 fun K k => ?_ | refine st3 rfl fun K k => ?_ | refine st4 fun K k => ?_); simp only [go_sem]; refine k _ _ _ _ _ _ ?_; clear k K))
    refine st_cond fun A B a b => ?_; simp only [go_sem]; refine ⟨fun g => a ?_, fun g => b ?_⟩ <;> clear a b A B
    · obtain ⟨x, hx⟩ := getS (l := xs) (i := i) (by omega)
      obtain ⟨y, hy⟩ := getS (l := ys) (i := i) (by omega)
      repeat (first | refine st_end rfl ?_ | ((first | refine st1 fun K k => ?_ | refine st2 fun K k => ?_ | refine st3 rfl fun K k => ?_ | refine st4 fun K k => ?_); simp only [go_sem, hx, hy]; refine k _ _ _ _ _ _ ?_; clear k K))
      refine st_cond fun A B a b => ?_; simp only [go_sem]; refine ⟨fun g => a ?_, fun g => b ?_⟩ <;> clear a b A B
      · repeat (first | refine st_end rfl ?_ | ((first | refine st1 fun K k => ?_ | refine st2 fun K k => ?_ | refine st3 rfl fun K k => ?_ | refine st4 fun K k => ?_); simp only [go_sem]; refine k _ _ _ _ _ _ ?_; clear k K))
        refine iq Into.refl (Done.mk (.inr rfl) Into.refl rfl [] 0 rfl ?_ trivial rfl)
        simp only [go_sem]
        have e : ¬ x = y := by simpa using g
        have e2 : ¬ xs = ys := by rintro rfl; rw [hx] at hy; cases hy; exact e rfl
        simp [e2]
      · repeat (first | refine st_end rfl ?_ | ((first | refine st1 fun K k => ?_ | refine st2 fun K k => ?_ | refine st3 rfl fun K k => ?_ | refine st4 fun K k => ?_); simp only [go_sem]; refine k _ _ _ _ _ _ ?_; clear k K))
        have e : x = y := by simpa using g
        refine ⟨i + 1, ⟨by omega, fun j hj => ?_⟩, by omega, Into.le ?_ trivial (Nat.le_refl _) rfl⟩
        · by_cases hji : j = i
          · rw [hji, hx, hy, e]
          · exact hi.2 j (by omega)
        simp only [go_sem]
        rw [wrapTo (m := ((i + 1 : Nat) : Int)) (by omega)]
        exact LeD.refl _
    · refine iq Into.refl ?_
      repeat (first | refine st_end rfl ?_ | ((first | refine st1 fun K k => ?_ | refine st2 fun K k => ?_ | refine st3 rfl fun K k => ?_ | refine st4 fun K k => ?_); simp only [go_sem]; refine k _ _ _ _ _ _ ?_; clear k K))
      refine Done.mk (.inr rfl) Into.refl ?_ [] 0 ?_ ?_ ?_ ?_
      · rfl
      · rfl
      · simp only [go_sem]
        have e : xs = ys := by
          refine List.ext_getElem? fun j => ?_
          by_cases hj : j < xs.length
          · exact hi.2 j (by omega)
          · rw [List.getElem?_eq_none (by omega), List.getElem?_eq_none (by omega)]
        simp [e]
      · trivial
      · rfl
end Go.Proofs.YtjgooecohepkoaaGreatDoor
namespace Go.Proofs.YtjgooecohepkoaaGreatDoor
open Go Go.Abs
set_option linter.unusedSimpArgs false
set_option maxHeartbeats 2000000
theorem f56_ok (xs : List (List UInt8)) (x : List UInt8) : FnOK sys 56 [strsD xs, .s x] [] (.v (.int .i64 (idxFrom xs x 0))) [] := by
  refine FnOK.intro Tryz.f56 (by kernel_rfl) rfl rfl [.tmp 4] rfl 0 rfl (Nat.le_of_ble_eq_true rfl) rfl rfl fun E hN h0 => W.bound 0 rfl fun hb => W.code (N := 19) [] hN ?_
  simp only [List.length_map, maxLen] at hb
  repeat (first | refine st_end rfl ?_ | ((first | refine st1 fun K k => ?_ | refine st2 fun K k => ?_ | refine st3 rfl fun K k => ?_ | refine st4 fun K k => ?_); simp only [go_sem]; refine k _ _ _ _ _ _ ?_; clear k K))
  refine W.loopP (fun i : Nat => ⟨[(0, strsD xs), (1, .s x), (5, .v (.int .i64 i))], [], 0, []⟩)
    (fun i => i ≤ xs.length ∧ idxFrom (xs.drop i) x i = idxFrom xs x 0) (fun i => xs.length - i) 0 ⟨by omega, rfl⟩ (Into.le ?_ trivial (Nat.le_refl _) rfl) fun i hi => W.code (N := 19) [] hN ?_
  · simp only [go_sem]
    exact LeD.refl _
  repeat (first | refine st_end rfl ?_ | ((first | refine st1 fun K k => ?_ | refine st2 fun K k => ?_ | refine st3 rfl fun K k => ?_ | refine st4 fun K k => ?_); simp only [go_sem]; refine k _ _ _ _ _ _ ?_; clear k K))
  refine st_cond fun A B a b => ?_; simp only [go_sem]; refine ⟨fun g => a ?_, fun g => b ?_⟩ <;> clear a b A B
  · obtain ⟨y, hy⟩ := getS (l := xs) (i := i) (by omega)
    have hd := hi.2
    rw [drop_at hy, idxFrom] at hd
    repeat (first | refine st_end rfl ?_ | ((first | refine st1 fun K k => ?_ | refine st2 fun K k => ?_ | refine st3 rfl fun K k => ?_ | refine st4 fun K k => ?_); simp only [go_sem, hy]; refine k _ _ _ _ _ _ ?_; clear k K))
    refine st_cond fun A B a b => ?_; simp only [go_sem]; refine ⟨fun g => a ?_, fun g => b ?_⟩ <;> clear a b A B
    · repeat (first | refine st_end rfl ?_ | ((first | refine st1 fun K k => ?_ | refine st2 fun K k => ?_ | refine st3 rfl fun K k => ?_ | refine st4 fun K k => ?_); simp only [go_sem]; refine k _ _ _ _ _ _ ?_; clear k K))
      refine iq Into.refl (Done.mk (.inr rfl) Into.refl rfl [] 0 rfl ?_ trivial rfl)
      simp only [go_sem]
      have e : y = x := by simpa using g
      rw [if_pos e.symm] at hd
      exact hd
    · repeat (first | refine st_end rfl ?_ | ((first | refine st1 fun K k => ?_ | refine st2 fun K k => ?_ | refine st3 rfl fun K k => ?_ | refine st4 fun K k => ?_); simp only [go_sem]; refine k _ _ _ _ _ _ ?_; clear k K))
      have e : ¬ y = x := by simpa using g
      rw [if_neg fun h => e h.symm] at hd
      refine ⟨i + 1, ⟨by omega, hd⟩, by omega, Into.le ?_ trivial (Nat.le_refl _) rfl⟩
      simp only [go_sem]
      rw [wrapTo (m := ((i + 1 : Nat) : Int)) (by omega)]
      exact LeD.refl _
  · refine iq Into.refl ?_
    repeat (first | refine st_end rfl ?_ | ((first | refine st1 fun K k => ?_ | refine st2 fun K k => ?_ | refine st3 rfl fun K k => ?_ | refine st4 fun K k => ?_); simp only [go_sem]; refine k _ _ _ _ _ _ ?_; clear k K))
    refine Done.mk (.inr rfl) Into.refl ?_ [] 0 ?_ ?_ ?_ ?_
    · rfl
    · rfl
    · simp only [go_sem]
      have := hi.2
      rw [List.drop_of_length_le (by omega)] at this
      simpa [idxFrom] using this
    · trivial
    · rfl
def names5 : List (List UInt8) := [[99, 105, 116, 121], [122, 105, 112], [99, 111, 117, 110, 116, 114, 121], [115, 105, 110, 99, 101], [120]]
theorem names5_at {j : Nat} (h : j < 5) : ([[.s [99, 105, 116, 121]], [.s [122, 105, 112]], [.s [99, 111, 117, 110, 116, 114, 121]], [.s [115, 105, 110, 99, 101]], [.s [120]]] : List (List D))[j]? = some [.s (names5.getD j [])] := by
  rcases j with _ | _ | _ | _ | _ | j <;> first | rfl | omega
def dName (L : List Int) (i : Nat) : List UInt8 := names5.getD (nextV L i 5).toNat []
def dMany (L : List Int) : Nat := (nextV L 1 4).toNat
structure DP where
  src : List (List UInt8)
  dst : List UInt8
@[go_sem] def DP.cells (d : DP) : List D := [strsD d.src, .s d.dst]
def dOf (L : List Int) : DP := ⟨(List.range (dMany L)).map fun j => dName L (2 + j), dName L 0⟩
theorem f25_ok (L : List Int) : FnOK sys 25 [ints L] [] (.agg (dOf L).cells) [] := by
  refine FnOK.intro Tryz.f25 (by kernel_rfl) rfl rfl [.cell 2 52] rfl 0 rfl (Nat.le_of_ble_eq_true rfl) rfl rfl fun E hN h0 => W.code (N := 36) [11, 32] hN ?_
  repeat (first | refine st_end rfl ?_ | ((first | refine st1 fun K k => ?_ | refine st2 fun K k => ?_ | refine st3 rfl fun K k => ?_ | refine st4 fun K k => ?_); simp only [go_sem]; refine k _ _ _ _ _ _ ?_; clear k K))
  refine st_op fun K k => ?_
  simp only [go_sem]
  refine call49 1 L 0 (by simp only [go_sem]; simp) (by omega) (by omega) ?_
  simp only [go_sem]
  refine k _ _ _ _ _ ?_; clear k K
  obtain ⟨b1, b2⟩ := nextV_pos L 0 (n := 5) (by omega)
  obtain ⟨x, hx⟩ : ∃ x : Nat, nextV L 0 5 = x := ⟨_, (Int.toNat_of_nonneg b1).symm⟩
  have hx2 : names5.getD x [] = dName L 0 := by unfold dName; congr 1; omega
  repeat (first | refine st_end rfl ?_ | ((first | refine st1 fun K k => ?_ | refine st2 fun K k => ?_ | refine st3 rfl fun K k => ?_ | refine st4 fun K k => ?_); simp only [go_sem, hx, names5_at (show x < 5 by omega), hx2]; refine k _ _ _ _ _ _ ?_; clear k K))
  refine st_op fun K k => ?_
  simp only [go_sem]
  refine call49 1 L 1 (by simp only [go_sem]) (by omega) (by omega) ?_
  simp only [go_sem]
  refine k _ _ _ _ _ ?_; clear k K
  obtain ⟨c1, c2⟩ := nextV_pos L 1 (n := 4) (by omega)
  have hm : nextV L 1 4 = (dMany L : Int) := (Int.toNat_of_nonneg c1).symm
  repeat (first | refine st_end rfl ?_ | ((first | refine st1 fun K k => ?_ | refine st2 fun K k => ?_ | refine st3 rfl fun K k => ?_ | refine st4 fun K k => ?_); simp only [go_sem, hm]; refine k _ _ _ _ _ _ ?_; clear k K))
  refine W.loopP (fun j : Nat => ⟨[(2, .ref 0 0), (3, .ref 1 0), (4, .sl [[.s [99, 105, 116, 121]], [.s [122, 105, 112]], [.s [99, 111, 117, 110, 116, 114, 121]], [.s [115, 105, 110, 99, 101]], [.s [120]]] 1), (5, .ref 2 0), (6, .v (.int .i64 (dMany L))), (7, .v (.int .i64 j))],
      [(0, .box [.v (.slice none 0 0), .s []]), (1, numBox L (min (2 + j) L.length)), (2, .box [.own 3 j, .s (dName L 0)]), (3, .row 9 1 ((List.range j).map fun i => [.s (dName L (2 + i))]))], 4, []⟩)
    (fun j => j ≤ dMany L) (fun j => dMany L - j) 0 (Nat.zero_le _)
    ((Into.nilCell 2 0 9 1 rfl rfl).trans (Into.le ?_ ?_ (Nat.le_refl _) rfl)) fun j hj => W.code (N := 36) [11, 32] hN ?_
  · simp only [go_sem]
    exact LeD.refl _
  · simp only [go_sem]
    exact LeO.refl _
  repeat (first | refine st_end rfl ?_ | ((first | refine st1 fun K k => ?_ | refine st2 fun K k => ?_ | refine st3 rfl fun K k => ?_ | refine st4 fun K k => ?_); simp only [go_sem]; refine k _ _ _ _ _ _ ?_; clear k K))
  refine st_cond fun A B a b => ?_; simp only [go_sem]; refine ⟨fun g => a ?_, fun g => b ?_⟩ <;> clear a b A B
  · repeat (first | refine st_end rfl ?_ | ((first | refine st1 fun K k => ?_ | refine st2 fun K k => ?_ | refine st3 rfl fun K k => ?_ | refine st4 fun K k => ?_); simp only [go_sem]; refine k _ _ _ _ _ _ ?_; clear k K))
    refine st_op fun K k => ?_
    simp only [go_sem]
    refine call49 1 L (2 + j) (by simp only [go_sem]) (by omega) (by omega) ?_
    simp only [go_sem]
    refine k _ _ _ _ _ ?_; clear k K
    obtain ⟨d1, d2⟩ := nextV_pos L (2 + j) (n := 5) (by omega)
    obtain ⟨y, hy⟩ : ∃ y : Nat, nextV L (2 + j) 5 = y := ⟨_, (Int.toNat_of_nonneg d1).symm⟩
    have hy2 : names5.getD y [] = dName L (2 + j) := by unfold dName; congr 1; omega
    have e2 : j + 1 ≤ maxLen := by unfold maxLen; omega
    have e3 : (j + 1) * 16 ≤ 140737488355328 := by omega
    have w5 : IntKind.wrap .i64 ((j : Int) + 1) = ((j + 1 : Nat) : Int) := wrapTo (by omega)
    repeat (first | refine st_end rfl ?_ | ((first | refine st1 fun K k => ?_ | refine st2 fun K k => ?_ | refine st3 rfl fun K k => ?_ | refine st4 fun K k => ?_); simp only [go_sem, hy, names5_at (show y < 5 by omega), hy2, List.length_range, e2, e3, w5]; refine k _ _ _ _ _ _ ?_; clear k K))
    refine ⟨j + 1, by omega, by omega, (Into.ren h0 [(0, 0), (1, 1), (2, 2), (3, 4)] 4 rfl).trans (Into.le ?_ ?_ (Nat.le_refl _) rfl)⟩
    · simp only [go_sem, newOf]
    · simp only [go_sem, newOf, List.range_succ, ← Nat.add_assoc]
  · obtain rfl : j = dMany L := by omega
    refine iq (Into.frz [3] ?_) ?_
    · simp only [go_sem]
      intro e he; obtain ⟨q, _, rfl⟩ := List.mem_map.1 he; rfl
    repeat (first | refine st_end rfl ?_ | ((first | refine st1 fun K k => ?_ | refine st2 fun K k => ?_ | refine st3 rfl fun K k => ?_ | refine st4 fun K k => ?_); simp only [go_sem, List.length_range]; refine k _ _ _ _ _ _ ?_; clear k K))
    refine Done.mk (.inr rfl) Into.refl ?_ [] 0 ?_ ?_ ?_ ?_
    · rfl
    · rfl
    · simp only [go_sem, dOf]
    · trivial
    · rfl
end Go.Proofs.YtjgooecohepkoaaGreatDoor
