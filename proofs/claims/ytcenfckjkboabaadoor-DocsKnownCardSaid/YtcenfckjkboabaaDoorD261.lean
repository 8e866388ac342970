/- DocsKnown's region 9, whatever its order. -/
import Derived.Test.YtcenfckjkboabaaDoorD260
import Derived.Deep.RegionHeld3
namespace Go.Proofs.Dc
open Go.RowKit Go.Proofs Go.Lib Go.Maps

def R9 : Array Oper := #[{ dst := some 91, op := Op.move (Operand.tmp 1), type := 31, pos := "outright.go:60", after := #[], guard := none }, { dst := some 92, op := Op.call { callee := Callee.value (Operand.func 14), args := #[], argTypes := #[] }, type := 9, pos := "outright.go:60", after := #[], guard := none }, { dst := some 93, op := Op.call { callee := Callee.value (Operand.func 15), args := #[Operand.tmp 91, Operand.tmp 92, Operand.const (Value.int IntKind.i64 7), Operand.const (Value.slice none 0 0)], argTypes := #[31, 9, 2, 26] }, type := 33, pos := "outright.go:60", after := #[{ on := 0, ground := Ground.data }, { on := 1, ground := Ground.data }, { on := 1, ground := Ground.chain }], guard := none }, { dst := some 94, op := Op.binOp BinOp.neq 33 (Operand.tmp 93) (Operand.const (Value.int IntKind.i64 0)) 33, type := 4, pos := "outright.go:60", after := #[{ on := 2, ground := Ground.data }], guard := none }, { dst := some 95, op := Op.move (Operand.tmp 94), type := 4, pos := "outright.go:60", after := #[{ on := 3, ground := Ground.data }, { on := 2, ground := Ground.chain }], guard := none }, { dst := some 96, op := Op.move (Operand.tmp 1), type := 31, pos := "outright.go:60", after := #[{ on := 4, ground := Ground.guard }], guard := some (4, false) }, { dst := some 97, op := Op.call { callee := Callee.value (Operand.func 24), args := #[Operand.tmp 96, Operand.const (Value.string { data := #[119, 120, 122] }), Operand.const (Value.int IntKind.i64 7)], argTypes := #[31, 9, 2] }, type := 4, pos := "outright.go:60", after := #[{ on := 5, ground := Ground.data }, { on := 4, ground := Ground.chain }, { on := 4, ground := Ground.guard }], guard := some (4, false) }, { dst := some 98, op := Op.unOp UnOp.not 4 (Operand.tmp 97), type := 4, pos := "outright.go:60", after := #[{ on := 6, ground := Ground.data }, { on := 4, ground := Ground.guard }], guard := some (4, false) }, { dst := some 99, op := Op.pick (Operand.tmp 95) (Operand.const (Value.bool true)) (Operand.tmp 98), type := 4, pos := "outright.go:60", after := #[{ on := 4, ground := Ground.data }, { on := 7, ground := Ground.data }], guard := none }, { dst := some 100, op := Op.move (Operand.tmp 99), type := 4, pos := "outright.go:60", after := #[{ on := 8, ground := Ground.data }, { on := 6, ground := Ground.chain }], guard := none }, { dst := some 101, op := Op.move (Operand.tmp 1), type := 31, pos := "outright.go:60", after := #[{ on := 9, ground := Ground.guard }], guard := some (9, false) }, { dst := some 102, op := Op.call { callee := Callee.value (Operand.func 14), args := #[], argTypes := #[] }, type := 9, pos := "outright.go:60", after := #[{ on := 9, ground := Ground.chain }, { on := 9, ground := Ground.guard }], guard := some (9, false) }, { dst := some 103, op := Op.makeSlice 48 (Operand.const (Value.int IntKind.i64 65536)) (Operand.const (Value.int IntKind.i64 65536)), type := 48, pos := "outright.go:60", after := #[{ on := 9, ground := Ground.guard }], guard := some (9, false) }, { dst := some 104, op := Op.convert 48 9 (Operand.tmp 103), type := 9, pos := "outright.go:60", after := #[{ on := 12, ground := Ground.data }, { on := 9, ground := Ground.guard }], guard := some (9, false) }, { dst := some 105, op := Op.build 54 #[(0, Operand.const (Value.bool true)), (2, Operand.tmp 104)], type := 54, pos := "outright.go:60", after := #[{ on := 13, ground := Ground.data }, { on := 9, ground := Ground.guard }], guard := some (9, false) }, { dst := some 106, op := Op.call { callee := Callee.value (Operand.func 23), args := #[Operand.const (Value.int IntKind.i64 0), Operand.const (Value.int IntKind.i64 0), Operand.const (Value.string { data := #[97] })], argTypes := #[3, 3, 9] }, type := 54, pos := "outright.go:60", after := #[{ on := 11, ground := Ground.chain }, { on := 9, ground := Ground.guard }], guard := some (9, false) }, { dst := some 107, op := Op.buildSlice 26 2 #[(0, Operand.tmp 105), (1, Operand.tmp 106)], type := 26, pos := "outright.go:60", after := #[{ on := 14, ground := Ground.data }, { on := 15, ground := Ground.data }, { on := 9, ground := Ground.guard }], guard := some (9, false) }, { dst := some 108, op := Op.call { callee := Callee.value (Operand.func 15), args := #[Operand.tmp 101, Operand.tmp 102, Operand.const (Value.int IntKind.i64 8), Operand.tmp 107], argTypes := #[31, 9, 2, 26] }, type := 33, pos := "outright.go:60", after := #[{ on := 10, ground := Ground.data }, { on := 11, ground := Ground.data }, { on := 16, ground := Ground.data }, { on := 15, ground := Ground.chain }, { on := 9, ground := Ground.guard }], guard := some (9, false) }, { dst := some 109, op := Op.binOp BinOp.neq 33 (Operand.tmp 108) (Operand.const (Value.int IntKind.i64 3)) 33, type := 4, pos := "outright.go:60", after := #[{ on := 17, ground := Ground.data }, { on := 9, ground := Ground.guard }], guard := some (9, false) }, { dst := some 110, op := Op.pick (Operand.tmp 100) (Operand.const (Value.bool true)) (Operand.tmp 109), type := 4, pos := "outright.go:60", after := #[{ on := 9, ground := Ground.data }, { on := 18, ground := Ground.data }], guard := none }, { dst := some 111, op := Op.move (Operand.tmp 110), type := 4, pos := "outright.go:60", after := #[{ on := 19, ground := Ground.data }, { on := 17, ground := Ground.chain }], guard := none }, { dst := some 112, op := Op.move (Operand.tmp 1), type := 31, pos := "outright.go:60", after := #[{ on := 20, ground := Ground.guard }], guard := some (20, false) }, { dst := some 113, op := Op.call { callee := Callee.value (Operand.func 24), args := #[Operand.tmp 112, Operand.const (Value.string { data := #[119, 120, 122] }), Operand.const (Value.int IntKind.i64 7)], argTypes := #[31, 9, 2] }, type := 4, pos := "outright.go:60", after := #[{ on := 21, ground := Ground.data }, { on := 20, ground := Ground.chain }, { on := 20, ground := Ground.guard }], guard := some (20, false) }, { dst := some 114, op := Op.unOp UnOp.not 4 (Operand.tmp 113), type := 4, pos := "outright.go:60", after := #[{ on := 22, ground := Ground.data }, { on := 20, ground := Ground.guard }], guard := some (20, false) }, { dst := some 115, op := Op.pick (Operand.tmp 111) (Operand.const (Value.bool true)) (Operand.tmp 114), type := 4, pos := "outright.go:60", after := #[{ on := 20, ground := Ground.data }, { on := 23, ground := Ground.data }], guard := none }, { dst := some 116, op := Op.move (Operand.tmp 115), type := 4, pos := "outright.go:60", after := #[{ on := 24, ground := Ground.data }, { on := 22, ground := Ground.chain }], guard := none }, { dst := some 117, op := Op.move (Operand.tmp 1), type := 31, pos := "outright.go:60", after := #[{ on := 25, ground := Ground.guard }], guard := some (25, false) }, { dst := some 118, op := Op.call { callee := Callee.value (Operand.func 14), args := #[], argTypes := #[] }, type := 9, pos := "outright.go:60", after := #[{ on := 25, ground := Ground.chain }, { on := 25, ground := Ground.guard }], guard := some (25, false) }, { dst := some 119, op := Op.call { callee := Callee.value (Operand.func 19), args := #[Operand.tmp 117, Operand.tmp 118], argTypes := #[31, 9] }, type := 33, pos := "outright.go:60", after := #[{ on := 26, ground := Ground.data }, { on := 27, ground := Ground.data }, { on := 27, ground := Ground.chain }, { on := 25, ground := Ground.guard }], guard := some (25, false) }, { dst := some 120, op := Op.binOp BinOp.neq 33 (Operand.tmp 119) (Operand.const (Value.int IntKind.i64 0)) 33, type := 4, pos := "outright.go:60", after := #[{ on := 28, ground := Ground.data }, { on := 25, ground := Ground.guard }], guard := some (25, false) }, { dst := some 121, op := Op.pick (Operand.tmp 116) (Operand.const (Value.bool true)) (Operand.tmp 120), type := 4, pos := "outright.go:60", after := #[{ on := 25, ground := Ground.data }, { on := 29, ground := Ground.data }], guard := none }, { dst := some 122, op := Op.move (Operand.tmp 121), type := 4, pos := "outright.go:60", after := #[{ on := 30, ground := Ground.data }, { on := 28, ground := Ground.chain }], guard := none }, { dst := some 123, op := Op.move (Operand.tmp 1), type := 31, pos := "outright.go:60", after := #[{ on := 31, ground := Ground.guard }], guard := some (31, false) }, { dst := some 124, op := Op.call { callee := Callee.value (Operand.func 14), args := #[], argTypes := #[] }, type := 9, pos := "outright.go:60", after := #[{ on := 31, ground := Ground.chain }, { on := 31, ground := Ground.guard }], guard := some (31, false) }, { dst := some 125, op := Op.call { callee := Callee.value (Operand.func 19), args := #[Operand.tmp 123, Operand.tmp 124], argTypes := #[31, 9] }, type := 33, pos := "outright.go:60", after := #[{ on := 32, ground := Ground.data }, { on := 33, ground := Ground.data }, { on := 33, ground := Ground.chain }, { on := 31, ground := Ground.guard }], guard := some (31, false) }, { dst := some 126, op := Op.binOp BinOp.neq 33 (Operand.tmp 125) (Operand.const (Value.int IntKind.i64 5)) 33, type := 4, pos := "outright.go:60", after := #[{ on := 34, ground := Ground.data }, { on := 31, ground := Ground.guard }], guard := some (31, false) }, { dst := some 127, op := Op.pick (Operand.tmp 122) (Operand.const (Value.bool true)) (Operand.tmp 126), type := 4, pos := "outright.go:60", after := #[{ on := 31, ground := Ground.data }, { on := 35, ground := Ground.data }], guard := none }, { dst := some 128, op := Op.move (Operand.tmp 127), type := 4, pos := "outright.go:60", after := #[{ on := 36, ground := Ground.data }, { on := 34, ground := Ground.chain }], guard := none }, { dst := some 129, op := Op.move (Operand.tmp 1), type := 31, pos := "outright.go:60", after := #[{ on := 37, ground := Ground.guard }], guard := some (37, false) }, { dst := some 130, op := Op.call { callee := Callee.value (Operand.func 20), args := #[Operand.tmp 129], argTypes := #[31] }, type := 45, pos := "outright.go:60", after := #[{ on := 38, ground := Ground.data }, { on := 37, ground := Ground.chain }, { on := 37, ground := Ground.guard }], guard := some (37, false) }, { dst := some 131, op := Op.call { callee := Callee.builtin Builtin.len, args := #[Operand.tmp 130], argTypes := #[45] }, type := 3, pos := "outright.go:60", after := #[{ on := 39, ground := Ground.data }, { on := 37, ground := Ground.guard }], guard := some (37, false) }, { dst := some 132, op := Op.binOp BinOp.neq 3 (Operand.tmp 131) (Operand.const (Value.int IntKind.i64 0)) 3, type := 4, pos := "outright.go:60", after := #[{ on := 40, ground := Ground.data }, { on := 37, ground := Ground.guard }], guard := some (37, false) }, { dst := some 133, op := Op.pick (Operand.tmp 128) (Operand.const (Value.bool true)) (Operand.tmp 132), type := 4, pos := "outright.go:60", after := #[{ on := 37, ground := Ground.data }, { on := 41, ground := Ground.data }], guard := none }]
def R9r (w : World) (b : Nat) (t0 t2 t3 t4 t5 t6 t7 t8 t9 t10 t11 t12 t13 t14 t15 t16 t17 t18 t19 t20 t21 t22 t23 t24 t25 t26 t27 t28 t29 t30 t31 t32 t33 t34 t35 t36 t37 t38 t39 t40 t41 t42 t43 t44 t45 t46 t47 t48 t49 t50 t51 t52 t53 t54 t55 t56 t57 t58 t59 t60 t61 t62 t63 t64 t65 t66 t67 t68 t69 t70 t71 t72 t73 t74 t75 t76 t77 t78 t79 t80 t81 t82 t83 t84 t85 t86 t87 t88 t89 t90 _t91 _t92 _t93 _t94 _t95 _t96 _t97 _t98 _t99 _t100 _t101 _t102 _t103 _t104 _t105 _t106 _t107 _t108 _t109 _t110 _t111 _t112 _t113 _t114 _t115 _t116 _t117 _t118 _t119 _t120 _t121 _t122 _t123 _t124 _t125 _t126 _t127 _t128 _t129 _t130 _t131 _t132 _t133 t134 t135 t136 t137 t138 t139 t140 t141 t142 t143 t144 t145 t146 t147 t148 t149 t150 t151 t152 t153 t154 t155 t156 t157 t158 t159 t160 t161 t162 t163 t164 t165 t166 t167 t168 t169 t170 t171 t172 t173 t174 t175 t176 t177 t178 t179 t180 t181 t182 t183 t184 t185 t186 t187 t188 t189 t190 t191 t192 t193 t194 t195 t196 t197 t198 t199 t200 : Value) : Exit → Go.Act → World → Prop
  | .normal, a', w' => Below w.heap.size w w' ∧ ∃ (v91 v92 v93 v94 v95 v96 v97 v98 v99 v100 v101 v102 v103 v104 v105 v106 v107 v108 v109 v110 v111 v112 v113 v114 v115 v116 v117 v118 v119 v120 v121 v122 v123 v124 v125 v126 v127 v128 v129 v130 v131 v132 : Value), a' = { tmps := #[t0, .pointer (some ⟨b, 0, none⟩), t2, t3, t4, t5, t6, t7, t8, t9, t10, t11, t12, t13, t14, t15, t16, t17, t18, t19, t20, t21, t22, t23, t24, t25, t26, t27, t28, t29, t30, t31, t32, t33, t34, t35, t36, t37, t38, t39, t40, t41, t42, t43, t44, t45, t46, t47, t48, t49, t50, t51, t52, t53, t54, t55, t56, t57, t58, t59, t60, t61, t62, t63, t64, t65, t66, t67, t68, t69, t70, t71, t72, t73, t74, t75, t76, t77, t78, t79, t80, t81, t82, t83, t84, t85, t86, t87, t88, t89, t90, v91, v92, v93, v94, v95, v96, v97, v98, v99, v100, v101, v102, v103, v104, v105, v106, v107, v108, v109, v110, v111, v112, v113, v114, v115, v116, v117, v118, v119, v120, v121, v122, v123, v124, v125, v126, v127, v128, v129, v130, v131, v132, .bool false, t134, t135, t136, t137, t138, t139, t140, t141, t142, t143, t144, t145, t146, t147, t148, t149, t150, t151, t152, t153, t154, t155, t156, t157, t158, t159, t160, t161, t162, t163, t164, t165, t166, t167, t168, t169, t170, t171, t172, t173, t174, t175, t176, t177, t178, t179, t180, t181, t182, t183, t184, t185, t186, t187, t188, t189, t190, t191, t192, t193, t194, t195, t196, t197, t198, t199, t200], defers := [] }
  | _, _, _ => False
set_option maxRecDepth 100000 in
set_option maxHeartbeats 8000000 in
theorem r9_region (w : World) (hT : Tabs w) (b M : Nat) (hMM : w.heap.size ≤ M) (wc : World) (hd : DV wc b M [wxzD]) (B : Below w.heap.size w wc) (t0 t2 t3 t4 t5 t6 t7 t8 t9 t10 t11 t12 t13 t14 t15 t16 t17 t18 t19 t20 t21 t22 t23 t24 t25 t26 t27 t28 t29 t30 t31 t32 t33 t34 t35 t36 t37 t38 t39 t40 t41 t42 t43 t44 t45 t46 t47 t48 t49 t50 t51 t52 t53 t54 t55 t56 t57 t58 t59 t60 t61 t62 t63 t64 t65 t66 t67 t68 t69 t70 t71 t72 t73 t74 t75 t76 t77 t78 t79 t80 t81 t82 t83 t84 t85 t86 t87 t88 t89 t90 t91 t92 t93 t94 t95 t96 t97 t98 t99 t100 t101 t102 t103 t104 t105 t106 t107 t108 t109 t110 t111 t112 t113 t114 t115 t116 t117 t118 t119 t120 t121 t122 t123 t124 t125 t126 t127 t128 t129 t130 t131 t132 t133 t134 t135 t136 t137 t138 t139 t140 t141 t142 t143 t144 t145 t146 t147 t148 t149 t150 t151 t152 t153 t154 t155 t156 t157 t158 t159 t160 t161 t162 t163 t164 t165 t166 t167 t168 t169 t170 t171 t172 t173 t174 t175 t176 t177 t178 t179 t180 t181 t182 t183 t184 t185 t186 t187 t188 t189 t190 t191 t192 t193 t194 t195 t196 t197 t198 t199 t200 : Value) :
    (Code.region 9 R9 true).wp Tryd.prog (R9r w b t0 t2 t3 t4 t5 t6 t7 t8 t9 t10 t11 t12 t13 t14 t15 t16 t17 t18 t19 t20 t21 t22 t23 t24 t25 t26 t27 t28 t29 t30 t31 t32 t33 t34 t35 t36 t37 t38 t39 t40 t41 t42 t43 t44 t45 t46 t47 t48 t49 t50 t51 t52 t53 t54 t55 t56 t57 t58 t59 t60 t61 t62 t63 t64 t65 t66 t67 t68 t69 t70 t71 t72 t73 t74 t75 t76 t77 t78 t79 t80 t81 t82 t83 t84 t85 t86 t87 t88 t89 t90 t91 t92 t93 t94 t95 t96 t97 t98 t99 t100 t101 t102 t103 t104 t105 t106 t107 t108 t109 t110 t111 t112 t113 t114 t115 t116 t117 t118 t119 t120 t121 t122 t123 t124 t125 t126 t127 t128 t129 t130 t131 t132 t133 t134 t135 t136 t137 t138 t139 t140 t141 t142 t143 t144 t145 t146 t147 t148 t149 t150 t151 t152 t153 t154 t155 t156 t157 t158 t159 t160 t161 t162 t163 t164 t165 t166 t167 t168 t169 t170 t171 t172 t173 t174 t175 t176 t177 t178 t179 t180 t181 t182 t183 t184 t185 t186 t187 t188 t189 t190 t191 t192 t193 t194 t195 t196 t197 t198 t199 t200) { tmps := #[t0, .pointer (some ⟨b, 0, none⟩), t2, t3, t4, t5, t6, t7, t8, t9, t10, t11, t12, t13, t14, t15, t16, t17, t18, t19, t20, t21, t22, t23, t24, t25, t26, t27, t28, t29, t30, t31, t32, t33, t34, t35, t36, t37, t38, t39, t40, t41, t42, t43, t44, t45, t46, t47, t48, t49, t50, t51, t52, t53, t54, t55, t56, t57, t58, t59, t60, t61, t62, t63, t64, t65, t66, t67, t68, t69, t70, t71, t72, t73, t74, t75, t76, t77, t78, t79, t80, t81, t82, t83, t84, t85, t86, t87, t88, t89, t90, t91, t92, t93, t94, t95, t96, t97, t98, t99, t100, t101, t102, t103, t104, t105, t106, t107, t108, t109, t110, t111, t112, t113, t114, t115, t116, t117, t118, t119, t120, t121, t122, t123, t124, t125, t126, t127, t128, t129, t130, t131, t132, t133, t134, t135, t136, t137, t138, t139, t140, t141, t142, t143, t144, t145, t146, t147, t148, t149, t150, t151, t152, t153, t154, t155, t156, t157, t158, t159, t160, t161, t162, t163, t164, t165, t166, t167, t168, t169, t170, t171, t172, t173, t174, t175, t176, t177, t178, t179, t180, t181, t182, t183, t184, t185, t186, t187, t188, t189, t190, t191, t192, t193, t194, t195, t196, t197, t198, t199, t200], defers := [] } wc := by
  have hw := works_any
  have hu := uri_any
  have hlo := hT.lo
  have c8 := fun w1 b M h1 h2 h3 => change_any w1 h1 b M [wxzD] h2 h3 uriB 7 none 0 0 [] (by decide) rfl (by decide) (chgs_nil w1) (by decide) (by decide) (fun x hx => by cases hx)
  simp only [show uriB.data.toList = uriL from rfl, k8.1, k8.2] at c8
  have c9 := fun w1 b M h1 h2 h3 p c h4 => change_any w1 h1 b M [w7D] h2 h3 uriB 8 p 2 c [bigC, cutC 0 0 ⟨#[97]⟩] (by decide) rfl (by decide) h4 (by decide) (by decide) (fun x hx => by
    rcases List.mem_cons.1 hx with rfl | hx
    · show (zerosB 65536).size ≤ _
      rw [zeros_size]; decide
    · obtain rfl := List.mem_singleton.1 hx
      decide)
  simp only [show uriB.data.toList = uriL from rfl, k9.1, k9.2] at c9
  have t9 := fun w => chgs_two w bigC (cutC 0 0 ⟨#[97]⟩) (by show (zerosB 65536).size ≤ _; rw [zeros_size]; decide) (by decide)
  have i7 := fun w b M h => isdoc_any w b M [w7D] h ⟨#[119, 120, 122]⟩ 7 g7
  have x1 := fun w b M h => close_any w b M [w7D] h uriB (by decide)
  simp only [show uriB.data.toList = uriL from rfl, k10.1, k10.2.1] at x1
  have x2 := fun w b M h => close_any w b M [] h uriB (by decide)
  simp only [show uriB.data.toList = uriL from rfl, k10.2.2.1, k10.2.2.2] at x2
  obtain ⟨ob2, m2, v2⟩ := zeros_made' 65536 (by decide)
  obtain ⟨Has, hHas⟩ : ∃ Has : World → Nat → Prop, Has = fun W g => W.heap[g]? = some ob2 := ⟨_, rfl⟩
  have V3 : Hid (∀ (W : World) (g : Nat), Has W g → (convert 48 9 (.slice (some ⟨g, 0, none⟩) 65536 65536)).run Tryd.prog W = .ok (.string (zerosB 65536)) W) := Lib.hid fun W g h => v2 W g (by rw [hHas] at h; exact h)
  have HA : Hid (∀ W : World, Has (W.alloc ob2) W.heap.size) := Lib.hid fun W => by rw [hHas]; exact World.alloc_heap_new W _
  have HB : Hid (∀ (W w' : World) (g : Nat), Below W.heap.size W w' → Has W g → Has w' g) := Lib.hid fun W w' g hb h => by
    rw [hHas] at h ⊢
    exact (hb.block g (Array.getElem?_eq_some_iff.1 h).1).trans h
  have HG : Hid (∀ (M0 : Nat) (W w' : World) (g : Nat), W.grownBy w' (some M0) → g ≠ M0 → Has W g → Has w' g) := Lib.hid fun M0 W w' g hg hne h => by
    rw [hHas] at h ⊢
    exact (hg.block g (Array.getElem?_eq_some_iff.1 h).1 (by intro e; exact hne (Option.some.inj e))).trans h
  have v4 : ∀ W : World, (convert 48 9 (.slice (some ⟨W.heap.size, 0, none⟩) 65536 65536)).run Tryd.prog (W.alloc ob2) = .ok (.string (zerosB 65536)) (W.alloc ob2) := fun W => V3.out _ _ (HA.out W)
  clear hHas v2
  unfold cutC at t9 c9
  unfold bigC at t9 c9
  simp only at t9
  generalize uriB = X at *
  generalize [wxzD] = L2 at *
  generalize [w7D] = L3 at *
  generalize zerosB 65536 = Z2 at *
  simp only [show ((65536 : Nat) : Int) = 65536 from rfl] at m2
  replace hd := hd.below ((Below.refl _ _).drew)
  replace B := B.drew
  refine wp_region_held_drew (S := fun _ => True) (by kernel_rfl) trivial (fun hHeld => ?_)
  refine wpAnyH_take (i := 0) (oi := { dst := some 91, op := Op.move (Operand.tmp 1), type := 31, pos := "outright.go:60", after := #[], guard := none }) (v := ?_) rfl (by kernel_rfl) (by kernel_rfl) (by kernel_rfl) (fun _ _ _ h => h) (Or.inl ⟨by rfl, ?_⟩) (by assumption) ?_
  rotate_left
  · intro w hS; go_simp; with_reducible rfl
  try simp only [Act.put, List.setIfInBounds_toArray, List.set_cons_zero, List.set_cons_succ]
  refine wpAnyH_ready (rs := [1]) (by kernel_rfl) (by simp) (AllReadyH.cons (o := { dst := some 92, op := Op.call { callee := Callee.value (Operand.func 14), args := #[], argTypes := #[] }, type := 9, pos := "outright.go:60", after := #[], guard := none }) rfl (fun K hK => ?_) AllReadyH.nil)
  rw [if_pos (by rfl)]
  go_simp
  (refine (hu _).mono ?_; rintro e w25 ⟨rfl, hww⟩; subst hww)
  refine hK.out _ _ trivial (fun hS2 => ?_)
  clear hK K
  try simp only [Act.put, List.setIfInBounds_toArray, List.set_cons_zero, List.set_cons_succ]
  refine wpAnyH_ready (rs := [2]) (by kernel_rfl) (by simp) (AllReadyH.cons (o := { dst := some 93, op := Op.call { callee := Callee.value (Operand.func 15), args := #[Operand.tmp 91, Operand.tmp 92, Operand.const (Value.int IntKind.i64 7), Operand.const (Value.slice none 0 0)], argTypes := #[31, 9, 2, 26] }, type := 33, pos := "outright.go:60", after := #[{ on := 0, ground := Ground.data }, { on := 1, ground := Ground.data }, { on := 1, ground := Ground.chain }], guard := none }) rfl (fun K hK => ?_) AllReadyH.nil)
  rw [if_pos (by rfl)]
  go_simp
  (refine (c8 _ b M (hT.below B) hd (by omega)).mono ?_; rintro e w26 ⟨rfl, hd2, hg⟩; replace B := below_g B hMM hg; replace hd := hd2; clear hg hd2)
  refine hK.out _ _ trivial (fun hS2 => ?_)
  clear hK K
  try simp only [Act.put, List.setIfInBounds_toArray, List.set_cons_zero, List.set_cons_succ]
  refine wpAnyH_take (i := 3) (oi := { dst := some 94, op := Op.binOp BinOp.neq 33 (Operand.tmp 93) (Operand.const (Value.int IntKind.i64 0)) 33, type := 4, pos := "outright.go:60", after := #[{ on := 2, ground := Ground.data }], guard := none }) (v := ?_) rfl (by kernel_rfl) (by kernel_rfl) (by kernel_rfl) (fun _ _ _ h => h) (Or.inl ⟨by rfl, ?_⟩) (by assumption) ?_
  rotate_left
  · intro w hS; go_simp; with_reducible rfl
  try simp only [Act.put, List.setIfInBounds_toArray, List.set_cons_zero, List.set_cons_succ]
  refine wpAnyH_take (i := 4) (oi := { dst := some 95, op := Op.move (Operand.tmp 94), type := 4, pos := "outright.go:60", after := #[{ on := 3, ground := Ground.data }, { on := 2, ground := Ground.chain }], guard := none }) (v := ?_) rfl (by kernel_rfl) (by kernel_rfl) (by kernel_rfl) (fun _ _ _ h => h) (Or.inl ⟨by rfl, ?_⟩) (by assumption) ?_
  rotate_left
  · intro w hS; go_simp; with_reducible rfl
  try simp only [Act.put, List.setIfInBounds_toArray, List.set_cons_zero, List.set_cons_succ]
  refine wpAnyH_take (i := 5) (oi := { dst := some 96, op := Op.move (Operand.tmp 1), type := 31, pos := "outright.go:60", after := #[{ on := 4, ground := Ground.guard }], guard := some (4, false) }) (v := ?_) rfl (by kernel_rfl) (by kernel_rfl) (by kernel_rfl) (fun _ _ _ h => h) (Or.inl ⟨by rfl, ?_⟩) (by assumption) ?_
  rotate_left
  · intro w hS; go_simp; with_reducible rfl
  try simp only [Act.put, List.setIfInBounds_toArray, List.set_cons_zero, List.set_cons_succ]
  refine wpAnyH_ready (rs := [6]) (by kernel_rfl) (by simp) (AllReadyH.cons (o := { dst := some 97, op := Op.call { callee := Callee.value (Operand.func 24), args := #[Operand.tmp 96, Operand.const (Value.string { data := #[119, 120, 122] }), Operand.const (Value.int IntKind.i64 7)], argTypes := #[31, 9, 2] }, type := 4, pos := "outright.go:60", after := #[{ on := 5, ground := Ground.data }, { on := 4, ground := Ground.chain }, { on := 4, ground := Ground.guard }], guard := some (4, false) }) rfl (fun K hK => ?_) AllReadyH.nil)
  rw [if_pos (by rfl)]
  go_simp
  (refine (i7 _ b M hd).mono ?_; rintro e w27 ⟨rfl, hb⟩; replace hd := hd.below hb; replace B := B.trans (hb.mono B.size); clear hb)
  refine hK.out _ _ trivial (fun hS2 => ?_)
  clear hK K
  try simp only [Act.put, List.setIfInBounds_toArray, List.set_cons_zero, List.set_cons_succ]
  refine wpAnyH_take (i := 7) (oi := { dst := some 98, op := Op.unOp UnOp.not 4 (Operand.tmp 97), type := 4, pos := "outright.go:60", after := #[{ on := 6, ground := Ground.data }, { on := 4, ground := Ground.guard }], guard := some (4, false) }) (v := ?_) rfl (by kernel_rfl) (by kernel_rfl) (by kernel_rfl) (fun _ _ _ h => h) (Or.inl ⟨by rfl, ?_⟩) (by assumption) ?_
  rotate_left
  · intro w hS; go_simp; with_reducible rfl
  try simp only [Act.put, List.setIfInBounds_toArray, List.set_cons_zero, List.set_cons_succ]
  refine wpAnyH_take (i := 8) (oi := { dst := some 99, op := Op.pick (Operand.tmp 95) (Operand.const (Value.bool true)) (Operand.tmp 98), type := 4, pos := "outright.go:60", after := #[{ on := 4, ground := Ground.data }, { on := 7, ground := Ground.data }], guard := none }) (v := ?_) rfl (by kernel_rfl) (by kernel_rfl) (by kernel_rfl) (fun _ _ _ h => h) (Or.inl ⟨by rfl, ?_⟩) (by assumption) ?_
  rotate_left
  · intro w hS; go_simp; with_reducible rfl
  try simp only [Act.put, List.setIfInBounds_toArray, List.set_cons_zero, List.set_cons_succ]
  refine wpAnyH_take (i := 9) (oi := { dst := some 100, op := Op.move (Operand.tmp 99), type := 4, pos := "outright.go:60", after := #[{ on := 8, ground := Ground.data }, { on := 6, ground := Ground.chain }], guard := none }) (v := ?_) rfl (by kernel_rfl) (by kernel_rfl) (by kernel_rfl) (fun _ _ _ h => h) (Or.inl ⟨by rfl, ?_⟩) (by assumption) ?_
  rotate_left
  · intro w hS; go_simp; with_reducible rfl
  try simp only [Act.put, List.setIfInBounds_toArray, List.set_cons_zero, List.set_cons_succ]
  refine wpAnyH_take (i := 10) (oi := { dst := some 101, op := Op.move (Operand.tmp 1), type := 31, pos := "outright.go:60", after := #[{ on := 9, ground := Ground.guard }], guard := some (9, false) }) (v := ?_) rfl (by kernel_rfl) (by kernel_rfl) (by kernel_rfl) (fun _ _ _ h => h) (Or.inl ⟨by rfl, ?_⟩) (by assumption) ?_
  rotate_left
  · intro w hS; go_simp; with_reducible rfl
  try simp only [Act.put, List.setIfInBounds_toArray, List.set_cons_zero, List.set_cons_succ]
  refine wpAnyH_ready (rs := [11, 12]) (by kernel_rfl) (by simp) (AllReadyH.cons (o := { dst := some 102, op := Op.call { callee := Callee.value (Operand.func 14), args := #[], argTypes := #[] }, type := 9, pos := "outright.go:60", after := #[{ on := 9, ground := Ground.chain }, { on := 9, ground := Ground.guard }], guard := some (9, false) }) rfl (fun K hK => ?_) (AllReadyH.cons (o := { dst := some 103, op := Op.makeSlice 48 (Operand.const (Value.int IntKind.i64 65536)) (Operand.const (Value.int IntKind.i64 65536)), type := 48, pos := "outright.go:60", after := #[{ on := 9, ground := Ground.guard }], guard := some (9, false) }) rfl (fun K hK => ?_) AllReadyH.nil))
  · rw [if_pos (by rfl)]
    go_simp
    (refine (hu _).mono ?_; rintro e w29 ⟨rfl, hww⟩; subst hww)
    refine hK.out _ _ trivial (fun hS2 => ?_)
    clear hK K
    try simp only [Act.put, List.setIfInBounds_toArray, List.set_cons_zero, List.set_cons_succ]
    refine wpAnyH_ready (rs := [12, 15]) (by kernel_rfl) (by simp) (AllReadyH.cons (o := { dst := some 103, op := Op.makeSlice 48 (Operand.const (Value.int IntKind.i64 65536)) (Operand.const (Value.int IntKind.i64 65536)), type := 48, pos := "outright.go:60", after := #[{ on := 9, ground := Ground.guard }], guard := some (9, false) }) rfl (fun K hK => ?_) (AllReadyH.cons (o := { dst := some 106, op := Op.call { callee := Callee.value (Operand.func 23), args := #[Operand.const (Value.int IntKind.i64 0), Operand.const (Value.int IntKind.i64 0), Operand.const (Value.string { data := #[97] })], argTypes := #[3, 3, 9] }, type := 54, pos := "outright.go:60", after := #[{ on := 11, ground := Ground.chain }, { on := 9, ground := Ground.guard }], guard := some (9, false) }) rfl (fun K hK => ?_) AllReadyH.nil))
    · rw [if_pos (by rfl)]
      go_simp
      (obtain ⟨g, hge⟩ : ∃ g, w27.heap.size = g := ⟨_, rfl⟩; have gM' : g ≠ M := (by have := hd.lt.2; omega); have hh := HA.out w27; have hd3 := hd.below ((Below.refl _ _).alloc (Nat.le_refl _) ob2); have B3 := B.trans ((Below.refl _ _).alloc B.size ob2); rw [hge] at hh; clear hd B; have hd := hd3; have B := B3; clear hd3 B3; have HGE := Lib.hid hge)
      refine hK.out _ _ trivial (fun hS2 => ?_)
      clear hK K
      try simp only [Act.put, List.setIfInBounds_toArray, List.set_cons_zero, List.set_cons_succ]
      rw [HGE.out]
      clear HGE
      generalize w27.alloc ob2 = WW at *
      refine wpAnyH_weaker (S' := fun v => Has v g) (fun _ _ => trivial) _ _ _ _ ?_
      have hHas := hh
      refine wpAnyH_take (i := 13) (oi := { dst := some 104, op := Op.convert 48 9 (Operand.tmp 103), type := 9, pos := "outright.go:60", after := #[{ on := 12, ground := Ground.data }, { on := 9, ground := Ground.guard }], guard := some (9, false) }) (v := ?_) rfl (by kernel_rfl) (by kernel_rfl) (by kernel_rfl) (fun _ _ _ h => h) (Or.inl ⟨by rfl, ?_⟩) (by assumption) ?_
      rotate_left
      · intro w hS; have vv := V3.out w g hS; go_simp; with_reducible rfl
      try simp only [Act.put, List.setIfInBounds_toArray, List.set_cons_zero, List.set_cons_succ]
      refine wpAnyH_take (i := 14) (oi := { dst := some 105, op := Op.build 54 #[(0, Operand.const (Value.bool true)), (2, Operand.tmp 104)], type := 54, pos := "outright.go:60", after := #[{ on := 13, ground := Ground.data }, { on := 9, ground := Ground.guard }], guard := some (9, false) }) (v := ?_) rfl (by kernel_rfl) (by kernel_rfl) (by kernel_rfl) (fun _ _ _ h => h) (Or.inl ⟨by rfl, ?_⟩) (by assumption) ?_
      rotate_left
      · intro w hS; go_simp; with_reducible rfl
      try simp only [Act.put, List.setIfInBounds_toArray, List.set_cons_zero, List.set_cons_succ]
      refine wpAnyH_ready (rs := [15]) (by kernel_rfl) (by simp) (AllReadyH.cons (o := { dst := some 106, op := Op.call { callee := Callee.value (Operand.func 23), args := #[Operand.const (Value.int IntKind.i64 0), Operand.const (Value.int IntKind.i64 0), Operand.const (Value.string { data := #[97] })], argTypes := #[3, 3, 9] }, type := 54, pos := "outright.go:60", after := #[{ on := 11, ground := Ground.chain }, { on := 9, ground := Ground.guard }], guard := some (9, false) }) rfl (fun K hK => ?_) AllReadyH.nil)
      rw [if_pos (by rfl)]
      go_simp
      (refine (lawcut_any _ _ _ _).mono ?_; rintro e w10 ⟨rfl, hb⟩; replace hh := HB.out _ _ _ hb hh; replace hd := hd.below hb; replace B := B.trans (hb.mono B.size); clear hb)
      refine hK.out _ _ hh (fun hS2 => ?_)
      clear hK K
      try simp only [Act.put, List.setIfInBounds_toArray, List.set_cons_zero, List.set_cons_succ]
      refine wpAnyH_ready (rs := [16]) (by kernel_rfl) (by simp) (AllReadyH.cons (o := { dst := some 107, op := Op.buildSlice 26 2 #[(0, Operand.tmp 105), (1, Operand.tmp 106)], type := 26, pos := "outright.go:60", after := #[{ on := 14, ground := Ground.data }, { on := 15, ground := Ground.data }, { on := 9, ground := Ground.guard }], guard := some (9, false) }) rfl (fun K hK => ?_) AllReadyH.nil)
      rw [if_pos (by rfl)]
      go_simp
      refine hK.out _ _ (HB.out _ _ _ ((Below.refl _ _).alloc (Nat.le_refl _) _) hh) (fun hS2 => ?_)
      clear hK K
      try simp only [Act.put, List.setIfInBounds_toArray, List.set_cons_zero, List.set_cons_succ]
      refine wpAnyH_ready (rs := [17]) (by kernel_rfl) (by simp) (AllReadyH.cons (o := { dst := some 108, op := Op.call { callee := Callee.value (Operand.func 15), args := #[Operand.tmp 101, Operand.tmp 102, Operand.const (Value.int IntKind.i64 8), Operand.tmp 107], argTypes := #[31, 9, 2, 26] }, type := 33, pos := "outright.go:60", after := #[{ on := 10, ground := Ground.data }, { on := 11, ground := Ground.data }, { on := 16, ground := Ground.data }, { on := 15, ground := Ground.chain }, { on := 9, ground := Ground.guard }], guard := some (9, false) }) rfl (fun K hK => ?_) AllReadyH.nil)
      rw [if_pos (by rfl)]
      go_simp
      (refine (c9 _ b M (hT.below (B.trans ((Below.refl _ _).alloc B.size _))) (hd.below ((Below.refl _ _).alloc (Nat.le_refl _) _)) (by omega) _ _ (t9 _)).mono ?_; rintro e w11 ⟨rfl, hd2, hg⟩; replace hh := HG.out _ _ _ _ hg gM' (HB.out _ _ _ ((Below.refl _ _).alloc (Nat.le_refl _) _) hh); replace B := below_ag B hMM hg; replace hd := hd2; clear hg hd2)
      refine hK.out _ _ hh (fun hS2 => ?_)
      clear hK K
      try simp only [Act.put, List.setIfInBounds_toArray, List.set_cons_zero, List.set_cons_succ]
      refine wpAnyH_take (i := 18) (oi := { dst := some 109, op := Op.binOp BinOp.neq 33 (Operand.tmp 108) (Operand.const (Value.int IntKind.i64 3)) 33, type := 4, pos := "outright.go:60", after := #[{ on := 17, ground := Ground.data }, { on := 9, ground := Ground.guard }], guard := some (9, false) }) (v := ?_) rfl (by kernel_rfl) (by kernel_rfl) (by kernel_rfl) (fun _ _ _ h => h) (Or.inl ⟨by rfl, ?_⟩) (by assumption) ?_
      rotate_left
      · intro w hS; go_simp; with_reducible rfl
      try simp only [Act.put, List.setIfInBounds_toArray, List.set_cons_zero, List.set_cons_succ]
      refine wpAnyH_take (i := 19) (oi := { dst := some 110, op := Op.pick (Operand.tmp 100) (Operand.const (Value.bool true)) (Operand.tmp 109), type := 4, pos := "outright.go:60", after := #[{ on := 9, ground := Ground.data }, { on := 18, ground := Ground.data }], guard := none }) (v := ?_) rfl (by kernel_rfl) (by kernel_rfl) (by kernel_rfl) (fun _ _ _ h => h) (Or.inl ⟨by rfl, ?_⟩) (by assumption) ?_
      rotate_left
      · intro w hS; go_simp; with_reducible rfl
      try simp only [Act.put, List.setIfInBounds_toArray, List.set_cons_zero, List.set_cons_succ]
      refine wpAnyH_take (i := 20) (oi := { dst := some 111, op := Op.move (Operand.tmp 110), type := 4, pos := "outright.go:60", after := #[{ on := 19, ground := Ground.data }, { on := 17, ground := Ground.chain }], guard := none }) (v := ?_) rfl (by kernel_rfl) (by kernel_rfl) (by kernel_rfl) (fun _ _ _ h => h) (Or.inl ⟨by rfl, ?_⟩) (by assumption) ?_
      rotate_left
      · intro w hS; go_simp; with_reducible rfl
      try simp only [Act.put, List.setIfInBounds_toArray, List.set_cons_zero, List.set_cons_succ]
      refine wpAnyH_take (i := 21) (oi := { dst := some 112, op := Op.move (Operand.tmp 1), type := 31, pos := "outright.go:60", after := #[{ on := 20, ground := Ground.guard }], guard := some (20, false) }) (v := ?_) rfl (by kernel_rfl) (by kernel_rfl) (by kernel_rfl) (fun _ _ _ h => h) (Or.inl ⟨by rfl, ?_⟩) (by assumption) ?_
      rotate_left
      · intro w hS; go_simp; with_reducible rfl
      try simp only [Act.put, List.setIfInBounds_toArray, List.set_cons_zero, List.set_cons_succ]
      refine wpAnyH_ready (rs := [22]) (by kernel_rfl) (by simp) (AllReadyH.cons (o := { dst := some 113, op := Op.call { callee := Callee.value (Operand.func 24), args := #[Operand.tmp 112, Operand.const (Value.string { data := #[119, 120, 122] }), Operand.const (Value.int IntKind.i64 7)], argTypes := #[31, 9, 2] }, type := 4, pos := "outright.go:60", after := #[{ on := 21, ground := Ground.data }, { on := 20, ground := Ground.chain }, { on := 20, ground := Ground.guard }], guard := some (20, false) }) rfl (fun K hK => ?_) AllReadyH.nil)
      rw [if_pos (by rfl)]
      go_simp
      (refine (i7 _ b M hd).mono ?_; rintro e w12 ⟨rfl, hb⟩; replace hh := HB.out _ _ _ hb hh; replace hd := hd.below hb; replace B := B.trans (hb.mono B.size); clear hb)
      refine hK.out _ _ hh (fun hS2 => ?_)
      clear hK K
      try simp only [Act.put, List.setIfInBounds_toArray, List.set_cons_zero, List.set_cons_succ]
      refine wpAnyH_take (i := 23) (oi := { dst := some 114, op := Op.unOp UnOp.not 4 (Operand.tmp 113), type := 4, pos := "outright.go:60", after := #[{ on := 22, ground := Ground.data }, { on := 20, ground := Ground.guard }], guard := some (20, false) }) (v := ?_) rfl (by kernel_rfl) (by kernel_rfl) (by kernel_rfl) (fun _ _ _ h => h) (Or.inl ⟨by rfl, ?_⟩) (by assumption) ?_
      rotate_left
      · intro w hS; go_simp; with_reducible rfl
      try simp only [Act.put, List.setIfInBounds_toArray, List.set_cons_zero, List.set_cons_succ]
      refine wpAnyH_take (i := 24) (oi := { dst := some 115, op := Op.pick (Operand.tmp 111) (Operand.const (Value.bool true)) (Operand.tmp 114), type := 4, pos := "outright.go:60", after := #[{ on := 20, ground := Ground.data }, { on := 23, ground := Ground.data }], guard := none }) (v := ?_) rfl (by kernel_rfl) (by kernel_rfl) (by kernel_rfl) (fun _ _ _ h => h) (Or.inl ⟨by rfl, ?_⟩) (by assumption) ?_
      rotate_left
      · intro w hS; go_simp; with_reducible rfl
      try simp only [Act.put, List.setIfInBounds_toArray, List.set_cons_zero, List.set_cons_succ]
      refine wpAnyH_take (i := 25) (oi := { dst := some 116, op := Op.move (Operand.tmp 115), type := 4, pos := "outright.go:60", after := #[{ on := 24, ground := Ground.data }, { on := 22, ground := Ground.chain }], guard := none }) (v := ?_) rfl (by kernel_rfl) (by kernel_rfl) (by kernel_rfl) (fun _ _ _ h => h) (Or.inl ⟨by rfl, ?_⟩) (by assumption) ?_
      rotate_left
      · intro w hS; go_simp; with_reducible rfl
      try simp only [Act.put, List.setIfInBounds_toArray, List.set_cons_zero, List.set_cons_succ]
      refine wpAnyH_take (i := 26) (oi := { dst := some 117, op := Op.move (Operand.tmp 1), type := 31, pos := "outright.go:60", after := #[{ on := 25, ground := Ground.guard }], guard := some (25, false) }) (v := ?_) rfl (by kernel_rfl) (by kernel_rfl) (by kernel_rfl) (fun _ _ _ h => h) (Or.inl ⟨by rfl, ?_⟩) (by assumption) ?_
      rotate_left
      · intro w hS; go_simp; with_reducible rfl
      try simp only [Act.put, List.setIfInBounds_toArray, List.set_cons_zero, List.set_cons_succ]
      refine wpAnyH_ready (rs := [27]) (by kernel_rfl) (by simp) (AllReadyH.cons (o := { dst := some 118, op := Op.call { callee := Callee.value (Operand.func 14), args := #[], argTypes := #[] }, type := 9, pos := "outright.go:60", after := #[{ on := 25, ground := Ground.chain }, { on := 25, ground := Ground.guard }], guard := some (25, false) }) rfl (fun K hK => ?_) AllReadyH.nil)
      rw [if_pos (by rfl)]
      go_simp
      (refine (hu _).mono ?_; rintro e w13 ⟨rfl, hww⟩; subst hww)
      refine hK.out _ _ hh (fun hS2 => ?_)
      clear hK K
      try simp only [Act.put, List.setIfInBounds_toArray, List.set_cons_zero, List.set_cons_succ]
      refine wpAnyH_ready (rs := [28]) (by kernel_rfl) (by simp) (AllReadyH.cons (o := { dst := some 119, op := Op.call { callee := Callee.value (Operand.func 19), args := #[Operand.tmp 117, Operand.tmp 118], argTypes := #[31, 9] }, type := 33, pos := "outright.go:60", after := #[{ on := 26, ground := Ground.data }, { on := 27, ground := Ground.data }, { on := 27, ground := Ground.chain }, { on := 25, ground := Ground.guard }], guard := some (25, false) }) rfl (fun K hK => ?_) AllReadyH.nil)
      rw [if_pos (by rfl)]
      go_simp
      (refine (x1 _ b M hd).mono ?_; rintro e w14 ⟨rfl, hd2, hg⟩; replace hh := HG.out _ _ _ _ hg gM' hh; replace B := below_g B hMM hg; replace hd := hd2; clear hg hd2)
      refine hK.out _ _ hh (fun hS2 => ?_)
      clear hK K
      try simp only [Act.put, List.setIfInBounds_toArray, List.set_cons_zero, List.set_cons_succ]
      refine wpAnyH_take (i := 29) (oi := { dst := some 120, op := Op.binOp BinOp.neq 33 (Operand.tmp 119) (Operand.const (Value.int IntKind.i64 0)) 33, type := 4, pos := "outright.go:60", after := #[{ on := 28, ground := Ground.data }, { on := 25, ground := Ground.guard }], guard := some (25, false) }) (v := ?_) rfl (by kernel_rfl) (by kernel_rfl) (by kernel_rfl) (fun _ _ _ h => h) (Or.inl ⟨by rfl, ?_⟩) (by assumption) ?_
      rotate_left
      · intro w hS; go_simp; with_reducible rfl
      try simp only [Act.put, List.setIfInBounds_toArray, List.set_cons_zero, List.set_cons_succ]
      refine wpAnyH_take (i := 30) (oi := { dst := some 121, op := Op.pick (Operand.tmp 116) (Operand.const (Value.bool true)) (Operand.tmp 120), type := 4, pos := "outright.go:60", after := #[{ on := 25, ground := Ground.data }, { on := 29, ground := Ground.data }], guard := none }) (v := ?_) rfl (by kernel_rfl) (by kernel_rfl) (by kernel_rfl) (fun _ _ _ h => h) (Or.inl ⟨by rfl, ?_⟩) (by assumption) ?_
      rotate_left
      · intro w hS; go_simp; with_reducible rfl
      try simp only [Act.put, List.setIfInBounds_toArray, List.set_cons_zero, List.set_cons_succ]
      refine wpAnyH_take (i := 31) (oi := { dst := some 122, op := Op.move (Operand.tmp 121), type := 4, pos := "outright.go:60", after := #[{ on := 30, ground := Ground.data }, { on := 28, ground := Ground.chain }], guard := none }) (v := ?_) rfl (by kernel_rfl) (by kernel_rfl) (by kernel_rfl) (fun _ _ _ h => h) (Or.inl ⟨by rfl, ?_⟩) (by assumption) ?_
      rotate_left
      · intro w hS; go_simp; with_reducible rfl
      try simp only [Act.put, List.setIfInBounds_toArray, List.set_cons_zero, List.set_cons_succ]
      refine wpAnyH_take (i := 32) (oi := { dst := some 123, op := Op.move (Operand.tmp 1), type := 31, pos := "outright.go:60", after := #[{ on := 31, ground := Ground.guard }], guard := some (31, false) }) (v := ?_) rfl (by kernel_rfl) (by kernel_rfl) (by kernel_rfl) (fun _ _ _ h => h) (Or.inl ⟨by rfl, ?_⟩) (by assumption) ?_
      rotate_left
      · intro w hS; go_simp; with_reducible rfl
      try simp only [Act.put, List.setIfInBounds_toArray, List.set_cons_zero, List.set_cons_succ]
      refine wpAnyH_ready (rs := [33]) (by kernel_rfl) (by simp) (AllReadyH.cons (o := { dst := some 124, op := Op.call { callee := Callee.value (Operand.func 14), args := #[], argTypes := #[] }, type := 9, pos := "outright.go:60", after := #[{ on := 31, ground := Ground.chain }, { on := 31, ground := Ground.guard }], guard := some (31, false) }) rfl (fun K hK => ?_) AllReadyH.nil)
      rw [if_pos (by rfl)]
      go_simp
      (refine (hu _).mono ?_; rintro e w15 ⟨rfl, hww⟩; subst hww)
      refine hK.out _ _ hh (fun hS2 => ?_)
      clear hK K
      try simp only [Act.put, List.setIfInBounds_toArray, List.set_cons_zero, List.set_cons_succ]
      refine wpAnyH_ready (rs := [34]) (by kernel_rfl) (by simp) (AllReadyH.cons (o := { dst := some 125, op := Op.call { callee := Callee.value (Operand.func 19), args := #[Operand.tmp 123, Operand.tmp 124], argTypes := #[31, 9] }, type := 33, pos := "outright.go:60", after := #[{ on := 32, ground := Ground.data }, { on := 33, ground := Ground.data }, { on := 33, ground := Ground.chain }, { on := 31, ground := Ground.guard }], guard := some (31, false) }) rfl (fun K hK => ?_) AllReadyH.nil)
      rw [if_pos (by rfl)]
      go_simp
      (refine (x2 _ b M hd).mono ?_; rintro e w16 ⟨rfl, hd2, hg⟩; replace hh := HG.out _ _ _ _ hg gM' hh; replace B := below_g B hMM hg; replace hd := hd2; clear hg hd2)
      refine hK.out _ _ hh (fun hS2 => ?_)
      clear hK K
      try simp only [Act.put, List.setIfInBounds_toArray, List.set_cons_zero, List.set_cons_succ]
      refine wpAnyH_take (i := 35) (oi := { dst := some 126, op := Op.binOp BinOp.neq 33 (Operand.tmp 125) (Operand.const (Value.int IntKind.i64 5)) 33, type := 4, pos := "outright.go:60", after := #[{ on := 34, ground := Ground.data }, { on := 31, ground := Ground.guard }], guard := some (31, false) }) (v := ?_) rfl (by kernel_rfl) (by kernel_rfl) (by kernel_rfl) (fun _ _ _ h => h) (Or.inl ⟨by rfl, ?_⟩) (by assumption) ?_
      rotate_left
      · intro w hS; go_simp; with_reducible rfl
      try simp only [Act.put, List.setIfInBounds_toArray, List.set_cons_zero, List.set_cons_succ]
      refine wpAnyH_take (i := 36) (oi := { dst := some 127, op := Op.pick (Operand.tmp 122) (Operand.const (Value.bool true)) (Operand.tmp 126), type := 4, pos := "outright.go:60", after := #[{ on := 31, ground := Ground.data }, { on := 35, ground := Ground.data }], guard := none }) (v := ?_) rfl (by kernel_rfl) (by kernel_rfl) (by kernel_rfl) (fun _ _ _ h => h) (Or.inl ⟨by rfl, ?_⟩) (by assumption) ?_
      rotate_left
      · intro w hS; go_simp; with_reducible rfl
      try simp only [Act.put, List.setIfInBounds_toArray, List.set_cons_zero, List.set_cons_succ]
      refine wpAnyH_take (i := 37) (oi := { dst := some 128, op := Op.move (Operand.tmp 127), type := 4, pos := "outright.go:60", after := #[{ on := 36, ground := Ground.data }, { on := 34, ground := Ground.chain }], guard := none }) (v := ?_) rfl (by kernel_rfl) (by kernel_rfl) (by kernel_rfl) (fun _ _ _ h => h) (Or.inl ⟨by rfl, ?_⟩) (by assumption) ?_
      rotate_left
      · intro w hS; go_simp; with_reducible rfl
      try simp only [Act.put, List.setIfInBounds_toArray, List.set_cons_zero, List.set_cons_succ]
      refine wpAnyH_take (i := 38) (oi := { dst := some 129, op := Op.move (Operand.tmp 1), type := 31, pos := "outright.go:60", after := #[{ on := 37, ground := Ground.guard }], guard := some (37, false) }) (v := ?_) rfl (by kernel_rfl) (by kernel_rfl) (by kernel_rfl) (fun _ _ _ h => h) (Or.inl ⟨by rfl, ?_⟩) (by assumption) ?_
      rotate_left
      · intro w hS; go_simp; with_reducible rfl
      try simp only [Act.put, List.setIfInBounds_toArray, List.set_cons_zero, List.set_cons_succ]
      refine wpAnyH_ready (rs := [39]) (by kernel_rfl) (by simp) (AllReadyH.cons (o := { dst := some 130, op := Op.call { callee := Callee.value (Operand.func 20), args := #[Operand.tmp 129], argTypes := #[31] }, type := 45, pos := "outright.go:60", after := #[{ on := 38, ground := Ground.data }, { on := 37, ground := Ground.chain }, { on := 37, ground := Ground.guard }], guard := some (37, false) }) rfl (fun K hK => ?_) AllReadyH.nil)
      rw [if_pos (by rfl)]
      go_simp
      (refine (all_any _ b M [] hd Ord.nil (by decide)).mono ?_; rintro e w17 ⟨v, rfl, hrow, hb⟩; replace hh := HB.out _ _ _ hb hh; obtain ⟨pp, cap, rfl, _, _, _⟩ := row_docs hrow; replace hd := hd.below hb; replace B := B.trans (hb.mono B.size); clear hb hrow)
      refine hK.out _ _ hh (fun hS2 => ?_)
      clear hK K
      try simp only [Act.put, List.setIfInBounds_toArray, List.set_cons_zero, List.set_cons_succ]
      refine wpAnyH_take (i := 40) (oi := { dst := some 131, op := Op.call { callee := Callee.builtin Builtin.len, args := #[Operand.tmp 130], argTypes := #[45] }, type := 3, pos := "outright.go:60", after := #[{ on := 39, ground := Ground.data }, { on := 37, ground := Ground.guard }], guard := some (37, false) }) (v := ?_) rfl (by kernel_rfl) (by kernel_rfl) (by kernel_rfl) (fun _ _ _ h => h) (Or.inl ⟨by rfl, ?_⟩) (by assumption) ?_
      rotate_left
      · intro w hS; go_simp; with_reducible rfl
      try simp only [Act.put, List.setIfInBounds_toArray, List.set_cons_zero, List.set_cons_succ]
      refine wpAnyH_take (i := 41) (oi := { dst := some 132, op := Op.binOp BinOp.neq 3 (Operand.tmp 131) (Operand.const (Value.int IntKind.i64 0)) 3, type := 4, pos := "outright.go:60", after := #[{ on := 40, ground := Ground.data }, { on := 37, ground := Ground.guard }], guard := some (37, false) }) (v := ?_) rfl (by kernel_rfl) (by kernel_rfl) (by kernel_rfl) (fun _ _ _ h => h) (Or.inl ⟨by rfl, ?_⟩) (by assumption) ?_
      rotate_left
      · intro w hS; go_simp; with_reducible rfl
      try simp only [Act.put, List.setIfInBounds_toArray, List.set_cons_zero, List.set_cons_succ]
      refine wpAnyH_take (i := 42) (oi := { dst := some 133, op := Op.pick (Operand.tmp 128) (Operand.const (Value.bool true)) (Operand.tmp 132), type := 4, pos := "outright.go:60", after := #[{ on := 37, ground := Ground.data }, { on := 41, ground := Ground.data }], guard := none }) (v := ?_) rfl (by kernel_rfl) (by kernel_rfl) (by kernel_rfl) (fun _ _ _ h => h) (Or.inl ⟨by rfl, ?_⟩) (by assumption) ?_
      rotate_left
      · intro w hS; go_simp; with_reducible rfl
      try simp only [Act.put, List.setIfInBounds_toArray, List.set_cons_zero, List.set_cons_succ]
      refine wpAnyH_done (by kernel_rfl) ?_ _
      exact ⟨B, _, _, _, _, _, _, _, _, _, _, _, _, _, _, _, _, _, _, _, _, _, _, _, _, _, _, _, _, _, _, _, _, _, _, _, _, _, _, _, _, _, _, rfl⟩
    · rw [if_pos (by rfl)]
      go_simp
      (refine (lawcut_any _ _ _ _).mono ?_; rintro e w28 ⟨rfl, hb⟩; replace hd := hd.below hb; replace B := B.trans (hb.mono B.size); clear hb)
      refine hK.out _ _ trivial (fun hS2 => ?_)
      clear hK K
      try simp only [Act.put, List.setIfInBounds_toArray, List.set_cons_zero, List.set_cons_succ]
      refine wpAnyH_ready (rs := [12]) (by kernel_rfl) (by simp) (AllReadyH.cons (o := { dst := some 103, op := Op.makeSlice 48 (Operand.const (Value.int IntKind.i64 65536)) (Operand.const (Value.int IntKind.i64 65536)), type := 48, pos := "outright.go:60", after := #[{ on := 9, ground := Ground.guard }], guard := some (9, false) }) rfl (fun K hK => ?_) AllReadyH.nil)
      rw [if_pos (by rfl)]
      go_simp
      (obtain ⟨g, hge⟩ : ∃ g, w28.heap.size = g := ⟨_, rfl⟩; have gM' : g ≠ M := (by have := hd.lt.2; omega); have hh := HA.out w28; have hd3 := hd.below ((Below.refl _ _).alloc (Nat.le_refl _) ob2); have B3 := B.trans ((Below.refl _ _).alloc B.size ob2); rw [hge] at hh; clear hd B; have hd := hd3; have B := B3; clear hd3 B3; have HGE := Lib.hid hge)
      refine hK.out _ _ trivial (fun hS2 => ?_)
      clear hK K
      try simp only [Act.put, List.setIfInBounds_toArray, List.set_cons_zero, List.set_cons_succ]
      rw [HGE.out]
      clear HGE
      generalize w28.alloc ob2 = WW at *
      refine wpAnyH_weaker (S' := fun v => Has v g) (fun _ _ => trivial) _ _ _ _ ?_
      have hHas := hh
      refine wpAnyH_take (i := 13) (oi := { dst := some 104, op := Op.convert 48 9 (Operand.tmp 103), type := 9, pos := "outright.go:60", after := #[{ on := 12, ground := Ground.data }, { on := 9, ground := Ground.guard }], guard := some (9, false) }) (v := ?_) rfl (by kernel_rfl) (by kernel_rfl) (by kernel_rfl) (fun _ _ _ h => h) (Or.inl ⟨by rfl, ?_⟩) (by assumption) ?_
      rotate_left
      · intro w hS; have vv := V3.out w g hS; go_simp; with_reducible rfl
      try simp only [Act.put, List.setIfInBounds_toArray, List.set_cons_zero, List.set_cons_succ]
      refine wpAnyH_take (i := 14) (oi := { dst := some 105, op := Op.build 54 #[(0, Operand.const (Value.bool true)), (2, Operand.tmp 104)], type := 54, pos := "outright.go:60", after := #[{ on := 13, ground := Ground.data }, { on := 9, ground := Ground.guard }], guard := some (9, false) }) (v := ?_) rfl (by kernel_rfl) (by kernel_rfl) (by kernel_rfl) (fun _ _ _ h => h) (Or.inl ⟨by rfl, ?_⟩) (by assumption) ?_
      rotate_left
      · intro w hS; go_simp; with_reducible rfl
      try simp only [Act.put, List.setIfInBounds_toArray, List.set_cons_zero, List.set_cons_succ]
      refine wpAnyH_ready (rs := [16]) (by kernel_rfl) (by simp) (AllReadyH.cons (o := { dst := some 107, op := Op.buildSlice 26 2 #[(0, Operand.tmp 105), (1, Operand.tmp 106)], type := 26, pos := "outright.go:60", after := #[{ on := 14, ground := Ground.data }, { on := 15, ground := Ground.data }, { on := 9, ground := Ground.guard }], guard := some (9, false) }) rfl (fun K hK => ?_) AllReadyH.nil)
      rw [if_pos (by rfl)]
      go_simp
      refine hK.out _ _ (HB.out _ _ _ ((Below.refl _ _).alloc (Nat.le_refl _) _) hh) (fun hS2 => ?_)
      clear hK K
      try simp only [Act.put, List.setIfInBounds_toArray, List.set_cons_zero, List.set_cons_succ]
      refine wpAnyH_ready (rs := [17]) (by kernel_rfl) (by simp) (AllReadyH.cons (o := { dst := some 108, op := Op.call { callee := Callee.value (Operand.func 15), args := #[Operand.tmp 101, Operand.tmp 102, Operand.const (Value.int IntKind.i64 8), Operand.tmp 107], argTypes := #[31, 9, 2, 26] }, type := 33, pos := "outright.go:60", after := #[{ on := 10, ground := Ground.data }, { on := 11, ground := Ground.data }, { on := 16, ground := Ground.data }, { on := 15, ground := Ground.chain }, { on := 9, ground := Ground.guard }], guard := some (9, false) }) rfl (fun K hK => ?_) AllReadyH.nil)
      rw [if_pos (by rfl)]
      go_simp
      (refine (c9 _ b M (hT.below (B.trans ((Below.refl _ _).alloc B.size _))) (hd.below ((Below.refl _ _).alloc (Nat.le_refl _) _)) (by omega) _ _ (t9 _)).mono ?_; rintro e w18 ⟨rfl, hd2, hg⟩; replace hh := HG.out _ _ _ _ hg gM' (HB.out _ _ _ ((Below.refl _ _).alloc (Nat.le_refl _) _) hh); replace B := below_ag B hMM hg; replace hd := hd2; clear hg hd2)
      refine hK.out _ _ hh (fun hS2 => ?_)
      clear hK K
      try simp only [Act.put, List.setIfInBounds_toArray, List.set_cons_zero, List.set_cons_succ]
      refine wpAnyH_take (i := 18) (oi := { dst := some 109, op := Op.binOp BinOp.neq 33 (Operand.tmp 108) (Operand.const (Value.int IntKind.i64 3)) 33, type := 4, pos := "outright.go:60", after := #[{ on := 17, ground := Ground.data }, { on := 9, ground := Ground.guard }], guard := some (9, false) }) (v := ?_) rfl (by kernel_rfl) (by kernel_rfl) (by kernel_rfl) (fun _ _ _ h => h) (Or.inl ⟨by rfl, ?_⟩) (by assumption) ?_
      rotate_left
      · intro w hS; go_simp; with_reducible rfl
      try simp only [Act.put, List.setIfInBounds_toArray, List.set_cons_zero, List.set_cons_succ]
      refine wpAnyH_take (i := 19) (oi := { dst := some 110, op := Op.pick (Operand.tmp 100) (Operand.const (Value.bool true)) (Operand.tmp 109), type := 4, pos := "outright.go:60", after := #[{ on := 9, ground := Ground.data }, { on := 18, ground := Ground.data }], guard := none }) (v := ?_) rfl (by kernel_rfl) (by kernel_rfl) (by kernel_rfl) (fun _ _ _ h => h) (Or.inl ⟨by rfl, ?_⟩) (by assumption) ?_
      rotate_left
      · intro w hS; go_simp; with_reducible rfl
      try simp only [Act.put, List.setIfInBounds_toArray, List.set_cons_zero, List.set_cons_succ]
      refine wpAnyH_take (i := 20) (oi := { dst := some 111, op := Op.move (Operand.tmp 110), type := 4, pos := "outright.go:60", after := #[{ on := 19, ground := Ground.data }, { on := 17, ground := Ground.chain }], guard := none }) (v := ?_) rfl (by kernel_rfl) (by kernel_rfl) (by kernel_rfl) (fun _ _ _ h => h) (Or.inl ⟨by rfl, ?_⟩) (by assumption) ?_
      rotate_left
      · intro w hS; go_simp; with_reducible rfl
      try simp only [Act.put, List.setIfInBounds_toArray, List.set_cons_zero, List.set_cons_succ]
      refine wpAnyH_take (i := 21) (oi := { dst := some 112, op := Op.move (Operand.tmp 1), type := 31, pos := "outright.go:60", after := #[{ on := 20, ground := Ground.guard }], guard := some (20, false) }) (v := ?_) rfl (by kernel_rfl) (by kernel_rfl) (by kernel_rfl) (fun _ _ _ h => h) (Or.inl ⟨by rfl, ?_⟩) (by assumption) ?_
      rotate_left
      · intro w hS; go_simp; with_reducible rfl
      try simp only [Act.put, List.setIfInBounds_toArray, List.set_cons_zero, List.set_cons_succ]
      refine wpAnyH_ready (rs := [22]) (by kernel_rfl) (by simp) (AllReadyH.cons (o := { dst := some 113, op := Op.call { callee := Callee.value (Operand.func 24), args := #[Operand.tmp 112, Operand.const (Value.string { data := #[119, 120, 122] }), Operand.const (Value.int IntKind.i64 7)], argTypes := #[31, 9, 2] }, type := 4, pos := "outright.go:60", after := #[{ on := 21, ground := Ground.data }, { on := 20, ground := Ground.chain }, { on := 20, ground := Ground.guard }], guard := some (20, false) }) rfl (fun K hK => ?_) AllReadyH.nil)
      rw [if_pos (by rfl)]
      go_simp
      (refine (i7 _ b M hd).mono ?_; rintro e w19 ⟨rfl, hb⟩; replace hh := HB.out _ _ _ hb hh; replace hd := hd.below hb; replace B := B.trans (hb.mono B.size); clear hb)
      refine hK.out _ _ hh (fun hS2 => ?_)
      clear hK K
      try simp only [Act.put, List.setIfInBounds_toArray, List.set_cons_zero, List.set_cons_succ]
      refine wpAnyH_take (i := 23) (oi := { dst := some 114, op := Op.unOp UnOp.not 4 (Operand.tmp 113), type := 4, pos := "outright.go:60", after := #[{ on := 22, ground := Ground.data }, { on := 20, ground := Ground.guard }], guard := some (20, false) }) (v := ?_) rfl (by kernel_rfl) (by kernel_rfl) (by kernel_rfl) (fun _ _ _ h => h) (Or.inl ⟨by rfl, ?_⟩) (by assumption) ?_
      rotate_left
      · intro w hS; go_simp; with_reducible rfl
      try simp only [Act.put, List.setIfInBounds_toArray, List.set_cons_zero, List.set_cons_succ]
      refine wpAnyH_take (i := 24) (oi := { dst := some 115, op := Op.pick (Operand.tmp 111) (Operand.const (Value.bool true)) (Operand.tmp 114), type := 4, pos := "outright.go:60", after := #[{ on := 20, ground := Ground.data }, { on := 23, ground := Ground.data }], guard := none }) (v := ?_) rfl (by kernel_rfl) (by kernel_rfl) (by kernel_rfl) (fun _ _ _ h => h) (Or.inl ⟨by rfl, ?_⟩) (by assumption) ?_
      rotate_left
      · intro w hS; go_simp; with_reducible rfl
      try simp only [Act.put, List.setIfInBounds_toArray, List.set_cons_zero, List.set_cons_succ]
      refine wpAnyH_take (i := 25) (oi := { dst := some 116, op := Op.move (Operand.tmp 115), type := 4, pos := "outright.go:60", after := #[{ on := 24, ground := Ground.data }, { on := 22, ground := Ground.chain }], guard := none }) (v := ?_) rfl (by kernel_rfl) (by kernel_rfl) (by kernel_rfl) (fun _ _ _ h => h) (Or.inl ⟨by rfl, ?_⟩) (by assumption) ?_
      rotate_left
      · intro w hS; go_simp; with_reducible rfl
      try simp only [Act.put, List.setIfInBounds_toArray, List.set_cons_zero, List.set_cons_succ]
      refine wpAnyH_take (i := 26) (oi := { dst := some 117, op := Op.move (Operand.tmp 1), type := 31, pos := "outright.go:60", after := #[{ on := 25, ground := Ground.guard }], guard := some (25, false) }) (v := ?_) rfl (by kernel_rfl) (by kernel_rfl) (by kernel_rfl) (fun _ _ _ h => h) (Or.inl ⟨by rfl, ?_⟩) (by assumption) ?_
      rotate_left
      · intro w hS; go_simp; with_reducible rfl
      try simp only [Act.put, List.setIfInBounds_toArray, List.set_cons_zero, List.set_cons_succ]
      refine wpAnyH_ready (rs := [27]) (by kernel_rfl) (by simp) (AllReadyH.cons (o := { dst := some 118, op := Op.call { callee := Callee.value (Operand.func 14), args := #[], argTypes := #[] }, type := 9, pos := "outright.go:60", after := #[{ on := 25, ground := Ground.chain }, { on := 25, ground := Ground.guard }], guard := some (25, false) }) rfl (fun K hK => ?_) AllReadyH.nil)
      rw [if_pos (by rfl)]
      go_simp
      (refine (hu _).mono ?_; rintro e w20 ⟨rfl, hww⟩; subst hww)
      refine hK.out _ _ hh (fun hS2 => ?_)
      clear hK K
      try simp only [Act.put, List.setIfInBounds_toArray, List.set_cons_zero, List.set_cons_succ]
      refine wpAnyH_ready (rs := [28]) (by kernel_rfl) (by simp) (AllReadyH.cons (o := { dst := some 119, op := Op.call { callee := Callee.value (Operand.func 19), args := #[Operand.tmp 117, Operand.tmp 118], argTypes := #[31, 9] }, type := 33, pos := "outright.go:60", after := #[{ on := 26, ground := Ground.data }, { on := 27, ground := Ground.data }, { on := 27, ground := Ground.chain }, { on := 25, ground := Ground.guard }], guard := some (25, false) }) rfl (fun K hK => ?_) AllReadyH.nil)
      rw [if_pos (by rfl)]
      go_simp
      (refine (x1 _ b M hd).mono ?_; rintro e w21 ⟨rfl, hd2, hg⟩; replace hh := HG.out _ _ _ _ hg gM' hh; replace B := below_g B hMM hg; replace hd := hd2; clear hg hd2)
      refine hK.out _ _ hh (fun hS2 => ?_)
      clear hK K
      try simp only [Act.put, List.setIfInBounds_toArray, List.set_cons_zero, List.set_cons_succ]
      refine wpAnyH_take (i := 29) (oi := { dst := some 120, op := Op.binOp BinOp.neq 33 (Operand.tmp 119) (Operand.const (Value.int IntKind.i64 0)) 33, type := 4, pos := "outright.go:60", after := #[{ on := 28, ground := Ground.data }, { on := 25, ground := Ground.guard }], guard := some (25, false) }) (v := ?_) rfl (by kernel_rfl) (by kernel_rfl) (by kernel_rfl) (fun _ _ _ h => h) (Or.inl ⟨by rfl, ?_⟩) (by assumption) ?_
      rotate_left
      · intro w hS; go_simp; with_reducible rfl
      try simp only [Act.put, List.setIfInBounds_toArray, List.set_cons_zero, List.set_cons_succ]
      refine wpAnyH_take (i := 30) (oi := { dst := some 121, op := Op.pick (Operand.tmp 116) (Operand.const (Value.bool true)) (Operand.tmp 120), type := 4, pos := "outright.go:60", after := #[{ on := 25, ground := Ground.data }, { on := 29, ground := Ground.data }], guard := none }) (v := ?_) rfl (by kernel_rfl) (by kernel_rfl) (by kernel_rfl) (fun _ _ _ h => h) (Or.inl ⟨by rfl, ?_⟩) (by assumption) ?_
      rotate_left
      · intro w hS; go_simp; with_reducible rfl
      try simp only [Act.put, List.setIfInBounds_toArray, List.set_cons_zero, List.set_cons_succ]
      refine wpAnyH_take (i := 31) (oi := { dst := some 122, op := Op.move (Operand.tmp 121), type := 4, pos := "outright.go:60", after := #[{ on := 30, ground := Ground.data }, { on := 28, ground := Ground.chain }], guard := none }) (v := ?_) rfl (by kernel_rfl) (by kernel_rfl) (by kernel_rfl) (fun _ _ _ h => h) (Or.inl ⟨by rfl, ?_⟩) (by assumption) ?_
      rotate_left
      · intro w hS; go_simp; with_reducible rfl
      try simp only [Act.put, List.setIfInBounds_toArray, List.set_cons_zero, List.set_cons_succ]
      refine wpAnyH_take (i := 32) (oi := { dst := some 123, op := Op.move (Operand.tmp 1), type := 31, pos := "outright.go:60", after := #[{ on := 31, ground := Ground.guard }], guard := some (31, false) }) (v := ?_) rfl (by kernel_rfl) (by kernel_rfl) (by kernel_rfl) (fun _ _ _ h => h) (Or.inl ⟨by rfl, ?_⟩) (by assumption) ?_
      rotate_left
      · intro w hS; go_simp; with_reducible rfl
      try simp only [Act.put, List.setIfInBounds_toArray, List.set_cons_zero, List.set_cons_succ]
      refine wpAnyH_ready (rs := [33]) (by kernel_rfl) (by simp) (AllReadyH.cons (o := { dst := some 124, op := Op.call { callee := Callee.value (Operand.func 14), args := #[], argTypes := #[] }, type := 9, pos := "outright.go:60", after := #[{ on := 31, ground := Ground.chain }, { on := 31, ground := Ground.guard }], guard := some (31, false) }) rfl (fun K hK => ?_) AllReadyH.nil)
      rw [if_pos (by rfl)]
      go_simp
      (refine (hu _).mono ?_; rintro e w22 ⟨rfl, hww⟩; subst hww)
      refine hK.out _ _ hh (fun hS2 => ?_)
      clear hK K
      try simp only [Act.put, List.setIfInBounds_toArray, List.set_cons_zero, List.set_cons_succ]
      refine wpAnyH_ready (rs := [34]) (by kernel_rfl) (by simp) (AllReadyH.cons (o := { dst := some 125, op := Op.call { callee := Callee.value (Operand.func 19), args := #[Operand.tmp 123, Operand.tmp 124], argTypes := #[31, 9] }, type := 33, pos := "outright.go:60", after := #[{ on := 32, ground := Ground.data }, { on := 33, ground := Ground.data }, { on := 33, ground := Ground.chain }, { on := 31, ground := Ground.guard }], guard := some (31, false) }) rfl (fun K hK => ?_) AllReadyH.nil)
      rw [if_pos (by rfl)]
      go_simp
      (refine (x2 _ b M hd).mono ?_; rintro e w23 ⟨rfl, hd2, hg⟩; replace hh := HG.out _ _ _ _ hg gM' hh; replace B := below_g B hMM hg; replace hd := hd2; clear hg hd2)
      refine hK.out _ _ hh (fun hS2 => ?_)
      clear hK K
      try simp only [Act.put, List.setIfInBounds_toArray, List.set_cons_zero, List.set_cons_succ]
      refine wpAnyH_take (i := 35) (oi := { dst := some 126, op := Op.binOp BinOp.neq 33 (Operand.tmp 125) (Operand.const (Value.int IntKind.i64 5)) 33, type := 4, pos := "outright.go:60", after := #[{ on := 34, ground := Ground.data }, { on := 31, ground := Ground.guard }], guard := some (31, false) }) (v := ?_) rfl (by kernel_rfl) (by kernel_rfl) (by kernel_rfl) (fun _ _ _ h => h) (Or.inl ⟨by rfl, ?_⟩) (by assumption) ?_
      rotate_left
      · intro w hS; go_simp; with_reducible rfl
      try simp only [Act.put, List.setIfInBounds_toArray, List.set_cons_zero, List.set_cons_succ]
      refine wpAnyH_take (i := 36) (oi := { dst := some 127, op := Op.pick (Operand.tmp 122) (Operand.const (Value.bool true)) (Operand.tmp 126), type := 4, pos := "outright.go:60", after := #[{ on := 31, ground := Ground.data }, { on := 35, ground := Ground.data }], guard := none }) (v := ?_) rfl (by kernel_rfl) (by kernel_rfl) (by kernel_rfl) (fun _ _ _ h => h) (Or.inl ⟨by rfl, ?_⟩) (by assumption) ?_
      rotate_left
      · intro w hS; go_simp; with_reducible rfl
      try simp only [Act.put, List.setIfInBounds_toArray, List.set_cons_zero, List.set_cons_succ]
      refine wpAnyH_take (i := 37) (oi := { dst := some 128, op := Op.move (Operand.tmp 127), type := 4, pos := "outright.go:60", after := #[{ on := 36, ground := Ground.data }, { on := 34, ground := Ground.chain }], guard := none }) (v := ?_) rfl (by kernel_rfl) (by kernel_rfl) (by kernel_rfl) (fun _ _ _ h => h) (Or.inl ⟨by rfl, ?_⟩) (by assumption) ?_
      rotate_left
      · intro w hS; go_simp; with_reducible rfl
      try simp only [Act.put, List.setIfInBounds_toArray, List.set_cons_zero, List.set_cons_succ]
      refine wpAnyH_take (i := 38) (oi := { dst := some 129, op := Op.move (Operand.tmp 1), type := 31, pos := "outright.go:60", after := #[{ on := 37, ground := Ground.guard }], guard := some (37, false) }) (v := ?_) rfl (by kernel_rfl) (by kernel_rfl) (by kernel_rfl) (fun _ _ _ h => h) (Or.inl ⟨by rfl, ?_⟩) (by assumption) ?_
      rotate_left
      · intro w hS; go_simp; with_reducible rfl
      try simp only [Act.put, List.setIfInBounds_toArray, List.set_cons_zero, List.set_cons_succ]
      refine wpAnyH_ready (rs := [39]) (by kernel_rfl) (by simp) (AllReadyH.cons (o := { dst := some 130, op := Op.call { callee := Callee.value (Operand.func 20), args := #[Operand.tmp 129], argTypes := #[31] }, type := 45, pos := "outright.go:60", after := #[{ on := 38, ground := Ground.data }, { on := 37, ground := Ground.chain }, { on := 37, ground := Ground.guard }], guard := some (37, false) }) rfl (fun K hK => ?_) AllReadyH.nil)
      rw [if_pos (by rfl)]
      go_simp
      (refine (all_any _ b M [] hd Ord.nil (by decide)).mono ?_; rintro e w24 ⟨v, rfl, hrow, hb⟩; replace hh := HB.out _ _ _ hb hh; obtain ⟨pp, cap, rfl, _, _, _⟩ := row_docs hrow; replace hd := hd.below hb; replace B := B.trans (hb.mono B.size); clear hb hrow)
      refine hK.out _ _ hh (fun hS2 => ?_)
      clear hK K
      try simp only [Act.put, List.setIfInBounds_toArray, List.set_cons_zero, List.set_cons_succ]
      refine wpAnyH_take (i := 40) (oi := { dst := some 131, op := Op.call { callee := Callee.builtin Builtin.len, args := #[Operand.tmp 130], argTypes := #[45] }, type := 3, pos := "outright.go:60", after := #[{ on := 39, ground := Ground.data }, { on := 37, ground := Ground.guard }], guard := some (37, false) }) (v := ?_) rfl (by kernel_rfl) (by kernel_rfl) (by kernel_rfl) (fun _ _ _ h => h) (Or.inl ⟨by rfl, ?_⟩) (by assumption) ?_
      rotate_left
      · intro w hS; go_simp; with_reducible rfl
      try simp only [Act.put, List.setIfInBounds_toArray, List.set_cons_zero, List.set_cons_succ]
      refine wpAnyH_take (i := 41) (oi := { dst := some 132, op := Op.binOp BinOp.neq 3 (Operand.tmp 131) (Operand.const (Value.int IntKind.i64 0)) 3, type := 4, pos := "outright.go:60", after := #[{ on := 40, ground := Ground.data }, { on := 37, ground := Ground.guard }], guard := some (37, false) }) (v := ?_) rfl (by kernel_rfl) (by kernel_rfl) (by kernel_rfl) (fun _ _ _ h => h) (Or.inl ⟨by rfl, ?_⟩) (by assumption) ?_
      rotate_left
      · intro w hS; go_simp; with_reducible rfl
      try simp only [Act.put, List.setIfInBounds_toArray, List.set_cons_zero, List.set_cons_succ]
      refine wpAnyH_take (i := 42) (oi := { dst := some 133, op := Op.pick (Operand.tmp 128) (Operand.const (Value.bool true)) (Operand.tmp 132), type := 4, pos := "outright.go:60", after := #[{ on := 37, ground := Ground.data }, { on := 41, ground := Ground.data }], guard := none }) (v := ?_) rfl (by kernel_rfl) (by kernel_rfl) (by kernel_rfl) (fun _ _ _ h => h) (Or.inl ⟨by rfl, ?_⟩) (by assumption) ?_
      rotate_left
      · intro w hS; go_simp; with_reducible rfl
      try simp only [Act.put, List.setIfInBounds_toArray, List.set_cons_zero, List.set_cons_succ]
      refine wpAnyH_done (by kernel_rfl) ?_ _
      exact ⟨B, _, _, _, _, _, _, _, _, _, _, _, _, _, _, _, _, _, _, _, _, _, _, _, _, _, _, _, _, _, _, _, _, _, _, _, _, _, _, _, _, _, _, rfl⟩
  · rw [if_pos (by rfl)]
    go_simp
    (obtain ⟨g, hge⟩ : ∃ g, w27.heap.size = g := ⟨_, rfl⟩; have gM' : g ≠ M := (by have := hd.lt.2; omega); have hh := HA.out w27; have hd3 := hd.below ((Below.refl _ _).alloc (Nat.le_refl _) ob2); have B3 := B.trans ((Below.refl _ _).alloc B.size ob2); rw [hge] at hh; clear hd B; have hd := hd3; have B := B3; clear hd3 B3; have HGE := Lib.hid hge)
    refine hK.out _ _ trivial (fun hS2 => ?_)
    clear hK K
    try simp only [Act.put, List.setIfInBounds_toArray, List.set_cons_zero, List.set_cons_succ]
    rw [HGE.out]
    clear HGE
    generalize w27.alloc ob2 = WW at *
    refine wpAnyH_weaker (S' := fun v => Has v g) (fun _ _ => trivial) _ _ _ _ ?_
    have hHas := hh
    refine wpAnyH_take (i := 13) (oi := { dst := some 104, op := Op.convert 48 9 (Operand.tmp 103), type := 9, pos := "outright.go:60", after := #[{ on := 12, ground := Ground.data }, { on := 9, ground := Ground.guard }], guard := some (9, false) }) (v := ?_) rfl (by kernel_rfl) (by kernel_rfl) (by kernel_rfl) (fun _ _ _ h => h) (Or.inl ⟨by rfl, ?_⟩) (by assumption) ?_
    rotate_left
    · intro w hS; have vv := V3.out w g hS; go_simp; with_reducible rfl
    try simp only [Act.put, List.setIfInBounds_toArray, List.set_cons_zero, List.set_cons_succ]
    refine wpAnyH_take (i := 14) (oi := { dst := some 105, op := Op.build 54 #[(0, Operand.const (Value.bool true)), (2, Operand.tmp 104)], type := 54, pos := "outright.go:60", after := #[{ on := 13, ground := Ground.data }, { on := 9, ground := Ground.guard }], guard := some (9, false) }) (v := ?_) rfl (by kernel_rfl) (by kernel_rfl) (by kernel_rfl) (fun _ _ _ h => h) (Or.inl ⟨by rfl, ?_⟩) (by assumption) ?_
    rotate_left
    · intro w hS; go_simp; with_reducible rfl
    try simp only [Act.put, List.setIfInBounds_toArray, List.set_cons_zero, List.set_cons_succ]
    refine wpAnyH_ready (rs := [11]) (by kernel_rfl) (by simp) (AllReadyH.cons (o := { dst := some 102, op := Op.call { callee := Callee.value (Operand.func 14), args := #[], argTypes := #[] }, type := 9, pos := "outright.go:60", after := #[{ on := 9, ground := Ground.chain }, { on := 9, ground := Ground.guard }], guard := some (9, false) }) rfl (fun K hK => ?_) AllReadyH.nil)
    rw [if_pos (by rfl)]
    go_simp
    (refine (hu _).mono ?_; rintro e w1 ⟨rfl, hww⟩; subst hww)
    refine hK.out _ _ hh (fun hS2 => ?_)
    clear hK K
    try simp only [Act.put, List.setIfInBounds_toArray, List.set_cons_zero, List.set_cons_succ]
    refine wpAnyH_ready (rs := [15]) (by kernel_rfl) (by simp) (AllReadyH.cons (o := { dst := some 106, op := Op.call { callee := Callee.value (Operand.func 23), args := #[Operand.const (Value.int IntKind.i64 0), Operand.const (Value.int IntKind.i64 0), Operand.const (Value.string { data := #[97] })], argTypes := #[3, 3, 9] }, type := 54, pos := "outright.go:60", after := #[{ on := 11, ground := Ground.chain }, { on := 9, ground := Ground.guard }], guard := some (9, false) }) rfl (fun K hK => ?_) AllReadyH.nil)
    rw [if_pos (by rfl)]
    go_simp
    (refine (lawcut_any _ _ _ _).mono ?_; rintro e w2 ⟨rfl, hb⟩; replace hh := HB.out _ _ _ hb hh; replace hd := hd.below hb; replace B := B.trans (hb.mono B.size); clear hb)
    refine hK.out _ _ hh (fun hS2 => ?_)
    clear hK K
    try simp only [Act.put, List.setIfInBounds_toArray, List.set_cons_zero, List.set_cons_succ]
    refine wpAnyH_ready (rs := [16]) (by kernel_rfl) (by simp) (AllReadyH.cons (o := { dst := some 107, op := Op.buildSlice 26 2 #[(0, Operand.tmp 105), (1, Operand.tmp 106)], type := 26, pos := "outright.go:60", after := #[{ on := 14, ground := Ground.data }, { on := 15, ground := Ground.data }, { on := 9, ground := Ground.guard }], guard := some (9, false) }) rfl (fun K hK => ?_) AllReadyH.nil)
    rw [if_pos (by rfl)]
    go_simp
    refine hK.out _ _ (HB.out _ _ _ ((Below.refl _ _).alloc (Nat.le_refl _) _) hh) (fun hS2 => ?_)
    clear hK K
    try simp only [Act.put, List.setIfInBounds_toArray, List.set_cons_zero, List.set_cons_succ]
    refine wpAnyH_ready (rs := [17]) (by kernel_rfl) (by simp) (AllReadyH.cons (o := { dst := some 108, op := Op.call { callee := Callee.value (Operand.func 15), args := #[Operand.tmp 101, Operand.tmp 102, Operand.const (Value.int IntKind.i64 8), Operand.tmp 107], argTypes := #[31, 9, 2, 26] }, type := 33, pos := "outright.go:60", after := #[{ on := 10, ground := Ground.data }, { on := 11, ground := Ground.data }, { on := 16, ground := Ground.data }, { on := 15, ground := Ground.chain }, { on := 9, ground := Ground.guard }], guard := some (9, false) }) rfl (fun K hK => ?_) AllReadyH.nil)
    rw [if_pos (by rfl)]
    go_simp
    (refine (c9 _ b M (hT.below (B.trans ((Below.refl _ _).alloc B.size _))) (hd.below ((Below.refl _ _).alloc (Nat.le_refl _) _)) (by omega) _ _ (t9 _)).mono ?_; rintro e w3 ⟨rfl, hd2, hg⟩; replace hh := HG.out _ _ _ _ hg gM' (HB.out _ _ _ ((Below.refl _ _).alloc (Nat.le_refl _) _) hh); replace B := below_ag B hMM hg; replace hd := hd2; clear hg hd2)
    refine hK.out _ _ hh (fun hS2 => ?_)
    clear hK K
    try simp only [Act.put, List.setIfInBounds_toArray, List.set_cons_zero, List.set_cons_succ]
    refine wpAnyH_take (i := 18) (oi := { dst := some 109, op := Op.binOp BinOp.neq 33 (Operand.tmp 108) (Operand.const (Value.int IntKind.i64 3)) 33, type := 4, pos := "outright.go:60", after := #[{ on := 17, ground := Ground.data }, { on := 9, ground := Ground.guard }], guard := some (9, false) }) (v := ?_) rfl (by kernel_rfl) (by kernel_rfl) (by kernel_rfl) (fun _ _ _ h => h) (Or.inl ⟨by rfl, ?_⟩) (by assumption) ?_
    rotate_left
    · intro w hS; go_simp; with_reducible rfl
    try simp only [Act.put, List.setIfInBounds_toArray, List.set_cons_zero, List.set_cons_succ]
    refine wpAnyH_take (i := 19) (oi := { dst := some 110, op := Op.pick (Operand.tmp 100) (Operand.const (Value.bool true)) (Operand.tmp 109), type := 4, pos := "outright.go:60", after := #[{ on := 9, ground := Ground.data }, { on := 18, ground := Ground.data }], guard := none }) (v := ?_) rfl (by kernel_rfl) (by kernel_rfl) (by kernel_rfl) (fun _ _ _ h => h) (Or.inl ⟨by rfl, ?_⟩) (by assumption) ?_
    rotate_left
    · intro w hS; go_simp; with_reducible rfl
    try simp only [Act.put, List.setIfInBounds_toArray, List.set_cons_zero, List.set_cons_succ]
    refine wpAnyH_take (i := 20) (oi := { dst := some 111, op := Op.move (Operand.tmp 110), type := 4, pos := "outright.go:60", after := #[{ on := 19, ground := Ground.data }, { on := 17, ground := Ground.chain }], guard := none }) (v := ?_) rfl (by kernel_rfl) (by kernel_rfl) (by kernel_rfl) (fun _ _ _ h => h) (Or.inl ⟨by rfl, ?_⟩) (by assumption) ?_
    rotate_left
    · intro w hS; go_simp; with_reducible rfl
    try simp only [Act.put, List.setIfInBounds_toArray, List.set_cons_zero, List.set_cons_succ]
    refine wpAnyH_take (i := 21) (oi := { dst := some 112, op := Op.move (Operand.tmp 1), type := 31, pos := "outright.go:60", after := #[{ on := 20, ground := Ground.guard }], guard := some (20, false) }) (v := ?_) rfl (by kernel_rfl) (by kernel_rfl) (by kernel_rfl) (fun _ _ _ h => h) (Or.inl ⟨by rfl, ?_⟩) (by assumption) ?_
    rotate_left
    · intro w hS; go_simp; with_reducible rfl
    try simp only [Act.put, List.setIfInBounds_toArray, List.set_cons_zero, List.set_cons_succ]
    refine wpAnyH_ready (rs := [22]) (by kernel_rfl) (by simp) (AllReadyH.cons (o := { dst := some 113, op := Op.call { callee := Callee.value (Operand.func 24), args := #[Operand.tmp 112, Operand.const (Value.string { data := #[119, 120, 122] }), Operand.const (Value.int IntKind.i64 7)], argTypes := #[31, 9, 2] }, type := 4, pos := "outright.go:60", after := #[{ on := 21, ground := Ground.data }, { on := 20, ground := Ground.chain }, { on := 20, ground := Ground.guard }], guard := some (20, false) }) rfl (fun K hK => ?_) AllReadyH.nil)
    rw [if_pos (by rfl)]
    go_simp
    (refine (i7 _ b M hd).mono ?_; rintro e w4 ⟨rfl, hb⟩; replace hh := HB.out _ _ _ hb hh; replace hd := hd.below hb; replace B := B.trans (hb.mono B.size); clear hb)
    refine hK.out _ _ hh (fun hS2 => ?_)
    clear hK K
    try simp only [Act.put, List.setIfInBounds_toArray, List.set_cons_zero, List.set_cons_succ]
    refine wpAnyH_take (i := 23) (oi := { dst := some 114, op := Op.unOp UnOp.not 4 (Operand.tmp 113), type := 4, pos := "outright.go:60", after := #[{ on := 22, ground := Ground.data }, { on := 20, ground := Ground.guard }], guard := some (20, false) }) (v := ?_) rfl (by kernel_rfl) (by kernel_rfl) (by kernel_rfl) (fun _ _ _ h => h) (Or.inl ⟨by rfl, ?_⟩) (by assumption) ?_
    rotate_left
    · intro w hS; go_simp; with_reducible rfl
    try simp only [Act.put, List.setIfInBounds_toArray, List.set_cons_zero, List.set_cons_succ]
    refine wpAnyH_take (i := 24) (oi := { dst := some 115, op := Op.pick (Operand.tmp 111) (Operand.const (Value.bool true)) (Operand.tmp 114), type := 4, pos := "outright.go:60", after := #[{ on := 20, ground := Ground.data }, { on := 23, ground := Ground.data }], guard := none }) (v := ?_) rfl (by kernel_rfl) (by kernel_rfl) (by kernel_rfl) (fun _ _ _ h => h) (Or.inl ⟨by rfl, ?_⟩) (by assumption) ?_
    rotate_left
    · intro w hS; go_simp; with_reducible rfl
    try simp only [Act.put, List.setIfInBounds_toArray, List.set_cons_zero, List.set_cons_succ]
    refine wpAnyH_take (i := 25) (oi := { dst := some 116, op := Op.move (Operand.tmp 115), type := 4, pos := "outright.go:60", after := #[{ on := 24, ground := Ground.data }, { on := 22, ground := Ground.chain }], guard := none }) (v := ?_) rfl (by kernel_rfl) (by kernel_rfl) (by kernel_rfl) (fun _ _ _ h => h) (Or.inl ⟨by rfl, ?_⟩) (by assumption) ?_
    rotate_left
    · intro w hS; go_simp; with_reducible rfl
    try simp only [Act.put, List.setIfInBounds_toArray, List.set_cons_zero, List.set_cons_succ]
    refine wpAnyH_take (i := 26) (oi := { dst := some 117, op := Op.move (Operand.tmp 1), type := 31, pos := "outright.go:60", after := #[{ on := 25, ground := Ground.guard }], guard := some (25, false) }) (v := ?_) rfl (by kernel_rfl) (by kernel_rfl) (by kernel_rfl) (fun _ _ _ h => h) (Or.inl ⟨by rfl, ?_⟩) (by assumption) ?_
    rotate_left
    · intro w hS; go_simp; with_reducible rfl
    try simp only [Act.put, List.setIfInBounds_toArray, List.set_cons_zero, List.set_cons_succ]
    refine wpAnyH_ready (rs := [27]) (by kernel_rfl) (by simp) (AllReadyH.cons (o := { dst := some 118, op := Op.call { callee := Callee.value (Operand.func 14), args := #[], argTypes := #[] }, type := 9, pos := "outright.go:60", after := #[{ on := 25, ground := Ground.chain }, { on := 25, ground := Ground.guard }], guard := some (25, false) }) rfl (fun K hK => ?_) AllReadyH.nil)
    rw [if_pos (by rfl)]
    go_simp
    (refine (hu _).mono ?_; rintro e w5 ⟨rfl, hww⟩; subst hww)
    refine hK.out _ _ hh (fun hS2 => ?_)
    clear hK K
    try simp only [Act.put, List.setIfInBounds_toArray, List.set_cons_zero, List.set_cons_succ]
    refine wpAnyH_ready (rs := [28]) (by kernel_rfl) (by simp) (AllReadyH.cons (o := { dst := some 119, op := Op.call { callee := Callee.value (Operand.func 19), args := #[Operand.tmp 117, Operand.tmp 118], argTypes := #[31, 9] }, type := 33, pos := "outright.go:60", after := #[{ on := 26, ground := Ground.data }, { on := 27, ground := Ground.data }, { on := 27, ground := Ground.chain }, { on := 25, ground := Ground.guard }], guard := some (25, false) }) rfl (fun K hK => ?_) AllReadyH.nil)
    rw [if_pos (by rfl)]
    go_simp
    (refine (x1 _ b M hd).mono ?_; rintro e w6 ⟨rfl, hd2, hg⟩; replace hh := HG.out _ _ _ _ hg gM' hh; replace B := below_g B hMM hg; replace hd := hd2; clear hg hd2)
    refine hK.out _ _ hh (fun hS2 => ?_)
    clear hK K
    try simp only [Act.put, List.setIfInBounds_toArray, List.set_cons_zero, List.set_cons_succ]
    refine wpAnyH_take (i := 29) (oi := { dst := some 120, op := Op.binOp BinOp.neq 33 (Operand.tmp 119) (Operand.const (Value.int IntKind.i64 0)) 33, type := 4, pos := "outright.go:60", after := #[{ on := 28, ground := Ground.data }, { on := 25, ground := Ground.guard }], guard := some (25, false) }) (v := ?_) rfl (by kernel_rfl) (by kernel_rfl) (by kernel_rfl) (fun _ _ _ h => h) (Or.inl ⟨by rfl, ?_⟩) (by assumption) ?_
    rotate_left
    · intro w hS; go_simp; with_reducible rfl
    try simp only [Act.put, List.setIfInBounds_toArray, List.set_cons_zero, List.set_cons_succ]
    refine wpAnyH_take (i := 30) (oi := { dst := some 121, op := Op.pick (Operand.tmp 116) (Operand.const (Value.bool true)) (Operand.tmp 120), type := 4, pos := "outright.go:60", after := #[{ on := 25, ground := Ground.data }, { on := 29, ground := Ground.data }], guard := none }) (v := ?_) rfl (by kernel_rfl) (by kernel_rfl) (by kernel_rfl) (fun _ _ _ h => h) (Or.inl ⟨by rfl, ?_⟩) (by assumption) ?_
    rotate_left
    · intro w hS; go_simp; with_reducible rfl
    try simp only [Act.put, List.setIfInBounds_toArray, List.set_cons_zero, List.set_cons_succ]
    refine wpAnyH_take (i := 31) (oi := { dst := some 122, op := Op.move (Operand.tmp 121), type := 4, pos := "outright.go:60", after := #[{ on := 30, ground := Ground.data }, { on := 28, ground := Ground.chain }], guard := none }) (v := ?_) rfl (by kernel_rfl) (by kernel_rfl) (by kernel_rfl) (fun _ _ _ h => h) (Or.inl ⟨by rfl, ?_⟩) (by assumption) ?_
    rotate_left
    · intro w hS; go_simp; with_reducible rfl
    try simp only [Act.put, List.setIfInBounds_toArray, List.set_cons_zero, List.set_cons_succ]
    refine wpAnyH_take (i := 32) (oi := { dst := some 123, op := Op.move (Operand.tmp 1), type := 31, pos := "outright.go:60", after := #[{ on := 31, ground := Ground.guard }], guard := some (31, false) }) (v := ?_) rfl (by kernel_rfl) (by kernel_rfl) (by kernel_rfl) (fun _ _ _ h => h) (Or.inl ⟨by rfl, ?_⟩) (by assumption) ?_
    rotate_left
    · intro w hS; go_simp; with_reducible rfl
    try simp only [Act.put, List.setIfInBounds_toArray, List.set_cons_zero, List.set_cons_succ]
    refine wpAnyH_ready (rs := [33]) (by kernel_rfl) (by simp) (AllReadyH.cons (o := { dst := some 124, op := Op.call { callee := Callee.value (Operand.func 14), args := #[], argTypes := #[] }, type := 9, pos := "outright.go:60", after := #[{ on := 31, ground := Ground.chain }, { on := 31, ground := Ground.guard }], guard := some (31, false) }) rfl (fun K hK => ?_) AllReadyH.nil)
    rw [if_pos (by rfl)]
    go_simp
    (refine (hu _).mono ?_; rintro e w7 ⟨rfl, hww⟩; subst hww)
    refine hK.out _ _ hh (fun hS2 => ?_)
    clear hK K
    try simp only [Act.put, List.setIfInBounds_toArray, List.set_cons_zero, List.set_cons_succ]
    refine wpAnyH_ready (rs := [34]) (by kernel_rfl) (by simp) (AllReadyH.cons (o := { dst := some 125, op := Op.call { callee := Callee.value (Operand.func 19), args := #[Operand.tmp 123, Operand.tmp 124], argTypes := #[31, 9] }, type := 33, pos := "outright.go:60", after := #[{ on := 32, ground := Ground.data }, { on := 33, ground := Ground.data }, { on := 33, ground := Ground.chain }, { on := 31, ground := Ground.guard }], guard := some (31, false) }) rfl (fun K hK => ?_) AllReadyH.nil)
    rw [if_pos (by rfl)]
    go_simp
    (refine (x2 _ b M hd).mono ?_; rintro e w8 ⟨rfl, hd2, hg⟩; replace hh := HG.out _ _ _ _ hg gM' hh; replace B := below_g B hMM hg; replace hd := hd2; clear hg hd2)
    refine hK.out _ _ hh (fun hS2 => ?_)
    clear hK K
    try simp only [Act.put, List.setIfInBounds_toArray, List.set_cons_zero, List.set_cons_succ]
    refine wpAnyH_take (i := 35) (oi := { dst := some 126, op := Op.binOp BinOp.neq 33 (Operand.tmp 125) (Operand.const (Value.int IntKind.i64 5)) 33, type := 4, pos := "outright.go:60", after := #[{ on := 34, ground := Ground.data }, { on := 31, ground := Ground.guard }], guard := some (31, false) }) (v := ?_) rfl (by kernel_rfl) (by kernel_rfl) (by kernel_rfl) (fun _ _ _ h => h) (Or.inl ⟨by rfl, ?_⟩) (by assumption) ?_
    rotate_left
    · intro w hS; go_simp; with_reducible rfl
    try simp only [Act.put, List.setIfInBounds_toArray, List.set_cons_zero, List.set_cons_succ]
    refine wpAnyH_take (i := 36) (oi := { dst := some 127, op := Op.pick (Operand.tmp 122) (Operand.const (Value.bool true)) (Operand.tmp 126), type := 4, pos := "outright.go:60", after := #[{ on := 31, ground := Ground.data }, { on := 35, ground := Ground.data }], guard := none }) (v := ?_) rfl (by kernel_rfl) (by kernel_rfl) (by kernel_rfl) (fun _ _ _ h => h) (Or.inl ⟨by rfl, ?_⟩) (by assumption) ?_
    rotate_left
    · intro w hS; go_simp; with_reducible rfl
    try simp only [Act.put, List.setIfInBounds_toArray, List.set_cons_zero, List.set_cons_succ]
    refine wpAnyH_take (i := 37) (oi := { dst := some 128, op := Op.move (Operand.tmp 127), type := 4, pos := "outright.go:60", after := #[{ on := 36, ground := Ground.data }, { on := 34, ground := Ground.chain }], guard := none }) (v := ?_) rfl (by kernel_rfl) (by kernel_rfl) (by kernel_rfl) (fun _ _ _ h => h) (Or.inl ⟨by rfl, ?_⟩) (by assumption) ?_
    rotate_left
    · intro w hS; go_simp; with_reducible rfl
    try simp only [Act.put, List.setIfInBounds_toArray, List.set_cons_zero, List.set_cons_succ]
    refine wpAnyH_take (i := 38) (oi := { dst := some 129, op := Op.move (Operand.tmp 1), type := 31, pos := "outright.go:60", after := #[{ on := 37, ground := Ground.guard }], guard := some (37, false) }) (v := ?_) rfl (by kernel_rfl) (by kernel_rfl) (by kernel_rfl) (fun _ _ _ h => h) (Or.inl ⟨by rfl, ?_⟩) (by assumption) ?_
    rotate_left
    · intro w hS; go_simp; with_reducible rfl
    try simp only [Act.put, List.setIfInBounds_toArray, List.set_cons_zero, List.set_cons_succ]
    refine wpAnyH_ready (rs := [39]) (by kernel_rfl) (by simp) (AllReadyH.cons (o := { dst := some 130, op := Op.call { callee := Callee.value (Operand.func 20), args := #[Operand.tmp 129], argTypes := #[31] }, type := 45, pos := "outright.go:60", after := #[{ on := 38, ground := Ground.data }, { on := 37, ground := Ground.chain }, { on := 37, ground := Ground.guard }], guard := some (37, false) }) rfl (fun K hK => ?_) AllReadyH.nil)
    rw [if_pos (by rfl)]
    go_simp
    (refine (all_any _ b M [] hd Ord.nil (by decide)).mono ?_; rintro e w9 ⟨v, rfl, hrow, hb⟩; replace hh := HB.out _ _ _ hb hh; obtain ⟨pp, cap, rfl, _, _, _⟩ := row_docs hrow; replace hd := hd.below hb; replace B := B.trans (hb.mono B.size); clear hb hrow)
    refine hK.out _ _ hh (fun hS2 => ?_)
    clear hK K
    try simp only [Act.put, List.setIfInBounds_toArray, List.set_cons_zero, List.set_cons_succ]
    refine wpAnyH_take (i := 40) (oi := { dst := some 131, op := Op.call { callee := Callee.builtin Builtin.len, args := #[Operand.tmp 130], argTypes := #[45] }, type := 3, pos := "outright.go:60", after := #[{ on := 39, ground := Ground.data }, { on := 37, ground := Ground.guard }], guard := some (37, false) }) (v := ?_) rfl (by kernel_rfl) (by kernel_rfl) (by kernel_rfl) (fun _ _ _ h => h) (Or.inl ⟨by rfl, ?_⟩) (by assumption) ?_
    rotate_left
    · intro w hS; go_simp; with_reducible rfl
    try simp only [Act.put, List.setIfInBounds_toArray, List.set_cons_zero, List.set_cons_succ]
    refine wpAnyH_take (i := 41) (oi := { dst := some 132, op := Op.binOp BinOp.neq 3 (Operand.tmp 131) (Operand.const (Value.int IntKind.i64 0)) 3, type := 4, pos := "outright.go:60", after := #[{ on := 40, ground := Ground.data }, { on := 37, ground := Ground.guard }], guard := some (37, false) }) (v := ?_) rfl (by kernel_rfl) (by kernel_rfl) (by kernel_rfl) (fun _ _ _ h => h) (Or.inl ⟨by rfl, ?_⟩) (by assumption) ?_
    rotate_left
    · intro w hS; go_simp; with_reducible rfl
    try simp only [Act.put, List.setIfInBounds_toArray, List.set_cons_zero, List.set_cons_succ]
    refine wpAnyH_take (i := 42) (oi := { dst := some 133, op := Op.pick (Operand.tmp 128) (Operand.const (Value.bool true)) (Operand.tmp 132), type := 4, pos := "outright.go:60", after := #[{ on := 37, ground := Ground.data }, { on := 41, ground := Ground.data }], guard := none }) (v := ?_) rfl (by kernel_rfl) (by kernel_rfl) (by kernel_rfl) (fun _ _ _ h => h) (Or.inl ⟨by rfl, ?_⟩) (by assumption) ?_
    rotate_left
    · intro w hS; go_simp; with_reducible rfl
    try simp only [Act.put, List.setIfInBounds_toArray, List.set_cons_zero, List.set_cons_succ]
    refine wpAnyH_done (by kernel_rfl) ?_ _
    exact ⟨B, _, _, _, _, _, _, _, _, _, _, _, _, _, _, _, _, _, _, _, _, _, _, _, _, _, _, _, _, _, _, _, _, _, _, _, _, _, _, _, _, _, _, rfl⟩
end Go.Proofs.Dc
