/- What stands behind the loops in Get of package record: Put, Bad, the ways out. No condition but the table of spaces. -/
import Derived.Test.YtofejnhnnmnfpaaDoorRAll
import Derived.Deep.CutBlock
import Derived.Deep.DeepCutAuto
namespace Go.Proofs.YtofejnhnnmnfpaaDoor.Rc
set_option maxRecDepth 100000
open Go.RowKit
attribute [local go_sem] run_store_func
/-- What follows a statement. -/
def seqR : Code → Code
  | .seq _ t => t
  | c => c
def bodyOf (f : Func) : Code := f.body.getD .ret
set_option maxRecDepth 100000 in
set_option maxHeartbeats 12800000 in
theorem get_tail (b : List UInt8) (w wc : World) (hT : Tab w) (r : Rec) (s : Rs) (aP aQ aX aY : Option Addr) (cP cQ cX cY : Nat) (t1 t5 t6 t7 t8 t10 t11 t12 t13 t14 t15 t16 t17 t18 t19 t20 t21 t22 t23 t24 t25 t26 t27 t28 t29 t30 t31 t32 t33 t34 t35 t36 t37 t38 t39 t40 t41 t42 t43 t44 t45 t46 t47 t48 t49 t50 t51 t52 t53 t54 t55 t56 t57 t58 t59 t60 t61 t62 t63 t64 t65 t66 t67 t68 t69 t70 t71 t72 t73 t74 t75 t76 t77 t78 t79 t80 t81 t82 t83 t84 t85 t86 t87 t88 t89 t90 t91 t92 t93 t94 t95 t96 t97 t98 t99 t100 t101 t102 t103 t104 t105 t106 t107 t108 t109 t110 t111 t112 t113 t114 t115 t116 t117 t118 t119 t120 t121 t122 t123 t124 t125 t126 t127 t128 t129 t130 t131 t132 t133 t134 t135 t136 t137 t138 t139 t140 t141 t142 t143 t144 t145 t146 t147 t148 t149 t150 t151 t152 t153 t154 t155 t156 t157 t158 t159 t160 t161 : Value)
    (g17 : GS w wc #[.int .i64 r.kind, .int .i64 r.tx, .int .i64 r.prev, .int .i64 r.next, .string (mk r.key), .bool r.had, .string (mk r.old.key), .string (mk r.old.val), .int .i64 r.old.blob, .int .i64 r.old.size, .slice aP r.pages.length cP, .slice aQ r.pats.length cQ, .slice aX r.txs.length cX, .slice aY r.dirty.length cY] s) (hOwn : RecOwn wc (w.heap.size + 1 + 1 + 1 + 1 + 1) (.agg #[.int .i64 r.kind, .int .i64 r.tx, .int .i64 r.prev, .int .i64 r.next, .string (mk r.key), .bool r.had, .string (mk r.old.key), .string (mk r.old.val), .int .i64 r.old.blob, .int .i64 r.old.size, .slice aP r.pages.length cP, .slice aQ r.pats.length cQ, .slice aX r.txs.length cX, .slice aY r.dirty.length cY]) (.slice aP r.pages.length cP) (.slice aQ r.pats.length cQ) (.slice aX r.txs.length cX) (.slice aY r.dirty.length cY) r) (hP : Parsed b r s) :
    Code.wp Tryd.prog (seqR (seqR (seqR (seqR (seqR (seqR (seqR (seqR (seqR (seqR (seqR (seqR (seqR (seqR (seqR (seqR (seqR (seqR (seqR (bodyOf Tryd.f31)))))))))))))))))))) (bodyPost Tryd.prog Tryd.f31 (GetPost b w)) { tmps := #[.string (mk b), t1, .pointer (some ⟨w.heap.size, 0, none⟩), .bool false, .pointer (some ⟨w.heap.size + 1 + 1, 0, none⟩), t5, t6, t7, t8, .pointer (some ⟨w.heap.size + 1 + 1 + 1 + 1, 0, none⟩), t10, t11, t12, t13, t14, t15, t16, t17, t18, t19, t20, t21, t22, t23, t24, t25, t26, t27, t28, t29, t30, t31, t32, t33, t34, t35, t36, t37, t38, t39, t40, t41, t42, t43, t44, t45, t46, t47, t48, t49, t50, t51, t52, t53, t54, t55, t56, t57, t58, t59, t60, t61, t62, t63, t64, t65, t66, t67, t68, t69, t70, t71, t72, t73, t74, t75, t76, t77, t78, t79, t80, t81, t82, t83, t84, t85, t86, t87, t88, t89, t90, t91, t92, t93, t94, t95, t96, t97, t98, t99, t100, t101, t102, t103, t104, t105, t106, t107, t108, t109, t110, t111, t112, t113, t114, t115, t116, t117, t118, t119, t120, t121, t122, t123, t124, t125, t126, t127, t128, t129, t130, t131, t132, t133, t134, t135, t136, t137, t138, t139, t140, t141, t142, t143, t144, t145, t146, t147, t148, t149, t150, t151, t152, t153, t154, t155, t156, t157, t158, t159, t160, t161], defers := [] } wc := by
  show Code.wp Tryd.prog (.seq (.seq (.region 38 _ _) _) _) _ _ _
  have hR := hOwn.at_
  replace hOwn := Lib.hid hOwn
  replace hP := Lib.hid hP
  have cPu := put_any _ _ _ _ _ r wc (hT.more g17.bel) hR
  have xx0 : wc.cell? ⟨w.heap.size + 1 + 1 + 1 + 1, 0, none⟩ = some (.int .i64 r.kind) := (g17.cell 0 rfl).1
  have xx1 : wc.cell? ⟨w.heap.size + 1 + 1 + 1 + 1, 1, none⟩ = some (.int .i64 r.tx) := (g17.cell 1 rfl).1
  have xx2 : wc.cell? ⟨w.heap.size + 1 + 1 + 1 + 1, 2, none⟩ = some (.int .i64 r.prev) := (g17.cell 2 rfl).1
  have xx3 : wc.cell? ⟨w.heap.size + 1 + 1 + 1 + 1, 3, none⟩ = some (.int .i64 r.next) := (g17.cell 3 rfl).1
  have xx4 : wc.cell? ⟨w.heap.size + 1 + 1 + 1 + 1, 4, none⟩ = some (.string (mk r.key)) := (g17.cell 4 rfl).1
  have xx5 : wc.cell? ⟨w.heap.size + 1 + 1 + 1 + 1, 5, none⟩ = some (.bool r.had) := (g17.cell 5 rfl).1
  have xx6 : wc.cell? ⟨w.heap.size + 1 + 1 + 1 + 1, 6, none⟩ = some (.string (mk r.old.key)) := (g17.cell 6 rfl).1
  have xx7 : wc.cell? ⟨w.heap.size + 1 + 1 + 1 + 1, 7, none⟩ = some (.string (mk r.old.val)) := (g17.cell 7 rfl).1
  have xx8 : wc.cell? ⟨w.heap.size + 1 + 1 + 1 + 1, 8, none⟩ = some (.int .i64 r.old.blob) := (g17.cell 8 rfl).1
  have xx9 : wc.cell? ⟨w.heap.size + 1 + 1 + 1 + 1, 9, none⟩ = some (.int .i64 r.old.size) := (g17.cell 9 rfl).1
  have xx10 : wc.cell? ⟨w.heap.size + 1 + 1 + 1 + 1, 10, none⟩ = some (.slice aP r.pages.length cP) := (g17.cell 10 rfl).1
  have xx11 : wc.cell? ⟨w.heap.size + 1 + 1 + 1 + 1, 11, none⟩ = some (.slice aQ r.pats.length cQ) := (g17.cell 11 rfl).1
  have xx12 : wc.cell? ⟨w.heap.size + 1 + 1 + 1 + 1, 12, none⟩ = some (.slice aX r.txs.length cX) := (g17.cell 12 rfl).1
  have xx13 : wc.cell? ⟨w.heap.size + 1 + 1 + 1 + 1, 13, none⟩ = some (.slice aY r.dirty.length cY) := (g17.cell 13 rfl).1
  obtain ⟨pu, hpu⟩ : ∃ c, c = (if recOk r = true then enc r else []) := ⟨_, rfl⟩
  obtain ⟨ok, hok⟩ : ∃ c, c = recOk r := ⟨_, rfl⟩
  rw [← hpu, ← hok] at cPu
  replace hpu := Lib.hid hpu
  replace hok := Lib.hid hok
  replace cPu := Lib.hid cPu
  replace hR := Lib.hid hR
  replace g17 := Lib.hid g17
  go_wp2_with fail
  refine cPu.out.mono ?_
  rintro e w18 ⟨rfl, b18⟩
  have h18 : Chg (fun _ => False) wc w18 := Chg.of_below b18
  have o18 := Lib.hid (hOwn.out.chg h18 (fun _ e => e.elim))
  clear h18 hOwn
  have g18 := g17.out.more b18
  have hbad := g_bad g18.rd
  have f2 : w18.cell? ⟨w.heap.size + 1 + 1, 0, none⟩ = some (.pointer (some ⟨w.heap.size + 1, 0, none⟩)) := cell_of (i := 0) g18.rcc rfl
  replace g18 := Lib.hid g18
  obtain ⟨bd, hbd⟩ : ∃ c, c = s.2 := ⟨_, rfl⟩
  rw [← hbd] at hbad
  replace hbd := Lib.hid hbd
  replace hbad := Lib.hid hbad
  go_wp2_with fail
  have zz0 : w18.cell? ⟨w.heap.size, 0, none⟩ = some (.int .i64 0) := cell_of g18.out.res rfl
  have zf0 : w18.frozen? ⟨w.heap.size, 0, none⟩ = false := free_of g18.out.res
  have zz1 : w18.cell? ⟨w.heap.size, 1, none⟩ = some (.int .i64 0) := cell_of g18.out.res rfl
  have zf1 : w18.frozen? ⟨w.heap.size, 1, none⟩ = false := free_of g18.out.res
  have zz2 : w18.cell? ⟨w.heap.size, 2, none⟩ = some (.int .i64 0) := cell_of g18.out.res rfl
  have zf2 : w18.frozen? ⟨w.heap.size, 2, none⟩ = false := free_of g18.out.res
  have zz3 : w18.cell? ⟨w.heap.size, 3, none⟩ = some (.int .i64 0) := cell_of g18.out.res rfl
  have zf3 : w18.frozen? ⟨w.heap.size, 3, none⟩ = false := free_of g18.out.res
  have zz4 : w18.cell? ⟨w.heap.size, 4, none⟩ = some (.string ⟨#[]⟩) := cell_of g18.out.res rfl
  have zf4 : w18.frozen? ⟨w.heap.size, 4, none⟩ = false := free_of g18.out.res
  have zz5 : w18.cell? ⟨w.heap.size, 5, none⟩ = some (.bool false) := cell_of g18.out.res rfl
  have zf5 : w18.frozen? ⟨w.heap.size, 5, none⟩ = false := free_of g18.out.res
  have zz6 : w18.cell? ⟨w.heap.size, 6, none⟩ = some (.string ⟨#[]⟩) := cell_of g18.out.res rfl
  have zf6 : w18.frozen? ⟨w.heap.size, 6, none⟩ = false := free_of g18.out.res
  have zz7 : w18.cell? ⟨w.heap.size, 7, none⟩ = some (.string ⟨#[]⟩) := cell_of g18.out.res rfl
  have zf7 : w18.frozen? ⟨w.heap.size, 7, none⟩ = false := free_of g18.out.res
  have zz8 : w18.cell? ⟨w.heap.size, 8, none⟩ = some (.int .i64 0) := cell_of g18.out.res rfl
  have zf8 : w18.frozen? ⟨w.heap.size, 8, none⟩ = false := free_of g18.out.res
  have zz9 : w18.cell? ⟨w.heap.size, 9, none⟩ = some (.int .i64 0) := cell_of g18.out.res rfl
  have zf9 : w18.frozen? ⟨w.heap.size, 9, none⟩ = false := free_of g18.out.res
  have zz10 : w18.cell? ⟨w.heap.size, 10, none⟩ = some (.slice none 0 0) := cell_of g18.out.res rfl
  have zf10 : w18.frozen? ⟨w.heap.size, 10, none⟩ = false := free_of g18.out.res
  have zz11 : w18.cell? ⟨w.heap.size, 11, none⟩ = some (.slice none 0 0) := cell_of g18.out.res rfl
  have zf11 : w18.frozen? ⟨w.heap.size, 11, none⟩ = false := free_of g18.out.res
  have zz12 : w18.cell? ⟨w.heap.size, 12, none⟩ = some (.slice none 0 0) := cell_of g18.out.res rfl
  have zf12 : w18.frozen? ⟨w.heap.size, 12, none⟩ = false := free_of g18.out.res
  have zz13 : w18.cell? ⟨w.heap.size, 13, none⟩ = some (.slice none 0 0) := cell_of g18.out.res rfl
  have zf13 : w18.frozen? ⟨w.heap.size, 13, none⟩ = false := free_of g18.out.res
  all_goals (refine hbad.out.mono ?_; rintro e w' ⟨rfl, rfl⟩)
  cases bd with
  | true =>
    go_upto_region 40 with fail
    go_wp2_with fail
    all_goals (obtain ⟨hH, hCh⟩ := fill14 g18.out.res (.int .i64 0) (.int .i64 0) (.int .i64 0) (.int .i64 0) (.string ⟨#[]⟩) (.bool false) (.string ⟨#[]⟩) (.string ⟨#[]⟩) (.int .i64 0) (.int .i64 0) (.slice none 0 0) (.slice none 0 0) (.slice none 0 0) (.slice none 0 0); generalize World.setCell _ _ _ = wF at hH hCh ⊢)
    all_goals have zw0 : wF.cell? ⟨w.heap.size, 0, none⟩ = some (.int .i64 0) := cell_of hH rfl
    all_goals have zw1 : wF.cell? ⟨w.heap.size, 1, none⟩ = some (.int .i64 0) := cell_of hH rfl
    all_goals have zw2 : wF.cell? ⟨w.heap.size, 2, none⟩ = some (.int .i64 0) := cell_of hH rfl
    all_goals have zw3 : wF.cell? ⟨w.heap.size, 3, none⟩ = some (.int .i64 0) := cell_of hH rfl
    all_goals have zw4 : wF.cell? ⟨w.heap.size, 4, none⟩ = some (.string ⟨#[]⟩) := cell_of hH rfl
    all_goals have zw5 : wF.cell? ⟨w.heap.size, 5, none⟩ = some (.bool false) := cell_of hH rfl
    all_goals have zw6 : wF.cell? ⟨w.heap.size, 6, none⟩ = some (.string ⟨#[]⟩) := cell_of hH rfl
    all_goals have zw7 : wF.cell? ⟨w.heap.size, 7, none⟩ = some (.string ⟨#[]⟩) := cell_of hH rfl
    all_goals have zw8 : wF.cell? ⟨w.heap.size, 8, none⟩ = some (.int .i64 0) := cell_of hH rfl
    all_goals have zw9 : wF.cell? ⟨w.heap.size, 9, none⟩ = some (.int .i64 0) := cell_of hH rfl
    all_goals have zw10 : wF.cell? ⟨w.heap.size, 10, none⟩ = some (.slice none 0 0) := cell_of hH rfl
    all_goals have zw11 : wF.cell? ⟨w.heap.size, 11, none⟩ = some (.slice none 0 0) := cell_of hH rfl
    all_goals have zw12 : wF.cell? ⟨w.heap.size, 12, none⟩ = some (.slice none 0 0) := cell_of hH rfl
    all_goals have zw13 : wF.cell? ⟨w.heap.size, 13, none⟩ = some (.slice none 0 0) := cell_of hH rfl
    all_goals clear zz0 zf0 xx0 zz1 zf1 xx1 zz2 zf2 xx2 zz3 zf3 xx3 zz4 zf4 xx4 zz5 zf5 xx5 zz6 zf6 xx6 zz7 zf7 xx7 zz8 zf8 xx8 zz9 zf9 xx9 zz10 zf10 xx10 zz11 zf11 xx11 zz12 zf12 xx12 zz13 zf13 xx13
    all_goals refine bodyPost_ret (v := .tuple #[.agg #[.int .i64 0, .int .i64 0, .int .i64 0, .int .i64 0, .string ⟨#[]⟩, .bool false, .string ⟨#[]⟩, .string ⟨#[]⟩, .int .i64 0, .int .i64 0, .slice none 0 0, .slice none 0 0, .slice none 0 0, .slice none 0 0], .bool false]) (by simp [results, Tryd.results31, go_sem, zw0, zw1, zw2, zw3, zw4, zw5, zw6, zw7, zw8, zw9, zw10, zw11, zw12, zw13]) rfl ?_
    all_goals exact get_no hP.out (g18.out.bel.trans (hCh.below (fun k _ e => by omega) g18.out.bel.size)) (.inl hbd.out.symm)
  | false =>
    cases ok with
    | false =>
      go_upto_region 40 with fail
      go_wp2_with fail
      all_goals (obtain ⟨hH, hCh⟩ := fill14 g18.out.res (.int .i64 0) (.int .i64 0) (.int .i64 0) (.int .i64 0) (.string ⟨#[]⟩) (.bool false) (.string ⟨#[]⟩) (.string ⟨#[]⟩) (.int .i64 0) (.int .i64 0) (.slice none 0 0) (.slice none 0 0) (.slice none 0 0) (.slice none 0 0); generalize World.setCell _ _ _ = wF at hH hCh ⊢)
      all_goals have zw0 : wF.cell? ⟨w.heap.size, 0, none⟩ = some (.int .i64 0) := cell_of hH rfl
      all_goals have zw1 : wF.cell? ⟨w.heap.size, 1, none⟩ = some (.int .i64 0) := cell_of hH rfl
      all_goals have zw2 : wF.cell? ⟨w.heap.size, 2, none⟩ = some (.int .i64 0) := cell_of hH rfl
      all_goals have zw3 : wF.cell? ⟨w.heap.size, 3, none⟩ = some (.int .i64 0) := cell_of hH rfl
      all_goals have zw4 : wF.cell? ⟨w.heap.size, 4, none⟩ = some (.string ⟨#[]⟩) := cell_of hH rfl
      all_goals have zw5 : wF.cell? ⟨w.heap.size, 5, none⟩ = some (.bool false) := cell_of hH rfl
      all_goals have zw6 : wF.cell? ⟨w.heap.size, 6, none⟩ = some (.string ⟨#[]⟩) := cell_of hH rfl
      all_goals have zw7 : wF.cell? ⟨w.heap.size, 7, none⟩ = some (.string ⟨#[]⟩) := cell_of hH rfl
      all_goals have zw8 : wF.cell? ⟨w.heap.size, 8, none⟩ = some (.int .i64 0) := cell_of hH rfl
      all_goals have zw9 : wF.cell? ⟨w.heap.size, 9, none⟩ = some (.int .i64 0) := cell_of hH rfl
      all_goals have zw10 : wF.cell? ⟨w.heap.size, 10, none⟩ = some (.slice none 0 0) := cell_of hH rfl
      all_goals have zw11 : wF.cell? ⟨w.heap.size, 11, none⟩ = some (.slice none 0 0) := cell_of hH rfl
      all_goals have zw12 : wF.cell? ⟨w.heap.size, 12, none⟩ = some (.slice none 0 0) := cell_of hH rfl
      all_goals have zw13 : wF.cell? ⟨w.heap.size, 13, none⟩ = some (.slice none 0 0) := cell_of hH rfl
      all_goals clear zz0 zf0 xx0 zz1 zf1 xx1 zz2 zf2 xx2 zz3 zf3 xx3 zz4 zf4 xx4 zz5 zf5 xx5 zz6 zf6 xx6 zz7 zf7 xx7 zz8 zf8 xx8 zz9 zf9 xx9 zz10 zf10 xx10 zz11 zf11 xx11 zz12 zf12 xx12 zz13 zf13 xx13
      all_goals refine bodyPost_ret (v := .tuple #[.agg #[.int .i64 0, .int .i64 0, .int .i64 0, .int .i64 0, .string ⟨#[]⟩, .bool false, .string ⟨#[]⟩, .string ⟨#[]⟩, .int .i64 0, .int .i64 0, .slice none 0 0, .slice none 0 0, .slice none 0 0, .slice none 0 0], .bool false]) (by simp [results, Tryd.results31, go_sem, zw0, zw1, zw2, zw3, zw4, zw5, zw6, zw7, zw8, zw9, zw10, zw11, zw12, zw13]) rfl ?_
      all_goals exact get_no hP.out (g18.out.bel.trans (hCh.below (fun k _ e => by omega) g18.out.bel.size)) (.inr (.inl hok.out.symm))
    | true =>
      by_cases hpb : pu = b
      · subst hpb
        have xw0 : w18.cell? ⟨w.heap.size + 1 + 1 + 1 + 1, 0, none⟩ = some (.int .i64 r.kind) := (g18.out.cell 0 rfl).1
        have xw1 : w18.cell? ⟨w.heap.size + 1 + 1 + 1 + 1, 1, none⟩ = some (.int .i64 r.tx) := (g18.out.cell 1 rfl).1
        have xw2 : w18.cell? ⟨w.heap.size + 1 + 1 + 1 + 1, 2, none⟩ = some (.int .i64 r.prev) := (g18.out.cell 2 rfl).1
        have xw3 : w18.cell? ⟨w.heap.size + 1 + 1 + 1 + 1, 3, none⟩ = some (.int .i64 r.next) := (g18.out.cell 3 rfl).1
        have xw4 : w18.cell? ⟨w.heap.size + 1 + 1 + 1 + 1, 4, none⟩ = some (.string (mk r.key)) := (g18.out.cell 4 rfl).1
        have xw5 : w18.cell? ⟨w.heap.size + 1 + 1 + 1 + 1, 5, none⟩ = some (.bool r.had) := (g18.out.cell 5 rfl).1
        have xw6 : w18.cell? ⟨w.heap.size + 1 + 1 + 1 + 1, 6, none⟩ = some (.string (mk r.old.key)) := (g18.out.cell 6 rfl).1
        have xw7 : w18.cell? ⟨w.heap.size + 1 + 1 + 1 + 1, 7, none⟩ = some (.string (mk r.old.val)) := (g18.out.cell 7 rfl).1
        have xw8 : w18.cell? ⟨w.heap.size + 1 + 1 + 1 + 1, 8, none⟩ = some (.int .i64 r.old.blob) := (g18.out.cell 8 rfl).1
        have xw9 : w18.cell? ⟨w.heap.size + 1 + 1 + 1 + 1, 9, none⟩ = some (.int .i64 r.old.size) := (g18.out.cell 9 rfl).1
        have xw10 : w18.cell? ⟨w.heap.size + 1 + 1 + 1 + 1, 10, none⟩ = some (.slice aP r.pages.length cP) := (g18.out.cell 10 rfl).1
        have xw11 : w18.cell? ⟨w.heap.size + 1 + 1 + 1 + 1, 11, none⟩ = some (.slice aQ r.pats.length cQ) := (g18.out.cell 11 rfl).1
        have xw12 : w18.cell? ⟨w.heap.size + 1 + 1 + 1 + 1, 12, none⟩ = some (.slice aX r.txs.length cX) := (g18.out.cell 12 rfl).1
        have xw13 : w18.cell? ⟨w.heap.size + 1 + 1 + 1 + 1, 13, none⟩ = some (.slice aY r.dirty.length cY) := (g18.out.cell 13 rfl).1
        go_upto_region 41 with fail
        go_wp2_with fail
        all_goals (obtain ⟨hH, hCh⟩ := fill14 g18.out.res (.int .i64 r.kind) (.int .i64 r.tx) (.int .i64 r.prev) (.int .i64 r.next) (.string (mk r.key)) (.bool r.had) (.string (mk r.old.key)) (.string (mk r.old.val)) (.int .i64 r.old.blob) (.int .i64 r.old.size) (.slice aP r.pages.length cP) (.slice aQ r.pats.length cQ) (.slice aX r.txs.length cX) (.slice aY r.dirty.length cY); generalize World.setCell _ _ _ = wF at hH hCh ⊢)
        all_goals have zw0 : wF.cell? ⟨w.heap.size, 0, none⟩ = some (.int .i64 r.kind) := cell_of hH rfl
        all_goals have zw1 : wF.cell? ⟨w.heap.size, 1, none⟩ = some (.int .i64 r.tx) := cell_of hH rfl
        all_goals have zw2 : wF.cell? ⟨w.heap.size, 2, none⟩ = some (.int .i64 r.prev) := cell_of hH rfl
        all_goals have zw3 : wF.cell? ⟨w.heap.size, 3, none⟩ = some (.int .i64 r.next) := cell_of hH rfl
        all_goals have zw4 : wF.cell? ⟨w.heap.size, 4, none⟩ = some (.string (mk r.key)) := cell_of hH rfl
        all_goals have zw5 : wF.cell? ⟨w.heap.size, 5, none⟩ = some (.bool r.had) := cell_of hH rfl
        all_goals have zw6 : wF.cell? ⟨w.heap.size, 6, none⟩ = some (.string (mk r.old.key)) := cell_of hH rfl
        all_goals have zw7 : wF.cell? ⟨w.heap.size, 7, none⟩ = some (.string (mk r.old.val)) := cell_of hH rfl
        all_goals have zw8 : wF.cell? ⟨w.heap.size, 8, none⟩ = some (.int .i64 r.old.blob) := cell_of hH rfl
        all_goals have zw9 : wF.cell? ⟨w.heap.size, 9, none⟩ = some (.int .i64 r.old.size) := cell_of hH rfl
        all_goals have zw10 : wF.cell? ⟨w.heap.size, 10, none⟩ = some (.slice aP r.pages.length cP) := cell_of hH rfl
        all_goals have zw11 : wF.cell? ⟨w.heap.size, 11, none⟩ = some (.slice aQ r.pats.length cQ) := cell_of hH rfl
        all_goals have zw12 : wF.cell? ⟨w.heap.size, 12, none⟩ = some (.slice aX r.txs.length cX) := cell_of hH rfl
        all_goals have zw13 : wF.cell? ⟨w.heap.size, 13, none⟩ = some (.slice aY r.dirty.length cY) := cell_of hH rfl
        all_goals clear zz0 zf0 xx0 zz1 zf1 xx1 zz2 zf2 xx2 zz3 zf3 xx3 zz4 zf4 xx4 zz5 zf5 xx5 zz6 zf6 xx6 zz7 zf7 xx7 zz8 zf8 xx8 zz9 zf9 xx9 zz10 zf10 xx10 zz11 zf11 xx11 zz12 zf12 xx12 zz13 zf13 xx13
        all_goals refine bodyPost_ret (v := .tuple #[.agg #[.int .i64 r.kind, .int .i64 r.tx, .int .i64 r.prev, .int .i64 r.next, .string (mk r.key), .bool r.had, .string (mk r.old.key), .string (mk r.old.val), .int .i64 r.old.blob, .int .i64 r.old.size, .slice aP r.pages.length cP, .slice aQ r.pats.length cQ, .slice aX r.txs.length cX, .slice aY r.dirty.length cY], .bool true]) (by simp [results, Tryd.results31, go_sem, zw0, zw1, zw2, zw3, zw4, zw5, zw6, zw7, zw8, zw9, zw10, zw11, zw12, zw13]) rfl ?_
        all_goals refine get_yes (vp := .slice aP r.pages.length cP) (vt := .slice aQ r.pats.length cQ) (vx := .slice aX r.txs.length cX) (vd := .slice aY r.dirty.length cY) hP.out (g18.out.bel.trans (hCh.below (fun k _ e => by omega) g18.out.bel.size)) hbd.out.symm hok.out.symm hpu.out ?_
        all_goals exact (o18.out.chg hCh (fun k e _ => by omega)).low (by omega)
      · have hpn : (pu == b) = false := by simpa using hpb
        go_upto_region 40 with fail
        go_wp2_with fail
        all_goals (obtain ⟨hH, hCh⟩ := fill14 g18.out.res (.int .i64 0) (.int .i64 0) (.int .i64 0) (.int .i64 0) (.string ⟨#[]⟩) (.bool false) (.string ⟨#[]⟩) (.string ⟨#[]⟩) (.int .i64 0) (.int .i64 0) (.slice none 0 0) (.slice none 0 0) (.slice none 0 0) (.slice none 0 0); generalize World.setCell _ _ _ = wF at hH hCh ⊢)
        all_goals have zw0 : wF.cell? ⟨w.heap.size, 0, none⟩ = some (.int .i64 0) := cell_of hH rfl
        all_goals have zw1 : wF.cell? ⟨w.heap.size, 1, none⟩ = some (.int .i64 0) := cell_of hH rfl
        all_goals have zw2 : wF.cell? ⟨w.heap.size, 2, none⟩ = some (.int .i64 0) := cell_of hH rfl
        all_goals have zw3 : wF.cell? ⟨w.heap.size, 3, none⟩ = some (.int .i64 0) := cell_of hH rfl
        all_goals have zw4 : wF.cell? ⟨w.heap.size, 4, none⟩ = some (.string ⟨#[]⟩) := cell_of hH rfl
        all_goals have zw5 : wF.cell? ⟨w.heap.size, 5, none⟩ = some (.bool false) := cell_of hH rfl
        all_goals have zw6 : wF.cell? ⟨w.heap.size, 6, none⟩ = some (.string ⟨#[]⟩) := cell_of hH rfl
        all_goals have zw7 : wF.cell? ⟨w.heap.size, 7, none⟩ = some (.string ⟨#[]⟩) := cell_of hH rfl
        all_goals have zw8 : wF.cell? ⟨w.heap.size, 8, none⟩ = some (.int .i64 0) := cell_of hH rfl
        all_goals have zw9 : wF.cell? ⟨w.heap.size, 9, none⟩ = some (.int .i64 0) := cell_of hH rfl
        all_goals have zw10 : wF.cell? ⟨w.heap.size, 10, none⟩ = some (.slice none 0 0) := cell_of hH rfl
        all_goals have zw11 : wF.cell? ⟨w.heap.size, 11, none⟩ = some (.slice none 0 0) := cell_of hH rfl
        all_goals have zw12 : wF.cell? ⟨w.heap.size, 12, none⟩ = some (.slice none 0 0) := cell_of hH rfl
        all_goals have zw13 : wF.cell? ⟨w.heap.size, 13, none⟩ = some (.slice none 0 0) := cell_of hH rfl
        all_goals clear zz0 zf0 xx0 zz1 zf1 xx1 zz2 zf2 xx2 zz3 zf3 xx3 zz4 zf4 xx4 zz5 zf5 xx5 zz6 zf6 xx6 zz7 zf7 xx7 zz8 zf8 xx8 zz9 zf9 xx9 zz10 zf10 xx10 zz11 zf11 xx11 zz12 zf12 xx12 zz13 zf13 xx13
        all_goals refine bodyPost_ret (v := .tuple #[.agg #[.int .i64 0, .int .i64 0, .int .i64 0, .int .i64 0, .string ⟨#[]⟩, .bool false, .string ⟨#[]⟩, .string ⟨#[]⟩, .int .i64 0, .int .i64 0, .slice none 0 0, .slice none 0 0, .slice none 0 0, .slice none 0 0], .bool false]) (by simp [results, Tryd.results31, go_sem, zw0, zw1, zw2, zw3, zw4, zw5, zw6, zw7, zw8, zw9, zw10, zw11, zw12, zw13]) rfl ?_
        all_goals exact get_no hP.out (g18.out.bel.trans (hCh.below (fun k _ e => by omega) g18.out.bel.size)) (.inr (.inr (fun e => hpb (hpu.out.trans (by rw [if_pos hok.out.symm]; exact e)))))
end Go.Proofs.YtofejnhnnmnfpaaDoor.Rc
