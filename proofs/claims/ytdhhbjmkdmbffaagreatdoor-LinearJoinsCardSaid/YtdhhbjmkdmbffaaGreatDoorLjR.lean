import Derived.Test.YtdhhbjmkdmbffaaGreatDoorLjI
import Derived.Test.YtdhhbjmkdmbffaaGreatDoorLjF
/- Drawn regions of the reference's Join. -/
namespace Go.Proofs.YtdhhbjmkdmbffaaGreatDoor
open Go.RowKit Num
set_option maxRecDepth 100000
set_option linter.unusedVariables false
section
variable {P : Program} {ops : Array Oper} {Q : Exit → Act → World → Prop} {S : World → Prop} {md : Region.Mode}
theorem tkH {oi : Oper} {fuel : Nat} {listed : Array Bool} {a : Act} {w : World} (i d : Nat) (v : Value) (hi : ops[i]? = some oi) (hd : oi.dst = some d)
    (hk : (Region.noSelect ops && (Region.free md ops listed i && (Region.ready md ops listed).contains i)) = true)
    (hQ : ∀ c t u ds w, Q (.panic c) ⟨t, ds⟩ w → Q (.panic c) ⟨u, ds⟩ w) (hy : YieldsIf P ops S oi v a) (hS : S w)
    (h : wpAnyH P md ops Q S fuel (listed.setIfInBounds i true) (a.put (some d) v) w) : wpAnyH P md ops Q S (fuel + 1) listed a w := by
  rw [Bool.and_eq_true, Bool.and_eq_true] at hk
  exact wpAnyH_take hi hk.1 hk.2.1 hk.2.2 (fun c a w h => by rw [hd] at h; exact hQ c (a.put (some d) v).tmps a.tmps a.defers w h) hy hS (by rw [hd]; exact h)
end
theorem put9 (l : List Value) (ds) (i : Nat) (v : Value) : Act.put ⟨⟨l⟩, ds⟩ (some i) v = ⟨⟨l.set i v⟩, ds⟩ := by simp [Act.put]
def fndR (n : Nat) : Code → Option Code
  | .region m ops d => if m = n then some (.region m ops d) else none
  | .seq a b => match fndR n a with
    | some c => some c
    | none => fndR n b
  | .cond _ a b => match fndR n a with
    | some c => some c
    | none => fndR n b
  | .block _ c => fndR n c
  | .loop c => fndR n c
  | .scope c => fndR n c
  | _ => none
noncomputable def rgJ (n : Nat) : Code := ((Tryz.f18).body.bind (fndR n)).getD .skip
set_option maxHeartbeats 8000000 in
theorem r17 {Q : Exit → Act → World → Prop} {w : World} {q0 b off np pc k na m vc vd : Nat} {va vb : Option Addr} {u v : Int} {s0 s1 s5 s6 s7 s8 s9 s10 s11 s12 s14 s15 s16 s17 s18 s19 s20 s21 s22 s23 s24 s25 s26 s27 s28 s29 s30 s31 s32 s33 s34 s35 s36 s37 s38 s39 s40 s41 s42 s43 s44 s45 s46 s47 s48 s49 s50 s51 s52 s53 s54 s55 s56 s57 s58 s59 s60 s61 s62 s63 s64 s65 s66 s67 s68 s69 s70 s71 s72 s73 s74 s75 s76 s77 s78 s79 s80 s81 s82 s83 s84 s85 s86 s87 s88 s89 s90 s91 s92 s93 s94 s95 s96 s97 s98 s99 s100 s101 s102 s103 s104 s105 s106 s107 s108 s109 s110 s111 s112 s113 s114 s115 s116 s117 s118 s119 s120 s121 s122 s123 s124 s125 s126 s127 s128 s129 s130 s131 s132 s133 s134 s135 s136 s137 s138 s139 s140 s141 s142 s143 s144 s145 s146 s147 s148 s149 s150 s151 s152 s153 s154 s155 s156 s157 s158 s159 s160 s161 s162 s163 s164 s165 s166 s167 s168 s169 s170 s171 s172 s173 s174 s175 s176 s177 s178 s179 s180 s181 s182 s183 s184 s185 s186 s187 s188 s189 s190 s191 s192 s193 s194 s195 s196 s197 s198 s199 s200 s201 s202 s203 s204 s205 s206 s207 s208 s209 s210 s211 s212 s213 s214 s215 s216 s217 s218 s219 s220 s221 s222 s223 s224 s225 s226 s227 s228 s229 s230 s231 s232 s233 s234 s235 s236 s237 s238 s239 s240 s241 s242 s243 s244 s245 s246 s247 s248 s249 s250 s251 s252 s253 s254 s255 s256 s257 s258 s259 s260 s261 s262 s263 s264 s265 s266 s267 s268 s269 s270 s271 s272 s273 s274 s275 s276 s277 s278 s279 s280 s281 s282 s283 s284 s285 s286 s287 s288 s289 s290 s291 s292 s293 s294 s295 s296 s297 s298 s299 s300 s301 : Value}
    (hQ : ∀ c t u ds w, Q (.panic c) ⟨t, ds⟩ w → Q (.panic c) ⟨u, ds⟩ w) (hlt : k < np) (c1 : w.cell? ⟨q0, 1, none⟩ = some (.slice va na vc)) (c2 : w.cell? ⟨q0 + 1, 1, none⟩ = some (.slice vb m vd)) (c3 : w.cell? ⟨b, off + k * 2, none⟩ = some (.int .i64 u)) (c4 : w.cell? ⟨b, off + k * 2 + 1, none⟩ = some (.int .i64 v))
    (h : ∀ t65 t66 t67 t68 t69 t70 t71 t72 t73 t74 t75 t76 t77 t78 t79 t80 t81 t82 t83 t84 t85 t86 t87 t88 t89 t90 t91 t92 t93 t94 t95 t96 t97 t98 t99 : Value, Q .normal ⟨#[s0, s1, .slice (some ⟨b, off, none⟩) np pc, .pointer (some ⟨q0, 0, none⟩), .pointer (some ⟨q0 + 1, 0, none⟩), s5, s6, s7, s8, s9, s10, s11, s12, .int .i64 (k : Int), s14, s15, s16, s17, s18, s19, s20, s21, s22, s23, s24, s25, s26, s27, s28, s29, s30, s31, s32, s33, s34, s35, s36, s37, s38, s39, s40, s41, s42, s43, s44, s45, s46, s47, s48, s49, s50, s51, s52, s53, s54, s55, s56, s57, s58, s59, s60, s61, s62, s63, s64, t65, t66, t67, t68, t69, t70, t71, t72, t73, t74, t75, t76, t77, t78, t79, t80, t81, t82, t83, t84, t85, t86, t87, t88, t89, t90, t91, t92, t93, t94, t95, t96, t97, t98, t99, .bool (!prOk na m (u, v)), s101, s102, s103, s104, s105, s106, s107, s108, s109, s110, s111, s112, s113, s114, s115, s116, s117, s118, s119, s120, s121, s122, s123, s124, s125, s126, s127, s128, s129, s130, s131, s132, s133, s134, s135, s136, s137, s138, s139, s140, s141, s142, s143, s144, s145, s146, s147, s148, s149, s150, s151, s152, s153, s154, s155, s156, s157, s158, s159, s160, s161, s162, s163, s164, s165, s166, s167, s168, s169, s170, s171, s172, s173, s174, s175, s176, s177, s178, s179, s180, s181, s182, s183, s184, s185, s186, s187, s188, s189, s190, s191, s192, s193, s194, s195, s196, s197, s198, s199, s200, s201, s202, s203, s204, s205, s206, s207, s208, s209, s210, s211, s212, s213, s214, s215, s216, s217, s218, s219, s220, s221, s222, s223, s224, s225, s226, s227, s228, s229, s230, s231, s232, s233, s234, s235, s236, s237, s238, s239, s240, s241, s242, s243, s244, s245, s246, s247, s248, s249, s250, s251, s252, s253, s254, s255, s256, s257, s258, s259, s260, s261, s262, s263, s264, s265, s266, s267, s268, s269, s270, s271, s272, s273, s274, s275, s276, s277, s278, s279, s280, s281, s282, s283, s284, s285, s286, s287, s288, s289, s290, s291, s292, s293, s294, s295, s296, s297, s298, s299, s300, s301], []⟩ w.drew) : Code.wp Tryz.prog (rgJ 17) Q ⟨#[s0, s1, .slice (some ⟨b, off, none⟩) np pc, .pointer (some ⟨q0, 0, none⟩), .pointer (some ⟨q0 + 1, 0, none⟩), s5, s6, s7, s8, s9, s10, s11, s12, .int .i64 (k : Int), s14, s15, s16, s17, s18, s19, s20, s21, s22, s23, s24, s25, s26, s27, s28, s29, s30, s31, s32, s33, s34, s35, s36, s37, s38, s39, s40, s41, s42, s43, s44, s45, s46, s47, s48, s49, s50, s51, s52, s53, s54, s55, s56, s57, s58, s59, s60, s61, s62, s63, s64, s65, s66, s67, s68, s69, s70, s71, s72, s73, s74, s75, s76, s77, s78, s79, s80, s81, s82, s83, s84, s85, s86, s87, s88, s89, s90, s91, s92, s93, s94, s95, s96, s97, s98, s99, s100, s101, s102, s103, s104, s105, s106, s107, s108, s109, s110, s111, s112, s113, s114, s115, s116, s117, s118, s119, s120, s121, s122, s123, s124, s125, s126, s127, s128, s129, s130, s131, s132, s133, s134, s135, s136, s137, s138, s139, s140, s141, s142, s143, s144, s145, s146, s147, s148, s149, s150, s151, s152, s153, s154, s155, s156, s157, s158, s159, s160, s161, s162, s163, s164, s165, s166, s167, s168, s169, s170, s171, s172, s173, s174, s175, s176, s177, s178, s179, s180, s181, s182, s183, s184, s185, s186, s187, s188, s189, s190, s191, s192, s193, s194, s195, s196, s197, s198, s199, s200, s201, s202, s203, s204, s205, s206, s207, s208, s209, s210, s211, s212, s213, s214, s215, s216, s217, s218, s219, s220, s221, s222, s223, s224, s225, s226, s227, s228, s229, s230, s231, s232, s233, s234, s235, s236, s237, s238, s239, s240, s241, s242, s243, s244, s245, s246, s247, s248, s249, s250, s251, s252, s253, s254, s255, s256, s257, s258, s259, s260, s261, s262, s263, s264, s265, s266, s267, s268, s269, s270, s271, s272, s273, s274, s275, s276, s277, s278, s279, s280, s281, s282, s283, s284, s285, s286, s287, s288, s289, s290, s291, s292, s293, s294, s295, s296, s297, s298, s299, s300, s301], []⟩ w := by
  conv => arg 2; whnf
  refine wp_region_held_drew (S := fun w' => w'.cell? ⟨q0, 1, none⟩ = some (.slice va na vc) ∧ w'.cell? ⟨q0 + 1, 1, none⟩ = some (.slice vb m vd) ∧ w'.cell? ⟨b, off + k * 2, none⟩ = some (.int .i64 u) ∧ w'.cell? ⟨b, off + k * 2 + 1, none⟩ = some (.int .i64 v)) (by kernel_rfl) ⟨c1, c2, c3, c4⟩ (fun hS0 => ?_)
  refine tkH 0 65 (.slice (some ⟨b, off, none⟩) np pc) rfl rfl (by kernel_rfl) hQ (.inl ⟨by rfl, fun w' hSw => (by go_simp)⟩) (by assumption) ?_
  try simp only [put9, List.set]
  refine tkH 1 66 (.int .i64 (k : Int)) rfl rfl (by kernel_rfl) hQ (.inl ⟨by rfl, fun w' hSw => (by go_simp)⟩) (by assumption) ?_
  try simp only [put9, List.set]
  refine tkH 2 67 (.pointer (some ⟨b, off + k * 2, none⟩)) rfl rfl (by kernel_rfl) hQ (.inl ⟨by rfl, fun w' hSw => (by go_simp)⟩) (by assumption) ?_
  try simp only [put9, List.set]
  refine tkH 3 68 (.pointer (some ⟨b, off + k * 2, none⟩)) rfl rfl (by kernel_rfl) hQ (.inl ⟨by rfl, fun w' hSw => (by go_simp)⟩) (by assumption) ?_
  try simp only [put9, List.set]
  refine tkH 4 69 (.int .i64 u) rfl rfl (by kernel_rfl) hQ (.inl ⟨by rfl, fun w' hSw => (by obtain ⟨g0, g1, g2, g3⟩ := hSw; go_simp)⟩) (by assumption) ?_
  try simp only [put9, List.set]
  by_cases x0 : u < 0
  · have y : decide (u < 0) = true := decide_eq_true x0
    have e : prOk na m (u, v) = false := Bool.eq_false_iff.2 fun e => by have := prOk_iff.1 e; simp only at this; omega
    rw [e] at h
    clear e x0
    refine tkH 5 70 (.bool true) rfl rfl (by kernel_rfl) hQ (.inl ⟨by rfl, fun w' hSw => (by go_simp)⟩) (by assumption) ?_
    try simp only [put9, List.set]
    refine tkH 6 71 (.bool true) rfl rfl (by kernel_rfl) hQ (.inl ⟨by rfl, fun w' hSw => (by go_simp)⟩) (by assumption) ?_
    try simp only [put9, List.set]
    refine tkH 7 72 undef rfl rfl (by kernel_rfl) hQ (.inr ⟨by kernel_rfl, rfl⟩) (by assumption) ?_
    try simp only [put9, List.set]
    refine tkH 8 73 undef rfl rfl (by kernel_rfl) hQ (.inr ⟨by kernel_rfl, rfl⟩) (by assumption) ?_
    try simp only [put9, List.set]
    refine tkH 9 74 undef rfl rfl (by kernel_rfl) hQ (.inr ⟨by kernel_rfl, rfl⟩) (by assumption) ?_
    try simp only [put9, List.set]
    refine tkH 10 75 undef rfl rfl (by kernel_rfl) hQ (.inr ⟨by kernel_rfl, rfl⟩) (by assumption) ?_
    try simp only [put9, List.set]
    refine tkH 11 76 undef rfl rfl (by kernel_rfl) hQ (.inr ⟨by kernel_rfl, rfl⟩) (by assumption) ?_
    try simp only [put9, List.set]
    refine tkH 12 77 undef rfl rfl (by kernel_rfl) hQ (.inr ⟨by kernel_rfl, rfl⟩) (by assumption) ?_
    try simp only [put9, List.set]
    refine tkH 13 78 undef rfl rfl (by kernel_rfl) hQ (.inr ⟨by kernel_rfl, rfl⟩) (by assumption) ?_
    try simp only [put9, List.set]
    refine tkH 14 79 undef rfl rfl (by kernel_rfl) hQ (.inr ⟨by kernel_rfl, rfl⟩) (by assumption) ?_
    try simp only [put9, List.set]
    refine tkH 15 80 undef rfl rfl (by kernel_rfl) hQ (.inr ⟨by kernel_rfl, rfl⟩) (by assumption) ?_
    try simp only [put9, List.set]
    refine tkH 16 81 (.bool true) rfl rfl (by kernel_rfl) hQ (.inl ⟨by rfl, fun w' hSw => (by go_simp)⟩) (by assumption) ?_
    try simp only [put9, List.set]
    refine tkH 17 82 (.bool true) rfl rfl (by kernel_rfl) hQ (.inl ⟨by rfl, fun w' hSw => (by go_simp)⟩) (by assumption) ?_
    try simp only [put9, List.set]
    refine tkH 18 83 undef rfl rfl (by kernel_rfl) hQ (.inr ⟨by kernel_rfl, rfl⟩) (by assumption) ?_
    try simp only [put9, List.set]
    refine tkH 19 84 undef rfl rfl (by kernel_rfl) hQ (.inr ⟨by kernel_rfl, rfl⟩) (by assumption) ?_
    try simp only [put9, List.set]
    refine tkH 20 85 undef rfl rfl (by kernel_rfl) hQ (.inr ⟨by kernel_rfl, rfl⟩) (by assumption) ?_
    try simp only [put9, List.set]
    refine tkH 21 86 undef rfl rfl (by kernel_rfl) hQ (.inr ⟨by kernel_rfl, rfl⟩) (by assumption) ?_
    try simp only [put9, List.set]
    refine tkH 22 87 undef rfl rfl (by kernel_rfl) hQ (.inr ⟨by kernel_rfl, rfl⟩) (by assumption) ?_
    try simp only [put9, List.set]
    refine tkH 23 88 undef rfl rfl (by kernel_rfl) hQ (.inr ⟨by kernel_rfl, rfl⟩) (by assumption) ?_
    try simp only [put9, List.set]
    refine tkH 24 89 (.bool true) rfl rfl (by kernel_rfl) hQ (.inl ⟨by rfl, fun w' hSw => (by go_simp)⟩) (by assumption) ?_
    try simp only [put9, List.set]
    refine tkH 25 90 (.bool true) rfl rfl (by kernel_rfl) hQ (.inl ⟨by rfl, fun w' hSw => (by go_simp)⟩) (by assumption) ?_
    try simp only [put9, List.set]
    refine tkH 26 91 undef rfl rfl (by kernel_rfl) hQ (.inr ⟨by kernel_rfl, rfl⟩) (by assumption) ?_
    try simp only [put9, List.set]
    refine tkH 27 92 undef rfl rfl (by kernel_rfl) hQ (.inr ⟨by kernel_rfl, rfl⟩) (by assumption) ?_
    try simp only [put9, List.set]
    refine tkH 28 93 undef rfl rfl (by kernel_rfl) hQ (.inr ⟨by kernel_rfl, rfl⟩) (by assumption) ?_
    try simp only [put9, List.set]
    refine tkH 29 94 undef rfl rfl (by kernel_rfl) hQ (.inr ⟨by kernel_rfl, rfl⟩) (by assumption) ?_
    try simp only [put9, List.set]
    refine tkH 30 95 undef rfl rfl (by kernel_rfl) hQ (.inr ⟨by kernel_rfl, rfl⟩) (by assumption) ?_
    try simp only [put9, List.set]
    refine tkH 31 96 undef rfl rfl (by kernel_rfl) hQ (.inr ⟨by kernel_rfl, rfl⟩) (by assumption) ?_
    try simp only [put9, List.set]
    refine tkH 32 97 undef rfl rfl (by kernel_rfl) hQ (.inr ⟨by kernel_rfl, rfl⟩) (by assumption) ?_
    try simp only [put9, List.set]
    refine tkH 33 98 undef rfl rfl (by kernel_rfl) hQ (.inr ⟨by kernel_rfl, rfl⟩) (by assumption) ?_
    try simp only [put9, List.set]
    refine tkH 34 99 undef rfl rfl (by kernel_rfl) hQ (.inr ⟨by kernel_rfl, rfl⟩) (by assumption) ?_
    try simp only [put9, List.set]
    refine tkH 35 100 (.bool true) rfl rfl (by kernel_rfl) hQ (.inl ⟨by rfl, fun w' hSw => (by go_simp)⟩) (by assumption) ?_
    try simp only [put9, List.set]
    refine wpAnyH_done (by kernel_rfl) ?_ _
    exact h _ _ _ _ _ _ _ _ _ _ _ _ _ _ _ _ _ _ _ _ _ _ _ _ _ _ _ _ _ _ _ _ _ _ _
  have y0 : decide (u < 0) = false := decide_eq_false x0
  refine tkH 5 70 (.bool false) rfl rfl (by kernel_rfl) hQ (.inl ⟨by rfl, fun w' hSw => (by go_simp)⟩) (by assumption) ?_
  try simp only [put9, List.set]
  refine tkH 6 71 (.bool false) rfl rfl (by kernel_rfl) hQ (.inl ⟨by rfl, fun w' hSw => (by go_simp)⟩) (by assumption) ?_
  try simp only [put9, List.set]
  refine tkH 7 72 (.slice (some ⟨b, off, none⟩) np pc) rfl rfl (by kernel_rfl) hQ (.inl ⟨by rfl, fun w' hSw => (by go_simp)⟩) (by assumption) ?_
  try simp only [put9, List.set]
  refine tkH 8 73 (.int .i64 (k : Int)) rfl rfl (by kernel_rfl) hQ (.inl ⟨by rfl, fun w' hSw => (by go_simp)⟩) (by assumption) ?_
  try simp only [put9, List.set]
  refine tkH 9 74 (.pointer (some ⟨b, off + k * 2, none⟩)) rfl rfl (by kernel_rfl) hQ (.inl ⟨by rfl, fun w' hSw => (by go_simp)⟩) (by assumption) ?_
  try simp only [put9, List.set]
  refine tkH 10 75 (.pointer (some ⟨b, off + k * 2, none⟩)) rfl rfl (by kernel_rfl) hQ (.inl ⟨by rfl, fun w' hSw => (by go_simp)⟩) (by assumption) ?_
  try simp only [put9, List.set]
  refine tkH 11 76 (.int .i64 u) rfl rfl (by kernel_rfl) hQ (.inl ⟨by rfl, fun w' hSw => (by obtain ⟨g0, g1, g2, g3⟩ := hSw; go_simp)⟩) (by assumption) ?_
  try simp only [put9, List.set]
  refine tkH 12 77 (.pointer (some ⟨q0, 1, none⟩)) rfl rfl (by kernel_rfl) hQ (.inl ⟨by rfl, fun w' hSw => (by go_simp)⟩) (by assumption) ?_
  try simp only [put9, List.set]
  refine tkH 13 78 (.slice va na vc) rfl rfl (by kernel_rfl) hQ (.inl ⟨by rfl, fun w' hSw => (by obtain ⟨g0, g1, g2, g3⟩ := hSw; go_simp)⟩) (by assumption) ?_
  try simp only [put9, List.set]
  refine tkH 14 79 (.int .i64 (na : Int)) rfl rfl (by kernel_rfl) hQ (.inl ⟨by rfl, fun w' hSw => (by go_simp)⟩) (by assumption) ?_
  try simp only [put9, List.set]
  by_cases x1 : (na : Int) ≤ u
  · have y : decide ((na : Int) ≤ u) = true := decide_eq_true x1
    have e : prOk na m (u, v) = false := Bool.eq_false_iff.2 fun e => by have := prOk_iff.1 e; simp only at this; omega
    rw [e] at h
    clear e x1
    refine tkH 15 80 (.bool true) rfl rfl (by kernel_rfl) hQ (.inl ⟨by rfl, fun w' hSw => (by go_simp)⟩) (by assumption) ?_
    try simp only [put9, List.set]
    refine tkH 16 81 (.bool true) rfl rfl (by kernel_rfl) hQ (.inl ⟨by rfl, fun w' hSw => (by go_simp)⟩) (by assumption) ?_
    try simp only [put9, List.set]
    refine tkH 17 82 (.bool true) rfl rfl (by kernel_rfl) hQ (.inl ⟨by rfl, fun w' hSw => (by go_simp)⟩) (by assumption) ?_
    try simp only [put9, List.set]
    refine tkH 18 83 undef rfl rfl (by kernel_rfl) hQ (.inr ⟨by kernel_rfl, rfl⟩) (by assumption) ?_
    try simp only [put9, List.set]
    refine tkH 19 84 undef rfl rfl (by kernel_rfl) hQ (.inr ⟨by kernel_rfl, rfl⟩) (by assumption) ?_
    try simp only [put9, List.set]
    refine tkH 20 85 undef rfl rfl (by kernel_rfl) hQ (.inr ⟨by kernel_rfl, rfl⟩) (by assumption) ?_
    try simp only [put9, List.set]
    refine tkH 21 86 undef rfl rfl (by kernel_rfl) hQ (.inr ⟨by kernel_rfl, rfl⟩) (by assumption) ?_
    try simp only [put9, List.set]
    refine tkH 22 87 undef rfl rfl (by kernel_rfl) hQ (.inr ⟨by kernel_rfl, rfl⟩) (by assumption) ?_
    try simp only [put9, List.set]
    refine tkH 23 88 undef rfl rfl (by kernel_rfl) hQ (.inr ⟨by kernel_rfl, rfl⟩) (by assumption) ?_
    try simp only [put9, List.set]
    refine tkH 24 89 (.bool true) rfl rfl (by kernel_rfl) hQ (.inl ⟨by rfl, fun w' hSw => (by go_simp)⟩) (by assumption) ?_
    try simp only [put9, List.set]
    refine tkH 25 90 (.bool true) rfl rfl (by kernel_rfl) hQ (.inl ⟨by rfl, fun w' hSw => (by go_simp)⟩) (by assumption) ?_
    try simp only [put9, List.set]
    refine tkH 26 91 undef rfl rfl (by kernel_rfl) hQ (.inr ⟨by kernel_rfl, rfl⟩) (by assumption) ?_
    try simp only [put9, List.set]
    refine tkH 27 92 undef rfl rfl (by kernel_rfl) hQ (.inr ⟨by kernel_rfl, rfl⟩) (by assumption) ?_
    try simp only [put9, List.set]
    refine tkH 28 93 undef rfl rfl (by kernel_rfl) hQ (.inr ⟨by kernel_rfl, rfl⟩) (by assumption) ?_
    try simp only [put9, List.set]
    refine tkH 29 94 undef rfl rfl (by kernel_rfl) hQ (.inr ⟨by kernel_rfl, rfl⟩) (by assumption) ?_
    try simp only [put9, List.set]
    refine tkH 30 95 undef rfl rfl (by kernel_rfl) hQ (.inr ⟨by kernel_rfl, rfl⟩) (by assumption) ?_
    try simp only [put9, List.set]
    refine tkH 31 96 undef rfl rfl (by kernel_rfl) hQ (.inr ⟨by kernel_rfl, rfl⟩) (by assumption) ?_
    try simp only [put9, List.set]
    refine tkH 32 97 undef rfl rfl (by kernel_rfl) hQ (.inr ⟨by kernel_rfl, rfl⟩) (by assumption) ?_
    try simp only [put9, List.set]
    refine tkH 33 98 undef rfl rfl (by kernel_rfl) hQ (.inr ⟨by kernel_rfl, rfl⟩) (by assumption) ?_
    try simp only [put9, List.set]
    refine tkH 34 99 undef rfl rfl (by kernel_rfl) hQ (.inr ⟨by kernel_rfl, rfl⟩) (by assumption) ?_
    try simp only [put9, List.set]
    refine tkH 35 100 (.bool true) rfl rfl (by kernel_rfl) hQ (.inl ⟨by rfl, fun w' hSw => (by go_simp)⟩) (by assumption) ?_
    try simp only [put9, List.set]
    refine wpAnyH_done (by kernel_rfl) ?_ _
    exact h _ _ _ _ _ _ _ _ _ _ _ _ _ _ _ _ _ _ _ _ _ _ _ _ _ _ _ _ _ _ _ _ _ _ _
  have y1 : decide ((na : Int) ≤ u) = false := decide_eq_false x1
  refine tkH 15 80 (.bool false) rfl rfl (by kernel_rfl) hQ (.inl ⟨by rfl, fun w' hSw => (by go_simp)⟩) (by assumption) ?_
  try simp only [put9, List.set]
  refine tkH 16 81 (.bool false) rfl rfl (by kernel_rfl) hQ (.inl ⟨by rfl, fun w' hSw => (by go_simp)⟩) (by assumption) ?_
  try simp only [put9, List.set]
  refine tkH 17 82 (.bool false) rfl rfl (by kernel_rfl) hQ (.inl ⟨by rfl, fun w' hSw => (by go_simp)⟩) (by assumption) ?_
  try simp only [put9, List.set]
  refine tkH 18 83 (.slice (some ⟨b, off, none⟩) np pc) rfl rfl (by kernel_rfl) hQ (.inl ⟨by rfl, fun w' hSw => (by go_simp)⟩) (by assumption) ?_
  try simp only [put9, List.set]
  refine tkH 19 84 (.int .i64 (k : Int)) rfl rfl (by kernel_rfl) hQ (.inl ⟨by rfl, fun w' hSw => (by go_simp)⟩) (by assumption) ?_
  try simp only [put9, List.set]
  refine tkH 20 85 (.pointer (some ⟨b, off + k * 2, none⟩)) rfl rfl (by kernel_rfl) hQ (.inl ⟨by rfl, fun w' hSw => (by go_simp)⟩) (by assumption) ?_
  try simp only [put9, List.set]
  refine tkH 21 86 (.pointer (some ⟨b, off + k * 2 + 1, none⟩)) rfl rfl (by kernel_rfl) hQ (.inl ⟨by rfl, fun w' hSw => (by go_simp)⟩) (by assumption) ?_
  try simp only [put9, List.set]
  refine tkH 22 87 (.int .i64 v) rfl rfl (by kernel_rfl) hQ (.inl ⟨by rfl, fun w' hSw => (by obtain ⟨g0, g1, g2, g3⟩ := hSw; go_simp)⟩) (by assumption) ?_
  try simp only [put9, List.set]
  by_cases x2 : v < 0
  · have y : decide (v < 0) = true := decide_eq_true x2
    have e : prOk na m (u, v) = false := Bool.eq_false_iff.2 fun e => by have := prOk_iff.1 e; simp only at this; omega
    rw [e] at h
    clear e x2
    refine tkH 23 88 (.bool true) rfl rfl (by kernel_rfl) hQ (.inl ⟨by rfl, fun w' hSw => (by go_simp)⟩) (by assumption) ?_
    try simp only [put9, List.set]
    refine tkH 24 89 (.bool true) rfl rfl (by kernel_rfl) hQ (.inl ⟨by rfl, fun w' hSw => (by go_simp)⟩) (by assumption) ?_
    try simp only [put9, List.set]
    refine tkH 25 90 (.bool true) rfl rfl (by kernel_rfl) hQ (.inl ⟨by rfl, fun w' hSw => (by go_simp)⟩) (by assumption) ?_
    try simp only [put9, List.set]
    refine tkH 26 91 undef rfl rfl (by kernel_rfl) hQ (.inr ⟨by kernel_rfl, rfl⟩) (by assumption) ?_
    try simp only [put9, List.set]
    refine tkH 27 92 undef rfl rfl (by kernel_rfl) hQ (.inr ⟨by kernel_rfl, rfl⟩) (by assumption) ?_
    try simp only [put9, List.set]
    refine tkH 28 93 undef rfl rfl (by kernel_rfl) hQ (.inr ⟨by kernel_rfl, rfl⟩) (by assumption) ?_
    try simp only [put9, List.set]
    refine tkH 29 94 undef rfl rfl (by kernel_rfl) hQ (.inr ⟨by kernel_rfl, rfl⟩) (by assumption) ?_
    try simp only [put9, List.set]
    refine tkH 30 95 undef rfl rfl (by kernel_rfl) hQ (.inr ⟨by kernel_rfl, rfl⟩) (by assumption) ?_
    try simp only [put9, List.set]
    refine tkH 31 96 undef rfl rfl (by kernel_rfl) hQ (.inr ⟨by kernel_rfl, rfl⟩) (by assumption) ?_
    try simp only [put9, List.set]
    refine tkH 32 97 undef rfl rfl (by kernel_rfl) hQ (.inr ⟨by kernel_rfl, rfl⟩) (by assumption) ?_
    try simp only [put9, List.set]
    refine tkH 33 98 undef rfl rfl (by kernel_rfl) hQ (.inr ⟨by kernel_rfl, rfl⟩) (by assumption) ?_
    try simp only [put9, List.set]
    refine tkH 34 99 undef rfl rfl (by kernel_rfl) hQ (.inr ⟨by kernel_rfl, rfl⟩) (by assumption) ?_
    try simp only [put9, List.set]
    refine tkH 35 100 (.bool true) rfl rfl (by kernel_rfl) hQ (.inl ⟨by rfl, fun w' hSw => (by go_simp)⟩) (by assumption) ?_
    try simp only [put9, List.set]
    refine wpAnyH_done (by kernel_rfl) ?_ _
    exact h _ _ _ _ _ _ _ _ _ _ _ _ _ _ _ _ _ _ _ _ _ _ _ _ _ _ _ _ _ _ _ _ _ _ _
  have y2 : decide (v < 0) = false := decide_eq_false x2
  refine tkH 23 88 (.bool false) rfl rfl (by kernel_rfl) hQ (.inl ⟨by rfl, fun w' hSw => (by go_simp)⟩) (by assumption) ?_
  try simp only [put9, List.set]
  refine tkH 24 89 (.bool false) rfl rfl (by kernel_rfl) hQ (.inl ⟨by rfl, fun w' hSw => (by go_simp)⟩) (by assumption) ?_
  try simp only [put9, List.set]
  refine tkH 25 90 (.bool false) rfl rfl (by kernel_rfl) hQ (.inl ⟨by rfl, fun w' hSw => (by go_simp)⟩) (by assumption) ?_
  try simp only [put9, List.set]
  refine tkH 26 91 (.slice (some ⟨b, off, none⟩) np pc) rfl rfl (by kernel_rfl) hQ (.inl ⟨by rfl, fun w' hSw => (by go_simp)⟩) (by assumption) ?_
  try simp only [put9, List.set]
  refine tkH 27 92 (.int .i64 (k : Int)) rfl rfl (by kernel_rfl) hQ (.inl ⟨by rfl, fun w' hSw => (by go_simp)⟩) (by assumption) ?_
  try simp only [put9, List.set]
  refine tkH 28 93 (.pointer (some ⟨b, off + k * 2, none⟩)) rfl rfl (by kernel_rfl) hQ (.inl ⟨by rfl, fun w' hSw => (by go_simp)⟩) (by assumption) ?_
  try simp only [put9, List.set]
  refine tkH 29 94 (.pointer (some ⟨b, off + k * 2 + 1, none⟩)) rfl rfl (by kernel_rfl) hQ (.inl ⟨by rfl, fun w' hSw => (by go_simp)⟩) (by assumption) ?_
  try simp only [put9, List.set]
  refine tkH 30 95 (.int .i64 v) rfl rfl (by kernel_rfl) hQ (.inl ⟨by rfl, fun w' hSw => (by obtain ⟨g0, g1, g2, g3⟩ := hSw; go_simp)⟩) (by assumption) ?_
  try simp only [put9, List.set]
  refine tkH 31 96 (.pointer (some ⟨q0 + 1, 1, none⟩)) rfl rfl (by kernel_rfl) hQ (.inl ⟨by rfl, fun w' hSw => (by go_simp)⟩) (by assumption) ?_
  try simp only [put9, List.set]
  refine tkH 32 97 (.slice vb m vd) rfl rfl (by kernel_rfl) hQ (.inl ⟨by rfl, fun w' hSw => (by obtain ⟨g0, g1, g2, g3⟩ := hSw; go_simp)⟩) (by assumption) ?_
  try simp only [put9, List.set]
  refine tkH 33 98 (.int .i64 (m : Int)) rfl rfl (by kernel_rfl) hQ (.inl ⟨by rfl, fun w' hSw => (by go_simp)⟩) (by assumption) ?_
  try simp only [put9, List.set]
  by_cases x3 : (m : Int) ≤ v
  · have y : decide ((m : Int) ≤ v) = true := decide_eq_true x3
    have e : prOk na m (u, v) = false := Bool.eq_false_iff.2 fun e => by have := prOk_iff.1 e; simp only at this; omega
    rw [e] at h
    clear e x3
    refine tkH 34 99 (.bool true) rfl rfl (by kernel_rfl) hQ (.inl ⟨by rfl, fun w' hSw => (by go_simp)⟩) (by assumption) ?_
    try simp only [put9, List.set]
    refine tkH 35 100 (.bool true) rfl rfl (by kernel_rfl) hQ (.inl ⟨by rfl, fun w' hSw => (by go_simp)⟩) (by assumption) ?_
    try simp only [put9, List.set]
    refine wpAnyH_done (by kernel_rfl) ?_ _
    exact h _ _ _ _ _ _ _ _ _ _ _ _ _ _ _ _ _ _ _ _ _ _ _ _ _ _ _ _ _ _ _ _ _ _ _
  have y3 : decide ((m : Int) ≤ v) = false := decide_eq_false x3
  have e : prOk na m (u, v) = true := prOk_iff.2 ⟨by simp only; omega, by simp only; omega, by simp only; omega, by simp only; omega⟩
  rw [e] at h
  refine tkH 34 99 (.bool false) rfl rfl (by kernel_rfl) hQ (.inl ⟨by rfl, fun w' hSw => (by go_simp)⟩) (by assumption) ?_
  try simp only [put9, List.set]
  refine tkH 35 100 (.bool false) rfl rfl (by kernel_rfl) hQ (.inl ⟨by rfl, fun w' hSw => (by go_simp)⟩) (by assumption) ?_
  try simp only [put9, List.set]
  refine wpAnyH_done (by kernel_rfl) ?_ _
  exact h _ _ _ _ _ _ _ _ _ _ _ _ _ _ _ _ _ _ _ _ _ _ _ _ _ _ _ _ _ _ _ _ _ _ _
set_option maxHeartbeats 8000000 in
theorem r33 {Q : Exit → Act → World → Prop} {w : World} {q0 bv ov bu ou i j na m vc vd : Nat} {X Y : ByteArray} {s0 s1 s2 s5 s6 s7 s8 s9 s10 s11 s12 s13 s14 s15 s16 s19 s20 s21 s22 s23 s24 s25 s26 s27 s28 s29 s30 s31 s32 s33 s34 s35 s36 s37 s38 s39 s40 s41 s42 s43 s44 s45 s46 s47 s48 s49 s50 s51 s52 s53 s54 s55 s56 s57 s58 s59 s60 s61 s62 s63 s64 s65 s66 s67 s68 s69 s70 s71 s72 s73 s74 s75 s76 s77 s78 s79 s80 s81 s82 s83 s84 s85 s86 s87 s88 s89 s90 s91 s92 s93 s94 s95 s96 s97 s98 s99 s100 s101 s102 s103 s104 s105 s106 s107 s108 s109 s110 s111 s112 s113 s114 s115 s116 s117 s118 s119 s120 s121 s122 s123 s124 s125 s126 s127 s128 s129 s130 s131 s132 s133 s134 s135 s136 s137 s138 s139 s140 s141 s142 s143 s144 s145 s146 s147 s148 s149 s150 s151 s152 s153 s154 s155 s156 s157 s158 s159 s160 s161 s162 s163 s164 s165 s166 s167 s168 s169 s170 s171 s172 s173 s174 s175 s176 s177 s178 s179 s180 s181 s182 s183 s184 s185 s186 s187 s188 s189 s190 s191 s192 s193 s194 s195 s196 s197 s198 s199 s200 s201 s202 s203 s204 s205 s206 s207 s208 s209 s210 s211 s212 s213 s214 s215 s216 s217 s218 s219 s220 s221 s222 s223 s224 s225 s226 s227 s228 s229 s230 s231 s232 s233 s234 s235 s236 s237 s238 s239 s240 s241 s242 s243 s244 s245 s246 s247 s248 s249 s250 s251 s252 s253 s254 s255 s256 s257 s258 s259 s260 s261 s262 s263 s264 s265 s266 s267 s268 s269 s270 s271 s272 s273 s274 s275 s276 s277 s278 s279 s280 s281 s282 s283 s284 s285 s286 s287 s288 s289 s290 s291 s292 s293 s294 s295 s296 s297 s298 s299 s300 s301 : Value}
    (hQ : ∀ c t u ds w, Q (.panic c) ⟨t, ds⟩ w → Q (.panic c) ⟨u, ds⟩ w) (z5 : i < na) (z6 : j < m) (c1 : w.cell? ⟨q0, 1, none⟩ = some (.slice (some ⟨bv, ov, none⟩) na vc)) (c2 : w.cell? ⟨q0 + 1, 1, none⟩ = some (.slice (some ⟨bu, ou, none⟩) m vd)) (c3 : w.cell? ⟨bv, ov + i, none⟩ = some (.string X)) (c4 : w.cell? ⟨bu, ou + j, none⟩ = some (.string Y))
    (h : ∀ t168 t169 t170 t171 t172 t173 t174 t175 t176 t177 t178 t179 t180 t181 : Value, Q .normal ⟨#[s0, s1, s2, .pointer (some ⟨q0, 0, none⟩), .pointer (some ⟨q0 + 1, 0, none⟩), s5, s6, s7, s8, s9, s10, s11, s12, s13, s14, s15, s16, .int .i64 (i : Int), .int .i64 (j : Int), s19, s20, s21, s22, s23, s24, s25, s26, s27, s28, s29, s30, s31, s32, s33, s34, s35, s36, s37, s38, s39, s40, s41, s42, s43, s44, s45, s46, s47, s48, s49, s50, s51, s52, s53, s54, s55, s56, s57, s58, s59, s60, s61, s62, s63, s64, s65, s66, s67, s68, s69, s70, s71, s72, s73, s74, s75, s76, s77, s78, s79, s80, s81, s82, s83, s84, s85, s86, s87, s88, s89, s90, s91, s92, s93, s94, s95, s96, s97, s98, s99, s100, s101, s102, s103, s104, s105, s106, s107, s108, s109, s110, s111, s112, s113, s114, s115, s116, s117, s118, s119, s120, s121, s122, s123, s124, s125, s126, s127, s128, s129, s130, s131, s132, s133, s134, s135, s136, s137, s138, s139, s140, s141, s142, s143, s144, s145, s146, s147, s148, s149, s150, s151, s152, s153, s154, s155, s156, s157, s158, s159, s160, s161, s162, s163, s164, s165, s166, s167, t168, t169, t170, t171, t172, t173, t174, t175, t176, t177, t178, t179, t180, t181, .bool (emB X != emB Y), s183, s184, s185, s186, s187, s188, s189, s190, s191, s192, s193, s194, s195, s196, s197, s198, s199, s200, s201, s202, s203, s204, s205, s206, s207, s208, s209, s210, s211, s212, s213, s214, s215, s216, s217, s218, s219, s220, s221, s222, s223, s224, s225, s226, s227, s228, s229, s230, s231, s232, s233, s234, s235, s236, s237, s238, s239, s240, s241, s242, s243, s244, s245, s246, s247, s248, s249, s250, s251, s252, s253, s254, s255, s256, s257, s258, s259, s260, s261, s262, s263, s264, s265, s266, s267, s268, s269, s270, s271, s272, s273, s274, s275, s276, s277, s278, s279, s280, s281, s282, s283, s284, s285, s286, s287, s288, s289, s290, s291, s292, s293, s294, s295, s296, s297, s298, s299, s300, s301], []⟩ w.drew) : Code.wp Tryz.prog (rgJ 33) Q ⟨#[s0, s1, s2, .pointer (some ⟨q0, 0, none⟩), .pointer (some ⟨q0 + 1, 0, none⟩), s5, s6, s7, s8, s9, s10, s11, s12, s13, s14, s15, s16, .int .i64 (i : Int), .int .i64 (j : Int), s19, s20, s21, s22, s23, s24, s25, s26, s27, s28, s29, s30, s31, s32, s33, s34, s35, s36, s37, s38, s39, s40, s41, s42, s43, s44, s45, s46, s47, s48, s49, s50, s51, s52, s53, s54, s55, s56, s57, s58, s59, s60, s61, s62, s63, s64, s65, s66, s67, s68, s69, s70, s71, s72, s73, s74, s75, s76, s77, s78, s79, s80, s81, s82, s83, s84, s85, s86, s87, s88, s89, s90, s91, s92, s93, s94, s95, s96, s97, s98, s99, s100, s101, s102, s103, s104, s105, s106, s107, s108, s109, s110, s111, s112, s113, s114, s115, s116, s117, s118, s119, s120, s121, s122, s123, s124, s125, s126, s127, s128, s129, s130, s131, s132, s133, s134, s135, s136, s137, s138, s139, s140, s141, s142, s143, s144, s145, s146, s147, s148, s149, s150, s151, s152, s153, s154, s155, s156, s157, s158, s159, s160, s161, s162, s163, s164, s165, s166, s167, s168, s169, s170, s171, s172, s173, s174, s175, s176, s177, s178, s179, s180, s181, s182, s183, s184, s185, s186, s187, s188, s189, s190, s191, s192, s193, s194, s195, s196, s197, s198, s199, s200, s201, s202, s203, s204, s205, s206, s207, s208, s209, s210, s211, s212, s213, s214, s215, s216, s217, s218, s219, s220, s221, s222, s223, s224, s225, s226, s227, s228, s229, s230, s231, s232, s233, s234, s235, s236, s237, s238, s239, s240, s241, s242, s243, s244, s245, s246, s247, s248, s249, s250, s251, s252, s253, s254, s255, s256, s257, s258, s259, s260, s261, s262, s263, s264, s265, s266, s267, s268, s269, s270, s271, s272, s273, s274, s275, s276, s277, s278, s279, s280, s281, s282, s283, s284, s285, s286, s287, s288, s289, s290, s291, s292, s293, s294, s295, s296, s297, s298, s299, s300, s301], []⟩ w := by
  conv => arg 2; whnf
  refine wp_region_held_drew (S := fun w' => w'.cell? ⟨q0, 1, none⟩ = some (.slice (some ⟨bv, ov, none⟩) na vc) ∧ w'.cell? ⟨q0 + 1, 1, none⟩ = some (.slice (some ⟨bu, ou, none⟩) m vd) ∧ w'.cell? ⟨bv, ov + i, none⟩ = some (.string X) ∧ w'.cell? ⟨bu, ou + j, none⟩ = some (.string Y)) (by kernel_rfl) ⟨c1, c2, c3, c4⟩ (fun hS0 => ?_)
  refine tkH 0 168 (.pointer (some ⟨q0, 1, none⟩)) rfl rfl (by kernel_rfl) hQ (.inl ⟨by rfl, fun w' hSw => (by go_simp)⟩) (by assumption) ?_
  try simp only [put9, List.set]
  refine tkH 1 169 (.slice (some ⟨bv, ov, none⟩) na vc) rfl rfl (by kernel_rfl) hQ (.inl ⟨by rfl, fun w' hSw => (by obtain ⟨g0, g1, g2, g3⟩ := hSw; go_simp)⟩) (by assumption) ?_
  try simp only [put9, List.set]
  refine tkH 2 170 (.int .i64 (i : Int)) rfl rfl (by kernel_rfl) hQ (.inl ⟨by rfl, fun w' hSw => (by go_simp)⟩) (by assumption) ?_
  try simp only [put9, List.set]
  refine tkH 3 171 (.pointer (some ⟨bv, ov + i, none⟩)) rfl rfl (by kernel_rfl) hQ (.inl ⟨by rfl, fun w' hSw => (by go_simp)⟩) (by assumption) ?_
  try simp only [put9, List.set]
  refine tkH 4 172 (.pointer (some ⟨bv, ov + i, none⟩)) rfl rfl (by kernel_rfl) hQ (.inl ⟨by rfl, fun w' hSw => (by go_simp)⟩) (by assumption) ?_
  try simp only [put9, List.set]
  refine tkH 5 173 (.string X) rfl rfl (by kernel_rfl) hQ (.inl ⟨by rfl, fun w' hSw => (by obtain ⟨g0, g1, g2, g3⟩ := hSw; go_simp)⟩) (by assumption) ?_
  try simp only [put9, List.set]
  refine tkH 7 175 (.pointer (some ⟨q0 + 1, 1, none⟩)) rfl rfl (by kernel_rfl) hQ (.inl ⟨by rfl, fun w' hSw => (by go_simp)⟩) (by assumption) ?_
  try simp only [put9, List.set]
  refine tkH 8 176 (.slice (some ⟨bu, ou, none⟩) m vd) rfl rfl (by kernel_rfl) hQ (.inl ⟨by rfl, fun w' hSw => (by obtain ⟨g0, g1, g2, g3⟩ := hSw; go_simp)⟩) (by assumption) ?_
  try simp only [put9, List.set]
  refine tkH 9 177 (.int .i64 (j : Int)) rfl rfl (by kernel_rfl) hQ (.inl ⟨by rfl, fun w' hSw => (by go_simp)⟩) (by assumption) ?_
  try simp only [put9, List.set]
  refine tkH 10 178 (.pointer (some ⟨bu, ou + j, none⟩)) rfl rfl (by kernel_rfl) hQ (.inl ⟨by rfl, fun w' hSw => (by go_simp)⟩) (by assumption) ?_
  try simp only [put9, List.set]
  refine tkH 11 179 (.pointer (some ⟨bu, ou + j, none⟩)) rfl rfl (by kernel_rfl) hQ (.inl ⟨by rfl, fun w' hSw => (by go_simp)⟩) (by assumption) ?_
  try simp only [put9, List.set]
  refine tkH 12 180 (.string Y) rfl rfl (by kernel_rfl) hQ (.inl ⟨by rfl, fun w' hSw => (by obtain ⟨g0, g1, g2, g3⟩ := hSw; go_simp)⟩) (by assumption) ?_
  try simp only [put9, List.set]
  rcases em_cases X with ⟨m0, rfl⟩ | ⟨m0, m1, m2⟩
  · rw [m0] at h
    refine tkH 6 174 (.bool true) rfl rfl (by kernel_rfl) hQ (.inl ⟨by rfl, fun w' hSw => (by go_simp)⟩) (by assumption) ?_
    try simp only [put9, List.set]
    rcases em_cases Y with ⟨n0, rfl⟩ | ⟨n0, n1, n2⟩
    · rw [n0] at h
      refine tkH 13 181 (.bool true) rfl rfl (by kernel_rfl) hQ (.inl ⟨by rfl, fun w' hSw => (by go_simp)⟩) (by assumption) ?_
      try simp only [put9, List.set]
      refine tkH 14 182 (.bool false) rfl rfl (by kernel_rfl) hQ (.inl ⟨by rfl, fun w' hSw => (by go_simp)⟩) (by assumption) ?_
      try simp only [put9, List.set]
      refine wpAnyH_done (by kernel_rfl) ?_ _
      exact h _ _ _ _ _ _ _ _ _ _ _ _ _ _
    · rw [n0] at h
      refine tkH 13 181 (.bool false) rfl rfl (by kernel_rfl) hQ (.inl ⟨by rfl, fun w' hSw => (by go_simp)⟩) (by assumption) ?_
      try simp only [put9, List.set]
      refine tkH 14 182 (.bool true) rfl rfl (by kernel_rfl) hQ (.inl ⟨by rfl, fun w' hSw => (by go_simp)⟩) (by assumption) ?_
      try simp only [put9, List.set]
      refine wpAnyH_done (by kernel_rfl) ?_ _
      exact h _ _ _ _ _ _ _ _ _ _ _ _ _ _
  · rw [m0] at h
    refine tkH 6 174 (.bool false) rfl rfl (by kernel_rfl) hQ (.inl ⟨by rfl, fun w' hSw => (by go_simp)⟩) (by assumption) ?_
    try simp only [put9, List.set]
    rcases em_cases Y with ⟨n0, rfl⟩ | ⟨n0, n1, n2⟩
    · rw [n0] at h
      refine tkH 13 181 (.bool true) rfl rfl (by kernel_rfl) hQ (.inl ⟨by rfl, fun w' hSw => (by go_simp)⟩) (by assumption) ?_
      try simp only [put9, List.set]
      refine tkH 14 182 (.bool true) rfl rfl (by kernel_rfl) hQ (.inl ⟨by rfl, fun w' hSw => (by go_simp)⟩) (by assumption) ?_
      try simp only [put9, List.set]
      refine wpAnyH_done (by kernel_rfl) ?_ _
      exact h _ _ _ _ _ _ _ _ _ _ _ _ _ _
    · rw [n0] at h
      refine tkH 13 181 (.bool false) rfl rfl (by kernel_rfl) hQ (.inl ⟨by rfl, fun w' hSw => (by go_simp)⟩) (by assumption) ?_
      try simp only [put9, List.set]
      refine tkH 14 182 (.bool false) rfl rfl (by kernel_rfl) hQ (.inl ⟨by rfl, fun w' hSw => (by go_simp)⟩) (by assumption) ?_
      try simp only [put9, List.set]
      refine wpAnyH_done (by kernel_rfl) ?_ _
      exact h _ _ _ _ _ _ _ _ _ _ _ _ _ _
set_option maxHeartbeats 8000000 in
theorem r35 {Q : Exit → Act → World → Prop} {w : World} {q1 p g bu ou i j na m cc vd : Nat} {X Y : ByteArray} {bb : Bool} {s0 s1 s2 s3 s5 s6 s7 s8 s9 s10 s11 s12 s13 s14 s16 s19 s20 s21 s22 s23 s24 s25 s26 s27 s28 s29 s30 s31 s32 s33 s34 s35 s36 s37 s38 s39 s40 s41 s42 s43 s44 s45 s46 s47 s48 s49 s50 s51 s52 s53 s54 s55 s56 s57 s58 s59 s60 s61 s62 s63 s64 s65 s66 s67 s68 s69 s70 s71 s72 s73 s74 s75 s76 s77 s78 s79 s80 s81 s82 s83 s84 s85 s86 s87 s88 s89 s90 s91 s92 s93 s94 s95 s96 s97 s98 s99 s100 s101 s102 s103 s104 s105 s106 s107 s108 s109 s110 s111 s112 s113 s114 s115 s116 s117 s118 s119 s120 s121 s122 s123 s124 s125 s126 s127 s128 s129 s130 s131 s132 s133 s134 s135 s136 s137 s138 s139 s140 s141 s142 s143 s144 s145 s146 s147 s148 s149 s150 s151 s152 s153 s154 s155 s156 s157 s158 s159 s160 s161 s162 s163 s164 s165 s166 s167 s168 s169 s170 s171 s172 s173 s174 s175 s176 s177 s178 s179 s180 s181 s182 s183 s184 s185 s186 s187 s188 s189 s190 s191 s192 s193 s194 s195 s196 s197 s198 s199 s200 s201 s202 s203 s204 s205 s206 s207 s208 s209 s210 s211 s212 s213 s214 s215 s216 s217 s218 s219 s220 s221 s222 s223 s224 s225 s226 s227 s228 s229 s230 s231 s232 s233 s234 s235 s236 s237 s238 s239 s240 s241 s242 s243 s244 s245 s246 s247 s248 s249 s250 s251 s252 s253 s254 s255 s256 s257 s258 s259 s260 s261 s262 s263 s264 s265 s266 s267 s268 s269 s270 s271 s272 s273 s274 s275 s276 s277 s278 s279 s280 s281 s282 s283 s284 s285 s286 s287 s288 s289 s290 s291 s292 s293 s294 s295 s296 s297 s298 s299 s300 s301 : Value}
    (hQ : ∀ c t u ds w, Q (.panic c) ⟨t, ds⟩ w → Q (.panic c) ⟨u, ds⟩ w) (z5 : i < na) (z6 : j < m) (c1 : w.cell? ⟨q1, 1, none⟩ = some (.slice (some ⟨bu, ou, none⟩) m vd)) (c2 : w.cell? ⟨bu, ou + j, none⟩ = some (.string Y)) (c3 : w.cell? ⟨p, 1, none⟩ = some (.slice (some ⟨g, 0, none⟩) na cc)) (c4 : w.cell? ⟨g, i, none⟩ = some (.string X))
    (HC : Hid (∀ w, Calls Tryz.prog 47 #[.string Y, .string X] w fun e w' => ∃ z : Int, e = .returned (.int .i64 z) ∧ decide (z < 0) = bb ∧ Below w.heap.size w w'))
    (h : ∀ (w' : World) (t184 t185 t186 t187 t188 t189 t190 t191 t192 t193 t194 t195 t196 : Value), Below w.heap.size w w' → Q .normal ⟨#[s0, s1, s2, s3, .pointer (some ⟨q1, 0, none⟩), s5, s6, s7, s8, s9, s10, s11, s12, s13, s14, .pointer (some ⟨p, 0, none⟩), s16, .int .i64 (i : Int), .int .i64 (j : Int), s19, s20, s21, s22, s23, s24, s25, s26, s27, s28, s29, s30, s31, s32, s33, s34, s35, s36, s37, s38, s39, s40, s41, s42, s43, s44, s45, s46, s47, s48, s49, s50, s51, s52, s53, s54, s55, s56, s57, s58, s59, s60, s61, s62, s63, s64, s65, s66, s67, s68, s69, s70, s71, s72, s73, s74, s75, s76, s77, s78, s79, s80, s81, s82, s83, s84, s85, s86, s87, s88, s89, s90, s91, s92, s93, s94, s95, s96, s97, s98, s99, s100, s101, s102, s103, s104, s105, s106, s107, s108, s109, s110, s111, s112, s113, s114, s115, s116, s117, s118, s119, s120, s121, s122, s123, s124, s125, s126, s127, s128, s129, s130, s131, s132, s133, s134, s135, s136, s137, s138, s139, s140, s141, s142, s143, s144, s145, s146, s147, s148, s149, s150, s151, s152, s153, s154, s155, s156, s157, s158, s159, s160, s161, s162, s163, s164, s165, s166, s167, s168, s169, s170, s171, s172, s173, s174, s175, s176, s177, s178, s179, s180, s181, s182, s183, t184, t185, t186, t187, t188, t189, t190, t191, t192, t193, t194, t195, t196, .bool bb, s198, s199, s200, s201, s202, s203, s204, s205, s206, s207, s208, s209, s210, s211, s212, s213, s214, s215, s216, s217, s218, s219, s220, s221, s222, s223, s224, s225, s226, s227, s228, s229, s230, s231, s232, s233, s234, s235, s236, s237, s238, s239, s240, s241, s242, s243, s244, s245, s246, s247, s248, s249, s250, s251, s252, s253, s254, s255, s256, s257, s258, s259, s260, s261, s262, s263, s264, s265, s266, s267, s268, s269, s270, s271, s272, s273, s274, s275, s276, s277, s278, s279, s280, s281, s282, s283, s284, s285, s286, s287, s288, s289, s290, s291, s292, s293, s294, s295, s296, s297, s298, s299, s300, s301], []⟩ w') : Code.wp Tryz.prog (rgJ 35) Q ⟨#[s0, s1, s2, s3, .pointer (some ⟨q1, 0, none⟩), s5, s6, s7, s8, s9, s10, s11, s12, s13, s14, .pointer (some ⟨p, 0, none⟩), s16, .int .i64 (i : Int), .int .i64 (j : Int), s19, s20, s21, s22, s23, s24, s25, s26, s27, s28, s29, s30, s31, s32, s33, s34, s35, s36, s37, s38, s39, s40, s41, s42, s43, s44, s45, s46, s47, s48, s49, s50, s51, s52, s53, s54, s55, s56, s57, s58, s59, s60, s61, s62, s63, s64, s65, s66, s67, s68, s69, s70, s71, s72, s73, s74, s75, s76, s77, s78, s79, s80, s81, s82, s83, s84, s85, s86, s87, s88, s89, s90, s91, s92, s93, s94, s95, s96, s97, s98, s99, s100, s101, s102, s103, s104, s105, s106, s107, s108, s109, s110, s111, s112, s113, s114, s115, s116, s117, s118, s119, s120, s121, s122, s123, s124, s125, s126, s127, s128, s129, s130, s131, s132, s133, s134, s135, s136, s137, s138, s139, s140, s141, s142, s143, s144, s145, s146, s147, s148, s149, s150, s151, s152, s153, s154, s155, s156, s157, s158, s159, s160, s161, s162, s163, s164, s165, s166, s167, s168, s169, s170, s171, s172, s173, s174, s175, s176, s177, s178, s179, s180, s181, s182, s183, s184, s185, s186, s187, s188, s189, s190, s191, s192, s193, s194, s195, s196, s197, s198, s199, s200, s201, s202, s203, s204, s205, s206, s207, s208, s209, s210, s211, s212, s213, s214, s215, s216, s217, s218, s219, s220, s221, s222, s223, s224, s225, s226, s227, s228, s229, s230, s231, s232, s233, s234, s235, s236, s237, s238, s239, s240, s241, s242, s243, s244, s245, s246, s247, s248, s249, s250, s251, s252, s253, s254, s255, s256, s257, s258, s259, s260, s261, s262, s263, s264, s265, s266, s267, s268, s269, s270, s271, s272, s273, s274, s275, s276, s277, s278, s279, s280, s281, s282, s283, s284, s285, s286, s287, s288, s289, s290, s291, s292, s293, s294, s295, s296, s297, s298, s299, s300, s301], []⟩ w := by
  conv => arg 2; whnf
  refine wp_region_held_drew (S := fun w' => (w'.cell? ⟨q1, 1, none⟩ = some (.slice (some ⟨bu, ou, none⟩) m vd) ∧ w'.cell? ⟨bu, ou + j, none⟩ = some (.string Y) ∧ w'.cell? ⟨p, 1, none⟩ = some (.slice (some ⟨g, 0, none⟩) na cc) ∧ w'.cell? ⟨g, i, none⟩ = some (.string X)) ∧ Below w.heap.size w w') (by kernel_rfl) ⟨⟨c1, c2, c3, c4⟩, (Below.refl _ w).drew⟩ (fun hS0 => ?_)
  refine tkH 0 184 (.pointer (some ⟨q1, 1, none⟩)) rfl rfl (by kernel_rfl) hQ (.inl ⟨by rfl, fun w' hSw => (by go_simp)⟩) (by assumption) ?_
  try simp only [put9, List.set]
  refine tkH 1 185 (.slice (some ⟨bu, ou, none⟩) m vd) rfl rfl (by kernel_rfl) hQ (.inl ⟨by rfl, fun w' hSw => (by obtain ⟨⟨g0, g1, g2, g3⟩, g4⟩ := hSw; go_simp)⟩) (by assumption) ?_
  try simp only [put9, List.set]
  refine tkH 2 186 (.int .i64 (j : Int)) rfl rfl (by kernel_rfl) hQ (.inl ⟨by rfl, fun w' hSw => (by go_simp)⟩) (by assumption) ?_
  try simp only [put9, List.set]
  refine tkH 3 187 (.pointer (some ⟨bu, ou + j, none⟩)) rfl rfl (by kernel_rfl) hQ (.inl ⟨by rfl, fun w' hSw => (by go_simp)⟩) (by assumption) ?_
  try simp only [put9, List.set]
  refine tkH 4 188 (.pointer (some ⟨bu, ou + j, none⟩)) rfl rfl (by kernel_rfl) hQ (.inl ⟨by rfl, fun w' hSw => (by go_simp)⟩) (by assumption) ?_
  try simp only [put9, List.set]
  refine tkH 5 189 (.string Y) rfl rfl (by kernel_rfl) hQ (.inl ⟨by rfl, fun w' hSw => (by obtain ⟨⟨g0, g1, g2, g3⟩, g4⟩ := hSw; go_simp)⟩) (by assumption) ?_
  try simp only [put9, List.set]
  refine tkH 6 190 (.pointer (some ⟨p, 1, none⟩)) rfl rfl (by kernel_rfl) hQ (.inl ⟨by rfl, fun w' hSw => (by go_simp)⟩) (by assumption) ?_
  try simp only [put9, List.set]
  refine tkH 7 191 (.slice (some ⟨g, 0, none⟩) na cc) rfl rfl (by kernel_rfl) hQ (.inl ⟨by rfl, fun w' hSw => (by obtain ⟨⟨g0, g1, g2, g3⟩, g4⟩ := hSw; go_simp)⟩) (by assumption) ?_
  try simp only [put9, List.set]
  refine tkH 8 192 (.int .i64 (i : Int)) rfl rfl (by kernel_rfl) hQ (.inl ⟨by rfl, fun w' hSw => (by go_simp)⟩) (by assumption) ?_
  try simp only [put9, List.set]
  refine tkH 9 193 (.pointer (some ⟨g, i, none⟩)) rfl rfl (by kernel_rfl) hQ (.inl ⟨by rfl, fun w' hSw => (by go_simp)⟩) (by assumption) ?_
  try simp only [put9, List.set]
  refine tkH 10 194 (.pointer (some ⟨g, i, none⟩)) rfl rfl (by kernel_rfl) hQ (.inl ⟨by rfl, fun w' hSw => (by go_simp)⟩) (by assumption) ?_
  try simp only [put9, List.set]
  refine tkH 11 195 (.string X) rfl rfl (by kernel_rfl) hQ (.inl ⟨by rfl, fun w' hSw => (by obtain ⟨⟨g0, g1, g2, g3⟩, g4⟩ := hSw; go_simp)⟩) (by assumption) ?_
  try simp only [put9, List.set]
  refine wpAnyH_ready (rs := [12]) (by kernel_rfl) (by simp) ?_
  refine AllReadyH.cons rfl (fun K hK => ?_) AllReadyH.nil
  rw [if_pos (by rfl)]
  go_simp
  go_at_call 47
  refine (HC.out _).mono ?_; rintro e w1 ⟨z, rfl, hz, bn⟩
  try go_simp
  have hT1 := (⟨⟨cells_keepL bn (Nat.le_refl _) _ _ hS0.1.1, cells_keepL bn (Nat.le_refl _) _ _ hS0.1.2.1, cells_keepL bn (Nat.le_refl _) _ _ hS0.1.2.2.1, cells_keepL bn (Nat.le_refl _) _ _ hS0.1.2.2.2⟩, hS0.2.trans (bn.mono hS0.2.size)⟩ : (w1.cell? ⟨q1, 1, none⟩ = some (.slice (some ⟨bu, ou, none⟩) m vd) ∧ w1.cell? ⟨bu, ou + j, none⟩ = some (.string Y) ∧ w1.cell? ⟨p, 1, none⟩ = some (.slice (some ⟨g, 0, none⟩) na cc) ∧ w1.cell? ⟨g, i, none⟩ = some (.string X)) ∧ Below w.heap.size w w1)
  refine hK.out _ _ hT1 (fun hT => ?_)
  clear hK hS0
  try simp only [put9, List.set]
  refine tkH 13 197 (.bool bb) rfl rfl (by kernel_rfl) hQ (.inl ⟨by rfl, fun w' hSw => (by go_simp)⟩) (by assumption) ?_
  try simp only [put9, List.set]
  refine wpAnyH_done (by kernel_rfl) ?_ _
  exact h _ _ _ _ _ _ _ _ _ _ _ _ _ _ hT1.2
set_option maxHeartbeats 8000000 in
theorem r36 {Q : Exit → Act → World → Prop} {w : World} {q1 p g bu ou i j na m cc vd : Nat} {X Y : ByteArray} {s0 s1 s2 s3 s5 s6 s7 s8 s9 s10 s11 s12 s13 s14 s16 s19 s20 s21 s22 s23 s24 s25 s26 s27 s28 s29 s30 s31 s32 s33 s34 s35 s36 s37 s38 s39 s40 s41 s42 s43 s44 s45 s46 s47 s48 s49 s50 s51 s52 s53 s54 s55 s56 s57 s58 s59 s60 s61 s62 s63 s64 s65 s66 s67 s68 s69 s70 s71 s72 s73 s74 s75 s76 s77 s78 s79 s80 s81 s82 s83 s84 s85 s86 s87 s88 s89 s90 s91 s92 s93 s94 s95 s96 s97 s98 s99 s100 s101 s102 s103 s104 s105 s106 s107 s108 s109 s110 s111 s112 s113 s114 s115 s116 s117 s118 s119 s120 s121 s122 s123 s124 s125 s126 s127 s128 s129 s130 s131 s132 s133 s134 s135 s136 s137 s138 s139 s140 s141 s142 s143 s144 s145 s146 s147 s148 s149 s150 s151 s152 s153 s154 s155 s156 s157 s158 s159 s160 s161 s162 s163 s164 s165 s166 s167 s168 s169 s170 s171 s172 s173 s174 s175 s176 s177 s178 s179 s180 s181 s182 s183 s184 s185 s186 s187 s188 s189 s190 s191 s192 s193 s194 s195 s196 s197 s198 s199 s200 s201 s202 s203 s204 s205 s206 s207 s208 s209 s210 s211 s212 s213 s214 s215 s216 s217 s218 s219 s220 s221 s222 s223 s224 s225 s226 s227 s228 s229 s230 s231 s232 s233 s234 s235 s236 s237 s238 s239 s240 s241 s242 s243 s244 s245 s246 s247 s248 s249 s250 s251 s252 s253 s254 s255 s256 s257 s258 s259 s260 s261 s262 s263 s264 s265 s266 s267 s268 s269 s270 s271 s272 s273 s274 s275 s276 s277 s278 s279 s280 s281 s282 s283 s284 s285 s286 s287 s288 s289 s290 s291 s292 s293 s294 s295 s296 s297 s298 s299 s300 s301 : Value}
    (hQ : ∀ c t u ds w, Q (.panic c) ⟨t, ds⟩ w → Q (.panic c) ⟨u, ds⟩ w) (z5 : i < na) (z6 : j < m) (c1 : w.cell? ⟨q1, 1, none⟩ = some (.slice (some ⟨bu, ou, none⟩) m vd)) (c2 : w.cell? ⟨bu, ou + j, none⟩ = some (.string Y)) (c3 : w.cell? ⟨p, 1, none⟩ = some (.slice (some ⟨g, 0, none⟩) na cc)) (c4 : w.cell? ⟨g, i, none⟩ = some (.string X)) (cf : w.frozen? ⟨g, i, none⟩ = false) (n1 : q1 ≠ g) (n2 : bu ≠ g) (n3 : p ≠ g)
    (h : ∀ (t198 t199 t200 t201 t202 t203 t204 t205 t206 t207 t208 : Value), Q .normal ⟨#[s0, s1, s2, s3, .pointer (some ⟨q1, 0, none⟩), s5, s6, s7, s8, s9, s10, s11, s12, s13, s14, .pointer (some ⟨p, 0, none⟩), s16, .int .i64 (i : Int), .int .i64 (j : Int), s19, s20, s21, s22, s23, s24, s25, s26, s27, s28, s29, s30, s31, s32, s33, s34, s35, s36, s37, s38, s39, s40, s41, s42, s43, s44, s45, s46, s47, s48, s49, s50, s51, s52, s53, s54, s55, s56, s57, s58, s59, s60, s61, s62, s63, s64, s65, s66, s67, s68, s69, s70, s71, s72, s73, s74, s75, s76, s77, s78, s79, s80, s81, s82, s83, s84, s85, s86, s87, s88, s89, s90, s91, s92, s93, s94, s95, s96, s97, s98, s99, s100, s101, s102, s103, s104, s105, s106, s107, s108, s109, s110, s111, s112, s113, s114, s115, s116, s117, s118, s119, s120, s121, s122, s123, s124, s125, s126, s127, s128, s129, s130, s131, s132, s133, s134, s135, s136, s137, s138, s139, s140, s141, s142, s143, s144, s145, s146, s147, s148, s149, s150, s151, s152, s153, s154, s155, s156, s157, s158, s159, s160, s161, s162, s163, s164, s165, s166, s167, s168, s169, s170, s171, s172, s173, s174, s175, s176, s177, s178, s179, s180, s181, s182, s183, s184, s185, s186, s187, s188, s189, s190, s191, s192, s193, s194, s195, s196, s197, t198, t199, t200, t201, t202, t203, t204, t205, t206, t207, t208, s209, s210, s211, s212, s213, s214, s215, s216, s217, s218, s219, s220, s221, s222, s223, s224, s225, s226, s227, s228, s229, s230, s231, s232, s233, s234, s235, s236, s237, s238, s239, s240, s241, s242, s243, s244, s245, s246, s247, s248, s249, s250, s251, s252, s253, s254, s255, s256, s257, s258, s259, s260, s261, s262, s263, s264, s265, s266, s267, s268, s269, s270, s271, s272, s273, s274, s275, s276, s277, s278, s279, s280, s281, s282, s283, s284, s285, s286, s287, s288, s289, s290, s291, s292, s293, s294, s295, s296, s297, s298, s299, s300, s301], []⟩ (w.drew.setCell ⟨g, i, none⟩ (.string Y))) : Code.wp Tryz.prog (rgJ 36) Q ⟨#[s0, s1, s2, s3, .pointer (some ⟨q1, 0, none⟩), s5, s6, s7, s8, s9, s10, s11, s12, s13, s14, .pointer (some ⟨p, 0, none⟩), s16, .int .i64 (i : Int), .int .i64 (j : Int), s19, s20, s21, s22, s23, s24, s25, s26, s27, s28, s29, s30, s31, s32, s33, s34, s35, s36, s37, s38, s39, s40, s41, s42, s43, s44, s45, s46, s47, s48, s49, s50, s51, s52, s53, s54, s55, s56, s57, s58, s59, s60, s61, s62, s63, s64, s65, s66, s67, s68, s69, s70, s71, s72, s73, s74, s75, s76, s77, s78, s79, s80, s81, s82, s83, s84, s85, s86, s87, s88, s89, s90, s91, s92, s93, s94, s95, s96, s97, s98, s99, s100, s101, s102, s103, s104, s105, s106, s107, s108, s109, s110, s111, s112, s113, s114, s115, s116, s117, s118, s119, s120, s121, s122, s123, s124, s125, s126, s127, s128, s129, s130, s131, s132, s133, s134, s135, s136, s137, s138, s139, s140, s141, s142, s143, s144, s145, s146, s147, s148, s149, s150, s151, s152, s153, s154, s155, s156, s157, s158, s159, s160, s161, s162, s163, s164, s165, s166, s167, s168, s169, s170, s171, s172, s173, s174, s175, s176, s177, s178, s179, s180, s181, s182, s183, s184, s185, s186, s187, s188, s189, s190, s191, s192, s193, s194, s195, s196, s197, s198, s199, s200, s201, s202, s203, s204, s205, s206, s207, s208, s209, s210, s211, s212, s213, s214, s215, s216, s217, s218, s219, s220, s221, s222, s223, s224, s225, s226, s227, s228, s229, s230, s231, s232, s233, s234, s235, s236, s237, s238, s239, s240, s241, s242, s243, s244, s245, s246, s247, s248, s249, s250, s251, s252, s253, s254, s255, s256, s257, s258, s259, s260, s261, s262, s263, s264, s265, s266, s267, s268, s269, s270, s271, s272, s273, s274, s275, s276, s277, s278, s279, s280, s281, s282, s283, s284, s285, s286, s287, s288, s289, s290, s291, s292, s293, s294, s295, s296, s297, s298, s299, s300, s301], []⟩ w := by
  conv => arg 2; whnf
  refine wp_region_held_drew (S := fun w' => w'.cell? ⟨q1, 1, none⟩ = some (.slice (some ⟨bu, ou, none⟩) m vd) ∧ w'.cell? ⟨bu, ou + j, none⟩ = some (.string Y) ∧ w'.cell? ⟨p, 1, none⟩ = some (.slice (some ⟨g, 0, none⟩) na cc)) (by kernel_rfl) ⟨c1, c2, c3⟩ (fun hS0 => ?_)
  refine tkH 0 198 (.pointer (some ⟨p, 1, none⟩)) rfl rfl (by kernel_rfl) hQ (.inl ⟨by rfl, fun w' hSw => (by go_simp)⟩) (by assumption) ?_
  try simp only [put9, List.set]
  refine tkH 1 199 (.slice (some ⟨g, 0, none⟩) na cc) rfl rfl (by kernel_rfl) hQ (.inl ⟨by rfl, fun w' hSw => (by obtain ⟨g0, g1, g2⟩ := hSw; go_simp)⟩) (by assumption) ?_
  try simp only [put9, List.set]
  refine tkH 2 200 (.int .i64 (i : Int)) rfl rfl (by kernel_rfl) hQ (.inl ⟨by rfl, fun w' hSw => (by go_simp)⟩) (by assumption) ?_
  try simp only [put9, List.set]
  refine tkH 3 201 (.pointer (some ⟨q1, 1, none⟩)) rfl rfl (by kernel_rfl) hQ (.inl ⟨by rfl, fun w' hSw => (by go_simp)⟩) (by assumption) ?_
  try simp only [put9, List.set]
  refine tkH 4 202 (.slice (some ⟨bu, ou, none⟩) m vd) rfl rfl (by kernel_rfl) hQ (.inl ⟨by rfl, fun w' hSw => (by obtain ⟨g0, g1, g2⟩ := hSw; go_simp)⟩) (by assumption) ?_
  try simp only [put9, List.set]
  refine tkH 5 203 (.int .i64 (j : Int)) rfl rfl (by kernel_rfl) hQ (.inl ⟨by rfl, fun w' hSw => (by go_simp)⟩) (by assumption) ?_
  try simp only [put9, List.set]
  refine tkH 6 204 (.pointer (some ⟨bu, ou + j, none⟩)) rfl rfl (by kernel_rfl) hQ (.inl ⟨by rfl, fun w' hSw => (by go_simp)⟩) (by assumption) ?_
  try simp only [put9, List.set]
  refine tkH 7 205 (.pointer (some ⟨bu, ou + j, none⟩)) rfl rfl (by kernel_rfl) hQ (.inl ⟨by rfl, fun w' hSw => (by go_simp)⟩) (by assumption) ?_
  try simp only [put9, List.set]
  refine tkH 8 206 (.string Y) rfl rfl (by kernel_rfl) hQ (.inl ⟨by rfl, fun w' hSw => (by obtain ⟨g0, g1, g2⟩ := hSw; go_simp)⟩) (by assumption) ?_
  try simp only [put9, List.set]
  refine tkH 9 207 (.pointer (some ⟨g, i, none⟩)) rfl rfl (by kernel_rfl) hQ (.inl ⟨by rfl, fun w' hSw => (by go_simp)⟩) (by assumption) ?_
  try simp only [put9, List.set]
  refine tkH 10 208 (.pointer (some ⟨g, i, none⟩)) rfl rfl (by kernel_rfl) hQ (.inl ⟨by rfl, fun w' hSw => (by go_simp)⟩) (by assumption) ?_
  try simp only [put9, List.set]
  have kx : w.drew.cell? ⟨g, i, none⟩ = some (.string X) := c4
  have kf : w.drew.frozen? ⟨g, i, none⟩ = false := cf
  have e : ∀ (b o : Nat) (x : Value), b ≠ g → (w.drew.setCell ⟨g, i, none⟩ x).cell? ⟨b, o, none⟩ = w.drew.cell? ⟨b, o, none⟩ := fun b o x hb => World.cell?_of_block (w := w.drew) (Below.heap_setCell w.drew ⟨g, i, none⟩ x b hb)
  have hT9 := (⟨(e _ _ (.string Y) n1).trans hS0.1, (e _ _ (.string Y) n2).trans hS0.2.1, (e _ _ (.string Y) n3).trans hS0.2.2⟩ : (w.drew.setCell ⟨g, i, none⟩ (.string Y)).cell? ⟨q1, 1, none⟩ = some (.slice (some ⟨bu, ou, none⟩) m vd) ∧ (w.drew.setCell ⟨g, i, none⟩ (.string Y)).cell? ⟨bu, ou + j, none⟩ = some (.string Y) ∧ (w.drew.setCell ⟨g, i, none⟩ (.string Y)).cell? ⟨p, 1, none⟩ = some (.slice (some ⟨g, 0, none⟩) na cc))
  clear e
  generalize hW : w.drew = W at kx kf hT9 h hS0 ⊢
  refine wpAnyH_ready (rs := [11]) (by kernel_rfl) (by simp) ?_
  refine AllReadyH.cons rfl (fun K hK => ?_) AllReadyH.nil
  rw [if_pos (by rfl)]
  go_simp
  refine hK.out _ _ hT9 (fun hT => ?_)
  clear hK hT hS0
  try simp only [put9, List.set]
  refine wpAnyH_done (by kernel_rfl) ?_ _
  exact h _ _ _ _ _ _ _ _ _ _ _
end Go.Proofs.YtdhhbjmkdmbffaaGreatDoor

/- Join of the reference. -/
namespace Go.Proofs.YtdhhbjmkdmbffaaGreatDoor
open Go.RowKit Num
set_option maxRecDepth 20000
set_option linter.unusedVariables false
theorem TmAt.of {w w' : World} {ao : Option Addr} {L : List TmR} (h : TSl w ao L) (hb : Below w.heap.size w w') : TmAt w' w.heap.size ao L :=
 ⟨h.keep (cells_keepL hb (Nat.le_refl _)), fun b off h0 he => .inl (by
  obtain ⟨b', off', he', c0, _⟩ := h 0 h0
  rw [he] at he'
  injection he' with he'
  injection he' with he' _ _
  subst he'
  exact World.block_lt_of_cell? w _ c0)⟩
theorem TmAt.all {w w' : World} {ao : Option Addr} {Q : List EqR} (h : QSl w ao Q) (hb : Below w.heap.size w w') : ∀ x ∈ Q, TmAt w' w.heap.size x.2.2.1 x.2.2.2.2 := fun x hx => by
 obtain ⟨i, hi, rfl⟩ := List.mem_iff_getElem.1 hx
 obtain ⟨_, _, _, _, _, _, h7⟩ := h i hi
 exact TmAt.of h7 hb
theorem tclApp : ∀ A B : List TmR, tcl (A ++ B) = tcl A ++ tcl B
 | [], B => rfl
 | t :: A, B => by simp only [List.cons_append, tcl, tclApp A B]
theorem fourL {W : World} {g : Nat} {v u t s : Value} (h : W.cell? ⟨g, 0, none⟩ = some v) (h1 : W.cell? ⟨g, 1, none⟩ = some u) (h2 : W.cell? ⟨g, 2, none⟩ = some t) (h3 : W.cell? ⟨g, 3, none⟩ = some s) : ∀ j x, [v, u, t, s][j]? = some x → W.cell? ((⟨g, 0, none⟩ : Addr).add j) = some x := by
 intro j x hx
 rw [addr_addT, Nat.zero_add]
 match j, hx with
 | 0, hx => injection hx with hx; rw [← hx]; exact h
 | 1, hx => injection hx with hx; rw [← hx]; exact h1
 | 2, hx => injection hx with hx; rw [← hx]; exact h2
 | 3, hx => injection hx with hx; rw [← hx]; exact h3
set_option maxHeartbeats 32000000 in
theorem rjoin_any (a b : StA) (A B : StM) (po : Option Addr) (np pc : Nat) (P : List PRt) (w : World) (hA : SS w a A) (hB : SS w b B) (okA : A.ok) (okB : B.ok) (hP : PSl w po P) (hn : P.length = np) (hn1 : np ≤ 1000) (h64A : ∀ g ∈ A.G, g.1.size ≤ 64) (h64B : ∀ g ∈ B.G, g.1.size ≤ 64) :
  Calls Tryz.prog 18 #[.agg #[.slice a.ga A.G.length a.gc, .slice a.va A.V.length a.vc, .slice a.qa A.Q.length a.qc], .agg #[.slice b.ga B.G.length b.gc, .slice b.va B.V.length b.vc, .slice b.qa B.Q.length b.qc], .slice po np pc] w (JoP (joinR A.pl B.pl P) w) := by
 have hb1 := (Below.refl _ w).alloc (Nat.le_refl _) (.cells #[.slice a.ga A.G.length a.gc, .slice a.va A.V.length a.vc, .slice a.qa A.Q.length a.qc] 49)
 have hb2 := hb1.alloc hb1.size (.cells #[.slice b.ga B.G.length b.gc, .slice b.va B.V.length b.vc, .slice b.qa B.Q.length b.qc] 49)
 have hb := hb2.alloc hb2.size (.cells #[.slice none 0 0, .slice none 0 0, .slice none 0 0] 49)
 have hX := SXB.new w a A
 have hY := SXB.new (w.alloc (.cells #[.slice a.ga A.G.length a.gc, .slice a.va A.V.length a.vc, .slice a.qa A.Q.length a.qc] 49)) b B
 have hZ := OB.new ((w.alloc (.cells #[.slice a.ga A.G.length a.gc, .slice a.va A.V.length a.vc, .slice a.qa A.Q.length a.qc] 49)).alloc (.cells #[.slice b.ga B.G.length b.gc, .slice b.va B.V.length b.vc, .slice b.qa B.Q.length b.qc] 49)) (.slice none 0 0) (.slice none 0 0) (.slice none 0 0)
 have hbY := (Below.refl _ ((w.alloc (.cells #[.slice a.ga A.G.length a.gc, .slice a.va A.V.length a.vc, .slice a.qa A.Q.length a.qc] 49)).alloc (.cells #[.slice b.ga B.G.length b.gc, .slice b.va B.V.length b.vc, .slice b.qa B.Q.length b.qc] 49))).alloc (Nat.le_refl _) (.cells #[.slice none 0 0, .slice none 0 0, .slice none 0 0] 49)
 have hY1 := hY.below hbY hY.lt
 have hX1 := (hX.below ((Below.refl _ (w.alloc (.cells #[.slice a.ga A.G.length a.gc, .slice a.va A.V.length a.vc, .slice a.qa A.Q.length a.qc] 49))).alloc (Nat.le_refl _) (.cells #[.slice b.ga B.G.length b.gc, .slice b.va B.V.length b.vc, .slice b.qa B.Q.length b.qc] 49)) hX.lt).below hbY (Nat.lt_of_lt_of_le hX.lt (by simp))
 rw [World.size_alloc] at hY1
 rw [World.size_alloc, World.size_alloc] at hZ
 have hA0 := hA.below hb (Nat.le_refl _)
 have hB0 := hB.below hb (Nat.le_refl _)
 have hP0 := hP.keep (cells_keepL hb (Nat.le_refl _))
 have HR3 : Hid (¬ (formB A.pl = true ∧ formB B.pl = true) → joinR A.pl B.pl P = noJ 3) := joinR_form
 have HRA : Hid ((formB A.pl = true ∧ formB B.pl = true) → rstE A.pl ≠ 0 → joinR A.pl B.pl P = noJ (rstE A.pl)) := fun h h1 => joinR_a h h1
 have HRB : Hid ((formB A.pl = true ∧ formB B.pl = true) → rstE A.pl = 0 → rstE B.pl ≠ 0 → joinR A.pl B.pl P = noJ (rstE B.pl)) := fun h h1 h2 => joinR_b h h1 h2
 have HR2 : Hid ((formB A.pl = true ∧ formB B.pl = true) → rstE A.pl = 0 → rstE B.pl = 0 → P.all (prOk A.V.length B.V.length) = false → joinR A.pl B.pl P = noJ 2) := fun h h1 h2 h3 => joinR_rng h h1 h2 h3
 have HRP : Hid ((formB A.pl = true ∧ formB B.pl = true) → rstE A.pl = 0 → rstE B.pl = 0 → P.all (prOk A.V.length B.V.length) = true → joinR A.pl B.pl P = plJ A.pl B.pl P) := fun h h1 h2 h3 => joinR_pl h h1 h2 h3
 have HFW : Hid ((formB A.pl = true ∧ formB B.pl = true) → rstE A.pl = 0 → rstE B.pl = 0 → FewS A.pl ∧ FewS B.pl ∧ StPok A.pl ∧ StPok B.pl ∧ FormT A.pl ∧ FormT B.pl) := fun h h1 h2 => ⟨fewS_of h1, fewS_of h2, StM.ok_pl okA, StM.ok_pl okB, h.1, h.2⟩
 have HFA := Lib.hid (fun w' (hb' : Below _ _ w') => rformed_any a A w' (hA0.below hb' (Nat.le_refl _)) okA)
 have HFB := Lib.hid (fun w' (hb' : Below _ _ w') => rformed_any b B w' (hB0.below hb' (Nat.le_refl _)) okB)
 have HCA := Lib.hid (fun (hf : formB A.pl = true) w' (hb' : Below _ _ w') => rrest_any a A w' (hA0.below hb' (Nat.le_refl _)) okA hf h64A)
 have HCB := Lib.hid (fun (hf : formB B.pl = true) w' (hb' : Below _ _ w') => rrest_any b B w' (hB0.below hb' (Nat.le_refl _)) okB hf h64B)
 obtain ⟨R, hR⟩ : ∃ R, joinR A.pl B.pl P = R := ⟨_, rfl⟩
 rw [hR] at HR3 HRA HRB HR2 HRP ⊢
 obtain ⟨FA, hFA⟩ : ∃ F, formB A.pl = F := ⟨_, rfl⟩
 obtain ⟨FB, hFB⟩ : ∃ F, formB B.pl = F := ⟨_, rfl⟩
 obtain ⟨CA, hCA⟩ : ∃ F, rstE A.pl = F := ⟨_, rfl⟩
 obtain ⟨CB, hCB⟩ : ∃ F, rstE B.pl = F := ⟨_, rfl⟩
 rw [hFA, hFB] at HR3
 rw [hFA, hFB, hCA] at HRA
 rw [hFA, hFB, hCA, hCB] at HRB HR2 HRP HFW
 rw [hFA] at HFA
 rw [hFB] at HFB
 rw [hCA, hFA] at HCA
 rw [hCB, hFB] at HCB
 have H64 : Hid (∀ g ∈ A.G ++ B.G, g.1.size ≤ 64) := fun g hg => by
  rcases List.mem_append.1 hg with h | h
  ·
   exact h64A g h
  ·
   exact h64B g h
 have HTA := Lib.hid (fun w' (hb' : Below w.heap.size w w') => TmAt.all hA.q hb')
 have HAA := Lib.hid hA0
 have HBB := Lib.hid hB0
 have HPP := Lib.hid hP0
 have HNP := Lib.hid hn
 clear hR hFA hFB hCA hCB hA hB hA0 hB0 okA okB hP hP0 hn hX hY hbY hb1 hb2 h64A h64B
 go_enter Tryz.func18, Tryz.ntmps18
 cases FA
 ·
  have hR := HR3.out (fun h => by cases h.1)
  subst hR
  go_wp2_with fail
  generalize hw0 : World.alloc (World.alloc (World.alloc w _) _) _ = w0 at hb hX1 hY1 hZ HFA HFB HCA HCB HAA HBB HPP ⊢
  clear hw0
  refine (HFA.out _ (Below.refl _ _)).mono ?_; rintro e w5 ⟨rfl, b5⟩
  have hbf := hb.trans (b5.mono hb.size)
  have hZf := hZ.below b5 hZ.lt
  have f0 := hZf.f 0
  have f1 := hZf.f 1
  have f2 := hZf.f 2
  have g0 := hZf.c0
  have g1 := hZf.c1
  have g2 := hZf.c2
  go_upto_region 2 with fail
  repeat go_step
  exact bodyPost_st3 rfl rfl rfl rfl (put3 hZf) rfl (JoP.fail hbf (by omega))
 go_wp2_with fail
 generalize hw0 : World.alloc (World.alloc (World.alloc w _) _) _ = w0 at hb hX1 hY1 hZ HFA HFB HCA HCB HAA HBB HPP ⊢
 clear hw0
 have x0 := hX1.c0
 have x1 := hX1.c1
 have x2 := hX1.c2
 have y0 := hY1.c0
 have y1 := hY1.c1
 have y2 := hY1.c2
 refine (HFA.out _ (Below.refl _ _)).mono ?_; rintro e w5 ⟨rfl, b5⟩
 replace y0 := cells_keepL b5 (Nat.le_refl _) _ _ y0
 replace y1 := cells_keepL b5 (Nat.le_refl _) _ _ y1
 replace y2 := cells_keepL b5 (Nat.le_refl _) _ _ y2
 replace x0 := cells_keepL b5 (Nat.le_refl _) _ _ x0
 replace x1 := cells_keepL b5 (Nat.le_refl _) _ _ x1
 replace x2 := cells_keepL b5 (Nat.le_refl _) _ _ x2
 cases FB
 ·
  have hR := HR3.out (fun h => by cases h.2)
  subst hR
  go_wp2_with fail
  refine (HFB.out _ b5).mono ?_; rintro e w6 ⟨rfl, b6⟩
  have b7 := b5.trans (b6.mono b5.size)
  have hbf := hb.trans (b7.mono hb.size)
  have hZf := hZ.below b7 hZ.lt
  have f0 := hZf.f 0
  have f1 := hZf.f 1
  have f2 := hZf.f 2
  have g0 := hZf.c0
  have g1 := hZf.c1
  have g2 := hZf.c2
  go_upto_region 2 with fail
  repeat go_step
  exact bodyPost_st3 rfl rfl rfl rfl (put3 hZf) rfl (JoP.fail hbf (by omega))
 go_wp2_with fail
 refine (HFB.out _ b5).mono ?_; rintro e w6 ⟨rfl, b6⟩
 replace x0 := cells_keepL b6 (Nat.le_refl _) _ _ x0
 replace x1 := cells_keepL b6 (Nat.le_refl _) _ _ x1
 replace x2 := cells_keepL b6 (Nat.le_refl _) _ _ x2
 replace y0 := cells_keepL b6 (Nat.le_refl _) _ _ y0
 replace y1 := cells_keepL b6 (Nat.le_refl _) _ _ y1
 replace y2 := cells_keepL b6 (Nat.le_refl _) _ _ y2
 have b7 := b5.trans (b6.mono b5.size)
 clear b5 b6
 go_wp2_with fail
 refine (HCA.out (by trivial) _ b7).mono ?_; rintro e w5 ⟨rfl, b5⟩
 replace x0 := cells_keepL b5 (Nat.le_refl _) _ _ x0
 replace x1 := cells_keepL b5 (Nat.le_refl _) _ _ x1
 replace x2 := cells_keepL b5 (Nat.le_refl _) _ _ x2
 replace y0 := cells_keepL b5 (Nat.le_refl _) _ _ y0
 replace y1 := cells_keepL b5 (Nat.le_refl _) _ _ y1
 replace y2 := cells_keepL b5 (Nat.le_refl _) _ _ y2
 have b8 := b7.trans (b5.mono b7.size)
 clear b5 b7
 by_cases hc : CA = 0
 rotate_left
 ·
  have hR := HRA.out (by simp) hc
  subst hR
  have q2 : (CA != 0) = true := by rw [bne_iff_ne]; exact hc
  have hbf := hb.trans (b8.mono hb.size)
  have hZf := hZ.below b8 hZ.lt
  have f0 := hZf.f 0
  have f1 := hZf.f 1
  have f2 := hZf.f 2
  have g0 := hZf.c0
  have g1 := hZf.c1
  have g2 := hZf.c2
  go_upto_region 5 with fail
  repeat go_step
  exact bodyPost_st3 rfl rfl rfl rfl (put3 hZf) rfl (JoP.fail hbf (by omega))
 subst hc
 go_wp2_with fail
 refine (HCB.out (by trivial) _ b8).mono ?_; rintro e w5 ⟨rfl, b5⟩
 replace x0 := cells_keepL b5 (Nat.le_refl _) _ _ x0
 replace x1 := cells_keepL b5 (Nat.le_refl _) _ _ x1
 replace x2 := cells_keepL b5 (Nat.le_refl _) _ _ x2
 replace y0 := cells_keepL b5 (Nat.le_refl _) _ _ y0
 replace y1 := cells_keepL b5 (Nat.le_refl _) _ _ y1
 replace y2 := cells_keepL b5 (Nat.le_refl _) _ _ y2
 have hB0 := b8.trans (b5.mono b8.size)
 clear b5 b8
 by_cases hc : CB = 0
 rotate_left
 ·
  have hR := HRB.out (by simp) (by trivial) hc
  subst hR
  have q2 : (CB != 0) = true := by rw [bne_iff_ne]; exact hc
  have hbf := hb.trans (hB0.mono hb.size)
  have hZf := hZ.below hB0 hZ.lt
  have f0 := hZf.f 0
  have f1 := hZf.f 1
  have f2 := hZf.f 2
  have g0 := hZf.c0
  have g1 := hZf.c1
  have g2 := hZf.c2
  go_upto_region 8 with fail
  repeat go_step
  exact bodyPost_st3 rfl rfl rfl rfl (put3 hZf) rfl (JoP.fail hbf (by omega))
 subst hc
 have hbw := hb.trans (hB0.mono hb.size)
 have hZw := hZ.below hB0 hZ.lt
 obtain ⟨w3, hw3⟩ : ∃ wo : World, wo = w5 := ⟨_, rfl⟩
 rw [← hw3] at hB0 hbw hZw x0 x1 x2 y0 y1 y2 ⊢
 obtain ⟨fA, fB, kA, kB, ffA0, ffB0⟩ := HFW.out (by simp) (by trivial) (by trivial)
 replace HR2 := Lib.hid (HR2.out (by simp) (by trivial) (by trivial))
 replace HRP := Lib.hid (HRP.out (by simp) (by trivial) (by trivial))
 have HG := Lib.hid (HAA.out.g.keep (cells_keepL hB0 (Nat.le_refl _)))
 have HV := Lib.hid (HAA.out.v.keepL (cells_keepL hB0 (Nat.le_refl _)))
 have HQ := Lib.hid (HAA.out.q.keep (cells_keepL hB0 (Nat.le_refl _)))
 have HG' := Lib.hid (HBB.out.g.keep (cells_keepL hB0 (Nat.le_refl _)))
 have HV' := Lib.hid (HBB.out.v.keepL (cells_keepL hB0 (Nat.le_refl _)))
 have HQ' := Lib.hid (HBB.out.q.keep (cells_keepL hB0 (Nat.le_refl _)))
 have HP3 := Lib.hid (HPP.out.keep (cells_keepL hB0 (Nat.le_refl _)))
 clear hw3 HRA HRB HFW HR3 HFA HFB HCA HAA HBB HPP hb hB0 hZ hX1 hY1
 have hb3 := hbw
 have hZ3 := hZw
 clear hbw hZw
 obtain ⟨SA, hSA⟩ : ∃ S, A.pl = S := ⟨_, rfl⟩
 obtain ⟨SB, hSB⟩ : ∃ S, B.pl = S := ⟨_, rfl⟩
 have pA : SA.G = A.G ∧ SA.V = A.V ∧ SA.Q = A.Q.map eqp := by rw [← hSA]; exact ⟨rfl, rfl, rfl⟩
 have pB : SB.G = B.G ∧ SB.V = B.V ∧ SB.Q = B.Q.map eqp := by rw [← hSB]; exact ⟨rfl, rfl, rfl⟩
 rw [hSA] at fA kA ffA0 HRP
 rw [hSB] at fB kB ffB0 HRP
 have ffA : formB SA = true := ffA0
 have ffB : formB SB = true := ffB0
 clear ffA0 ffB0
 clear HCB
 have fl : A.G.length ≤ 8 ∧ A.V.length ≤ 64 ∧ A.Q.length ≤ 64 ∧ B.G.length ≤ 8 ∧ B.V.length ≤ 64 ∧ B.Q.length ≤ 64 := by
  have a1 := fA.g; have a2 := fA.v; have a3 := fA.q; have b1 := fB.g; have b2 := fB.v; have b3 := fB.q
  rw [pA.1] at a1; rw [pA.2.1] at a2; rw [pA.2.2, List.length_map] at a3; rw [pB.1] at b1; rw [pB.2.1] at b2; rw [pB.2.2, List.length_map] at b3
  exact ⟨a1, a2, a3, b1, b2, b3⟩
 have HFQ : Hid (∀ q ∈ A.Q, q.2.2.2.2.length ≤ 64 ∧ IntKind.i64.wrap (q.1 + 0) = q.1 + 0) := fun q hq => by
  have h1 := fA.t (eqp q) (by rw [pA.2.2]; exact List.mem_map_of_mem hq)
  obtain ⟨g1, g2, _⟩ := form_q ffA (q := eqp q) (by rw [pA.2.2]; exact List.mem_map_of_mem hq)
  have g3 := fA.g
  have e1 : (eqp q).1 = q.1 := rfl
  rw [e1] at g1 g2
  exact ⟨h1, by rw [IntKind.wrap_i64]; omega⟩
 have HFQ' : Hid (∀ q ∈ B.Q, q.2.2.2.2.length ≤ 64 ∧ IntKind.i64.wrap (q.1 + (A.G.length : Int)) = q.1 + (A.G.length : Int) ∧ ∀ t ∈ q.2.2.2.2, ∃ h : Nat, t.2.1 = (h : Int) ∧ h < B.V.length) := fun q hq => by
  have h1 := fB.t (eqp q) (by rw [pB.2.2]; exact List.mem_map_of_mem hq)
  obtain ⟨g1, g2, _, g4⟩ := form_q ffB (q := eqp q) (by rw [pB.2.2]; exact List.mem_map_of_mem hq)
  have g3 := fB.g
  have g5 := fA.g
  rw [pA.1] at g5
  rw [pB.2.1] at g4
  have e1 : (eqp q).1 = q.1 := rfl
  rw [e1] at g1 g2
  refine ⟨h1, by rw [IntKind.wrap_i64]; omega, fun t ht => ?_⟩
  obtain ⟨k1, k2, _⟩ := g4 t ht
  exact ⟨t.2.1.toNat, by omega, k2⟩
 have HVN : Hid (∀ x, x ∈ A.V ∨ x ∈ B.V → IsN x (Num.nv x)) := fun x hx => by
  have f1 := ffA
  have f2 := ffB
  unfold formB at f1 f2
  rw [Bool.and_eq_true, Bool.and_eq_true] at f1 f2
  rw [pA.2.1] at f1
  rw [pB.2.1] at f2
  rcases hx with h | h
  ·
   exact isN_of_valid (List.all_eq_true.1 f1.2.1 x h)
  ·
   exact isN_of_valid (List.all_eq_true.1 f2.2.1 x h)
 have HF := Lib.hid (And.intro fA (And.intro fB (And.intro kA (And.intro kB (And.intro ffA ffB)))))
 have HPA := Lib.hid pA
 have HPB := Lib.hid pB
 clear fA fB kA kB ffA ffB pA pB hSA hSB
 obtain ⟨l1, l2, l3, l4, l5, l6⟩ := fl
 obtain ⟨ga, gc, va, vc, qa, qc⟩ := a
 obtain ⟨ga', gc', va', vc', qa', qc'⟩ := b
 obtain ⟨G, V, Q⟩ := A
 obtain ⟨G', V', Q'⟩ := B
 simp only at x0 x1 x2 y0 y1 y2 l1 l2 l3 l4 l5 l6 HG HV HQ HG' HV' HQ' HR2 HFQ HFQ' HVN HPA HPB H64 HTA
 obtain ⟨ng, hng⟩ : ∃ n, G.length = n := ⟨_, rfl⟩
 obtain ⟨na, hna⟩ : ∃ n, V.length = n := ⟨_, rfl⟩
 obtain ⟨nq, hnq⟩ : ∃ n, Q.length = n := ⟨_, rfl⟩
 obtain ⟨mg, hmg⟩ : ∃ n, G'.length = n := ⟨_, rfl⟩
 obtain ⟨m, hm⟩ : ∃ n, V'.length = n := ⟨_, rfl⟩
 obtain ⟨mq, hmq⟩ : ∃ n, Q'.length = n := ⟨_, rfl⟩
 rw [hng] at x0 l1 HFQ'
 rw [hna] at x1 l2 HR2
 rw [hnq] at x2 l3
 rw [hmg] at y0 l4
 rw [hm] at y1 l5 HFQ' HR2
 rw [hmq] at y2 l6
 have HRP2 : Hid (P.all (prOk na m) = true → R = plJ SA SB P) := by rw [← hna, ← hm]; exact HRP
 clear HRP
 obtain ⟨PB, hPB⟩ : ∃ b, P.all (prOk na m) = b := ⟨_, rfl⟩
 have HPT : Hid (PB = true → P.all (prOk na m) = true) := fun h => hPB.trans h
 have H4 : Hid ((P.drop 0).all (prOk na m) = PB) := hPB
 rw [hPB] at HR2 HRP2
 have HNG := Lib.hid hng
 have HNA := Lib.hid hna
 have HNQ := Lib.hid hnq
 have HMG := Lib.hid hmg
 have HM := Lib.hid hm
 have HMQ := Lib.hid hmq
 obtain ⟨i1, hy, hy0, hy1, hy2⟩ := info_parts info_int
 clear hng hna hnq hmg hm hmq hPB
 go_wp2_with (at_make; refine wpList_make_arr _ rfl _ _ _ rfl 3 i1 .i64 8 Tryz.underlying71 hy hy0 hy1 hy2 _ _ _ _ m rfl rfl ?_ ?_ ?_ ?_ ?_ <;> first | (intro w4 ha hb4 hsz) | omega | (unfold maxLen; omega))
 clear hy hy0 hy1 hy2
 rename (∀ (a : Act) (w : World), _ → _) => hkn
 revert hkn
 repeat (rename (∀ (a : Act) (w : World), _ → _) => hkn; clear hkn)
 repeat (rename (Exit → Act → World → Prop) => hqn; clear hqn)
 intro hkn
 go_loopw [12] (fun v12 wr => ∃ k : Nat, k ≤ m ∧ v12 = .int .i64 (k : Int) ∧ Arr wr w3.heap.size 3 .i64 m (fun i => if i < k then -1 else 0) ∧ Below w3.heap.size w3 wr) (fun v12 _ => m - (intOf v12).toNat)
 case atStart => exact ⟨0, by omega, rfl, ha.congr (fun i _ => by simp), hb4⟩
 case round =>
  clear ha hb4 hsz
  obtain ⟨k, hk, rfl, hAr, hB⟩ := hrel
  by_cases hlt : k < m
  ·
   have hc0 : wr.cell? ⟨w3.heap.size, k, none⟩ = some (.int .i64 0) := by have := hAr.cell hlt; simpa using this
   have hf0 := hAr.free k
   have hAr2 := (hAr.set k (-1)).congr (g := fun i => if i < k + 1 then -1 else 0) (fun i hi => by
    unfold upd
    by_cases e : i = k
    ·
     subst e; simp
    ·
     by_cases e2 : i < k
     ·
      have e3 : i < k + 1 := by omega
      simp [e, e2, e3]
     ·
      have e3 : ¬ i < k + 1 := by omega
      simp [e, e2, e3])
   have hBs := hB.setCell (p := ⟨w3.heap.size, k, none⟩) (Nat.le_refl _) (.int .i64 (-1))
   go_wp2_with fail
   exact ⟨⟨k + 1, by omega, by go_num, hAr2, hBs⟩, by simp [intOf]; omega⟩
  ·
   obtain rfl : m = k := by omega
   have hAJ : Arr wr w3.heap.size 3 .i64 m (fun i => (List.replicate m (-1)).getD i 0) := hAr.congr (fun i hi => by simp [hi, List.getD_eq_getElem?_getD])
   clear hAr
   go_wp2_with fail
   rename (∀ (a : Act) (w : World), _ → _) => hkn
   revert hkn
   repeat (rename (∀ (a : Act) (w : World), _ → _) => hkn; clear hkn)
   repeat (rename (Exit → Act → World → Prop) => hqn; clear hqn)
   intro hkn
   go_loopw [13] (fun v13 wr => ∃ k : Nat, k ≤ np ∧ v13 = .int .i64 (k : Int) ∧ Hid ((P.drop k).all (prOk na m) = PB) ∧ Arr wr w3.heap.size 3 .i64 m (fun i => (List.replicate m (-1)).getD i 0) ∧ Below w3.heap.size w3 wr) (fun v13 _ => np - (intOf v13).toNat)
   case atStart => exact ⟨0, by omega, rfl, H4, hAJ, hB⟩
   case round =>
    clear H4 hAJ hB
    obtain ⟨k, hk, rfl, hH, hAJ, hB⟩ := hrel
    by_cases hlt : k < np
    ·
     have hbe := (hb3.trans (hB.mono hb3.size)).drew
     have hZe0 := hZ3.below hB hZ3.lt
     have hZe : OB wr.drew (w.heap.size + 1 + 1) (.slice none 0 0) (.slice none 0 0) (.slice none 0 0) := hZe0
     clear hZe0
     have e1 := cells_keepL hB (Nat.le_refl _) _ _ x1
     have e2 := cells_keepL hB (Nat.le_refl _) _ _ y1
     have hkP : k < P.length := by rw [HNP.out]; exact hlt
     obtain ⟨b, off, rfl, p0, p1⟩ := (HP3.out.keep (cells_keepL hB (Nat.le_refl _))) k hkP
     have hw := hH.out
     rw [List.drop_eq_getElem_cons hkP, List.all_cons] at hw
     generalize P[k] = x at p0 p1 hw
     obtain ⟨u, v⟩ := x
     simp only at p0 p1
     have hB2 := hB.drew
     have hA2 : Arr wr.drew w3.heap.size 3 .i64 m (fun i => (List.replicate m (-1)).getD i 0) := hAJ
     clear hkP hH hB hAJ
     go_upto_region 17 with fail
     refine r17 (fun _ _ _ _ _ h => h) hlt e1 e2 p0 p1 ?_
     intros
     generalize wr.drew = w9 at hbe hZe hB2 hA2 ⊢
     generalize prOk na m (u, v) = pk at hw ⊢
     cases pk
     ·
      obtain rfl : PB = false := by rw [← hw]; rfl
      have hR := HR2.out rfl
      subst hR
      clear hw
      have f0 := hZe.f 0
      have f1 := hZe.f 1
      have f2 := hZe.f 2
      have g0 := hZe.c0
      have g1 := hZe.c1
      have g2 := hZe.c2
      go_upto_region 18 with fail
      repeat go_step
      exact bodyPost_st3 rfl rfl rfl rfl (put3 hZe) rfl (JoP.fail hbe (by omega))
     ·
      rw [Bool.true_and] at hw
      have HW := Lib.hid hw
      clear hw
      go_wp2_with fail
      exact ⟨⟨k + 1, by omega, by go_num, HW, hA2, hB2⟩, by simp [intOf]; omega⟩
    ·
     obtain rfl : np = k := by omega
     have hw := hH.out
     rw [List.drop_of_length_le (by rw [HNP.out]; omega)] at hw
     obtain rfl : true = PB := hw
     have hR := HRP2.out rfl
     have HPALL := Lib.hid (HPT.out rfl)
     obtain ⟨TJ, hTJ⟩ : ∃ t, twJ P (List.replicate m (-1)) = t := ⟨_, rfl⟩
     have hmB : SB.V.length = m := by rw [HPB.out.2.1, HM.out]
     have HT8 : Hid (TJ = none → R = noJ 8) := fun h => by rw [hR, plJ_none (by rw [hmB, hTJ]; exact h)]
     have HTS : Hid (∀ J, TJ = some J → R = vrJ SA SB P J ∧ J.length = m ∧ JOk na J) := fun J h => by
      obtain ⟨g1, g2⟩ := twJ_ok P (List.replicate m (-1)) J HPALL.out (by simp) (JOk.rep na m) (hTJ.trans h)
      exact ⟨by rw [hR, plJ_some (by rw [hmB, hTJ]; exact h)], g1, g2⟩
     have H5 : Hid (twJ (P.drop 0) (List.replicate m (-1)) = TJ) := hTJ
     clear hH hR hTJ hmB HR2 HRP2 HPT
     go_wp2_with fail
     rename (∀ (a : Act) (w : World), _ → _) => hkn
     revert hkn
     repeat (rename (∀ (a : Act) (w : World), _ → _) => hkn; clear hkn)
     repeat (rename (Exit → Act → World → Prop) => hqn; clear hqn)
     intro hkn
     go_loopw [14] (fun v14 wr => ∃ (k : Nat) (J : List Int), k ≤ np ∧ v14 = .int .i64 (k : Int) ∧ Hid (twJ (P.drop k) J = TJ) ∧ J.length = m ∧ Arr wr w3.heap.size 3 .i64 m (fun i => J.getD i 0) ∧ Below w3.heap.size w3 wr) (fun v14 _ => np - (intOf v14).toNat)
     case atStart => exact ⟨0, _, by omega, rfl, H5, by simp, hAJ, hB⟩
     case round =>
      clear H5 hAJ hB
      obtain ⟨k, J, hk, rfl, hH, hJl, hAJ, hB⟩ := hrel
      by_cases hlt : k < np
      ·
       have hbe := hb3.trans (hB.mono hb3.size)
       have hZe := hZ3.below hB hZ3.lt
       have hkP : k < P.length := by rw [HNP.out]; exact hlt
       have HMK0 := Lib.hid (fun w' (hb' : Below w3.heap.size w3 w') => (HP3.out.keep (cells_keepL hb' (Nat.le_refl _))) k hkP)
       obtain ⟨b, off, hpo, p0, p1⟩ := (HP3.out.keep (cells_keepL hB (Nat.le_refl _))) k hkP
       have HMK : Hid (∀ w', Below w3.heap.size w3 w' → w'.cell? ⟨b, off + k * 2, none⟩ = some (.int .i64 P[k].1) ∧ w'.cell? ⟨b, off + k * 2 + 1, none⟩ = some (.int .i64 P[k].2)) := fun w' hb' => by
        obtain ⟨b', off', h1, h2, h3⟩ := HMK0.out w' hb'
        rw [hpo] at h1
        injection h1 with h1
        injection h1 with h1 h1' _
        subst h1 h1'
        exact ⟨h2, h3⟩
       subst hpo
       clear HMK0
       have hpk := prOk_iff.1 (take_all_of HPALL.out hkP)
       have hw := hH.out
       rw [List.drop_eq_getElem_cons hkP, twJ] at hw
       generalize P[k] = x at p0 p1 hw hpk HMK
       obtain ⟨u, v⟩ := x
       simp only at p0 p1 hw hpk HMK
       obtain ⟨z1, z2, z3, z4⟩ := hpk
       obtain ⟨i, rfl⟩ := Int.eq_ofNat_of_zero_le z1
       obtain ⟨j, rfl⟩ := Int.eq_ofNat_of_zero_le z3
       have z5 : i < na := by omega
       have z6 : j < m := by omega
       rw [Int.toNat_natCast] at hw
       have hc0 := hAJ.cell z6
       have hf0 := hAJ.free j
       generalize hzJ : J.getD j 0 = z at hc0 hw
       have hA3 := (hAJ.set j (i : Int)).congr (g := fun s => (J.set j (i : Int)).getD s 0) (fun s _ => by rw [getD_set_int _ _ _ _ (by rw [hJl]; exact z6)]; unfold upd; simp only [eq_comm])
       have hB3 := (hB.drew).setCell (p := ⟨w3.heap.size, j, none⟩) (Nat.le_refl _) (.int .i64 (i : Int))
       replace hA3 : Arr (World.setCell wr.drew ⟨w3.heap.size, j, none⟩ (.int .i64 (i : Int))) w3.heap.size 3 .i64 m (fun s => (J.set j (i : Int)).getD s 0) := hA3
       clear hkP hH hAJ z1 z2 z3 z4 hzJ
       by_cases tz : 0 ≤ z
       ·
        rw [if_pos tz] at hw
        have hR := HT8.out hw.symm
        subst hR
        have q1 : decide (0 ≤ z) = true := decide_eq_true tz
        clear hw
        have f0 := hZe.f 0
        have f1 := hZe.f 1
        have f2 := hZe.f 2
        have g0 := hZe.c0
        have g1 := hZe.c1
        have g2 := hZe.c2
        go_upto_region 23 with fail
        repeat go_step
        exact bodyPost_st3 rfl rfl rfl rfl (put3 hZe) rfl (JoP.fail hbe (by omega))
       ·
        rw [if_neg tz] at hw
        have q1 : decide (0 ≤ z) = false := decide_eq_false tz
        have HW := Lib.hid hw
        clear hw
        go_upto_region 24 with fail
        refine wp_region_held_drew (S := (fun w' => w'.cell? ⟨b, off + k * 2, none⟩ = some (.int .i64 (i : Int)) ∧ w'.cell? ⟨b, off + k * 2 + 1, none⟩ = some (.int .i64 (j : Int)))) (by kernel_rfl) ⟨p0, p1⟩ (fun hS0 => ?_)
        refine tkH 0 118 (.slice (some ⟨w3.heap.size, 0, none⟩) m m) rfl rfl (by kernel_rfl) (fun _ _ _ _ _ h => h) (.inl ⟨by rfl, fun w' hSw => (by go_simp)⟩) (by assumption) ?_
        try simp only [put9, List.set]
        refine tkH 1 119 (.slice (some ⟨b, off, none⟩) np pc) rfl rfl (by kernel_rfl) (fun _ _ _ _ _ h => h) (.inl ⟨by rfl, fun w' hSw => (by go_simp)⟩) (by assumption) ?_
        try simp only [put9, List.set]
        refine tkH 2 120 (.int .i64 (k : Int)) rfl rfl (by kernel_rfl) (fun _ _ _ _ _ h => h) (.inl ⟨by rfl, fun w' hSw => (by go_simp)⟩) (by assumption) ?_
        try simp only [put9, List.set]
        refine tkH 3 121 (.pointer (some ⟨b, off + k * 2, none⟩)) rfl rfl (by kernel_rfl) (fun _ _ _ _ _ h => h) (.inl ⟨by rfl, fun w' hSw => (by go_simp)⟩) (by assumption) ?_
        try simp only [put9, List.set]
        refine tkH 4 122 (.pointer (some ⟨b, off + k * 2 + 1, none⟩)) rfl rfl (by kernel_rfl) (fun _ _ _ _ _ h => h) (.inl ⟨by rfl, fun w' hSw => (by go_simp)⟩) (by assumption) ?_
        try simp only [put9, List.set]
        refine tkH 5 123 (.int .i64 (j : Int)) rfl rfl (by kernel_rfl) (fun _ _ _ _ _ h => h) (.inl ⟨by rfl, fun w' hSw => (by obtain ⟨g0, g1⟩ := hSw; go_simp)⟩) (by assumption) ?_
        try simp only [put9, List.set]
        refine tkH 6 124 (.slice (some ⟨b, off, none⟩) np pc) rfl rfl (by kernel_rfl) (fun _ _ _ _ _ h => h) (.inl ⟨by rfl, fun w' hSw => (by go_simp)⟩) (by assumption) ?_
        try simp only [put9, List.set]
        refine tkH 7 125 (.int .i64 (k : Int)) rfl rfl (by kernel_rfl) (fun _ _ _ _ _ h => h) (.inl ⟨by rfl, fun w' hSw => (by go_simp)⟩) (by assumption) ?_
        try simp only [put9, List.set]
        refine tkH 8 126 (.pointer (some ⟨b, off + k * 2, none⟩)) rfl rfl (by kernel_rfl) (fun _ _ _ _ _ h => h) (.inl ⟨by rfl, fun w' hSw => (by go_simp)⟩) (by assumption) ?_
        try simp only [put9, List.set]
        refine tkH 9 127 (.pointer (some ⟨b, off + k * 2, none⟩)) rfl rfl (by kernel_rfl) (fun _ _ _ _ _ h => h) (.inl ⟨by rfl, fun w' hSw => (by go_simp)⟩) (by assumption) ?_
        try simp only [put9, List.set]
        refine tkH 10 128 (.int .i64 (i : Int)) rfl rfl (by kernel_rfl) (fun _ _ _ _ _ h => h) (.inl ⟨by rfl, fun w' hSw => (by obtain ⟨g0, g1⟩ := hSw; go_simp)⟩) (by assumption) ?_
        try simp only [put9, List.set]
        refine tkH 11 129 (.pointer (some ⟨w3.heap.size, j, none⟩)) rfl rfl (by kernel_rfl) (fun _ _ _ _ _ h => h) (.inl ⟨by rfl, fun w' hSw => (by go_simp)⟩) (by assumption) ?_
        try simp only [put9, List.set]
        refine wpAnyH_ready (rs := [12]) (by kernel_rfl) (by simp) ?_
        refine AllReadyH.cons rfl (fun K hK => ?_) AllReadyH.nil
        rw [if_pos (by rfl)]
        go_simp
        refine hK.out _ _ (HMK.out _ hB3) (fun hT => ?_)
        clear hK hT hS0
        try simp only [put9, List.set]
        refine wpAnyH_done (by kernel_rfl) ?_ _
        go_wp2_with fail
        exact ⟨⟨k + 1, _, by omega, by go_num, HW, by rw [List.length_set]; exact hJl, hA3, hB3⟩, by simp [intOf]; omega⟩
      ·
       obtain rfl : np = k := by omega
       have hw := hH.out
       rw [List.drop_of_length_le (by rw [HNP.out]; omega)] at hw
       obtain ⟨hR, _, hJo⟩ := HTS.out J hw.symm
       clear hw hH HTS HT8
       have hJ0 : JS w.heap.size w3.heap.size (wr.alloc (.cells #[.slice none 0 0, .slice none 0 0, .slice none 0 0] 49)) wr.heap.size (.slice none 0 0) (.slice none 0 0) (.slice none 0 0) (.slice none 0 0) (.slice none 0 0) (.slice none 0 0) [] [] [] w3.heap.size J :=
        ⟨hb3.size, hB.size, Nat.le_refl _, OB.new wr _ _ _, World.ownsRow_nil _ _ _ _, World.ownsRow_nil _ _ _ _, World.ownsRow_nil _ _ _ _, fun x hx => (by cases hx), by rw [hJl]; exact hAJ.alloc _⟩
       have hB0 := hB.alloc hB.size (.cells #[.slice none 0 0, .slice none 0 0, .slice none 0 0] 49)
       obtain ⟨i0, hy, hy0, hy1, hy2⟩ := info_parts info_grp
       go_upto_region 26 with fail
       clear hAJ hB
       generalize wr.heap.size = p at hJ0 ⊢
       generalize hw9 : World.alloc wr _ = w9 at hJ0 hB0 ⊢
       clear hw9
       have HMK : Hid (∀ w', Below w3.heap.size w3 w' → w'.cell? ⟨w.heap.size, 0, none⟩ = some (.slice ga ng gc) ∧ w'.cell? ⟨w.heap.size + 1, 0, none⟩ = some (.slice ga' mg gc')) := fun w' hb' => ⟨cells_keepL hb' (Nat.le_refl _) _ _ x0, cells_keepL hb' (Nat.le_refl _) _ _ y0⟩
       refine wp_region_held_drew (S := (fun w' => w'.cell? ⟨w.heap.size, 0, none⟩ = some (.slice ga ng gc) ∧ w'.cell? ⟨w.heap.size + 1, 0, none⟩ = some (.slice ga' mg gc'))) (by kernel_rfl) (HMK.out _ hB0.drew) (fun hS0 => ?_)
       refine tkH 0 131 (.pointer (some ⟨p, 0, none⟩)) rfl rfl (by kernel_rfl) (fun _ _ _ _ _ h => h) (.inl ⟨by rfl, fun w' hSw => (by go_simp)⟩) (by assumption) ?_
       try simp only [put9, List.set]
       refine tkH 2 133 (.pointer (some ⟨w.heap.size, 0, none⟩)) rfl rfl (by kernel_rfl) (fun _ _ _ _ _ h => h) (.inl ⟨by rfl, fun w' hSw => (by go_simp)⟩) (by assumption) ?_
       try simp only [put9, List.set]
       refine tkH 3 134 (.slice ga ng gc) rfl rfl (by kernel_rfl) (fun _ _ _ _ _ h => h) (.inl ⟨by rfl, fun w' hSw => (by obtain ⟨g0, g1⟩ := hSw; go_simp)⟩) (by assumption) ?_
       try simp only [put9, List.set]
       refine tkH 5 136 (.pointer (some ⟨w.heap.size + 1, 0, none⟩)) rfl rfl (by kernel_rfl) (fun _ _ _ _ _ h => h) (.inl ⟨by rfl, fun w' hSw => (by go_simp)⟩) (by assumption) ?_
       try simp only [put9, List.set]
       refine tkH 6 137 (.slice ga' mg gc') rfl rfl (by kernel_rfl) (fun _ _ _ _ _ h => h) (.inl ⟨by rfl, fun w' hSw => (by obtain ⟨g0, g1⟩ := hSw; go_simp)⟩) (by assumption) ?_
       try simp only [put9, List.set]
       replace hJ0 := hJ0.drew
       replace hB0 := hB0.drew
       generalize w9.drew = W0 at hS0 hJ0 hB0 ⊢
       have hl := hJ0.o.c0
       refine wpAnyH_ready (rs := [1]) (by kernel_rfl) (by simp) ?_
       refine AllReadyH.cons rfl (fun K hK => ?_) AllReadyH.nil
       rw [if_pos (by rfl)]
       go_simp
       refine hK.out _ _ (HMK.out _ hB0) (fun hT => ?_)
       clear hK hT hl hS0
       try simp only [put9, List.set]
       refine wpAnyH_ready (rs := [4]) (by kernel_rfl) (by simp) ?_
       refine AllReadyH.cons rfl (fun K hK => ?_) AllReadyH.nil
       rw [if_pos (by rfl)]
       refine wp_append_any (.tmp 132) (.tmp 134) 38 (by rfl) w3.heap.size 27 i0 (.agg #[.string ⟨#[]⟩, .string ⟨#[]⟩]) 2 32 Tryz.underlying38 hy hy0 hy1 hy2 rfl (by decide) (.slice none 0 0) 0 (gcl []) (by rfl) hJ0.g ga ng gc (gcl G) (by rfl) (by rw [gcl_len, HNG.out]) (fun A e => by subst e; exact (HG.out.keep (cells_keepL hB0 (Nat.le_refl _))).cellsA) (fun e => by rw [← HNG.out]; exact HG.out.nil e) (gcl_one G) (by unfold maxLen; omega) (by omega) hB0.size ?_
       intro v1 W1 ho1 hg1
       have hJ1 := hJ0.appG (xs := G) hg1 ho1
       have hB1 := hB0.grown hg1 hB0.size (fun q e => (hJ0.tyG q e).1)
       rw [Nat.zero_add, show gcl [] = [] from rfl, List.nil_append] at ho1
       rw [List.nil_append] at hJ1
       obtain ⟨ao1, cc1, rfl⟩ := own_slice ho1
       refine hK.out _ _ (HMK.out _ hB1) (fun hT => ?_)
       clear hK hT hg1 hJ0 hB0
       try simp only [put9, List.set]
       refine wpAnyH_ready (rs := [7]) (by kernel_rfl) (by simp) ?_
       refine AllReadyH.cons rfl (fun K hK => ?_) AllReadyH.nil
       rw [if_pos (by rfl)]
       refine wp_append_any (.tmp 135) (.tmp 137) 38 (by rfl) w3.heap.size 27 i0 (.agg #[.string ⟨#[]⟩, .string ⟨#[]⟩]) 2 32 Tryz.underlying38 hy hy0 hy1 hy2 rfl (by decide) (.slice ao1 ng cc1) ng (gcl G) (by rfl) ho1 ga' mg gc' (gcl G') (by rfl) (by rw [gcl_len, HMG.out]) (fun A e => by subst e; exact (HG'.out.keep (cells_keepL hB1 (Nat.le_refl _))).cellsA) (fun e => by rw [← HMG.out]; exact HG'.out.nil e) (gcl_one G') (by unfold maxLen; omega) (by omega) hB1.size ?_
       intro v2 W2 ho2 hg2
       have hJ2 := hJ1.appG (xs := G') hg2 ho2
       have hB2 := hB1.grown hg2 hB1.size (fun q e => (hJ1.tyG q e).1)
       obtain ⟨ao2, cc2, rfl⟩ := own_slice ho2
       refine hK.out _ _ (HMK.out _ hB2) (fun hT => ?_)
       clear hK hT hg2 hJ1 hB1 ho1 ho2
       try simp only [put9, List.set]
       have hT := HMK.out _ hB2
       refine tkH 8 139 (.pointer (some ⟨p, 0, none⟩)) rfl rfl (by kernel_rfl) (fun _ _ _ _ _ h => h) (.inl ⟨by rfl, fun w' hSw => (by go_simp)⟩) (by assumption) ?_
       try simp only [put9, List.set]
       have hc2 := hJ2.o.c0
       have hf2 := hJ2.o.f 0
       refine wpAnyH_ready (rs := [9]) (by kernel_rfl) (by simp) ?_
       refine AllReadyH.cons rfl (fun K hK => ?_) AllReadyH.nil
       rw [if_pos (by rfl)]
       go_simp
       have hJ3 := hJ2.set0 (.slice ao2 (ng + mg) cc2)
       have hB3 := hB2.setCell (p := ⟨p, 0, none⟩) hJ2.kp (.slice ao2 (ng + mg) cc2)
       refine hK.out _ _ (HMK.out _ hB3) (fun hT => ?_)
       clear hK hT hc2 hf2 hJ2 hB2
       try simp only [put9, List.set]
       refine wpAnyH_done (by kernel_rfl) ?_ _
       generalize World.setCell W2 _ _ = w8 at hJ3 hB3 ⊢
       clear hy hy0 hy1 hy2 HMK
       have d1 := cells_keepL hB3 (Nat.le_refl _) _ _ x1
       have k1 := hJ3.o.c1
       obtain ⟨i2, hy, hy0, hy1, hy2⟩ := info_parts info_var
       go_upto_region 28 with (at_builtin; refine wpList_append_any rfl (.tmp 141) (.tmp 143) 41 rfl w3.heap.size 40 i2 (.agg #[.string ⟨#[]⟩]) 1 16 Tryz.underlying41 hy hy0 hy1 hy2 rfl (by decide) (.slice none 0 0) 0 [] rfl hJ3.v va na vc (V.map Value.string) rfl (by rw [List.length_map, HNA.out, Nat.mul_one]) (fun A e => by subst e; exact (HV.out.keepL (cells_keepL hB3 (Nat.le_refl _))).cellsA) (fun e => by rw [← HNA.out]; exact HV.out.nilL e) (fun x hx => by obtain ⟨y, _, rfl⟩ := List.mem_map.1 hx; simp [Value.oneCell']) (by unfold maxLen; omega) (by omega) hB3.size ?_; intro v4 W4 ho4 hg4; have hJ4 := hJ3.appV (xs := V) hg4 ho4; have hB4 := hB3.grown hg4 hB3.size (fun q e => (hJ3.tyV q e).1); rw [Nat.zero_add] at ho4; rw [List.nil_append] at hJ4; obtain ⟨ao4, cc4, rfl⟩ := own_slice ho4; have k2 := hJ4.o.c1; have k3 := hJ4.o.f 1; have hJ5 := hJ4.set1 (.slice ao4 na cc4); have hB5 := hB4.setCell (p := ⟨p, 1, none⟩) hJ4.kp (.slice ao4 na cc4); clear ho4 hg4)
       generalize World.setCell W4 _ _ = w7 at hJ5 hB5 ⊢
       clear hy hy0 hy1 hy2 d1 k1 k2 k3 hJ4 hB4 hJ3 hB3
       have d1 := cells_keepL hB5 (Nat.le_refl _) _ _ x2
       have k1 := hJ5.o.c2
       obtain ⟨i4, hy, hy0, hy1, hy2⟩ := info_parts info_eq4
       have HTQ := HTA.out _ (hb3.trans (hB5.mono hb3.size))
       go_upto_region 29 with (at_builtin; refine wpList_append_any rfl (.tmp 147) (.tmp 149) 47 rfl w3.heap.size 46 i4 (.agg #[.int .i64 0, .string ⟨#[]⟩, .slice none 0 0]) 3 48 Tryz.underlying47 hy hy0 hy1 hy2 rfl (by decide) (.slice none 0 0) 0 (qcl []) rfl hJ5.q qa nq qc (qcl Q) rfl (by rw [qcl_len, HNQ.out]) (fun A e => by subst e; exact (HQ.out.keep (cells_keepL hB5 (Nat.le_refl _))).cellsA) (fun e => by rw [← HNQ.out]; exact HQ.out.nil e) (qcl_one Q) (by unfold maxLen; omega) (by omega) hB5.size ?_; intro v4 W4 ho4 hg4; have hJ6 := hJ5.appQ (xs := Q) hg4 ho4 HTQ; have hB6 := hB5.grown hg4 hB5.size (fun q e => (hJ5.tyQ q e).1); rw [Nat.zero_add] at ho4; rw [List.nil_append] at hJ6; obtain ⟨ao5, cc5, rfl⟩ := own_slice ho4; have k2 := hJ6.o.c2; have k3 := hJ6.o.f 2; have hJ7 := hJ6.set2 (.slice ao5 nq cc5); have hB7 := hB6.setCell (p := ⟨p, 2, none⟩) hJ6.kp (.slice ao5 nq cc5); clear ho4 hg4)
       generalize World.setCell W4 _ _ = w6 at hJ7 hB7 ⊢
       clear hy hy0 hy1 hy2 d1 k1 k2 k3 hJ6 hB6 hJ5 hB5 HTQ
       generalize hgv : Value.slice ao2 (ng + mg) cc2 = gv at hJ7
       generalize hvv : Value.slice ao4 na cc4 = vv at hJ7
       generalize hqv : Value.slice ao5 nq cc5 = qv at hJ7
       clear hgv hvv hqv
       have hJS := hJ7
       have hBc := hB7
       clear hJ7 hB7
       obtain ⟨BV, hBV⟩ : ∃ t, bdV V V' P V = t := ⟨_, rfl⟩
       have HBN : Hid (BV = none → R = noJ 10) := fun h => by rw [hR]; exact vrJ_none (by rw [HPA.out.2.1, HPB.out.2.1, hBV]; exact h)
       have HBS : Hid (∀ VV, BV = some VV → R = endJ (jnS SA SB (flJ V' 0 J VV), (flJ V' 0 J VV).1)) := fun VV h => by
        rw [hR, vrJ_some (by rw [HPA.out.2.1, HPB.out.2.1, hBV]; exact h), HPB.out.2.1]
       have H6 : Hid (bdV V V' (P.drop 0) V = BV) := hBV
       clear hBV hR
       go_wp2_with fail
       rename (∀ (a : Act) (w : World), _ → _) => hkn
       revert hkn
       repeat (rename (∀ (a : Act) (w : World), _ → _) => hkn; clear hkn)
       repeat (rename (Exit → Act → World → Prop) => hqn; clear hqn)
       intro hkn
       go_loopw [16] (fun v16 wr => ∃ (k : Nat) (VV : List ByteArray), k ≤ np ∧ v16 = .int .i64 (k : Int) ∧ Hid (bdV V V' (P.drop k) VV = BV) ∧ VV.length = na ∧ Hid (∀ x ∈ VV, x ∈ V ∨ x ∈ V') ∧ JS w.heap.size w3.heap.size wr p gv vv qv gv vv qv (G ++ G') VV Q w3.heap.size J ∧ Below w3.heap.size w3 wr) (fun v16 _ => np - (intOf v16).toNat)
       case atStart => exact ⟨0, V, by omega, rfl, H6, HNA.out, fun x hx => .inl hx, hJS, hBc⟩
       case round =>
        clear H6 hJS hBc
        obtain ⟨k, VV, hk, rfl, hH, hVl, HVm, hJS, hB⟩ := hrel
        by_cases hlt : k < np
        ·
         have hkP : k < P.length := by rw [HNP.out]; exact hlt
         obtain ⟨b, off, rfl, p0, p1⟩ := (HP3.out.keep (cells_keepL hB (Nat.le_refl _))) k hkP
         have hpk := prOk_iff.1 (take_all_of HPALL.out hkP)
         have hw := hH.out
         rw [List.drop_eq_getElem_cons hkP, bdV] at hw
         generalize P[k] = x at p0 p1 hw hpk
         obtain ⟨u, v⟩ := x
         simp only at p0 p1 hw hpk
         obtain ⟨z1, z2, z3, z4⟩ := hpk
         obtain ⟨i, rfl⟩ := Int.eq_ofNat_of_zero_le z1
         obtain ⟨j, rfl⟩ := Int.eq_ofNat_of_zero_le z3
         have z5 : i < na := by omega
         have z6 : j < m := by omega
         have z7 : i < V.length := by rw [HNA.out]; exact z5
         have z8 : j < V'.length := by rw [HM.out]; exact z6
         have z9 : i < VV.length := by rw [hVl]; exact z5
         rw [Int.toNat_natCast, atB_eq z7, atB_eq z8, atB_eq z9] at hw
         have HMV := Lib.hid (fun w' (hb' : Below w3.heap.size w3 w') => (HV.out.keepL (cells_keepL hb' (Nat.le_refl _))) i z7)
         have HMV' := Lib.hid (fun w' (hb' : Below w3.heap.size w3 w') => (HV'.out.keepL (cells_keepL hb' (Nat.le_refl _))) j z8)
         obtain ⟨bv, ov, hva, v0⟩ := (HV.out.keepL (cells_keepL hB (Nat.le_refl _))) i z7
         obtain ⟨bu, ou, hvb, v1⟩ := (HV'.out.keepL (cells_keepL hB (Nat.le_refl _))) j z8
         have HMK : Hid (∀ w', Below w3.heap.size w3 w' → w'.cell? ⟨w.heap.size, 1, none⟩ = some (.slice (some ⟨bv, ov, none⟩) na vc) ∧ w'.cell? ⟨w.heap.size + 1, 1, none⟩ = some (.slice (some ⟨bu, ou, none⟩) m vc') ∧ w'.cell? ⟨bv, ov + i, none⟩ = some (.string V[i]) ∧ w'.cell? ⟨bu, ou + j, none⟩ = some (.string V'[j])) := fun w' hb' => by
          obtain ⟨_, _, h1, h2⟩ := HMV.out w' hb'
          obtain ⟨_, _, h3, h4⟩ := HMV'.out w' hb'
          rw [hva] at h1
          rw [hvb] at h3
          injection h1 with h1
          injection h1 with h1 h1' _
          injection h3 with h3
          injection h3 with h3 h3' _
          subst h1 h1' h3 h3'
          exact ⟨by rw [← hva]; exact cells_keepL hb' (Nat.le_refl _) _ _ x1, by rw [← hvb]; exact cells_keepL hb' (Nat.le_refl _) _ _ y1, h2, h4⟩
         subst hva hvb
         clear HMV HMV' v0 v1
         obtain ⟨ao, cc, hvv, hvg⟩ := hJS.vlen
         obtain ⟨g, rfl⟩ := hvg (by omega)
         rw [hVl] at hvv
         subst hvv
         have hNx := HVN.out (VV[i]) (HVm.out _ (List.getElem_mem z9))
         have hNy := HVN.out (V'[j]) (.inr (List.getElem_mem z8))
         have HVs : Hid (∀ x ∈ VV.set i (mnB VV[i] V'[j]), x ∈ V ∨ x ∈ V') := fun x hx => by
          rcases List.mem_or_eq_of_mem_set hx with h | h
          ·
           exact HVm.out x h
          ·
           rcases mnB_or VV[i] V'[j] with e | e
           ·
            rw [h, e]; exact HVm.out _ (List.getElem_mem z9)
           ·
            rw [h, e]; exact .inr (List.getElem_mem z8)
         have hls : (VV.set i (mnB VV[i] V'[j])).length = na := by rw [List.length_set]; exact hVl
         have hself : VV.set i VV[i] = VV := List.set_getElem_self z9
         have HST := Lib.hid (fun w' (hj : JS w.heap.size w3.heap.size w' p gv (.slice (some ⟨g, 0, none⟩) na cc) qv gv (.slice (some ⟨g, 0, none⟩) na cc) qv (G ++ G') VV Q w3.heap.size J) => hj.setV i V'[j])
         have HBA := Lib.hid (fun w' (hb' : Below w3.heap.size w3 w') (x : Value) => hb'.setCell (p := ⟨g, i, none⟩) hJS.geV x)
         generalize V[i] = X0 at hw HMK
         generalize V'[j] = Y at hw hNy HVs hls HST HMK
         generalize hXX : VV[i] = X at hw hNx HVs hls hself
         have HXX := Lib.hid hXX
         clear hXX
         clear hkP hH z1 z2 z3 z4 z7 z8
         go_upto_region 32 with fail
         refine wp_region_held_drew (S := (fun w' => w'.cell? ⟨b, off + k * 2, none⟩ = some (.int .i64 (i : Int)) ∧ w'.cell? ⟨b, off + k * 2 + 1, none⟩ = some (.int .i64 (j : Int)))) (by kernel_rfl) ⟨p0, p1⟩ (fun hS0 => ?_)
         refine tkH 0 158 (.slice (some ⟨b, off, none⟩) np pc) rfl rfl (by kernel_rfl) (fun _ _ _ _ _ h => h) (.inl ⟨by rfl, fun w' hSw => (by go_simp)⟩) (by assumption) ?_
         try simp only [put9, List.set]
         refine tkH 1 159 (.int .i64 (k : Int)) rfl rfl (by kernel_rfl) (fun _ _ _ _ _ h => h) (.inl ⟨by rfl, fun w' hSw => (by go_simp)⟩) (by assumption) ?_
         try simp only [put9, List.set]
         refine tkH 2 160 (.pointer (some ⟨b, off + k * 2, none⟩)) rfl rfl (by kernel_rfl) (fun _ _ _ _ _ h => h) (.inl ⟨by rfl, fun w' hSw => (by go_simp)⟩) (by assumption) ?_
         try simp only [put9, List.set]
         refine tkH 3 161 (.pointer (some ⟨b, off + k * 2, none⟩)) rfl rfl (by kernel_rfl) (fun _ _ _ _ _ h => h) (.inl ⟨by rfl, fun w' hSw => (by go_simp)⟩) (by assumption) ?_
         try simp only [put9, List.set]
         refine tkH 4 162 (.int .i64 (i : Int)) rfl rfl (by kernel_rfl) (fun _ _ _ _ _ h => h) (.inl ⟨by rfl, fun w' hSw => (by obtain ⟨g0, g1⟩ := hSw; go_simp)⟩) (by assumption) ?_
         try simp only [put9, List.set]
         refine tkH 5 163 (.slice (some ⟨b, off, none⟩) np pc) rfl rfl (by kernel_rfl) (fun _ _ _ _ _ h => h) (.inl ⟨by rfl, fun w' hSw => (by go_simp)⟩) (by assumption) ?_
         try simp only [put9, List.set]
         refine tkH 6 164 (.int .i64 (k : Int)) rfl rfl (by kernel_rfl) (fun _ _ _ _ _ h => h) (.inl ⟨by rfl, fun w' hSw => (by go_simp)⟩) (by assumption) ?_
         try simp only [put9, List.set]
         refine tkH 7 165 (.pointer (some ⟨b, off + k * 2, none⟩)) rfl rfl (by kernel_rfl) (fun _ _ _ _ _ h => h) (.inl ⟨by rfl, fun w' hSw => (by go_simp)⟩) (by assumption) ?_
         try simp only [put9, List.set]
         refine tkH 8 166 (.pointer (some ⟨b, off + k * 2 + 1, none⟩)) rfl rfl (by kernel_rfl) (fun _ _ _ _ _ h => h) (.inl ⟨by rfl, fun w' hSw => (by go_simp)⟩) (by assumption) ?_
         try simp only [put9, List.set]
         refine tkH 9 167 (.int .i64 (j : Int)) rfl rfl (by kernel_rfl) (fun _ _ _ _ _ h => h) (.inl ⟨by rfl, fun w' hSw => (by obtain ⟨g0, g1⟩ := hSw; go_simp)⟩) (by assumption) ?_
         try simp only [put9, List.set]
         refine tkH 10 17 (.int .i64 (i : Int)) rfl rfl (by kernel_rfl) (fun _ _ _ _ _ h => h) (.inl ⟨by rfl, fun w' hSw => (by go_simp)⟩) (by assumption) ?_
         try simp only [put9, List.set]
         refine tkH 11 18 (.int .i64 (j : Int)) rfl rfl (by kernel_rfl) (fun _ _ _ _ _ h => h) (.inl ⟨by rfl, fun w' hSw => (by go_simp)⟩) (by assumption) ?_
         try simp only [put9, List.set]
         refine wpAnyH_done (by kernel_rfl) ?_ _
         clear hS0 p0 p1
         replace hJS := hJS.drew
         replace hB := hB.drew
         generalize wr.drew = w9 at hJS hB ⊢
         go_upto_region 33 with fail
         have hK9 := HMK.out _ hB
         refine r33 (fun _ _ _ _ _ h => h) z5 z6 hK9.1 hK9.2.1 hK9.2.2.1 hK9.2.2.2 ?_
         intros
         clear hK9
         replace hJS := hJS.drew
         replace hB := hB.drew
         generalize w9.drew = w8 at hJS hB ⊢
         by_cases he : emB X0 = emB Y
         rotate_left
         ·
          rw [if_neg he] at hw
          have hR := HBN.out hw.symm
          subst hR
          have q5 : (emB X0 != emB Y) = true := by rw [bne_iff_ne]; exact he
          rw [q5]
          clear hw he
          have hbe := hb3.trans (hB.mono hb3.size)
          have hZe := hZ3.below hB hZ3.lt
          have f0 := hZe.f 0
          have f1 := hZe.f 1
          have f2 := hZe.f 2
          have g0 := hZe.c0
          have g1 := hZe.c1
          have g2 := hZe.c2
          go_upto_region 34 with fail
          repeat go_step
          exact bodyPost_st3 rfl rfl rfl rfl (put3 hZe) rfl (JoP.fail hbe (by omega))
         rw [if_pos he] at hw
         have q5 : (emB X0 != emB Y) = false := by rw [he]; simp
         rw [q5]
         clear he q5
         rcases ncmpLt (Num.nv Y) (Num.nv X) with ⟨t1, hz⟩ | ⟨t1, hz⟩
         ·
          have HC : Hid (∀ w, Calls Tryz.prog 47 #[.string Y, .string X] w fun e w' => ∃ z : Int, e = .returned (.int .i64 z) ∧ decide (z < 0) = true ∧ Below w.heap.size w w') := fun w => (rcmpL hNy hNx hz w).mono fun e w' ⟨g1, g2⟩ => ⟨_, g1, by decide, g2⟩
          have hm : mnB X Y = Y := by unfold mnB; rw [if_pos t1]
          rw [hm] at hw HVs hls
          have HW := Lib.hid hw
          clear hw hm t1 hz
          go_upto_region 35 with fail
          have k1 := hJS.o.c1
          have kx := hJS.cellV z9
          rw [HXX.out] at kx
          refine r35 (fun _ _ _ _ _ h => h) z5 z6 (HMK.out _ hB).2.1 (HMK.out _ hB).2.2.2 k1 kx HC ?_
          intro W1 _ _ _ _ _ _ _ _ _ _ _ _ _ bn
          clear k1 kx
          replace hJS := hJS.below bn
          replace hB := hB.trans (bn.mono hB.size)
          clear bn
          go_upto_region 36 with fail
          have k1 := hJS.o.c1
          have kx := hJS.cellV z9
          rw [HXX.out] at kx
          have kf := hJS.frzV i
          have n1 : w.heap.size + 1 ≠ g := fun e => by have h1 := World.block_lt_of_cell? w3 _ y1; have h2 := hJS.geV; simp only at h1; omega
          have n2 : bu ≠ g := fun e => by have h1 := World.block_lt_of_cell? w3 _ (HMK.out _ (Below.refl _ w3)).2.2.2; have h2 := hJS.geV; simp only at h1; omega
          have n3 : p ≠ g := fun e => by
           obtain ⟨_, cur, h2⟩ := own_ge hJS.v g rfl
           have h3 : W1.heap[p]? = some (.cells #[gv, .slice (some ⟨g, 0, none⟩) na cc, qv] 49 (0, 0)) := hJS.o
           rw [e, h2] at h3
           injection h3 with h3
           injection h3 with _ h3 _
           exact absurd h3 (by decide)
          refine r36 (fun _ _ _ _ _ h => h) z5 z6 (HMK.out _ hB).2.1 (HMK.out _ hB).2.2.2 k1 kx kf n1 n2 n3 ?_
          intros
          have hJ3 := HST.out _ hJS.drew
          have hB3 := HBA.out _ hB.drew (.string Y)
          clear hJS hB k1 kx kf n1 n2 n3
          generalize World.setCell _ _ _ = w7 at hJ3 hB3 ⊢
          go_wp2_with fail
          exact ⟨⟨k + 1, _, by omega, by go_num, HW, hls, HVs, hJ3, hB3⟩, by simp [intOf]; omega⟩
         ·
          have HC : Hid (∀ w, Calls Tryz.prog 47 #[.string Y, .string X] w fun e w' => ∃ z : Int, e = .returned (.int .i64 z) ∧ decide (z < 0) = false ∧ Below w.heap.size w w') := fun w => by
           rcases hz with hz | hz <;> exact (rcmpL hNy hNx hz w).mono fun e w' ⟨g1, g2⟩ => ⟨_, g1, by decide, g2⟩
          have hm : mnB X Y = X := by unfold mnB; rw [if_neg t1]
          rw [hm, hself] at hw HVs
          have HW := Lib.hid hw
          clear hw hm t1 hz HBA HST
          go_upto_region 35 with fail
          have k1 := hJS.o.c1
          have kx := hJS.cellV z9
          rw [HXX.out] at kx
          refine r35 (fun _ _ _ _ _ h => h) z5 z6 (HMK.out _ hB).2.1 (HMK.out _ hB).2.2.2 k1 kx HC ?_
          intro W1 _ _ _ _ _ _ _ _ _ _ _ _ _ bn
          clear k1 kx
          replace hJS := hJS.below bn
          replace hB := hB.trans (bn.mono hB.size)
          go_wp2_with fail
          exact ⟨⟨k + 1, _, by omega, by go_num, HW, hVl, HVs, hJS, hB⟩, by simp [intOf]; omega⟩
        ·
         obtain rfl : np = k := by omega
         have hw := hH.out
         rw [List.drop_of_length_le (by rw [HNP.out]; omega)] at hw
         have hR := HBS.out VV hw.symm
         obtain ⟨FJ, hFJ⟩ : ∃ t, flJ V' 0 J VV = t := ⟨_, rfl⟩
         have hfo := flJ_ok V' 0 J VV (by rw [HM.out, hJl]; omega) (fun i h => by omega) (by rw [hVl]; exact hJo)
         rw [hFJ] at hR hfo
         rw [HM.out, hVl, hJl] at hfo
         have HFO := Lib.hid (And.intro hfo HVm.out)
         have H7 : Hid (flJ (V'.drop 0) 0 J VV = FJ) := hFJ
         clear hw hH hFJ hfo HBN HBS HVm
         have hVl7 : VV.length ≤ na := by omega
         go_wp2_with fail
         rename (∀ (a : Act) (w : World), _ → _) => hkn
         revert hkn
         repeat (rename (∀ (a : Act) (w : World), _ → _) => hkn; clear hkn)
         repeat (rename (Exit → Act → World → Prop) => hqn; clear hqn)
         intro hkn
         go_loopw [19] (fun v19 wr => ∃ (k : Nat) (JJ : List Int) (VW : List ByteArray) (vw : Value), k ≤ m ∧ v19 = .int .i64 (k : Int) ∧ Hid (flJ (V'.drop k) k JJ VW = FJ) ∧ JJ.length = m ∧ VW.length ≤ na + k ∧ JS w.heap.size w3.heap.size wr p gv vw qv gv vw qv (G ++ G') VW Q w3.heap.size JJ ∧ Below w3.heap.size w3 wr) (fun v19 _ => m - (intOf v19).toNat)
         case atStart => exact ⟨0, J, VV, vv, by omega, rfl, H7, hJl, hVl7, hJS, hB⟩
         case round =>
          clear H7 hJS hB hVl hVl7 hJl hJo
          obtain ⟨k, JJ, VW, vw, hk, rfl, hH, hJl, hVl, hJS, hB⟩ := hrel
          have e2 := cells_keepL hB (Nat.le_refl _) _ _ y1
          by_cases hlt : k < m
          ·
           have hkV : k < V'.length := by rw [HM.out]; exact hlt
           have HMV' := Lib.hid (fun w' (hb' : Below w3.heap.size w3 w') => (HV'.out.keepL (cells_keepL hb' (Nat.le_refl _))) k hkV)
           obtain ⟨bu, ou, hvb, v1⟩ := (HV'.out.keepL (cells_keepL hB (Nat.le_refl _))) k hkV
           have HMK : Hid (∀ w', Below w3.heap.size w3 w' → w'.cell? ⟨w.heap.size + 1, 1, none⟩ = some (.slice (some ⟨bu, ou, none⟩) m vc') ∧ w'.cell? ⟨bu, ou + k, none⟩ = some (.string V'[k])) := fun w' hb' => by
            obtain ⟨_, _, h3, h4⟩ := HMV'.out w' hb'
            rw [hvb] at h3
            injection h3 with h3
            injection h3 with h3 h3' _
            subst h3 h3'
            exact ⟨by rw [← hvb]; exact cells_keepL hb' (Nat.le_refl _) _ _ y1, h4⟩
           subst hvb
           clear HMV' v1
           have hw := hH.out
           rw [List.drop_eq_getElem_cons hkV, flJ] at hw
           generalize V'[k] = x at hw HMK
           obtain ⟨ao, cc, hvv, _⟩ := hJS.vlen
           subst hvv
           obtain ⟨n7, hn7⟩ : ∃ n, VW.length = n := ⟨_, rfl⟩
           rw [hn7] at hw hVl hJS
           have hc0 := hJS.cellJ (show k < JJ.length by omega)
           have hf0 := hJS.frzJ k
           have k1 := hJS.o.c1
           have hJ3 := hJS.setJ (show k < JJ.length by omega) (n7 : Int)
           have hB3 := hB.setCell (p := ⟨w3.heap.size, k, none⟩) (Nat.le_refl _) (.int .i64 (n7 : Int))
           have hls : (JJ.set k (n7 : Int)).length = m := by rw [List.length_set]; exact hJl
           have HN7 := Lib.hid hn7
           generalize JJ.getD k 0 = z at hc0 hw
           clear hkV hH
           by_cases tz : z < 0
           ·
            rw [if_pos tz] at hw
            have q1 : decide (z < 0) = true := decide_eq_true tz
            have HW := Lib.hid hw
            have hlw : (VW ++ [x]).length ≤ na + (k + 1) := by rw [List.length_append, hn7, List.length_singleton]; omega
            obtain ⟨i2, hy, hy0, hy1, hy2⟩ := info_parts info_var
            clear hw hn7 hJS hB
            go_upto_region 42 with fail
            generalize hw9 : World.setCell _ _ _ = w9 at hJ3 hB3 ⊢
            clear hw9 hc0 hf0 k1 e2
            refine wp_region_held_drew (S := (fun w' => w'.cell? ⟨w.heap.size + 1, 1, none⟩ = some (.slice (some ⟨bu, ou, none⟩) m vc') ∧ w'.cell? ⟨bu, ou + k, none⟩ = some (.string x))) (by kernel_rfl) (HMK.out _ hB3.drew) (fun hS0 => ?_)
            refine tkH 0 227 (.pointer (some ⟨p, 1, none⟩)) rfl rfl (by kernel_rfl) (fun _ _ _ _ _ h => h) (.inl ⟨by rfl, fun w' hSw => (by go_simp)⟩) (by assumption) ?_
            try simp only [put9, List.set]
            refine tkH 2 229 (.pointer (some ⟨w.heap.size + 1, 1, none⟩)) rfl rfl (by kernel_rfl) (fun _ _ _ _ _ h => h) (.inl ⟨by rfl, fun w' hSw => (by go_simp)⟩) (by assumption) ?_
            try simp only [put9, List.set]
            refine tkH 3 230 (.slice (some ⟨bu, ou, none⟩) m vc') rfl rfl (by kernel_rfl) (fun _ _ _ _ _ h => h) (.inl ⟨by rfl, fun w' hSw => (by obtain ⟨g0, g1⟩ := hSw; go_simp)⟩) (by assumption) ?_
            try simp only [put9, List.set]
            refine tkH 4 231 (.int .i64 (k : Int)) rfl rfl (by kernel_rfl) (fun _ _ _ _ _ h => h) (.inl ⟨by rfl, fun w' hSw => (by go_simp)⟩) (by assumption) ?_
            try simp only [put9, List.set]
            refine tkH 5 232 (.pointer (some ⟨bu, ou + k, none⟩)) rfl rfl (by kernel_rfl) (fun _ _ _ _ _ h => h) (.inl ⟨by rfl, fun w' hSw => (by go_simp)⟩) (by assumption) ?_
            try simp only [put9, List.set]
            refine tkH 6 233 (.agg #[.string x]) rfl rfl (by kernel_rfl) (fun _ _ _ _ _ h => h) (.inl ⟨by rfl, fun w' hSw => (by obtain ⟨g0, g1⟩ := hSw; go_simp)⟩) (by assumption) ?_
            try simp only [put9, List.set]
            replace hJ3 := hJ3.drew
            replace hB3 := hB3.drew
            generalize w9.drew = W0 at hS0 hJ3 hB3 ⊢
            refine wpAnyH_ready (rs := [1, 7]) (by kernel_rfl) (by simp) ?_
            refine AllReadyH.cons rfl (fun K hK => ?_) (AllReadyH.cons rfl (fun K hK => ?_) AllReadyH.nil)
            ·
             rw [if_pos (by rfl)]
             have hl := hJ3.o.c1
             go_simp
             refine hK.out _ _ (HMK.out _ hB3) (fun hT => ?_)
             clear hK hT hl
             try simp only [put9, List.set]
             refine wpAnyH_ready (rs := [7]) (by kernel_rfl) (by simp) ?_
             refine AllReadyH.cons rfl (fun K hK => ?_) AllReadyH.nil
             rw [if_pos (by rfl)]
             go_simp
             have hN := heap_alloc_new W0 (.cells #[.string x] 40)
             have hJ4 := hJ3.alloc (.cells #[.string x] 40)
             have hB4 := hB3.alloc hB3.size (.cells #[.string x] 40)
             have HNC : Hid ((W0.alloc (.cells #[.string x] 40)).cell? ⟨W0.heap.size, 0, none⟩ = some (.string x)) := by show _ = _; rw [Lib.cell_of_heap hN]; rfl
             refine hK.out _ _ (HMK.out _ hB4) (fun hT => ?_)
             clear hK hT hN
             try simp only [put9, List.set]
             generalize W0.heap.size = r at HNC ⊢
             generalize hw : World.alloc W0 _ = W1 at HNC hJ4 hB4 ⊢
             clear hw
             refine wpAnyH_ready (rs := [8]) (by kernel_rfl) (by simp) ?_
             refine AllReadyH.cons rfl (fun K hK => ?_) AllReadyH.nil
             rw [if_pos (by rfl)]
             have hov := hJ4.v
             rw [HN7.out] at hov
             refine wp_append_own _ (.tmp 228) (.tmp 234) 41 (by rfl) w3.heap.size 40 i2 (.agg #[.string ⟨#[]⟩]) 1 16 Tryz.underlying41 hy hy0 hy1 hy2 rfl (by decide) (.slice ao n7 cc) n7 (VW.map Value.string) (by rfl) hov ⟨r, 0, none⟩ 1 1 [.string x] (by rfl) rfl (oneL HNC.out) (by simp [Value.oneCell']) (by unfold maxLen; omega) (by omega) hB4.size ?_
             intro v9 W2 hown hgrow _
             obtain ⟨ao9, cc9, rfl⟩ := own_slice hown
             have hJ5 := hJ4.appV (xs := [x]) hgrow hown
             have hB5 := hB4.grown hgrow hB4.size (fun q e => (hJ4.tyV q e).1)
             refine hK.out _ _ (HMK.out _ hB5) (fun hT => ?_)
             clear hK hT hov hown hgrow
             try simp only [put9, List.set]
             have hT := HMK.out _ hB5
             refine tkH 9 236 (.pointer (some ⟨p, 1, none⟩)) rfl rfl (by kernel_rfl) (fun _ _ _ _ _ h => h) (.inl ⟨by rfl, fun w' hSw => (by go_simp)⟩) (by assumption) ?_
             try simp only [put9, List.set]
             clear hT
             have k3 := hJ5.o.c1
             have k4 := hJ5.o.f 1
             refine wpAnyH_ready (rs := [10]) (by kernel_rfl) (by simp) ?_
             refine AllReadyH.cons rfl (fun K hK => ?_) AllReadyH.nil
             rw [if_pos (by rfl)]
             go_simp
             have hJ6 := hJ5.set1 (.slice ao9 (n7 + 1) cc9)
             have hB6 := hB5.setCell (p := ⟨p, 1, none⟩) hJ5.kp (.slice ao9 (n7 + 1) cc9)
             refine hK.out _ _ (HMK.out _ hB6) (fun hT => ?_)
             clear hK hT k3 k4
             try simp only [put9, List.set]
             refine wpAnyH_done (by kernel_rfl) ?_ _
             go_wp2_with fail
             exact ⟨⟨k + 1, _, _, _, by omega, by go_num, HW, hls, hlw, hJ6, hB6⟩, by simp [intOf]; omega⟩
            ·
             rw [if_pos (by rfl)]
             go_simp
             have hN := heap_alloc_new W0 (.cells #[.string x] 40)
             have hJ4 := hJ3.alloc (.cells #[.string x] 40)
             have hB4 := hB3.alloc hB3.size (.cells #[.string x] 40)
             have HNC : Hid ((W0.alloc (.cells #[.string x] 40)).cell? ⟨W0.heap.size, 0, none⟩ = some (.string x)) := by show _ = _; rw [Lib.cell_of_heap hN]; rfl
             refine hK.out _ _ (HMK.out _ hB4) (fun hT => ?_)
             clear hK hT hN
             try simp only [put9, List.set]
             generalize W0.heap.size = r at HNC ⊢
             generalize hw : World.alloc W0 _ = W1 at HNC hJ4 hB4 ⊢
             clear hw
             refine wpAnyH_ready (rs := [1]) (by kernel_rfl) (by simp) ?_
             refine AllReadyH.cons rfl (fun K hK => ?_) AllReadyH.nil
             rw [if_pos (by rfl)]
             have hl := hJ4.o.c1
             go_simp
             refine hK.out _ _ (HMK.out _ hB4) (fun hT => ?_)
             clear hK hT hl
             try simp only [put9, List.set]
             refine wpAnyH_ready (rs := [8]) (by kernel_rfl) (by simp) ?_
             refine AllReadyH.cons rfl (fun K hK => ?_) AllReadyH.nil
             rw [if_pos (by rfl)]
             have hov := hJ4.v
             rw [HN7.out] at hov
             refine wp_append_own _ (.tmp 228) (.tmp 234) 41 (by rfl) w3.heap.size 40 i2 (.agg #[.string ⟨#[]⟩]) 1 16 Tryz.underlying41 hy hy0 hy1 hy2 rfl (by decide) (.slice ao n7 cc) n7 (VW.map Value.string) (by rfl) hov ⟨r, 0, none⟩ 1 1 [.string x] (by rfl) rfl (oneL HNC.out) (by simp [Value.oneCell']) (by unfold maxLen; omega) (by omega) hB4.size ?_
             intro v9 W2 hown hgrow _
             obtain ⟨ao9, cc9, rfl⟩ := own_slice hown
             have hJ5 := hJ4.appV (xs := [x]) hgrow hown
             have hB5 := hB4.grown hgrow hB4.size (fun q e => (hJ4.tyV q e).1)
             refine hK.out _ _ (HMK.out _ hB5) (fun hT => ?_)
             clear hK hT hov hown hgrow
             try simp only [put9, List.set]
             have hT := HMK.out _ hB5
             refine tkH 9 236 (.pointer (some ⟨p, 1, none⟩)) rfl rfl (by kernel_rfl) (fun _ _ _ _ _ h => h) (.inl ⟨by rfl, fun w' hSw => (by go_simp)⟩) (by assumption) ?_
             try simp only [put9, List.set]
             clear hT
             have k3 := hJ5.o.c1
             have k4 := hJ5.o.f 1
             refine wpAnyH_ready (rs := [10]) (by kernel_rfl) (by simp) ?_
             refine AllReadyH.cons rfl (fun K hK => ?_) AllReadyH.nil
             rw [if_pos (by rfl)]
             go_simp
             have hJ6 := hJ5.set1 (.slice ao9 (n7 + 1) cc9)
             have hB6 := hB5.setCell (p := ⟨p, 1, none⟩) hJ5.kp (.slice ao9 (n7 + 1) cc9)
             refine hK.out _ _ (HMK.out _ hB6) (fun hT => ?_)
             clear hK hT k3 k4
             try simp only [put9, List.set]
             refine wpAnyH_done (by kernel_rfl) ?_ _
             go_wp2_with fail
             exact ⟨⟨k + 1, _, _, _, by omega, by go_num, HW, hls, hlw, hJ6, hB6⟩, by simp [intOf]; omega⟩
           ·
            rw [if_neg tz] at hw
            have q1 : decide (z < 0) = false := decide_eq_false tz
            have HW := Lib.hid hw
            clear hw hJ3 hB3
            go_wp2_with fail
            exact ⟨⟨k + 1, _, _, _, by omega, by go_num, HW, hJl, by rw [hn7]; omega, hJS, hB⟩, by simp [intOf]; omega⟩
          ·
           obtain rfl : m = k := by omega
           have hw := hH.out
           rw [List.drop_of_length_le (by rw [HM.out]; omega)] at hw
           have hFJ : FJ = (JJ, VW) := hw.symm
           subst hFJ
           clear hw hH
           obtain ⟨hf1, hf2, hf3, hf4, hf5⟩ := HFO.out.1
           have HRE := Lib.hid hR
           have HQ1 : Hid (Q.map eqp = SA.Q) := HPA.out.2.2.symm
           have H8 : Hid (Q.map eqp = SA.Q ++ (Q'.take 0).map (fun q => jQ ng JJ (eqp q))) := by
            show _ = _
            rw [HQ1.out]; simp
           have hQl8 : Q.length = nq + 0 := HNQ.out
           have HQl8 := Lib.hid hQl8
           clear hR hf1 hf2 hf3 hf4 hf5 hQl8
           go_wp2_with fail
           clear HQ1 e2
           obtain ⟨i4, hy, hy0, hy1, hy2⟩ := info_parts info_eq4
           have HI4 := Lib.hid (And.intro hy (And.intro hy0 (And.intro hy1 hy2)))
           clear hy hy0 hy1 hy2
           rename (∀ (a : Act) (w : World), _ → _) => hkn
           revert hkn
           repeat (rename (∀ (a : Act) (w : World), _ → _) => hkn; clear hkn)
           repeat (rename (Exit → Act → World → Prop) => hqn; clear hqn)
           intro hkn
           go_loopw [20] (fun v20 wr => ∃ (k : Nat) (Qs : List EqR) (qw : Value), k ≤ mq ∧ v20 = .int .i64 (k : Int) ∧ Hid (Qs.map eqp = SA.Q ++ (Q'.take k).map (fun q => jQ ng JJ (eqp q))) ∧ Hid (Qs.length = nq + k) ∧ JS w.heap.size w3.heap.size wr p gv vw qw gv vw qw (G ++ G') VW Qs w3.heap.size JJ ∧ Below w3.heap.size w3 wr) (fun v20 _ => mq - (intOf v20).toNat)
           case atStart => exact ⟨0, Q, qv, by omega, rfl, H8, HQl8, hJS, hB⟩
           case round =>
            clear H8 HQl8 hJS hB
            obtain ⟨k, Qs, qw, hk, rfl, hQm, hQl, hJS, hB⟩ := hrel
            have e2 := cells_keepL hB (Nat.le_refl _) _ _ y2
            by_cases hlt : k < mq
            ·
             have hkQ : k < Q'.length := by rw [HMQ.out]; exact hlt
             obtain ⟨qb, qo, hqa, c0, c1, c2, hT⟩ := (HQ'.out.keep (cells_keepL hB (Nat.le_refl _))) k hkQ
             have HTW := Lib.hid (fun w' (hb' : Below w3.heap.size w3 w') => (HQ'.out.keep (cells_keepL hb' (Nat.le_refl _))) k hkQ)
             obtain ⟨hq1, hq2, hq3⟩ := HFQ'.out _ (List.getElem_mem hkQ)
             have HQX := Lib.hid (fun x (hx : eqp x = jQ ng JJ (eqp Q'[k])) => takeJ hQm.out hkQ hx)
             have HMK : Hid (∀ w', Below w3.heap.size w3 w' → w'.cell? ⟨w.heap.size + 1, 2, none⟩ = some (.slice (some ⟨qb, qo, none⟩) mq qc') ∧ w'.cell? ⟨w.heap.size, 0, none⟩ = some (.slice ga ng gc) ∧ w'.cell? ⟨qb, qo + k * 3, none⟩ = some (.int .i64 Q'[k].1) ∧ w'.cell? ⟨qb, qo + k * 3 + 1, none⟩ = some (.string Q'[k].2.1)) := fun w' hb' => by
              obtain ⟨_, _, h1, h2, h3, _⟩ := HTW.out w' hb'
              rw [hqa] at h1
              injection h1 with h1
              injection h1 with h1 h1' _
              subst h1 h1'
              exact ⟨by rw [← hqa]; exact cells_keepL hb' (Nat.le_refl _) _ _ y2, cells_keepL hb' (Nat.le_refl _) _ _ x0, h2, h3⟩
             have HM2 : Hid (∀ w', Below w3.heap.size w3 w' → w'.cell? ⟨qb, qo + k * 3 + 2, none⟩ = some (.slice Q'[k].2.2.1 Q'[k].2.2.2.2.length Q'[k].2.2.2.1) ∧ TSl w' Q'[k].2.2.1 Q'[k].2.2.2.2) := fun w' hb' => by
              obtain ⟨_, _, h1, h2, h3, h4, h5⟩ := HTW.out w' hb'
              rw [hqa] at h1
              injection h1 with h1
              injection h1 with h1 h1' _
              subst h1 h1'
              exact ⟨h4, h5⟩
             subst hqa
             clear HTW c0 c1 c2 hT
             generalize Q'[k] = x at hq1 hq2 hq3 HQX HMK HM2
             obtain ⟨i, T, ta, tc, L⟩ := x
             simp only at hq1 hq2 hq3 HMK HM2
             obtain ⟨nt, hnt⟩ : ∃ n, L.length = n := ⟨_, rfl⟩
             rw [hnt] at hq1 HM2
             have hnt64 := hq1
             have HVR := Lib.hid hq3
             have HNT := Lib.hid hnt
             obtain ⟨wo, hwo⟩ : ∃ wo : World, wo = wr := ⟨_, rfl⟩
             have HJO : Hid (JS w.heap.size w3.heap.size wo p gv vw qw gv vw qw (G ++ G') VW Qs w3.heap.size JJ) := by rw [hwo]; exact hJS
             have HBO : Hid (Below w3.heap.size w3 wo) := by rw [hwo]; exact hB
             have HWO : Hid (wo = wr) := hwo
             have HWR := hq2
             clear hkQ hnt hq1 hq2 hq3 hwo
             go_upto_region 46 with fail
             clear e2
             refine wp_region_held_drew (S := (fun w' => w'.cell? ⟨w.heap.size + 1, 2, none⟩ = some (.slice (some ⟨qb, qo, none⟩) mq qc') ∧ w'.cell? ⟨w.heap.size, 0, none⟩ = some (.slice ga ng gc) ∧ w'.cell? ⟨qb, qo + k * 3, none⟩ = some (.int .i64 i) ∧ w'.cell? ⟨qb, qo + k * 3 + 1, none⟩ = some (.string T))) (by kernel_rfl) (HMK.out _ hB.drew) (fun hS0 => ?_)
             refine tkH 0 244 (.pointer (some ⟨w.heap.size + 1, 2, none⟩)) rfl rfl (by kernel_rfl) (fun _ _ _ _ _ h => h) (.inl ⟨by rfl, fun w' hSw => (by go_simp)⟩) (by assumption) ?_
             try simp only [put9, List.set]
             refine tkH 1 245 (.slice (some ⟨qb, qo, none⟩) mq qc') rfl rfl (by kernel_rfl) (fun _ _ _ _ _ h => h) (.inl ⟨by rfl, fun w' hSw => (by obtain ⟨g0, g1, g2, g3⟩ := hSw; go_simp)⟩) (by assumption) ?_
             try simp only [put9, List.set]
             refine tkH 2 246 (.int .i64 (k : Int)) rfl rfl (by kernel_rfl) (fun _ _ _ _ _ h => h) (.inl ⟨by rfl, fun w' hSw => (by go_simp)⟩) (by assumption) ?_
             try simp only [put9, List.set]
             refine tkH 3 247 (.pointer (some ⟨qb, qo + k * 3, none⟩)) rfl rfl (by kernel_rfl) (fun _ _ _ _ _ h => h) (.inl ⟨by rfl, fun w' hSw => (by go_simp)⟩) (by assumption) ?_
             try simp only [put9, List.set]
             refine tkH 4 248 (.pointer (some ⟨qb, qo + k * 3, none⟩)) rfl rfl (by kernel_rfl) (fun _ _ _ _ _ h => h) (.inl ⟨by rfl, fun w' hSw => (by go_simp)⟩) (by assumption) ?_
             try simp only [put9, List.set]
             refine tkH 5 249 (.int .i64 i) rfl rfl (by kernel_rfl) (fun _ _ _ _ _ h => h) (.inl ⟨by rfl, fun w' hSw => (by obtain ⟨g0, g1, g2, g3⟩ := hSw; go_simp)⟩) (by assumption) ?_
             try simp only [put9, List.set]
             refine tkH 6 250 (.pointer (some ⟨w.heap.size, 0, none⟩)) rfl rfl (by kernel_rfl) (fun _ _ _ _ _ h => h) (.inl ⟨by rfl, fun w' hSw => (by go_simp)⟩) (by assumption) ?_
             try simp only [put9, List.set]
             refine tkH 7 251 (.slice ga ng gc) rfl rfl (by kernel_rfl) (fun _ _ _ _ _ h => h) (.inl ⟨by rfl, fun w' hSw => (by obtain ⟨g0, g1, g2, g3⟩ := hSw; go_simp)⟩) (by assumption) ?_
             try simp only [put9, List.set]
             refine tkH 8 252 (.int .i64 (ng : Int)) rfl rfl (by kernel_rfl) (fun _ _ _ _ _ h => h) (.inl ⟨by rfl, fun w' hSw => (by go_simp)⟩) (by assumption) ?_
             try simp only [put9, List.set]
             refine tkH 9 253 (.int .i64 (i + (ng : Int))) rfl rfl (by kernel_rfl) (fun _ _ _ _ _ h => h) (.inl ⟨by rfl, fun w' hSw => (by go_simp)⟩) (by assumption) ?_
             try simp only [put9, List.set]
             refine tkH 10 254 (.pointer (some ⟨w.heap.size + 1, 2, none⟩)) rfl rfl (by kernel_rfl) (fun _ _ _ _ _ h => h) (.inl ⟨by rfl, fun w' hSw => (by go_simp)⟩) (by assumption) ?_
             try simp only [put9, List.set]
             refine tkH 11 255 (.slice (some ⟨qb, qo, none⟩) mq qc') rfl rfl (by kernel_rfl) (fun _ _ _ _ _ h => h) (.inl ⟨by rfl, fun w' hSw => (by obtain ⟨g0, g1, g2, g3⟩ := hSw; go_simp)⟩) (by assumption) ?_
             try simp only [put9, List.set]
             refine tkH 12 256 (.int .i64 (k : Int)) rfl rfl (by kernel_rfl) (fun _ _ _ _ _ h => h) (.inl ⟨by rfl, fun w' hSw => (by go_simp)⟩) (by assumption) ?_
             try simp only [put9, List.set]
             refine tkH 13 257 (.pointer (some ⟨qb, qo + k * 3, none⟩)) rfl rfl (by kernel_rfl) (fun _ _ _ _ _ h => h) (.inl ⟨by rfl, fun w' hSw => (by go_simp)⟩) (by assumption) ?_
             try simp only [put9, List.set]
             refine tkH 14 258 (.pointer (some ⟨qb, qo + k * 3 + 1, none⟩)) rfl rfl (by kernel_rfl) (fun _ _ _ _ _ h => h) (.inl ⟨by rfl, fun w' hSw => (by go_simp)⟩) (by assumption) ?_
             try simp only [put9, List.set]
             refine tkH 15 259 (.string T) rfl rfl (by kernel_rfl) (fun _ _ _ _ _ h => h) (.inl ⟨by rfl, fun w' hSw => (by obtain ⟨g0, g1, g2, g3⟩ := hSw; go_simp)⟩) (by assumption) ?_
             try simp only [put9, List.set]
             refine tkH 16 260 (.agg #[.int .i64 (i + (ng : Int)), .string T, .slice none 0 0]) rfl rfl (by kernel_rfl) (fun _ _ _ _ _ h => h) (.inl ⟨by rfl, fun w' hSw => (by go_simp)⟩) (by assumption) ?_
             try simp only [put9, List.set]
             replace hJS := hJS.drew
             replace hB := hB.drew
             generalize hW0 : wr.drew = W0 at hS0 hJS hB ⊢
             have HW0 : Hid (Below wo.heap.size wo W0) := by show Below _ _ _; rw [← hW0, HWO.out]; exact (Below.refl _ wr).drew
             clear hW0
             refine wpAnyH_ready (rs := [17]) (by kernel_rfl) (by simp) ?_
             refine AllReadyH.cons rfl (fun K hK => ?_) AllReadyH.nil
             rw [if_pos (by rfl)]
             go_simp
             have hQ0 := QB.new W0 0 ⟨#[]⟩ (.slice none 0 0)
             have bA := (Below.refl _ W0).alloc (Nat.le_refl _) (.cells #[.int .i64 0, .string ⟨#[]⟩, .slice none 0 0] 46)
             have hB1 := hB.alloc hB.size (.cells #[.int .i64 0, .string ⟨#[]⟩, .slice none 0 0] 46)
             refine hK.out _ _ (HMK.out _ hB1) (fun hT => ?_)
             clear hK hT
             try simp only [put9, List.set]
             have hr0 := hQ0.c0
             have hr1 := hQ0.c1
             have hr2 := hQ0.c2
             have hf0 := hQ0.f0
             have hf1 := hQ0.f1
             have hf2 := hQ0.f2
             refine wpAnyH_ready (rs := [18]) (by kernel_rfl) (by simp) ?_
             refine AllReadyH.cons rfl (fun K hK => ?_) AllReadyH.nil
             rw [if_pos (by rfl)]
             go_simp
             have hQ1 := QB.new W0 (i + (ng : Int)) T (.slice none 0 0)
             have bS := (Below.refl _ W0).alloc (Nat.le_refl _) (.cells #[.int .i64 (i + (ng : Int)), .string T, .slice none 0 0] 46)
             have hB2 := hB.alloc hB.size (.cells #[.int .i64 (i + (ng : Int)), .string T, .slice none 0 0] 46)
             refine hK.out _ _ (HMK.out _ hB2) (fun hT => ?_)
             clear hK hT hr0 hr1 hr2 hf0 hf1 hf2 hB1 bA hQ0 hS0
             try simp only [put9, List.set]
             refine wpAnyH_done (by kernel_rfl) ?_ _
             have hgr : wo.heap.size ≤ W0.heap.size := HW0.out.size
             replace bS := bS.mono hgr
             generalize W0.heap.size = r at hQ1 bS hB2 hgr ⊢
             generalize hw9 : World.alloc W0 _ = w9 at hQ1 bS hB2 ⊢
             clear hw9
             have HB9 : Hid (Below wo.heap.size wo w9) := HW0.out.trans bS
             clear hJS hB bS HWO
             have d2 := (HMK.out _ hB2).1
             have d3 := (HM2.out _ hB2).1
             go_upto_region 48 with fail
             have HQ9 := Lib.hid hQ1
             clear d2 d3 hB2 hQ1
             go_loopw [268] (fun v268 wr => ∃ (mm : Nat) (xo : Option Addr) (xc : Nat), mm ≤ nt ∧ v268 = .int .i64 (mm : Int) ∧ wr.ownsRow wo.heap.size 43 4 (.slice xo mm xc) mm (tcl ((L.take mm).map (clT JJ))) ∧ QB wr r (i + (ng : Int)) T (.slice xo mm xc) ∧ Below wo.heap.size wo wr) (fun v268 _ => nt - (intOf v268).toNat)
             case atStart => exact ⟨0, none, 0, by omega, rfl, by rw [List.take_zero]; exact World.ownsRow_nil _ _ _ _, HQ9.out, HB9.out⟩
             case round =>
              clear HQ9 HB9
              obtain ⟨mm, xo, xc, hm, rfl, hX0, hQ0, hb0⟩ := hrel
              by_cases hlm : mm < nt
              ·
               have hmL : mm < L.length := by rw [HNT.out]; exact hlm
               have hbw := HBO.out.trans (hb0.mono HBO.out.size)
               obtain ⟨tb, tof, rfl, t0, t1, t2, t3⟩ := ((HM2.out _ hbw).2) mm hmL
               obtain ⟨h, hh1, hh2⟩ := HVR.out _ (List.getElem_mem hmL)
               have htk : tcl ((L.take mm).map (clT JJ)) ++ [.string L[mm].1, .int .i64 (JJ.getD h 0), .bool L[mm].2.2.1, .string L[mm].2.2.2] = tcl ((L.take (mm + 1)).map (clT JJ)) := by
                rw [List.take_succ_eq_append_getElem hmL, List.map_append, tclApp]
                simp [tcl, clT, hh1]
               have HJC : Hid (∀ w', Below wo.heap.size wo w' → w'.cell? ⟨w3.heap.size, h, none⟩ = some (.int .i64 (JJ.getD h 0))) := fun w' hb' => (HJO.out.below hb').cellJ (by omega)
               generalize L[mm] = y at t0 t1 t2 t3 hh1 htk
               generalize JJ.getD h 0 = z at htk HJC
               obtain ⟨bs, vr, gg, E⟩ := y
               simp only at t0 t1 t2 t3 hh1 htk
               subst hh1
               have HTK := Lib.hid htk
               have hbA := (Below.refl _ wr).alloc (Nat.le_refl _) (.cells #[.string bs, .int .i64 (h : Int), .bool gg, .string E] 43)
               have hM0 := TmB.new wr bs (h : Int) gg E
               have hxq : some wr.heap.size ≠ (Value.slice xo mm xc).ownBlock := fun e => by
                obtain ⟨_, cur, h2⟩ := own_ge hX0 _ e.symm
                exact absurd (Array.getElem?_eq_some_iff.1 h2).1 (Nat.lt_irrefl _)
               have hxr : some r ≠ (Value.slice xo mm xc).ownBlock := fun e => by
                obtain ⟨_, cur, h2⟩ := own_ge hX0 _ e.symm
                have h3 : wr.heap[r]? = some (.cells #[.int .i64 (i + (ng : Int)), .string T, .slice xo mm xc] 46 (0, 0)) := hQ0
                rw [h2] at h3
                injection h3 with h3
                injection h3 with _ h3 _
                exact absurd h3 (by decide)
               have hqr : wr.heap.size ≠ r := fun e => by have := hQ0.lt; omega
               replace hQ0 := hQ0.below hbA hQ0.lt
               replace hX0 := own_keepL hbA hX0
               have hb9 := hb0.alloc hb0.size (.cells #[.string bs, .int .i64 (h : Int), .bool gg, .string E] 43)
               obtain ⟨i5, ht, ht0, ht1, ht2⟩ := info_parts info_tm
               clear hmL htk hbA
               go_upto_region 50 with fail
               clear t0 t1 t2 t3 hb0 hbw
               have hb0 := hb9
               clear hb9
               generalize wr.heap.size = q at hM0 hxq hqr ⊢
               generalize hw9 : World.alloc wr _ = w9 at hM0 hQ0 hX0 hb0 ⊢
               clear hw9
               refine wp_region_held_drew (S := (fun w' => w'.cell? ⟨q, 0, none⟩ = some (.string bs) ∧ w'.cell? ⟨q, 1, none⟩ = some (.int .i64 (h : Int)) ∧ w'.cell? ⟨q, 2, none⟩ = some (.bool gg) ∧ w'.cell? ⟨q, 3, none⟩ = some (.string E) ∧ w'.cell? ⟨w3.heap.size, h, none⟩ = some (.int .i64 z))) (by kernel_rfl) ⟨hM0.c0, hM0.c1, hM0.c2, hM0.c3, HJC.out _ hb0.drew⟩ (fun hS0 => ?_)
               refine tkH 0 272 (.pointer (some ⟨r, 2, none⟩)) rfl rfl (by kernel_rfl) (fun _ _ _ _ _ h => h) (.inl ⟨by rfl, fun w' hSw => (by go_simp)⟩) (by assumption) ?_
               try simp only [put9, List.set]
               refine tkH 2 274 (.pointer (some ⟨q, 0, none⟩)) rfl rfl (by kernel_rfl) (fun _ _ _ _ _ h => h) (.inl ⟨by rfl, fun w' hSw => (by go_simp)⟩) (by assumption) ?_
               try simp only [put9, List.set]
               refine tkH 3 275 (.string bs) rfl rfl (by kernel_rfl) (fun _ _ _ _ _ h => h) (.inl ⟨by rfl, fun w' hSw => (by obtain ⟨g0, g1, g2, g3, g4⟩ := hSw; go_simp)⟩) (by assumption) ?_
               try simp only [put9, List.set]
               refine tkH 4 276 (.slice (some ⟨w3.heap.size, 0, none⟩) m m) rfl rfl (by kernel_rfl) (fun _ _ _ _ _ h => h) (.inl ⟨by rfl, fun w' hSw => (by go_simp)⟩) (by assumption) ?_
               try simp only [put9, List.set]
               refine tkH 5 277 (.pointer (some ⟨q, 1, none⟩)) rfl rfl (by kernel_rfl) (fun _ _ _ _ _ h => h) (.inl ⟨by rfl, fun w' hSw => (by go_simp)⟩) (by assumption) ?_
               try simp only [put9, List.set]
               refine tkH 6 278 (.int .i64 (h : Int)) rfl rfl (by kernel_rfl) (fun _ _ _ _ _ h => h) (.inl ⟨by rfl, fun w' hSw => (by obtain ⟨g0, g1, g2, g3, g4⟩ := hSw; go_simp)⟩) (by assumption) ?_
               try simp only [put9, List.set]
               refine tkH 7 279 (.pointer (some ⟨w3.heap.size, h, none⟩)) rfl rfl (by kernel_rfl) (fun _ _ _ _ _ h => h) (.inl ⟨by rfl, fun w' hSw => (by go_simp)⟩) (by assumption) ?_
               try simp only [put9, List.set]
               refine tkH 8 280 (.int .i64 z) rfl rfl (by kernel_rfl) (fun _ _ _ _ _ h => h) (.inl ⟨by rfl, fun w' hSw => (by obtain ⟨g0, g1, g2, g3, g4⟩ := hSw; go_simp)⟩) (by assumption) ?_
               try simp only [put9, List.set]
               refine tkH 9 281 (.pointer (some ⟨q, 2, none⟩)) rfl rfl (by kernel_rfl) (fun _ _ _ _ _ h => h) (.inl ⟨by rfl, fun w' hSw => (by go_simp)⟩) (by assumption) ?_
               try simp only [put9, List.set]
               refine tkH 10 282 (.agg #[.bool gg, .string E]) rfl rfl (by kernel_rfl) (fun _ _ _ _ _ h => h) (.inl ⟨by rfl, fun w' hSw => (by obtain ⟨g0, g1, g2, g3, g4⟩ := hSw; go_simp)⟩) (by assumption) ?_
               try simp only [put9, List.set]
               refine tkH 11 283 (.agg #[.string bs, .int .i64 z, .bool gg, .string E]) rfl rfl (by kernel_rfl) (fun _ _ _ _ _ h => h) (.inl ⟨by rfl, fun w' hSw => (by go_simp)⟩) (by assumption) ?_
               try simp only [put9, List.set]
               have hM1 : TmB w9.drew q bs (h : Int) gg E := hM0
               have hQ1 : QB w9.drew r (i + (ng : Int)) T (.slice xo mm xc) := hQ0
               have hb1 := hb0.drew
               have hX1 := own_keepL ((Below.refl _ w9).drew) hX0
               clear hM0 hQ0 hb0 hX0
               generalize w9.drew = W0 at hS0 hM1 hQ1 hb1 hX1 ⊢
               refine wpAnyH_ready (rs := [1, 12]) (by kernel_rfl) (by simp) ?_
               refine AllReadyH.cons rfl (fun K hK => ?_) (AllReadyH.cons rfl (fun K hK => ?_) AllReadyH.nil)
               ·
                rw [if_pos (by rfl)]
                have hl := hQ1.c2
                go_simp
                refine hK.out _ _ ⟨hM1.c0, hM1.c1, hM1.c2, hM1.c3, HJC.out _ hb1⟩ (fun hT => ?_)
                clear hK hT hl
                try simp only [put9, List.set]
                refine wpAnyH_ready (rs := [12]) (by kernel_rfl) (by simp) ?_
                refine AllReadyH.cons rfl (fun K hK => ?_) AllReadyH.nil
                rw [if_pos (by rfl)]
                go_simp
                have bn := (Below.refl _ W0).alloc (Nat.le_refl _) (.cells #[.string bs, .int .i64 z, .bool gg, .string E] 43)
                have hN := TmB.new W0 bs z gg E
                have hM2 := hM1.below bn hM1.lt
                have hQ2 := hQ1.below bn hQ1.lt
                have hb2 := hb1.trans (bn.mono hb1.size)
                have hX2 := own_keepL bn hX1
                refine hK.out _ _ ⟨hM2.c0, hM2.c1, hM2.c2, hM2.c3, HJC.out _ hb2⟩ (fun hT => ?_)
                clear hK hT bn hM1 hQ1 hb1 hX1 hS0
                try simp only [put9, List.set]
                generalize W0.heap.size = r2 at hN ⊢
                generalize hw : World.alloc W0 _ = W1 at hN hM2 hQ2 hb2 hX2 ⊢
                clear hw
                refine wpAnyH_ready (rs := [13]) (by kernel_rfl) (by simp) ?_
                refine AllReadyH.cons rfl (fun K hK => ?_) AllReadyH.nil
                rw [if_pos (by rfl)]
                refine wp_append_own _ (.tmp 273) (.tmp 284) 44 (by rfl) wo.heap.size 43 i5 (.agg #[.string ⟨#[]⟩, .int .i64 0, .bool false, .string ⟨#[]⟩]) 4 48 Tryz.underlying44 ht ht0 ht1 ht2 rfl (by decide) (.slice xo mm xc) mm (tcl ((L.take mm).map (clT JJ))) (by rfl) hX2 ⟨r2, 0, none⟩ 1 1 [.string bs, .int .i64 z, .bool gg, .string E] (by rfl) rfl (fourL hN.c0 hN.c1 hN.c2 hN.c3) (by simp [Value.oneCell']) (by unfold maxLen; omega) (by omega) hb2.size ?_
                intro v9 W2 hown hgrow _
                rw [HTK.out] at hown
                obtain ⟨xo', xc', rfl⟩ := own_slice hown
                have hb3 := hb2.grown hgrow hb2.size (fun q e => (own_ge hX2 q e).1)
                have hM3 : TmB W2 q bs (h : Int) gg E := (hgrow.block q hM2.lt (fun e => hxq e)).trans hM2
                have hQ3 : QB W2 r (i + (ng : Int)) T (.slice xo mm xc) := (hgrow.block r hQ2.lt (fun e => hxr e)).trans hQ2
                refine hK.out _ _ ⟨hM3.c0, hM3.c1, hM3.c2, hM3.c3, HJC.out _ hb3⟩ (fun hT => ?_)
                clear hK hT hgrow hX2 hQ2 hM2 hb2
                try simp only [put9, List.set]
                have hT : W2.cell? ⟨q, 0, none⟩ = some (.string bs) ∧ W2.cell? ⟨q, 1, none⟩ = some (.int .i64 (h : Int)) ∧ W2.cell? ⟨q, 2, none⟩ = some (.bool gg) ∧ W2.cell? ⟨q, 3, none⟩ = some (.string E) ∧ W2.cell? ⟨w3.heap.size, h, none⟩ = some (.int .i64 z) := ⟨hM3.c0, hM3.c1, hM3.c2, hM3.c3, HJC.out _ hb3⟩
                refine tkH 14 286 (.pointer (some ⟨r, 2, none⟩)) rfl rfl (by kernel_rfl) (fun _ _ _ _ _ h => h) (.inl ⟨by rfl, fun w' hSw => (by go_simp)⟩) (by assumption) ?_
                try simp only [put9, List.set]
                clear hT
                have k3 := hQ3.c2
                have k4 := hQ3.f2
                refine wpAnyH_ready (rs := [15]) (by kernel_rfl) (by simp) ?_
                refine AllReadyH.cons rfl (fun K hK => ?_) AllReadyH.nil
                rw [if_pos (by rfl)]
                go_simp
                have hQ4 : QB (W2.setCell ⟨r, 2, none⟩ (.slice xo' (mm + 1) xc')) r (i + (ng : Int)) T (.slice xo' (mm + 1) xc') := put1 hQ3
                have hM4 : TmB (W2.setCell ⟨r, 2, none⟩ (.slice xo' (mm + 1) xc')) q bs (h : Int) gg E := (Below.heap_setCell _ _ _ q hqr).trans hM3
                have hb4 := hb3.setCell (p := ⟨r, 2, none⟩) hgr (.slice xo' (mm + 1) xc')
                have hX4 := (Chg.set W2 ⟨r, 2, none⟩ (.slice xo' (mm + 1) xc')).own (K := wo.heap.size) (t := 46) (fun c e => by injection e with e; subst e; exact ⟨hgr, _, hQ3⟩) hown (by decide)
                refine hK.out _ _ ⟨hM4.c0, hM4.c1, hM4.c2, hM4.c3, HJC.out _ hb4⟩ (fun hT => ?_)
                clear hK hT k3 k4 hM3 hQ3 hb3 hown hM4
                try simp only [put9, List.set]
                refine wpAnyH_done (by kernel_rfl) ?_ _
                go_wp2_with fail
                exact ⟨⟨mm + 1, _, _, by omega, by go_num, hX4, hQ4, hb4⟩, by simp [intOf]; omega⟩
               ·
                rw [if_pos (by rfl)]
                go_simp
                have bn := (Below.refl _ W0).alloc (Nat.le_refl _) (.cells #[.string bs, .int .i64 z, .bool gg, .string E] 43)
                have hN := TmB.new W0 bs z gg E
                have hM2 := hM1.below bn hM1.lt
                have hQ2 := hQ1.below bn hQ1.lt
                have hb2 := hb1.trans (bn.mono hb1.size)
                have hX2 := own_keepL bn hX1
                refine hK.out _ _ ⟨hM2.c0, hM2.c1, hM2.c2, hM2.c3, HJC.out _ hb2⟩ (fun hT => ?_)
                clear hK hT bn hM1 hQ1 hb1 hX1 hS0
                try simp only [put9, List.set]
                generalize W0.heap.size = r2 at hN ⊢
                generalize hw : World.alloc W0 _ = W1 at hN hM2 hQ2 hb2 hX2 ⊢
                clear hw
                refine wpAnyH_ready (rs := [1]) (by kernel_rfl) (by simp) ?_
                refine AllReadyH.cons rfl (fun K hK => ?_) AllReadyH.nil
                rw [if_pos (by rfl)]
                have hl := hQ2.c2
                go_simp
                refine hK.out _ _ ⟨hM2.c0, hM2.c1, hM2.c2, hM2.c3, HJC.out _ hb2⟩ (fun hT => ?_)
                clear hK hT hl
                try simp only [put9, List.set]
                refine wpAnyH_ready (rs := [13]) (by kernel_rfl) (by simp) ?_
                refine AllReadyH.cons rfl (fun K hK => ?_) AllReadyH.nil
                rw [if_pos (by rfl)]
                refine wp_append_own _ (.tmp 273) (.tmp 284) 44 (by rfl) wo.heap.size 43 i5 (.agg #[.string ⟨#[]⟩, .int .i64 0, .bool false, .string ⟨#[]⟩]) 4 48 Tryz.underlying44 ht ht0 ht1 ht2 rfl (by decide) (.slice xo mm xc) mm (tcl ((L.take mm).map (clT JJ))) (by rfl) hX2 ⟨r2, 0, none⟩ 1 1 [.string bs, .int .i64 z, .bool gg, .string E] (by rfl) rfl (fourL hN.c0 hN.c1 hN.c2 hN.c3) (by simp [Value.oneCell']) (by unfold maxLen; omega) (by omega) hb2.size ?_
                intro v9 W2 hown hgrow _
                rw [HTK.out] at hown
                obtain ⟨xo', xc', rfl⟩ := own_slice hown
                have hb3 := hb2.grown hgrow hb2.size (fun q e => (own_ge hX2 q e).1)
                have hM3 : TmB W2 q bs (h : Int) gg E := (hgrow.block q hM2.lt (fun e => hxq e)).trans hM2
                have hQ3 : QB W2 r (i + (ng : Int)) T (.slice xo mm xc) := (hgrow.block r hQ2.lt (fun e => hxr e)).trans hQ2
                refine hK.out _ _ ⟨hM3.c0, hM3.c1, hM3.c2, hM3.c3, HJC.out _ hb3⟩ (fun hT => ?_)
                clear hK hT hgrow hX2 hQ2 hM2 hb2
                try simp only [put9, List.set]
                have hT : W2.cell? ⟨q, 0, none⟩ = some (.string bs) ∧ W2.cell? ⟨q, 1, none⟩ = some (.int .i64 (h : Int)) ∧ W2.cell? ⟨q, 2, none⟩ = some (.bool gg) ∧ W2.cell? ⟨q, 3, none⟩ = some (.string E) ∧ W2.cell? ⟨w3.heap.size, h, none⟩ = some (.int .i64 z) := ⟨hM3.c0, hM3.c1, hM3.c2, hM3.c3, HJC.out _ hb3⟩
                refine tkH 14 286 (.pointer (some ⟨r, 2, none⟩)) rfl rfl (by kernel_rfl) (fun _ _ _ _ _ h => h) (.inl ⟨by rfl, fun w' hSw => (by go_simp)⟩) (by assumption) ?_
                try simp only [put9, List.set]
                clear hT
                have k3 := hQ3.c2
                have k4 := hQ3.f2
                refine wpAnyH_ready (rs := [15]) (by kernel_rfl) (by simp) ?_
                refine AllReadyH.cons rfl (fun K hK => ?_) AllReadyH.nil
                rw [if_pos (by rfl)]
                go_simp
                have hQ4 : QB (W2.setCell ⟨r, 2, none⟩ (.slice xo' (mm + 1) xc')) r (i + (ng : Int)) T (.slice xo' (mm + 1) xc') := put1 hQ3
                have hM4 : TmB (W2.setCell ⟨r, 2, none⟩ (.slice xo' (mm + 1) xc')) q bs (h : Int) gg E := (Below.heap_setCell _ _ _ q hqr).trans hM3
                have hb4 := hb3.setCell (p := ⟨r, 2, none⟩) hgr (.slice xo' (mm + 1) xc')
                have hX4 := (Chg.set W2 ⟨r, 2, none⟩ (.slice xo' (mm + 1) xc')).own (K := wo.heap.size) (t := 46) (fun c e => by injection e with e; subst e; exact ⟨hgr, _, hQ3⟩) hown (by decide)
                refine hK.out _ _ ⟨hM4.c0, hM4.c1, hM4.c2, hM4.c3, HJC.out _ hb4⟩ (fun hT => ?_)
                clear hK hT k3 k4 hM3 hQ3 hb3 hown hM4
                try simp only [put9, List.set]
                refine wpAnyH_done (by kernel_rfl) ?_ _
                go_wp2_with fail
                exact ⟨⟨mm + 1, _, _, by omega, by go_num, hX4, hQ4, hb4⟩, by simp [intOf]; omega⟩
              ·
               obtain rfl : nt = mm := by omega
               rw [List.take_of_length_le (by rw [HNT.out]; omega)] at hX0
               have hJ := HJO.out.below hb0
               have hB := HBO.out.trans (hb0.mono HBO.out.size)
               have bn := (Below.refl _ wr).alloc (Nat.le_refl _) (.cells #[.int .i64 (i + (ng : Int)), .string T, .slice xo nt xc] 46)
               have hN := QB.new wr (i + (ng : Int)) T (.slice xo nt xc)
               have hX1 := own_keepL bn hX0
               have HTA1 : Hid (TmAt (wr.alloc (.cells #[.int .i64 (i + (ng : Int)), .string T, .slice xo nt xc] 46)) w.heap.size xo (L.map (clT JJ))) := by
                obtain ⟨ao, c, e, h1⟩ := own_TSl hX1
                injection e with e _ _
                subst e
                exact ⟨h1, fun b off _ he => .inr (own_ge hX1 b (by rw [he]; rfl)).2⟩
               have HJ2 := Lib.hid (hJ.alloc (.cells #[.int .i64 (i + (ng : Int)), .string T, .slice xo nt xc] 46))
               have HB2 := Lib.hid (hB.alloc hB.size (.cells #[.int .i64 (i + (ng : Int)), .string T, .slice xo nt xc] 46))
               have hs2 := HB2.out.size
               have k1 := hJ.o.c2
               have k2 := hQ0.c0
               have k3 := hQ0.c1
               have k4 := hQ0.c2
               have hov := HJ2.out.q
               rw [hQl.out] at hov
               have HOV := Lib.hid hov
               have HN0 := Lib.hid hN
               have HLM : Hid ((L.map (clT JJ)).length = nt) := by show _ = _; rw [List.length_map]; exact HNT.out
               have HLE : Hid ((Qs ++ [((i + (ng : Int), T, xo, xc, L.map (clT JJ)) : EqR)]).length = nq + (k + 1)) := by show _ = _; rw [List.length_append, List.length_singleton, hQl.out]; omega
               obtain ⟨hy, hy0, hy1, hy2⟩ := HI4.out
               clear hJ hB bn hN hX1 hX0 hov hb0
               go_wp2_with (at_builtin; refine wpList_append_own _ rfl (.tmp 289) (.tmp 291) 47 rfl w3.heap.size 46 i4 (.agg #[.int .i64 0, .string ⟨#[]⟩, .slice none 0 0]) 3 48 Tryz.underlying47 hy hy0 hy1 hy2 rfl (by decide) qw (nq + k) (qcl Qs) rfl HOV.out ⟨wr.heap.size, 0, none⟩ 1 1 [.int .i64 (i + (ng : Int)), .string T, .slice xo nt xc] rfl rfl (threeL HN0.out.c0 HN0.out.c1 HN0.out.c2) (by simp [Value.oneCell']) (by unfold maxLen; omega) (by omega) hs2 ?_; intro v9 w8 hown hgrow _; rw [show [Value.int .i64 (i + (ng : Int)), .string T, .slice xo nt xc] = qcl [(i + (ng : Int), T, xo, xc, L.map (clT JJ))] by simp [qcl, HNT.out]] at hown; obtain ⟨qo9, qc9, rfl⟩ := own_slice hown; have hJ5 := HJ2.out.appQ (xs := [(i + (ng : Int), T, xo, xc, L.map (clT JJ))]) hgrow hown (fun x hx => by rw [List.mem_singleton] at hx; subst hx; exact HTA1.out); have hB5 := HB2.out.grown hgrow hs2 (fun q e => (HJ2.out.tyQ q e).1); have k8 := hJ5.o.c2; have k9 := hJ5.o.f 2; have hJ6 := hJ5.set2 (.slice qo9 (nq + k + 1) qc9); have hB6 := hB5.setCell (p := ⟨p, 2, none⟩) hJ5.kp (.slice qo9 (nq + k + 1) qc9); clear hown hgrow)
               exact ⟨⟨k + 1, _, _, by omega, by go_num, HQX.out _ rfl, HLE, hJ6, hB6⟩, by simp [intOf]; omega⟩
            ·
             obtain rfl : mq = k := by omega
             have HQ1 : Hid (Qs.map eqp = SA.Q ++ SB.Q.map (jQ ng JJ)) := by
              show _ = _
              rw [hQm.out, HPB.out.2.2, List.take_of_length_le (by rw [HMQ.out]; omega), List.map_map]
              rfl
             have hR := HRE.out
             have hQl1 := hQl.out
             clear hQm hQl HRE
             have hQl := hQl1
             clear hQl1
             obtain ⟨s, hs1, hs2, hs3, hSS⟩ := hJS.SS
             obtain ⟨hf1, hf2, hf3, hf4, hf5⟩ := HFO.out.1
             have hpl : (StM.pl ⟨G ++ G', VW, Qs⟩) = jnS SA SB (JJ, VW) := by
              unfold StM.pl jnS
              simp only
              rw [HQ1.out, HPA.out.1, HPB.out.1, HNG.out]
             have hok : (StM.mk (G ++ G') VW Qs).ok := by
              obtain ⟨fA, fB, kA, kB, ffA, ffB⟩ := HF.out
              refine StM.ok_of ?_
              rw [hpl]
              refine jnS_ok kA kB fA fB ffB ?_ ?_ ?_ ?_
              ·
               rw [HPB.out.2.1, HM.out]; exact hf1
              ·
               show VW.length ≤ 128
               have hf6 : VW.length ≤ na + m := hf3
               omega
              ·
               rw [HPB.out.2.1, HM.out]; exact hf4
              ·
               rw [HPA.out.2.1, HPB.out.2.1]
               intro x hx
               rcases hf5 x hx with h | h
               ·
                exact HFO.out.2 x h
               ·
                exact .inr h
             have hlc := rcheck_any s ⟨G ++ G', VW, Qs⟩ wr hSS hok H64.out
             rw [hpl] at hlc
             have HPL := Lib.hid hpl
             have HOK := Lib.hid hok
             have hbw := hb3.trans (hB.mono hb3.size)
             have hZw := hZ3.below hB hZ3.lt
             have hzn : w.heap.size + 1 + 1 ≠ p := fun e => by have := hJS.kp; have := hZ3.lt; omega
             subst hs1 hs2 hs3
             have c0 := hJS.o.c0
             have c1 := hJS.o.c1
             have c2 := hJS.o.c2
             have HJS := Lib.hid hJS
             obtain ⟨E, hE⟩ : ∃ z, lckE (jnS SA SB (JJ, VW)) = z := ⟨_, rfl⟩
             have HR0 : Hid (E = 0 → R = (0, jnS SA SB (JJ, VW), JJ)) := fun h => by rw [hR]; exact endJ_ok (hE.trans h)
             have HR1 : Hid (E ≠ 0 → R = noJ E) := fun h => by rw [hR, ← hE]; exact endJ_no (by rw [hE]; exact h)
             rw [hE] at hlc
             simp only [List.length_append, hQl] at hlc
             have HLC := Lib.hid hlc
             have HF1 : Hid (JJ.length = m) := hf1
             clear hR hE hf1 hf2 hf3 hf4 hf5 hpl hok hSS HFO hJS hlc
             go_wp2_with fail
             refine HLC.out.mono ?_; rintro e w9 ⟨rfl, b9⟩
             have hbf := hbw.trans (b9.mono hbw.size)
             have hZf := hZw.below b9 hZw.lt
             have hJ9 := HJS.out.below b9
             by_cases hz : E = 0
             ·
              have hRR := HR0.out hz
              subst hz
              subst hRR
              have k0 := hJ9.o.c0
              have k1 := hJ9.o.c1
              have k2 := hJ9.o.c2
              have f0 := hZf.f 0
              have f1 := hZf.f 1
              have f2 := hZf.f 2
              have g0 := hZf.c0
              have g1 := hZf.c1
              have g2 := hZf.c2
              have z1 := hZf.set0 (.slice s.ga (G ++ G').length s.gc)
              have z2 := z1.set1 (.slice s.va VW.length s.vc)
              have j1 := hJ9.setR (j := 0) (x := .slice s.ga (G ++ G').length s.gc) (r := w.heap.size + 1 + 1) (by omega) hzn hZf
              have j2 := j1.setR (j := 1) (x := .slice s.va VW.length s.vc) (r := w.heap.size + 1 + 1) (by omega) hzn z1
              have j3 := j2.setR (j := 2) (x := .slice s.qa Qs.length s.qc) (r := w.heap.size + 1 + 1) (by omega) hzn z2
              have b3 := ((hbf.setCell (p := ⟨w.heap.size + 1 + 1, 0, none⟩) (by simp; omega) (.slice s.ga (G ++ G').length s.gc)).setCell (p := ⟨w.heap.size + 1 + 1, 1, none⟩) (by simp; omega) (.slice s.va VW.length s.vc)).setCell (p := ⟨w.heap.size + 1 + 1, 2, none⟩) (by simp; omega) (.slice s.qa Qs.length s.qc)
              have HFIN : Hid (JoP (0, jnS SA SB (JJ, VW), JJ) w (.returned (.tuple #[.agg #[.slice s.ga (G ++ G').length s.gc, .slice s.va VW.length s.vc, .slice s.qa Qs.length s.qc], .slice (some ⟨w3.heap.size, 0, none⟩) m m, .int .i64 0])) (((w9.setCell ⟨w.heap.size + 1 + 1, 0, none⟩ (.slice s.ga (G ++ G').length s.gc)).setCell ⟨w.heap.size + 1 + 1, 1, none⟩ (.slice s.va VW.length s.vc)).setCell ⟨w.heap.size + 1 + 1, 2, none⟩ (.slice s.qa Qs.length s.qc))) := by
               obtain ⟨s', h1, h2, h3, hS'⟩ := j3.SS
               have hss : s' = s := by
                cases s; cases s'
                injection h1 with a1 _ a2
                injection h2 with d1 _ d2
                injection h3 with e1 _ e2
                simp only at a1 a2 d1 d2 e1 e2
                subst a1 a2 d1 d2 e1 e2
                rfl
               subst hss
               exact ⟨s', ⟨G ++ G', VW, Qs⟩, m, some ⟨w3.heap.size, 0, none⟩, m, rfl, hS', HOK.out, HPL.out, j3.LI, HF1.out.symm, b3⟩
              simp only [List.length_append, hQl] at HFIN k0 k1 k2
              clear z1 z2 j1 j2 j3 b3 hJ9 HJS HOK HPL HR0 HR1 HLC
              go_upto_region 56 with fail
              repeat go_step
              exact bodyPost_st3 rfl rfl rfl rfl (put3 hZf) rfl HFIN.out
             ·
              have hRR := HR1.out hz
              subst hRR
              have q2 : (E != 0) = true := by rw [bne_iff_ne]; exact hz
              clear hJ9 HJS HOK HPL HR0 HR1 HLC
              have f0 := hZf.f 0
              have f1 := hZf.f 1
              have f2 := hZf.f 2
              have g0 := hZf.c0
              have g1 := hZf.c1
              have g2 := hZf.c2
              go_upto_region 55 with fail
              repeat go_step
              exact bodyPost_st3 rfl rfl rfl rfl (put3 hZf) rfl (JoP.fail hbf (by omega))
end Go.Proofs.YtdhhbjmkdmbffaaGreatDoor

/- The law LinearJoins. -/
namespace Go.Proofs.YtdhhbjmkdmbffaaGreatDoor
open Go.RowKit Num
set_option maxRecDepth 20000
set_option linter.unusedVariables false
theorem twJ_len : ∀ (P : List PRt) (J J' : List Int), twJ P J = some J' → J'.length = J.length
  | [], J, J', h => by injection h with h; rw [h]
  | p :: r, J, J', h => by
    unfold twJ at h
    split at h
    · cases h
    · rw [twJ_len r _ J' h, List.length_set]
theorem flJ_len : ∀ (R : List ByteArray) (j : Nat) (J : List Int) (V : List ByteArray), (flJ R j J V).1.length = J.length
  | [], j, J, V => rfl
  | v :: r, j, J, V => by
    unfold flJ
    split
    · rw [flJ_len r, List.length_set]
    · rw [flJ_len r]
theorem joinR_len (A B : StP) (P : List PRt) : (joinR A B P).2.2.length ≤ B.V.length := by
  have h0 : ∀ z, (noJ z).2.2.length ≤ B.V.length := fun z => Nat.zero_le _
  unfold joinR
  split
  · split
    · split
      · split
        · unfold plJ
          split
          · exact h0 _
          · rename_i J hJ
            have hl := twJ_len _ _ _ hJ
            rw [List.length_replicate] at hl
            unfold vrJ
            split
            · exact h0 _
            · unfold endJ
              split
              · show (flJ _ _ _ _).1.length ≤ _
                rw [flJ_len, hl]; exact Nat.le_refl _
              · exact h0 _
        · exact h0 _
      · exact h0 _
    · exact h0 _
  · exact h0 _
set_option maxHeartbeats 16000000 in
theorem ljoins_walk (a b : StA) (A B : StM) (po : Option Addr) (np pc : Nat) (P : List PRt) (w : World) (okA : A.ok) (okB : B.ok) (hA : SS w a A) (hB : SS w b B) (hP : PSl w po P) (hn : P.length = np) (hn1 : np ≤ maxLen) :
    Calls Tryz.prog 4 #[.agg #[.slice a.ga A.G.length a.gc, .slice a.va A.V.length a.vc, .slice a.qa A.Q.length a.qc], .agg #[.slice b.ga B.G.length b.gc, .slice b.va B.V.length b.vc, .slice b.qa B.Q.length b.qc], .slice po np pc] w fun e w' => e = .returned (.bool true) ∧ Below w.heap.size w w' := by
  have hb1 := (Below.refl _ w).alloc (Nat.le_refl _) (.cells #[.slice a.ga A.G.length a.gc, .slice a.va A.V.length a.vc, .slice a.qa A.Q.length a.qc] 49)
  have hb := hb1.alloc hb1.size (.cells #[.slice b.ga B.G.length b.gc, .slice b.va B.V.length b.vc, .slice b.qa B.Q.length b.qc] 49)
  have hX := SXB.new w a A
  have hY := SXB.new (w.alloc (.cells #[.slice a.ga A.G.length a.gc, .slice a.va A.V.length a.vc, .slice a.qa A.Q.length a.qc] 49)) b B
  have hbY := (Below.refl _ (w.alloc (.cells #[.slice a.ga A.G.length a.gc, .slice a.va A.V.length a.vc, .slice a.qa A.Q.length a.qc] 49))).alloc (Nat.le_refl _) (.cells #[.slice b.ga B.G.length b.gc, .slice b.va B.V.length b.vc, .slice b.qa B.Q.length b.qc] 49)
  have hX1 := hX.below hbY hX.lt
  rw [World.size_alloc] at hY
  have hA0 := hA.below hb (Nat.le_refl _)
  have hB0 := hB.below hb (Nat.le_refl _)
  have hP0 := hP.keep (cells_keepL hb (Nat.le_refl _))
  have H1 := Lib.hid (fun w' (hb' : Below _ _ w') => few_any a A w' (hA0.below hb' (Nat.le_refl _)) okA)
  have H2 := Lib.hid (fun w' (hb' : Below _ _ w') => few_any b B w' (hB0.below hb' (Nat.le_refl _)) okB)
  have H3 := Lib.hid (fun w' (hb' : Below _ _ w') (hl : np ≤ 1000) => ljoin_any a b A B po np pc P w' (hA0.below hb' (Nat.le_refl _)) (hB0.below hb' (Nat.le_refl _)) okA okB (hP0.keep (cells_keepL hb' (Nat.le_refl _))) hn hl)
  have H4 := Lib.hid (fun w' (hb' : Below _ _ w') (hl : np ≤ 1000) (hf : FewP A) (hg : FewP B) => rjoin_any a b A B po np pc P w' (hA0.below hb' (Nat.le_refl _)) (hB0.below hb' (Nat.le_refl _)) okA okB (hP0.keep (cells_keepL hb' (Nat.le_refl _))) hn hl (few_64 hf) (few_64 hg))
  unfold FWP at H1 H2
  have hRL : (joinR A.pl B.pl P).2.2.length ≤ maxLen := Nat.le_trans (joinR_len _ _ _) okB.vl
  obtain ⟨R, hR⟩ : ∃ R, joinR A.pl B.pl P = R := ⟨_, rfl⟩
  rw [hR] at H3 H4 hRL
  obtain ⟨z, S0, J⟩ := R
  unfold JoP at H3 H4
  have HRL : Hid (J.length ≤ maxLen) := hRL
  have x0 := hX1.c0
  have x1 := hX1.c1
  have x2 := hX1.c2
  have y0 := hY.c0
  have y1 := hY.c1
  have y2 := hY.c2
  clear hA hB okA okB hP hn hX hY hX1 hbY hb1 hA0 hB0 hP0 hR hRL
  go_enter Tryz.func4, Tryz.ntmps4
  go_wp2_with fail
  generalize hw0 : World.alloc (World.alloc w _) _ = w0 at hb x0 x1 x2 y0 y1 y2 H1 H2 H3 H4 ⊢
  clear hw0
  refine (H1.out _ (Below.refl _ _)).mono ?_; rintro e w1 ⟨V, rfl, hV, b1⟩
  have hb1 := hb.trans (b1.mono hb.size)
  replace x0 := cells_keepL b1 (Nat.le_refl _) _ _ x0
  replace x1 := cells_keepL b1 (Nat.le_refl _) _ _ x1
  replace x2 := cells_keepL b1 (Nat.le_refl _) _ _ x2
  replace y0 := cells_keepL b1 (Nat.le_refl _) _ _ y0
  replace y1 := cells_keepL b1 (Nat.le_refl _) _ _ y1
  replace y2 := cells_keepL b1 (Nat.le_refl _) _ _ y2
  clear H1
  cases V
  · clear hV
    go_wp2_with fail
    refine (awakeL _).mono ?_; rintro e w2 ⟨rfl, b2⟩
    have hb2 := hb1.trans (b2.mono hb1.size)
    go_wp2_with fail
    go_ret
    exact ⟨rfl, hb2⟩
  have HF := Lib.hid (hV rfl)
  clear hV
  go_wp2_with fail
  refine (H2.out _ b1).mono ?_; rintro e w2 ⟨V, rfl, hV, b2⟩
  have b12 := b1.trans (b2.mono b1.size)
  have hb2 := hb1.trans (b2.mono hb1.size)
  replace x0 := cells_keepL b2 (Nat.le_refl _) _ _ x0
  replace x1 := cells_keepL b2 (Nat.le_refl _) _ _ x1
  replace x2 := cells_keepL b2 (Nat.le_refl _) _ _ x2
  replace y0 := cells_keepL b2 (Nat.le_refl _) _ _ y0
  replace y1 := cells_keepL b2 (Nat.le_refl _) _ _ y1
  replace y2 := cells_keepL b2 (Nat.le_refl _) _ _ y2
  clear H2 hb1 b1 b2
  cases V
  · clear hV
    go_wp2_with fail
    refine (awakeL _).mono ?_; rintro e w3 ⟨rfl, b3⟩
    have hb3 := hb2.trans (b3.mono hb2.size)
    go_wp2_with fail
    go_ret
    exact ⟨rfl, hb3⟩
  have HG := Lib.hid (hV rfl)
  clear hV
  by_cases hl : 20 < np
  · have q1 : decide ((20 : Int) < (np : Int)) = true := decide_eq_true (by omega)
    go_wp2_with fail
    refine (awakeL _).mono ?_; rintro e w3 ⟨rfl, b3⟩
    have hb3 := hb2.trans (b3.mono hb2.size)
    go_wp2_with fail
    go_ret
    exact ⟨rfl, hb3⟩
  have q1 : decide ((20 : Int) < (np : Int)) = false := decide_eq_false (by omega)
  have hl2 : np ≤ 1000 := by omega
  go_wp2_with fail
  refine (H3.out _ b12 hl2).mono ?_; rintro e w3 ⟨s, S, n, io, c, rfl, hS, hok, hpl, hLI, hnl, b3⟩
  have hbs := (Below.refl _ w3).alloc (Nat.le_refl _) (.cells #[.slice s.ga S.G.length s.gc, .slice s.va S.V.length s.vc, .slice s.qa S.Q.length s.qc] 49)
  have b13 := b12.trans (b3.mono b12.size)
  have b4 := b13.trans (hbs.mono b13.size)
  have hb4 := (hb2.trans (b3.mono hb2.size)).trans (hbs.mono (hb2.trans (b3.mono hb2.size)).size)
  have hZ := SXB.new w3 s S
  have HSS := Lib.hid (hS.below hbs (Nat.le_refl _))
  have HLI := Lib.hid (hLI.keep (cells_keepL hbs (Nat.le_refl _)))
  have HOK := Lib.hid hok
  have HPL := Lib.hid hpl
  have HNL := Lib.hid hnl
  have s0 := hZ.c0
  have s1 := hZ.c1
  have s2 := hZ.c2
  replace x0 := cells_keepL hbs (Nat.le_refl _) _ _ (cells_keepL b3 (Nat.le_refl _) _ _ x0)
  replace x1 := cells_keepL hbs (Nat.le_refl _) _ _ (cells_keepL b3 (Nat.le_refl _) _ _ x1)
  replace x2 := cells_keepL hbs (Nat.le_refl _) _ _ (cells_keepL b3 (Nat.le_refl _) _ _ x2)
  replace y0 := cells_keepL hbs (Nat.le_refl _) _ _ (cells_keepL b3 (Nat.le_refl _) _ _ y0)
  replace y1 := cells_keepL hbs (Nat.le_refl _) _ _ (cells_keepL b3 (Nat.le_refl _) _ _ y1)
  replace y2 := cells_keepL hbs (Nat.le_refl _) _ _ (cells_keepL b3 (Nat.le_refl _) _ _ y2)
  clear H3 hS hok hpl hLI hnl b13 hZ b3 hb2 b12
  go_wp2_with fail
  generalize hw4 : World.alloc w3 _ = w4 at b4 hb4 HSS HLI s0 s1 s2 x0 x1 x2 y0 y1 y2 hbs ⊢
  generalize w3.heap.size = q at s0 s1 s2 ⊢
  clear hw4 hbs
  refine (H4.out _ b4 hl2 HF.out HG.out).mono ?_; rintro e w5 ⟨s', S', n', io', c', rfl, hS', hok', hpl', hLI', hnl', b5⟩
  have hbs := (Below.refl _ w5).alloc (Nat.le_refl _) (.cells #[.slice s'.ga S'.G.length s'.gc, .slice s'.va S'.V.length s'.vc, .slice s'.qa S'.Q.length s'.qc] 49)
  have b6 := b5.trans (hbs.mono b5.size)
  have hb6 := hb4.trans (b6.mono hb4.size)
  have hZ := SXB.new w5 s' S'
  have HSS' := Lib.hid (hS'.below hbs (Nat.le_refl _))
  have HSS6 := Lib.hid (HSS.out.below b6 (Nat.le_refl _))
  have HLI' := Lib.hid (hLI'.keep (cells_keepL hbs (Nat.le_refl _)))
  have HLI6 := Lib.hid (HLI.out.keep (cells_keepL b6 (Nat.le_refl _)))
  have HOK' := Lib.hid hok'
  have HEQ : Hid (S.pl = S'.pl) := HPL.out.trans hpl'.symm
  have HNN : Hid (n = n') := HNL.out.trans hnl'.symm
  replace s0 := cells_keepL b6 (Nat.le_refl _) _ _ s0
  replace s1 := cells_keepL b6 (Nat.le_refl _) _ _ s1
  replace s2 := cells_keepL b6 (Nat.le_refl _) _ _ s2
  have t0 := hZ.c0
  have t1 := hZ.c1
  have t2 := hZ.c2
  clear H4 hS' hok' hpl' hLI' hnl' hZ b5 x0 x1 x2 y0 y1 y2 b4 hb4 HPL HSS HLI
  go_wp2_with fail
  generalize hw6 : World.alloc w5 _ = w6 at b6 hb6 HSS' HLI' HSS6 HLI6 s0 s1 s2 t0 t1 t2 hbs ⊢
  generalize w5.heap.size = q' at t0 t1 t2 ⊢
  clear hw6 hbs b6
  obtain rfl := HNN.out
  refine (awakeL _).mono ?_; rintro e w7 ⟨rfl, b7⟩
  have hb7 := hb6.trans (b7.mono hb6.size)
  replace s0 := cells_keepL b7 (Nat.le_refl _) _ _ s0
  replace s1 := cells_keepL b7 (Nat.le_refl _) _ _ s1
  replace s2 := cells_keepL b7 (Nat.le_refl _) _ _ s2
  replace t0 := cells_keepL b7 (Nat.le_refl _) _ _ t0
  replace t1 := cells_keepL b7 (Nat.le_refl _) _ _ t1
  replace t2 := cells_keepL b7 (Nat.le_refl _) _ _ t2
  have HSA := Lib.hid (HSS6.out.below b7 (Nat.le_refl _))
  have HSB := Lib.hid (HSS'.out.below b7 (Nat.le_refl _))
  have HLA := Lib.hid (HLI6.out.keep (cells_keepL b7 (Nat.le_refl _)))
  have HLB := Lib.hid (HLI'.out.keep (cells_keepL b7 (Nat.le_refl _)))
  clear HSS6 HSS' HLI6 HLI' b7 hb6
  go_wp2_with fail
  refine (same_any s s' S S' _ HSA.out HSB.out HOK.out HOK'.out HEQ.out).mono ?_; rintro e w8 ⟨rfl, b8⟩
  have hb8 := hb7.trans (b8.mono hb7.size)
  have hn8 : J.length = n := HNL.out.symm
  have HN8 := Lib.hid hn8
  clear hn8 hb7
  go_wp2_with fail
  refine (sameIdx_any io io' n c c' J _ (HLA.out.keep (cells_keepL b8 (Nat.le_refl _))) (HLB.out.keep (cells_keepL b8 (Nat.le_refl _))) HN8.out (by rw [← HN8.out]; exact HRL.out)).mono ?_; rintro e w9 ⟨rfl, b9⟩
  have hb9 := hb8.trans (b9.mono hb8.size)
  have q2 : ((z : Int) == z) = true := by simp
  go_wp2_with fail
  go_ret
  exact ⟨rfl, hb9⟩
end Go.Proofs.YtdhhbjmkdmbffaaGreatDoor
