import Derived.Test.YtlmahcmmpfdglaaLxK
set_option linter.all false
namespace Go.Proofs.Ytlmahcmmpfdglaa
open Go Go.Ev
noncomputable section
theorem xawake_ok_ext3 (R n : Nat) (st : St) (r : Bool) (h : xawake R = some r) : CallsTo (callK C0 ext3 R (n + 1)) false 11 [] st (.bool r) st := by
  obtain rfl := Option.some.inj h
  exact ext_comes (by kernel_rfl) st
/- parchment/parchmentlaw11.Cut -/
def parchmentlaw11_Cut_n : Nat := 8
noncomputable def parchmentlaw11_Cut (R : Nat) (s8 : List UInt8) : Option (List UInt8) :=
  if ((List.length s8 : Int) > 2100) then
   Option.bind (subS s8 0 2100) fun s12 =>
   some s12
  else
   some s8
theorem parchmentlaw11_Cut_ok (R n : Nat) (s8 : List UInt8) (st9 : St) (r : List UInt8) (h : parchmentlaw11_Cut R s8 = some r) :
    CallsTo (callK C0 ext3 R (n + 1)) false 8 [(.str s8)] st9 (.str r) st9 := by
  revert h
  unfold parchmentlaw11_Cut
  refine iteE (fun h10 => ?_) (fun h10 => ?_)
  · refine bindE fun s12 h11 => ?_
    intro h
    obtain rfl := Option.some.inj h
    exact callO_ok (hs := [.run 3, .dec true, .run 1, .val (.str s12), .run 1]) (by kernel_rfl) (.cons (sub01 (k' := .i64) (P := C0.P) (t := 9) (by kernel_rfl) h11) <| .cons (decide_eq_true h10) .nil) (by kernel_rfl) (by kernel_rfl)
  · intro h
    obtain rfl := Option.some.inj h
    exact callO_ok (hs := [.run 3, .dec false, .run 2]) (by kernel_rfl) (.cons (decide_eq_false h10) .nil) (by kernel_rfl) (by kernel_rfl)

noncomputable def lex_run_lex_blank_j1100000 (R : Nat) (s108 : List UInt8) (i109 : Int) : Option (Bool) :=
  if (i109 < (List.length s108 : Int)) then
   Option.bind (idxS s108 i109) fun i113 =>
   Option.bind (xlex_blank R i113) fun b114 =>
   some b114
  else
   some false
theorem lex_run_lex_blank_j1100000_ok (R n : Nat) (s108 : List UInt8) (i109 : Int) (st110 : St) (r : Bool) (h : lex_run_lex_blank_j1100000 R s108 i109 = some r) :
    Leads 25 (execK C0 (callK C0 ext3 R (n + 1)) 14 R none (codeAt C0.P 14 [1, 1, 0, 0, 0, 0, 0])) (modsOf (codeAt C0.P 14 [1, 1, 0, 0, 0, 0, 0])) [(0, (.str s108)), (2, (.func (.func 15) [] [])), (7, (.int .i64 i109))] st110 .normal [(19, .bool r)] st110 := by
  revert h
  unfold lex_run_lex_blank_j1100000
  refine iteE (fun h111 => ?_) (fun h111 => ?_)
  · refine bindE fun i113 h112 => ?_
    refine bindE fun b114 h115 => ?_
    intro h
    obtain rfl := Option.some.inj h
    exact runO_ok (hs := [.run 3, .dec true, .run 4, .val (.int .u8 i113), .call (.bool b114) st110, .run 1]) (want := [19]) (by kernel_rfl) (.cons (xlex_blank_ok_ext3 R n i113 st110 _ h115) <| .cons (idx_ok (k := .i64) (P := C0.P) (t := 9) (by kernel_rfl) h112) <| .cons (decide_eq_true h111) .nil)
  · intro h
    obtain rfl := Option.some.inj h
    exact runO_ok (hs := [.run 3, .dec false, .run 2]) (want := [19]) (by kernel_rfl) (.cons (decide_eq_false h111) .nil)

noncomputable def lex_run_lex_blank_l1100 (R : Nat) (s96 : List UInt8) (i97 : Int) : Nat → Int → Option ((Int))
  | 0, _ => none
  | r + 1, i98 =>
    Option.bind (lex_run_lex_blank_j1100000 R s96 i98) fun b117 =>
    if b117 = true then
     lex_run_lex_blank_l1100 R s96 i97 r (IntKind.wrap .i64 (i98 + 1))
    else
     some i98
noncomputable def lex_run_lex_blank_l1100_x (st : St) (o : (Int)) : AExit × List (Nat × AV) × St := match o with
  | a0 => ((.exit 0), [(7, .int .i64 a0)], st)
theorem lex_run_lex_blank_l1100_ok (R n : Nat) (s96 : List UInt8) (i97 : Int) (st99 : St) : ∀ (r : Nat) (i98 : Int) (o : (Int)), lex_run_lex_blank_l1100 R s96 i97 r i98 = some o →
    Leads 25 (loopK (fun fr k => execK C0 (callK C0 ext3 R (n + 1)) 14 R none (codeAt C0.P 14 [1, 1, 0, 0, 0]) fr k) r) (modsOf (codeAt C0.P 14 [1, 1, 0, 0, 0])) [(0, (.str s96)), (1, (.int .i64 i97)), (2, (.func (.func 15) [] [])), (7, (.int .i64 i98))] st99 (lex_run_lex_blank_l1100_x st99 o).1 (lex_run_lex_blank_l1100_x st99 o).2.1 (lex_run_lex_blank_l1100_x st99 o).2.2 := by
  intro r
  induction r with
  | zero => intro i98 o h; exact nomatch h
  | succ r ih =>
    intro i98 o
    unfold lex_run_lex_blank_l1100
    refine bindE fun b117 h116 => ?_
    refine iteE (fun h118 => ?_) (fun h118 => ?_)
    · subst h118
      intro h
      exact loop_more (runO_ok (hs := [.absG [0, 2, 7] .normal [(19, (.bool true))] st99, .run 3]) (want := [0, 1, 2, 7]) (by kernel_rfl) (.cons (lex_run_lex_blank_j1100000_ok R n s96 i98 st99 _ h116) .nil)) (ih (IntKind.wrap .i64 (i98 + 1)) _ h)
    · obtain rfl := bF h118
      intro h
      obtain rfl := Option.some.inj h
      exact loop_done (runO_ok (hs := [.absG [0, 2, 7] .normal [(19, (.bool false))] st99]) (want := [7]) (by kernel_rfl) (.cons (lex_run_lex_blank_j1100000_ok R n s96 i98 st99 _ h116) .nil)) (by kernel_rfl)

/- parchment/lex.run -/
def lex_run_lex_blank_n : Nat := 14
noncomputable def lex_run_lex_blank (R : Nat) (s70 : List UInt8) (i71 : Int) : Option (Int) :=
  Option.bind (lex_run_lex_blank_l1100 R s70 i71 R i71) fun i120 =>
  some (IntKind.wrap .i64 (i120 - i71))
theorem lex_run_lex_blank_ok (R n : Nat) (s70 : List UInt8) (i71 : Int) (st72 : St) (r : Int) (h : lex_run_lex_blank R s70 i71 = some r) :
    CallsTo (callK C0 ext3 R (n + 2)) false 14 [(.str s70), (.int .i64 i71), (.func (.func 15) [] [])] st72 (.int .i64 r) st72 := by
  revert h
  unfold lex_run_lex_blank
  refine bindE fun i120 h119 => ?_
  intro h
  obtain rfl := Option.some.inj h
  exact callO_ok (hs := [.run 3, .abs [0, 1, 2, 7] (.exit 0) [(7, (.int .i64 i120))] st72, .run 4]) (by kernel_rfl) (.cons (loop_leads (lex_run_lex_blank_l1100_ok R n s70 i71 st72 R i71 _ h119)) .nil) (by kernel_rfl) (by kernel_rfl)

noncomputable def lex_Words_l111100 (R : Nat) (s150 : List UInt8) : Nat → AV → Int → St → Option ((AV × Int × Int × St) ⊕ (AV × St))
  | 0, _, _, _ => none
  | r + 1, x151, i152, st153 =>
    if (i152 < (List.length s150 : Int)) then
     Option.bind (xlex_next R s150 i152) fun (i155, s156, i157, i158) =>
     Option.bind (storeAt C0.P (St.push st153 (.cells 33 true [(.int .i64 0), (.str []), (.int .i64 0)])) 33 (.ref (St.next st153) 0) (.agg [(.int .i64 i155), (.str s156), (.int .i64 i157)])) fun st161 =>
     if (i158 = 0) then
      some (.inl (AV.snil, i152, 110, st161))
     else
      Option.bind (loadAt C0.P st161 33 (.ref (St.next st153) 0)) fun x164 =>
      Option.bind (de_Ai64_s_i64Z x164) fun (i165, s166, i167) =>
      Option.bind (mkNew (buildSliceOp C0.P (C0.byref 9) 23 1 [(0, (.agg [(.int .i64 i165), (.str s166), (.int .i64 i167)]))]) st161) fun (x171, st170) =>
      Option.bind (appendOp C0.P (C0.byref 9) st170 #[23, 23] x151 x171) fun (x174, st173) =>
      Option.bind (lex_run_lex_blank R s150 (IntKind.wrap .i64 (i152 + i158))) fun i175 =>
      lex_Words_l111100 R s150 r x174 (IntKind.wrap .i64 ((IntKind.wrap .i64 (i152 + i158)) + i175)) st173
    else
     some (.inr (x151, st153))
noncomputable def lex_Words_l111100_x (o : (AV × Int × Int × St) ⊕ (AV × St)) : AExit × List (Nat × AV) × St := match o with
  | .inl (a0, a1, a2, a3) => (.ret, [(2, a0), (3, .int .i64 a1), (4, .int .i64 a2)], a3)
  | .inr (a0, a1) => ((.exit 0), [(5, a0)], a1)
theorem lex_Words_l111100_ok (R n : Nat) (s150 : List UInt8) : ∀ (r : Nat) (x151 : AV) (i152 : Int) (st153 : St) (o : (AV × Int × Int × St) ⊕ (AV × St)), lex_Words_l111100 R s150 r x151 i152 st153 = some o →
    Leads 45 (loopK (fun fr k => execK C0 (callK C0 ext3 R (n + 2)) 9 R none (codeAt C0.P 9 [1, 1, 1, 1, 0, 0, 0]) fr k) r) (modsOf (codeAt C0.P 9 [1, 1, 1, 1, 0, 0, 0])) [(0, (.str s150)), (5, x151), (6, (.int .i64 i152))] st153 (lex_Words_l111100_x o).1 (lex_Words_l111100_x o).2.1 (lex_Words_l111100_x o).2.2 := by
  intro r
  induction r with
  | zero => intro x151 i152 st153 o h; exact nomatch h
  | succ r ih =>
    intro x151 i152 st153 o
    unfold lex_Words_l111100
    refine iteE (fun h154 => ?_) (fun h154 => ?_)
    · refine bindE fun o h159 => ?_
      obtain ⟨i155, s156, i157, i158⟩ := o
      refine bindE fun st161 h160 => ?_
      refine iteE (fun h162 => ?_) (fun h162 => ?_)
      · intro h
        obtain rfl := Option.some.inj h
        exact loop_done (runO_ok (hs := [.run 3, .dec true, .run 2, .call (.tuple [(.agg [(.int .i64 i155), (.str s156), (.int .i64 i157)]), (.int .i64 i158)]) st153, .run 4, .eff AV.undef st161, .run 2, .dec true, .run 4]) (want := [2, 3, 4]) (by kernel_rfl) (.cons (beqT h162) <| .cons (sto_ok h160) <| .cons (xlex_next_ok_ext3 R (n + 1) s150 i152 st153 _ h159) <| .cons (decide_eq_true h154) .nil)) (by kernel_rfl)
      · refine bindE fun x164 h163 => ?_
        refine bindE fun o h168 => ?_
        obtain ⟨i165, s166, i167⟩ := o
        obtain rfl := de_Ai64_s_i64Z_ok h168
        refine bindE fun o h169 => ?_
        obtain ⟨x171, st170⟩ := o
        refine bindE fun o h172 => ?_
        obtain ⟨x174, st173⟩ := o
        refine bindE fun i175 h176 => ?_
        intro h
        exact loop_more (runO_ok (hs := [.run 3, .dec true, .run 2, .call (.tuple [(.agg [(.int .i64 i155), (.str s156), (.int .i64 i157)]), (.int .i64 i158)]) st153, .run 4, .eff AV.undef st161, .run 2, .dec false, .run 1, .val (.agg [(.int .i64 i165), (.str s166), (.int .i64 i167)]), .eff x171 st170, .eff x174 st173, .run 8, .call (.int .i64 i175) st173, .run 2]) (want := [0, 5, 6]) (by kernel_rfl) (.cons (lex_run_lex_blank_ok R n s150 (IntKind.wrap .i64 (i152 + i158)) st173 _ h176) <| .cons h172 <| .cons h169 <| .cons h163 <| .cons (beqF h162) <| .cons (sto_ok h160) <| .cons (xlex_next_ok_ext3 R (n + 1) s150 i152 st153 _ h159) <| .cons (decide_eq_true h154) .nil)) (ih x174 (IntKind.wrap .i64 ((IntKind.wrap .i64 (i152 + i158)) + i175)) st173 _ h)
    · intro h
      obtain rfl := Option.some.inj h
      exact loop_done (runO_ok (hs := [.run 3, .dec false]) (want := [5]) (by kernel_rfl) (.cons (decide_eq_false h154) .nil)) (by kernel_rfl)

/- parchment/lex.Words -/
def lex_Words_n : Nat := 9
noncomputable def lex_Words (R : Nat) (s15 : List UInt8) (st16 : St) : Option (AV × Int × Int × St) :=
  if ((List.length s15 : Int) > 2000) then
   some (AV.snil, 2000, 3, st16)
  else
   Option.bind (lex_run_lex_blank R s15 0) fun i121 =>
   Option.bind (lex_Words_l111100 R s15 R AV.snil i121 st16) fun o => match o with
   | .inl (x178, i179, i180, st181) =>
    some (x178, i179, i180, st181)
   | .inr (x182, st183) =>
    Option.bind (mkNew (buildSliceOp C0.P (C0.byref 9) 23 1 [(0, (.agg [(.int .i64 0), (.str []), (.int .i64 (List.length s15 : Int))]))]) st183) fun (x186, st185) =>
    Option.bind (appendOp C0.P (C0.byref 9) st185 #[23, 23] x182 x186) fun (x189, st188) =>
    some (x189, 0, 0, st188)
theorem lex_Words_ok (R n : Nat) (s15 : List UInt8) (st16 : St) (r : AV × Int × Int × St) (h : lex_Words R s15 st16 = some r) :
    CallsTo (callK C0 ext3 R (n + 3)) false 9 [(.str s15)] st16 (.tuple [r.1, (.int .i64 r.2.1), (.int .i64 r.2.2.1)]) r.2.2.2 := by
  revert h
  unfold lex_Words
  refine iteE (fun h17 => ?_) (fun h17 => ?_)
  · intro h
    obtain rfl := Option.some.inj h
    exact callO_ok (hs := [.run 5, .dec true, .run 3]) (by kernel_rfl) (.cons (decide_eq_true h17) .nil) (by kernel_rfl) (by kernel_rfl)
  · refine bindE fun i121 h122 => ?_
    refine bindE fun o h177 => ?_
    rcases o with ⟨x178, i179, i180, st181⟩ | ⟨x182, st183⟩
    · intro h
      obtain rfl := Option.some.inj h
      exact callO_ok (hs := [.run 5, .dec false, .run 2, .call (.int .i64 i121) st16, .run 1, .abs [0, 5, 6] .ret [(2, x178), (3, (.int .i64 i179)), (4, (.int .i64 i180))] st181]) (by kernel_rfl) (.cons (loop_leads (lex_Words_l111100_ok R n s15 R AV.snil i121 st16 _ h177)) <| .cons (lex_run_lex_blank_ok R n s15 0 st16 _ h122) <| .cons (decide_eq_false h17) .nil) (by kernel_rfl) (by kernel_rfl)
    · refine bindE fun o h184 => ?_
      obtain ⟨x186, st185⟩ := o
      refine bindE fun o h187 => ?_
      obtain ⟨x189, st188⟩ := o
      intro h
      obtain rfl := Option.some.inj h
      exact callO_ok (hs := [.run 5, .dec false, .run 2, .call (.int .i64 i121) st16, .run 1, .abs [0, 5, 6] (.exit 0) [(5, x182)] st183, .run 4, .eff x186 st185, .eff x189 st188, .run 3]) (by kernel_rfl) (.cons h187 <| .cons h184 <| .cons (loop_leads (lex_Words_l111100_ok R n s15 R AV.snil i121 st16 _ h177)) <| .cons (lex_run_lex_blank_ok R n s15 0 st16 _ h122) <| .cons (decide_eq_false h17) .nil) (by kernel_rfl) (by kernel_rfl)

noncomputable def parchmentref11_Words_l11100 (R : Nat) (s231 : List UInt8) : Nat → AV → Int → St → Option ((AV × Int × Int × St) ⊕ (AV × St))
  | 0, _, _, _ => none
  | r + 1, x232, i233, st234 =>
    if (i233 < (List.length s231 : Int)) then
     Option.bind (idxS s231 i233) fun i237 =>
     Option.bind (xparchmentref11_class R i237) fun i238 =>
     if (i238 = 3) then
      parchmentref11_Words_l11100 R s231 r x232 (IntKind.wrap .i64 (i233 + 1)) st234
     else
      Option.bind (xparchmentref11_word R s231 i233) fun (i241, s242, i243, i244) =>
      Option.bind (storeAt C0.P (St.push st234 (.cells 32 true [(.int .i64 0), (.str []), (.int .i64 0)])) 32 (.ref (St.next st234) 0) (.agg [(.int .i64 i241), (.str s242), (.int .i64 i243)])) fun st247 =>
      if (i244 = 0) then
       some (.inl (AV.snil, i233, 110, st247))
      else
       Option.bind (loadAt C0.P st247 32 (.ref (St.next st234) 0)) fun x250 =>
       Option.bind (de_Ai64_s_i64Z x250) fun (i251, s252, i253) =>
       Option.bind (mkNew (buildSliceOp C0.P (C0.byref 10) 27 1 [(0, (.agg [(.int .i64 i251), (.str s252), (.int .i64 i253)]))]) st247) fun (x257, st256) =>
       Option.bind (appendOp C0.P (C0.byref 10) st256 #[27, 27] x232 x257) fun (x260, st259) =>
       parchmentref11_Words_l11100 R s231 r x260 i244 st259
    else
     some (.inr (x232, st234))
noncomputable def parchmentref11_Words_l11100_x (o : (AV × Int × Int × St) ⊕ (AV × St)) : AExit × List (Nat × AV) × St := match o with
  | .inl (a0, a1, a2, a3) => (.ret, [(2, a0), (3, .int .i64 a1), (4, .int .i64 a2)], a3)
  | .inr (a0, a1) => ((.exit 0), [(5, a0)], a1)
theorem parchmentref11_Words_l11100_ok (R n : Nat) (s231 : List UInt8) : ∀ (r : Nat) (x232 : AV) (i233 : Int) (st234 : St) (o : (AV × Int × Int × St) ⊕ (AV × St)), parchmentref11_Words_l11100 R s231 r x232 i233 st234 = some o →
    Leads 44 (loopK (fun fr k => execK C0 (callK C0 ext3 R (n + 1)) 10 R none (codeAt C0.P 10 [1, 1, 1, 0, 0, 0]) fr k) r) (modsOf (codeAt C0.P 10 [1, 1, 1, 0, 0, 0])) [(0, (.str s231)), (5, x232), (6, (.int .i64 i233))] st234 (parchmentref11_Words_l11100_x o).1 (parchmentref11_Words_l11100_x o).2.1 (parchmentref11_Words_l11100_x o).2.2 := by
  intro r
  induction r with
  | zero => intro x232 i233 st234 o h; exact nomatch h
  | succ r ih =>
    intro x232 i233 st234 o
    unfold parchmentref11_Words_l11100
    refine iteE (fun h235 => ?_) (fun h235 => ?_)
    · refine bindE fun i237 h236 => ?_
      refine bindE fun i238 h239 => ?_
      refine iteE (fun h240 => ?_) (fun h240 => ?_)
      · intro h
        exact loop_more (runO_ok (hs := [.run 3, .dec true, .run 2, .val (.int .u8 i237), .call (.int .i64 i238) st234, .dec true, .run 3]) (want := [0, 5, 6]) (by kernel_rfl) (.cons (beqT h240) <| .cons (xparchmentref11_class_ok_ext3 R n i237 st234 _ h239) <| .cons (idx_ok (k := .i64) (P := C0.P) (t := 9) (by kernel_rfl) h236) <| .cons (decide_eq_true h235) .nil)) (ih x232 (IntKind.wrap .i64 (i233 + 1)) st234 _ h)
      · refine bindE fun o h245 => ?_
        obtain ⟨i241, s242, i243, i244⟩ := o
        refine bindE fun st247 h246 => ?_
        refine iteE (fun h248 => ?_) (fun h248 => ?_)
        · intro h
          obtain rfl := Option.some.inj h
          exact loop_done (runO_ok (hs := [.run 3, .dec true, .run 2, .val (.int .u8 i237), .call (.int .i64 i238) st234, .dec false, .run 2, .call (.tuple [(.agg [(.int .i64 i241), (.str s242), (.int .i64 i243)]), (.int .i64 i244)]) st234, .run 4, .eff AV.undef st247, .run 2, .dec true, .run 4]) (want := [2, 3, 4]) (by kernel_rfl) (.cons (beqT h248) <| .cons (sto_ok h246) <| .cons (xparchmentref11_word_ok_ext3 R n s231 i233 st234 _ h245) <| .cons (beqF h240) <| .cons (xparchmentref11_class_ok_ext3 R n i237 st234 _ h239) <| .cons (idx_ok (k := .i64) (P := C0.P) (t := 9) (by kernel_rfl) h236) <| .cons (decide_eq_true h235) .nil)) (by kernel_rfl)
        · refine bindE fun x250 h249 => ?_
          refine bindE fun o h254 => ?_
          obtain ⟨i251, s252, i253⟩ := o
          obtain rfl := de_Ai64_s_i64Z_ok h254
          refine bindE fun o h255 => ?_
          obtain ⟨x257, st256⟩ := o
          refine bindE fun o h258 => ?_
          obtain ⟨x260, st259⟩ := o
          intro h
          exact loop_more (runO_ok (hs := [.run 3, .dec true, .run 2, .val (.int .u8 i237), .call (.int .i64 i238) st234, .dec false, .run 2, .call (.tuple [(.agg [(.int .i64 i241), (.str s242), (.int .i64 i243)]), (.int .i64 i244)]) st234, .run 4, .eff AV.undef st247, .run 2, .dec false, .run 1, .val (.agg [(.int .i64 i251), (.str s252), (.int .i64 i253)]), .eff x257 st256, .eff x260 st259, .run 3]) (want := [0, 5, 6]) (by kernel_rfl) (.cons h258 <| .cons h255 <| .cons h249 <| .cons (beqF h248) <| .cons (sto_ok h246) <| .cons (xparchmentref11_word_ok_ext3 R n s231 i233 st234 _ h245) <| .cons (beqF h240) <| .cons (xparchmentref11_class_ok_ext3 R n i237 st234 _ h239) <| .cons (idx_ok (k := .i64) (P := C0.P) (t := 9) (by kernel_rfl) h236) <| .cons (decide_eq_true h235) .nil)) (ih x260 i244 st259 _ h)
    · intro h
      obtain rfl := Option.some.inj h
      exact loop_done (runO_ok (hs := [.run 3, .dec false]) (want := [5]) (by kernel_rfl) (.cons (decide_eq_false h235) .nil)) (by kernel_rfl)

/- parchment/parchmentref11.Words -/
def parchmentref11_Words_n : Nat := 10
noncomputable def parchmentref11_Words (R : Nat) (s195 : List UInt8) (st196 : St) : Option (AV × Int × Int × St) :=
  if ((List.length s195 : Int) > 2000) then
   some (AV.snil, 2000, 3, st196)
  else
   Option.bind (mkNew (buildSliceOp C0.P (C0.byref 10) 27 0 []) st196) fun (x200, st199) =>
   Option.bind (parchmentref11_Words_l11100 R s195 R x200 0 st199) fun o => match o with
   | .inl (x262, i263, i264, st265) =>
    some (x262, i263, i264, st265)
   | .inr (x266, st267) =>
    Option.bind (mkNew (buildSliceOp C0.P (C0.byref 10) 27 1 [(0, (.agg [(.int .i64 0), (.str []), (.int .i64 (List.length s195 : Int))]))]) st267) fun (x270, st269) =>
    Option.bind (appendOp C0.P (C0.byref 10) st269 #[27, 27] x266 x270) fun (x273, st272) =>
    some (x273, 0, 0, st272)
theorem parchmentref11_Words_ok (R n : Nat) (s195 : List UInt8) (st196 : St) (r : AV × Int × Int × St) (h : parchmentref11_Words R s195 st196 = some r) :
    CallsTo (callK C0 ext3 R (n + 2)) false 10 [(.str s195)] st196 (.tuple [r.1, (.int .i64 r.2.1), (.int .i64 r.2.2.1)]) r.2.2.2 := by
  revert h
  unfold parchmentref11_Words
  refine iteE (fun h197 => ?_) (fun h197 => ?_)
  · intro h
    obtain rfl := Option.some.inj h
    exact callO_ok (hs := [.run 5, .dec true, .run 3]) (by kernel_rfl) (.cons (decide_eq_true h197) .nil) (by kernel_rfl) (by kernel_rfl)
  · refine bindE fun o h198 => ?_
    obtain ⟨x200, st199⟩ := o
    refine bindE fun o h261 => ?_
    rcases o with ⟨x262, i263, i264, st265⟩ | ⟨x266, st267⟩
    · intro h
      obtain rfl := Option.some.inj h
      exact callO_ok (hs := [.run 5, .dec false, .eff x200 st199, .run 2, .abs [0, 5, 6] .ret [(2, x262), (3, (.int .i64 i263)), (4, (.int .i64 i264))] st265]) (by kernel_rfl) (.cons (loop_leads (parchmentref11_Words_l11100_ok R n s195 R x200 0 st199 _ h261)) <| .cons h198 <| .cons (decide_eq_false h197) .nil) (by kernel_rfl) (by kernel_rfl)
    · refine bindE fun o h268 => ?_
      obtain ⟨x270, st269⟩ := o
      refine bindE fun o h271 => ?_
      obtain ⟨x273, st272⟩ := o
      intro h
      obtain rfl := Option.some.inj h
      exact callO_ok (hs := [.run 5, .dec false, .eff x200 st199, .run 2, .abs [0, 5, 6] (.exit 0) [(5, x266)] st267, .run 4, .eff x270 st269, .eff x273 st272, .run 3]) (by kernel_rfl) (.cons h271 <| .cons h268 <| .cons (loop_leads (parchmentref11_Words_l11100_ok R n s195 R x200 0 st199 _ h261)) <| .cons h198 <| .cons (decide_eq_false h197) .nil) (by kernel_rfl) (by kernel_rfl)

noncomputable def parchmentlaw11_LexWords_j111100 (R : Nat) (x296 : AV) (i297 : Int) (i298 : Int) (x299 : AV) (i300 : Int) (i301 : Int) : Option (Bool) :=
  Option.bind (xawake R) fun b303 =>
  if b303 = true then
   if (i297 = i300) then
    if (i298 = i301) then
     Option.bind (lenOf x296) fun n309 =>
     Option.bind (lenOf x299) fun n311 =>
     if ((n309 : Int) = (n311 : Int)) then
      some false
     else
      some true
    else
     some true
   else
    some true
  else
   some true
theorem parchmentlaw11_LexWords_j111100_ok (R n : Nat) (x296 : AV) (i297 : Int) (i298 : Int) (x299 : AV) (i300 : Int) (i301 : Int) (st302 : St) (r : Bool) (h : parchmentlaw11_LexWords_j111100 R x296 i297 i298 x299 i300 i301 = some r) :
    Leads 59 (execK C0 (callK C0 ext3 R (n + 3)) 3 R none (codeAt C0.P 3 [1, 1, 1, 1, 0, 0])) (modsOf (codeAt C0.P 3 [1, 1, 1, 1, 0, 0])) [(4, x296), (5, (.int .i64 i297)), (6, (.int .i64 i298)), (7, x299), (8, (.int .i64 i300)), (9, (.int .i64 i301))] st302 .normal [(43, .bool r)] st302 := by
  revert h
  unfold parchmentlaw11_LexWords_j111100
  refine bindE fun b303 h304 => ?_
  refine iteE (fun h305 => ?_) (fun h305 => ?_)
  · subst h305
    refine iteE (fun h306 => ?_) (fun h306 => ?_)
    · refine iteE (fun h307 => ?_) (fun h307 => ?_)
      · refine bindE fun n309 h308 => ?_
        refine bindE fun n311 h310 => ?_
        refine iteE (fun h312 => ?_) (fun h312 => ?_)
        · intro h
          obtain rfl := Option.some.inj h
          exact runO_ok (hs := [.call (.bool true) st302, .run 4, .dec false, .run 4, .dec false, .run 3, .val (.int .i64 (n309 : Int)), .run 1, .val (.int .i64 (n311 : Int)), .dec false, .run 1]) (want := [43]) (by kernel_rfl) (.cons (bneF h312) <| .cons (len_ok (P := C0.P) (t := 27) (e := 32) (by kernel_rfl) h310) <| .cons (len_ok (P := C0.P) (t := 23) (e := 33) (by kernel_rfl) h308) <| .cons (bneF h307) <| .cons (bneF h306) <| .cons (xawake_ok_ext3 R (n + 2) st302 _ h304) .nil)
        · intro h
          obtain rfl := Option.some.inj h
          exact runO_ok (hs := [.call (.bool true) st302, .run 4, .dec false, .run 4, .dec false, .run 3, .val (.int .i64 (n309 : Int)), .run 1, .val (.int .i64 (n311 : Int)), .dec true, .run 1]) (want := [43]) (by kernel_rfl) (.cons (bneT h312) <| .cons (len_ok (P := C0.P) (t := 27) (e := 32) (by kernel_rfl) h310) <| .cons (len_ok (P := C0.P) (t := 23) (e := 33) (by kernel_rfl) h308) <| .cons (bneF h307) <| .cons (bneF h306) <| .cons (xawake_ok_ext3 R (n + 2) st302 _ h304) .nil)
      · intro h
        obtain rfl := Option.some.inj h
        exact runO_ok (hs := [.call (.bool true) st302, .run 4, .dec false, .run 4, .dec true, .run 3]) (want := [43]) (by kernel_rfl) (.cons (bneT h307) <| .cons (bneF h306) <| .cons (xawake_ok_ext3 R (n + 2) st302 _ h304) .nil)
    · intro h
      obtain rfl := Option.some.inj h
      exact runO_ok (hs := [.call (.bool true) st302, .run 4, .dec true, .run 5]) (want := [43]) (by kernel_rfl) (.cons (bneT h306) <| .cons (xawake_ok_ext3 R (n + 2) st302 _ h304) .nil)
  · obtain rfl := bF h305
    intro h
    obtain rfl := Option.some.inj h
    exact runO_ok (hs := [.call (.bool false) st302, .run 7]) (want := [43]) (by kernel_rfl) (.cons (xawake_ok_ext3 R (n + 2) st302 _ h304) .nil)

noncomputable def parchmentlaw11_LexWords_l11111010 (R : Nat) (x342 : AV) (x343 : AV) : Nat → Int → St → Option ((Bool × St) ⊕ (St))
  | 0, _, _ => none
  | r + 1, i344, st345 =>
    Option.bind (lenOf x342) fun n347 =>
    if (i344 < (n347 : Int)) then
     Option.bind (indexAddrOp C0.P 23 x342 (.int .i64 i344)) fun x350 =>
     Option.bind (loadAt C0.P st345 33 x350) fun x352 =>
     Option.bind (de_Ai64_s_i64Z x352) fun (i353, s354, i355) =>
     Option.bind (indexAddrOp C0.P 27 x343 (.int .i64 i344)) fun x358 =>
     Option.bind (loadAt C0.P st345 32 x358) fun x360 =>
     Option.bind (de_Ai64_s_i64Z x360) fun (i361, s362, i363) =>
     Option.bind ((binOpV C0.P .neq 32 (.tmp 0) (.tmp 1) (.agg [(.int .i64 i353), (.str s354), (.int .i64 i355)]) (.agg [(.int .i64 i361), (.str s362), (.int .i64 i363)])).bind avBool) fun b366 =>
     if b366 = true then
      some (.inl (false, st345))
     else
      parchmentlaw11_LexWords_l11111010 R x342 x343 r (IntKind.wrap .i64 (i344 + 1)) st345
    else
     some (.inr st345)
noncomputable def parchmentlaw11_LexWords_l11111010_x (o : (Bool × St) ⊕ (St)) : AExit × List (Nat × AV) × St := match o with
  | .inl (a0, a1) => (.ret, [(2, .bool a0)], a1)
  | .inr a0 => ((.exit 0), [], a0)
theorem parchmentlaw11_LexWords_l11111010_ok (R n : Nat) (x342 : AV) (x343 : AV) : ∀ (r : Nat) (i344 : Int) (st345 : St) (o : (Bool × St) ⊕ (St)), parchmentlaw11_LexWords_l11111010 R x342 x343 r i344 st345 = some o →
    Leads 59 (loopK (fun fr k => execK C0 (callK C0 ext3 R (n + 3)) 3 R none (codeAt C0.P 3 [1, 1, 1, 1, 1, 0, 1, 0, 0]) fr k) r) (modsOf (codeAt C0.P 3 [1, 1, 1, 1, 1, 0, 1, 0, 0])) [(4, x342), (7, x343), (10, (.int .i64 i344))] st345 (parchmentlaw11_LexWords_l11111010_x o).1 (parchmentlaw11_LexWords_l11111010_x o).2.1 (parchmentlaw11_LexWords_l11111010_x o).2.2 := by
  intro r
  induction r with
  | zero => intro i344 st345 o h; exact nomatch h
  | succ r ih =>
    intro i344 st345 o
    unfold parchmentlaw11_LexWords_l11111010
    refine bindE fun n347 h346 => ?_
    refine iteE (fun h348 => ?_) (fun h348 => ?_)
    · refine bindE fun x350 h349 => ?_
      refine bindE fun x352 h351 => ?_
      refine bindE fun o h356 => ?_
      obtain ⟨i353, s354, i355⟩ := o
      obtain rfl := de_Ai64_s_i64Z_ok h356
      refine bindE fun x358 h357 => ?_
      refine bindE fun x360 h359 => ?_
      refine bindE fun o h364 => ?_
      obtain ⟨i361, s362, i363⟩ := o
      obtain rfl := de_Ai64_s_i64Z_ok h364
      refine bindE fun b366 h365 => ?_
      refine iteE (fun h367 => ?_) (fun h367 => ?_)
      · subst h367
        intro h
        obtain rfl := Option.some.inj h
        exact loop_done (runO_ok (hs := [.run 2, .val (.int .i64 (n347 : Int)), .dec true, .run 2, .val x350, .val (.agg [(.int .i64 i353), (.str s354), (.int .i64 i355)]), .run 2, .val x358, .val (.agg [(.int .i64 i361), (.str s362), (.int .i64 i363)]), .val (.bool true), .run 1]) (want := [2]) (by kernel_rfl) (.cons (binB_ok h365) <| .cons h359 <| .cons h357 <| .cons h351 <| .cons h349 <| .cons (decide_eq_true h348) <| .cons (len_ok (P := C0.P) (t := 23) (e := 33) (by kernel_rfl) h346) .nil)) (by kernel_rfl)
      · obtain rfl := bF h367
        intro h
        exact loop_more (runO_ok (hs := [.run 2, .val (.int .i64 (n347 : Int)), .dec true, .run 2, .val x350, .val (.agg [(.int .i64 i353), (.str s354), (.int .i64 i355)]), .run 2, .val x358, .val (.agg [(.int .i64 i361), (.str s362), (.int .i64 i363)]), .val (.bool false), .run 3]) (want := [4, 7, 10]) (by kernel_rfl) (.cons (binB_ok h365) <| .cons h359 <| .cons h357 <| .cons h351 <| .cons h349 <| .cons (decide_eq_true h348) <| .cons (len_ok (P := C0.P) (t := 23) (e := 33) (by kernel_rfl) h346) .nil)) (ih (IntKind.wrap .i64 (i344 + 1)) st345 _ h)
    · intro h
      obtain rfl := Option.some.inj h
      exact loop_done (runO_ok (hs := [.run 2, .val (.int .i64 (n347 : Int)), .dec false]) (want := []) (by kernel_rfl) (.cons (decide_eq_false h348) <| .cons (len_ok (P := C0.P) (t := 23) (e := 33) (by kernel_rfl) h346) .nil)) (by kernel_rfl)

/- parchment/parchmentlaw11.LexWords -/
def parchmentlaw11_LexWords_n : Nat := 3
noncomputable def parchmentlaw11_LexWords (R : Nat) (s1 : List UInt8) (st2 : St) : Option (Bool × St) :=
  Option.bind (parchmentlaw11_Cut R s1) fun s13 =>
  Option.bind (lex_Words R s13 st2) fun (x190, i191, i192, st194) =>
  Option.bind (parchmentref11_Words R s13 st194) fun (x274, i275, i276, st278) =>
  Option.bind (parchmentlaw11_LexWords_j111100 R x190 i191 i192 x274 i275 i276) fun b314 =>
  if b314 = true then
   some (false, st278)
  else
   Option.bind (parchmentlaw11_LexWords_l11111010 R x190 x274 R 0 st278) fun o => match o with
   | .inl (b369, st370) =>
    some (b369, st370)
   | .inr st371 =>
    some (true, st371)
theorem parchmentlaw11_LexWords_ok (R n : Nat) (s1 : List UInt8) (st2 : St) (r : Bool × St) (h : parchmentlaw11_LexWords R s1 st2 = some r) :
    CallsTo (callK C0 ext3 R (n + 4)) false 3 [(.str s1)] st2 (.bool r.1) r.2 := by
  revert h
  unfold parchmentlaw11_LexWords
  refine bindE fun s13 h14 => ?_
  refine bindE fun o h193 => ?_
  obtain ⟨x190, i191, i192, st194⟩ := o
  refine bindE fun o h277 => ?_
  obtain ⟨x274, i275, i276, st278⟩ := o
  refine bindE fun b314 h313 => ?_
  refine iteE (fun h315 => ?_) (fun h315 => ?_)
  · subst h315
    intro h
    obtain rfl := Option.some.inj h
    exact callO_ok (hs := [.run 2, .call (.str s13) st2, .run 2, .call (.tuple [x190, (.int .i64 i191), (.int .i64 i192)]) st194, .run 8, .call (.tuple [x274, (.int .i64 i275), (.int .i64 i276)]) st278, .run 7, .absG [4, 5, 6, 7, 8, 9] .normal [(43, (.bool true))] st278, .run 1]) (by kernel_rfl) (.cons (parchmentlaw11_LexWords_j111100_ok R n x190 i191 i192 x274 i275 i276 st278 _ h313) <| .cons (parchmentref11_Words_ok R (n + 1) s13 st194 _ h277) <| .cons (lex_Words_ok R n s13 st2 _ h193) <| .cons (parchmentlaw11_Cut_ok R (n + 2) s1 st2 _ h14) .nil) (by kernel_rfl) (by kernel_rfl)
  · obtain rfl := bF h315
    refine bindE fun o h368 => ?_
    rcases o with ⟨b369, st370⟩ | st371
    · intro h
      obtain rfl := Option.some.inj h
      exact callO_ok (hs := [.run 2, .call (.str s13) st2, .run 2, .call (.tuple [x190, (.int .i64 i191), (.int .i64 i192)]) st194, .run 8, .call (.tuple [x274, (.int .i64 i275), (.int .i64 i276)]) st278, .run 7, .absG [4, 5, 6, 7, 8, 9] .normal [(43, (.bool false))] st278, .run 1, .abs [4, 7, 10] .ret [(2, (.bool b369))] st370]) (by kernel_rfl) (.cons (loop_leads (parchmentlaw11_LexWords_l11111010_ok R n x190 x274 R 0 st278 _ h368)) <| .cons (parchmentlaw11_LexWords_j111100_ok R n x190 i191 i192 x274 i275 i276 st278 _ h313) <| .cons (parchmentref11_Words_ok R (n + 1) s13 st194 _ h277) <| .cons (lex_Words_ok R n s13 st2 _ h193) <| .cons (parchmentlaw11_Cut_ok R (n + 2) s1 st2 _ h14) .nil) (by kernel_rfl) (by kernel_rfl)
    · intro h
      obtain rfl := Option.some.inj h
      exact callO_ok (hs := [.run 2, .call (.str s13) st2, .run 2, .call (.tuple [x190, (.int .i64 i191), (.int .i64 i192)]) st194, .run 8, .call (.tuple [x274, (.int .i64 i275), (.int .i64 i276)]) st278, .run 7, .absG [4, 5, 6, 7, 8, 9] .normal [(43, (.bool false))] st278, .run 1, .abs [4, 7, 10] (.exit 0) [] st371, .run 1]) (by kernel_rfl) (.cons (loop_leads (parchmentlaw11_LexWords_l11111010_ok R n x190 x274 R 0 st278 _ h368)) <| .cons (parchmentlaw11_LexWords_j111100_ok R n x190 i191 i192 x274 i275 i276 st278 _ h313) <| .cons (parchmentref11_Words_ok R (n + 1) s13 st194 _ h277) <| .cons (lex_Words_ok R n s13 st2 _ h193) <| .cons (parchmentlaw11_Cut_ok R (n + 2) s1 st2 _ h14) .nil) (by kernel_rfl) (by kernel_rfl)

noncomputable def parchmentlaw11_LexBlanks_j11111100 (R : Nat) (x412 : AV) (i413 : Int) (x414 : AV) (i415 : Int) : Option (Bool) :=
  Option.bind (xawake R) fun b417 =>
  if b417 = true then
   if (i413 = i415) then
    Option.bind (lenOf x412) fun n422 =>
    Option.bind (lenOf x414) fun n424 =>
    if ((n422 : Int) = (n424 : Int)) then
     some false
    else
     some true
   else
    some true
  else
   some true
theorem parchmentlaw11_LexBlanks_j11111100_ok (R n : Nat) (x412 : AV) (i413 : Int) (x414 : AV) (i415 : Int) (st416 : St) (r : Bool) (h : parchmentlaw11_LexBlanks_j11111100 R x412 i413 x414 i415 = some r) :
    Leads 107 (execK C0 (callK C0 ext3 R (n + 3)) 5 R none (codeAt C0.P 5 [1, 1, 1, 1, 1, 1, 0, 0])) (modsOf (codeAt C0.P 5 [1, 1, 1, 1, 1, 1, 0, 0])) [(6, x412), (8, (.int .i64 i413)), (10, x414), (12, (.int .i64 i415))] st416 .normal [(54, .bool r)] st416 := by
  revert h
  unfold parchmentlaw11_LexBlanks_j11111100
  refine bindE fun b417 h418 => ?_
  refine iteE (fun h419 => ?_) (fun h419 => ?_)
  · subst h419
    refine iteE (fun h420 => ?_) (fun h420 => ?_)
    · refine bindE fun n422 h421 => ?_
      refine bindE fun n424 h423 => ?_
      refine iteE (fun h425 => ?_) (fun h425 => ?_)
      · intro h
        obtain rfl := Option.some.inj h
        exact runO_ok (hs := [.call (.bool true) st416, .run 4, .dec false, .run 3, .val (.int .i64 (n422 : Int)), .run 1, .val (.int .i64 (n424 : Int)), .dec false, .run 1]) (want := [54]) (by kernel_rfl) (.cons (bneF h425) <| .cons (len_ok (P := C0.P) (t := 23) (e := 33) (by kernel_rfl) h423) <| .cons (len_ok (P := C0.P) (t := 23) (e := 33) (by kernel_rfl) h421) <| .cons (bneF h420) <| .cons (xawake_ok_ext3 R (n + 2) st416 _ h418) .nil)
      · intro h
        obtain rfl := Option.some.inj h
        exact runO_ok (hs := [.call (.bool true) st416, .run 4, .dec false, .run 3, .val (.int .i64 (n422 : Int)), .run 1, .val (.int .i64 (n424 : Int)), .dec true, .run 1]) (want := [54]) (by kernel_rfl) (.cons (bneT h425) <| .cons (len_ok (P := C0.P) (t := 23) (e := 33) (by kernel_rfl) h423) <| .cons (len_ok (P := C0.P) (t := 23) (e := 33) (by kernel_rfl) h421) <| .cons (bneF h420) <| .cons (xawake_ok_ext3 R (n + 2) st416 _ h418) .nil)
    · intro h
      obtain rfl := Option.some.inj h
      exact runO_ok (hs := [.call (.bool true) st416, .run 4, .dec true, .run 3]) (want := [54]) (by kernel_rfl) (.cons (bneT h420) <| .cons (xawake_ok_ext3 R (n + 2) st416 _ h418) .nil)
  · obtain rfl := bF h419
    intro h
    obtain rfl := Option.some.inj h
    exact runO_ok (hs := [.call (.bool false) st416, .run 5]) (want := [54]) (by kernel_rfl) (.cons (xawake_ok_ext3 R (n + 2) st416 _ h418) .nil)

noncomputable def parchmentlaw11_LexBlanks_l1111111010 (R : Nat) (x481 : AV) (i482 : Int) (x483 : AV) : Nat → Int → St → Option ((Bool × St) ⊕ (St))
  | 0, _, _ => none
  | r + 1, i484, st485 =>
    Option.bind (lenOf x481) fun n487 =>
    if (i484 < (n487 : Int)) then
     Option.bind (indexAddrOp C0.P 23 x481 (.int .i64 i484)) fun x490 =>
     Option.bind (shift x490 0) fun x492 =>
     Option.bind (loadAt C0.P st485 3 x492) fun x494 =>
     Option.bind (avInt .i64 x494) fun i495 =>
     Option.bind (indexAddrOp C0.P 23 x483 (.int .i64 i484)) fun x498 =>
     Option.bind (shift x498 0) fun x500 =>
     Option.bind (loadAt C0.P st485 3 x500) fun x502 =>
     Option.bind (avInt .i64 x502) fun i503 =>
     if (i495 = i503) then
      Option.bind (shift x490 1) fun x507 =>
      Option.bind (loadAt C0.P st485 9 x507) fun x509 =>
      Option.bind (avStr x509) fun s510 =>
      Option.bind (shift x498 1) fun x513 =>
      Option.bind (loadAt C0.P st485 9 x513) fun x515 =>
      Option.bind (avStr x515) fun s516 =>
      if (s510 = s516) then
       if ((IntKind.wrap .i64 (i484 + 1)) < (n487 : Int)) then
        Option.bind (shift x498 2) fun x521 =>
        Option.bind (loadAt C0.P st485 3 x521) fun x523 =>
        Option.bind (avInt .i64 x523) fun i524 =>
        Option.bind (shift x490 2) fun x527 =>
        Option.bind (loadAt C0.P st485 3 x527) fun x529 =>
        Option.bind (avInt .i64 x529) fun i530 =>
        if (i524 = (IntKind.wrap .i64 (i530 + i482))) then
         parchmentlaw11_LexBlanks_l1111111010 R x481 i482 x483 r (IntKind.wrap .i64 (i484 + 1)) st485
        else
         some (.inl (false, st485))
       else
        parchmentlaw11_LexBlanks_l1111111010 R x481 i482 x483 r (IntKind.wrap .i64 (i484 + 1)) st485
      else
       some (.inl (false, st485))
     else
      some (.inl (false, st485))
    else
     some (.inr st485)
noncomputable def parchmentlaw11_LexBlanks_l1111111010_x (o : (Bool × St) ⊕ (St)) : AExit × List (Nat × AV) × St := match o with
  | .inl (a0, a1) => (.ret, [(4, .bool a0)], a1)
  | .inr a0 => ((.exit 0), [], a0)
theorem parchmentlaw11_LexBlanks_l1111111010_ok (R n : Nat) (x481 : AV) (i482 : Int) (x483 : AV) : ∀ (r : Nat) (i484 : Int) (st485 : St) (o : (Bool × St) ⊕ (St)), parchmentlaw11_LexBlanks_l1111111010 R x481 i482 x483 r i484 st485 = some o →
    Leads 107 (loopK (fun fr k => execK C0 (callK C0 ext3 R (n + 3)) 5 R none (codeAt C0.P 5 [1, 1, 1, 1, 1, 1, 1, 0, 1, 0, 0]) fr k) r) (modsOf (codeAt C0.P 5 [1, 1, 1, 1, 1, 1, 1, 0, 1, 0, 0])) [(6, x481), (9, (.int .i64 i482)), (10, x483), (13, (.int .i64 i484))] st485 (parchmentlaw11_LexBlanks_l1111111010_x o).1 (parchmentlaw11_LexBlanks_l1111111010_x o).2.1 (parchmentlaw11_LexBlanks_l1111111010_x o).2.2 := by
  intro r
  induction r with
  | zero => intro i484 st485 o h; exact nomatch h
  | succ r ih =>
    intro i484 st485 o
    unfold parchmentlaw11_LexBlanks_l1111111010
    refine bindE fun n487 h486 => ?_
    refine iteE (fun h488 => ?_) (fun h488 => ?_)
    · refine bindE fun x490 h489 => ?_
      refine bindE fun x492 h491 => ?_
      refine bindE fun x494 h493 => ?_
      refine bindE fun i495 h496 => ?_
      obtain rfl := avInt_ok h496
      refine bindE fun x498 h497 => ?_
      refine bindE fun x500 h499 => ?_
      refine bindE fun x502 h501 => ?_
      refine bindE fun i503 h504 => ?_
      obtain rfl := avInt_ok h504
      refine iteE (fun h505 => ?_) (fun h505 => ?_)
      · refine bindE fun x507 h506 => ?_
        refine bindE fun x509 h508 => ?_
        refine bindE fun s510 h511 => ?_
        obtain rfl := avStr_ok h511
        refine bindE fun x513 h512 => ?_
        refine bindE fun x515 h514 => ?_
        refine bindE fun s516 h517 => ?_
        obtain rfl := avStr_ok h517
        refine iteE (fun h518 => ?_) (fun h518 => ?_)
        · refine iteE (fun h519 => ?_) (fun h519 => ?_)
          · refine bindE fun x521 h520 => ?_
            refine bindE fun x523 h522 => ?_
            refine bindE fun i524 h525 => ?_
            obtain rfl := avInt_ok h525
            refine bindE fun x527 h526 => ?_
            refine bindE fun x529 h528 => ?_
            refine bindE fun i530 h531 => ?_
            obtain rfl := avInt_ok h531
            refine iteE (fun h532 => ?_) (fun h532 => ?_)
            · intro h
              exact loop_more (runO_ok (hs := [.run 2, .val (.int .i64 (n487 : Int)), .dec true, .run 2, .val x490, .val x492, .val (.int .i64 i495), .run 2, .val x498, .val x500, .val (.int .i64 i503), .dec false, .run 3, .val x490, .val x507, .val (.str s510), .run 2, .val x498, .val x513, .val (.str s516), .dec false, .run 5, .val (.int .i64 (n487 : Int)), .dec true, .run 3, .val x498, .val x521, .val (.int .i64 i524), .run 2, .val x490, .val x527, .val (.int .i64 i530), .run 2, .dec false, .run 5]) (want := [6, 9, 10, 13]) (by kernel_rfl) (.cons (bneF h532) <| .cons h528 <| .cons h526 <| .cons h489 <| .cons h522 <| .cons h520 <| .cons h497 <| .cons (decide_eq_true h519) <| .cons (len_ok (P := C0.P) (t := 23) (e := 33) (by kernel_rfl) h486) <| .cons (strNeF h518) <| .cons h514 <| .cons h512 <| .cons h497 <| .cons h508 <| .cons h506 <| .cons h489 <| .cons (bneF h505) <| .cons h501 <| .cons h499 <| .cons h497 <| .cons h493 <| .cons h491 <| .cons h489 <| .cons (decide_eq_true h488) <| .cons (len_ok (P := C0.P) (t := 23) (e := 33) (by kernel_rfl) h486) .nil)) (ih (IntKind.wrap .i64 (i484 + 1)) st485 _ h)
            · intro h
              obtain rfl := Option.some.inj h
              exact loop_done (runO_ok (hs := [.run 2, .val (.int .i64 (n487 : Int)), .dec true, .run 2, .val x490, .val x492, .val (.int .i64 i495), .run 2, .val x498, .val x500, .val (.int .i64 i503), .dec false, .run 3, .val x490, .val x507, .val (.str s510), .run 2, .val x498, .val x513, .val (.str s516), .dec false, .run 5, .val (.int .i64 (n487 : Int)), .dec true, .run 3, .val x498, .val x521, .val (.int .i64 i524), .run 2, .val x490, .val x527, .val (.int .i64 i530), .run 2, .dec true, .run 3]) (want := [4]) (by kernel_rfl) (.cons (bneT h532) <| .cons h528 <| .cons h526 <| .cons h489 <| .cons h522 <| .cons h520 <| .cons h497 <| .cons (decide_eq_true h519) <| .cons (len_ok (P := C0.P) (t := 23) (e := 33) (by kernel_rfl) h486) <| .cons (strNeF h518) <| .cons h514 <| .cons h512 <| .cons h497 <| .cons h508 <| .cons h506 <| .cons h489 <| .cons (bneF h505) <| .cons h501 <| .cons h499 <| .cons h497 <| .cons h493 <| .cons h491 <| .cons h489 <| .cons (decide_eq_true h488) <| .cons (len_ok (P := C0.P) (t := 23) (e := 33) (by kernel_rfl) h486) .nil)) (by kernel_rfl)
          · intro h
            exact loop_more (runO_ok (hs := [.run 2, .val (.int .i64 (n487 : Int)), .dec true, .run 2, .val x490, .val x492, .val (.int .i64 i495), .run 2, .val x498, .val x500, .val (.int .i64 i503), .dec false, .run 3, .val x490, .val x507, .val (.str s510), .run 2, .val x498, .val x513, .val (.str s516), .dec false, .run 5, .val (.int .i64 (n487 : Int)), .dec false, .run 6]) (want := [6, 9, 10, 13]) (by kernel_rfl) (.cons (decide_eq_false h519) <| .cons (len_ok (P := C0.P) (t := 23) (e := 33) (by kernel_rfl) h486) <| .cons (strNeF h518) <| .cons h514 <| .cons h512 <| .cons h497 <| .cons h508 <| .cons h506 <| .cons h489 <| .cons (bneF h505) <| .cons h501 <| .cons h499 <| .cons h497 <| .cons h493 <| .cons h491 <| .cons h489 <| .cons (decide_eq_true h488) <| .cons (len_ok (P := C0.P) (t := 23) (e := 33) (by kernel_rfl) h486) .nil)) (ih (IntKind.wrap .i64 (i484 + 1)) st485 _ h)
        · intro h
          obtain rfl := Option.some.inj h
          exact loop_done (runO_ok (hs := [.run 2, .val (.int .i64 (n487 : Int)), .dec true, .run 2, .val x490, .val x492, .val (.int .i64 i495), .run 2, .val x498, .val x500, .val (.int .i64 i503), .dec false, .run 3, .val x490, .val x507, .val (.str s510), .run 2, .val x498, .val x513, .val (.str s516), .dec true, .run 4]) (want := [4]) (by kernel_rfl) (.cons (strNeT h518) <| .cons h514 <| .cons h512 <| .cons h497 <| .cons h508 <| .cons h506 <| .cons h489 <| .cons (bneF h505) <| .cons h501 <| .cons h499 <| .cons h497 <| .cons h493 <| .cons h491 <| .cons h489 <| .cons (decide_eq_true h488) <| .cons (len_ok (P := C0.P) (t := 23) (e := 33) (by kernel_rfl) h486) .nil)) (by kernel_rfl)
      · intro h
        obtain rfl := Option.some.inj h
        exact loop_done (runO_ok (hs := [.run 2, .val (.int .i64 (n487 : Int)), .dec true, .run 2, .val x490, .val x492, .val (.int .i64 i495), .run 2, .val x498, .val x500, .val (.int .i64 i503), .dec true, .run 5]) (want := [4]) (by kernel_rfl) (.cons (bneT h505) <| .cons h501 <| .cons h499 <| .cons h497 <| .cons h493 <| .cons h491 <| .cons h489 <| .cons (decide_eq_true h488) <| .cons (len_ok (P := C0.P) (t := 23) (e := 33) (by kernel_rfl) h486) .nil)) (by kernel_rfl)
    · intro h
      obtain rfl := Option.some.inj h
      exact loop_done (runO_ok (hs := [.run 2, .val (.int .i64 (n487 : Int)), .dec false]) (want := []) (by kernel_rfl) (.cons (decide_eq_false h488) <| .cons (len_ok (P := C0.P) (t := 23) (e := 33) (by kernel_rfl) h486) .nil)) (by kernel_rfl)

/- parchment/parchmentlaw11.LexBlanks -/
def parchmentlaw11_LexBlanks_n : Nat := 5
noncomputable def parchmentlaw11_LexBlanks (R : Nat) (s374 : List UInt8) (i375 : Int) (st376 : St) : Option (Bool × St) :=
  if ((List.length s374 : Int) > 600) then
   Option.bind (subS s374 0 600) fun s379 =>
   Option.bind (lex_Words R s379 st376) fun (x380, i381, i382, st384) =>
   Option.bind (subS [32, 10, 9, 32] 0 (andI .i64 i375 3)) fun s386 =>
   Option.bind (catS s386 s379) fun s388 =>
   Option.bind (subS [9, 10] 0 (IntKind.wrap .i64 (Int.tdiv (andI .i64 i375 3) 2))) fun s390 =>
   Option.bind (catS s388 s390) fun s392 =>
   Option.bind (lex_Words R s392 st384) fun (x393, i394, i395, st397) =>
   Option.bind (parchmentlaw11_LexBlanks_j11111100 R x380 i382 x393 i395) fun b427 =>
   if b427 = true then
    some (false, st397)
   else
    Option.bind (parchmentlaw11_LexBlanks_l1111111010 R x380 (andI .i64 i375 3) x393 R 0 st397) fun o => match o with
    | .inl (b534, st535) =>
     some (b534, st535)
    | .inr st536 =>
     some (true, st536)
  else
   Option.bind (lex_Words R s374 st376) fun (x537, i538, i539, st541) =>
   Option.bind (subS [32, 10, 9, 32] 0 (andI .i64 i375 3)) fun s543 =>
   Option.bind (catS s543 s374) fun s545 =>
   Option.bind (subS [9, 10] 0 (IntKind.wrap .i64 (Int.tdiv (andI .i64 i375 3) 2))) fun s547 =>
   Option.bind (catS s545 s547) fun s549 =>
   Option.bind (lex_Words R s549 st541) fun (x550, i551, i552, st554) =>
   Option.bind (parchmentlaw11_LexBlanks_j11111100 R x537 i539 x550 i552) fun b556 =>
   if b556 = true then
    some (false, st554)
   else
    Option.bind (parchmentlaw11_LexBlanks_l1111111010 R x537 (andI .i64 i375 3) x550 R 0 st554) fun o => match o with
    | .inl (b559, st560) =>
     some (b559, st560)
    | .inr st561 =>
     some (true, st561)
theorem parchmentlaw11_LexBlanks_ok (R n : Nat) (s374 : List UInt8) (i375 : Int) (st376 : St) (r : Bool × St) (h : parchmentlaw11_LexBlanks R s374 i375 st376 = some r) :
    CallsTo (callK C0 ext3 R (n + 4)) false 5 [(.str s374), (.int .i64 i375)] st376 (.bool r.1) r.2 := by
  revert h
  unfold parchmentlaw11_LexBlanks
  refine iteE (fun h377 => ?_) (fun h377 => ?_)
  · refine bindE fun s379 h378 => ?_
    refine bindE fun o h383 => ?_
    obtain ⟨x380, i381, i382, st384⟩ := o
    refine bindE fun s386 h385 => ?_
    refine bindE fun s388 h387 => ?_
    refine bindE fun s390 h389 => ?_
    refine bindE fun s392 h391 => ?_
    refine bindE fun o h396 => ?_
    obtain ⟨x393, i394, i395, st397⟩ := o
    refine bindE fun b427 h426 => ?_
    refine iteE (fun h428 => ?_) (fun h428 => ?_)
    · subst h428
      intro h
      obtain rfl := Option.some.inj h
      exact callO_ok (hs := [.run 5, .dec true, .run 1, .val (.str s379), .run 2, .call (.tuple [x380, (.int .i64 i381), (.int .i64 i382)]) st384, .run 11, .val (.str s386), .run 1, .val (.str s388), .run 2, .val (.str s390), .val (.str s392), .call (.tuple [x393, (.int .i64 i394), (.int .i64 i395)]) st397, .run 7, .absG [6, 8, 10, 12] .normal [(54, (.bool true))] st397, .run 1]) (by kernel_rfl) (.cons (parchmentlaw11_LexBlanks_j11111100_ok R n x380 i382 x393 i395 st397 _ h426) <| .cons (lex_Words_ok R n s392 st384 _ h396) <| .cons (cat_ok h391) <| .cons (sub01 (k' := .i64) (P := C0.P) (t := 9) (by kernel_rfl) h389) <| .cons (cat_ok h387) <| .cons (sub01 (k' := .i64) (P := C0.P) (t := 9) (by kernel_rfl) h385) <| .cons (lex_Words_ok R n s379 st376 _ h383) <| .cons (sub01 (k' := .i64) (P := C0.P) (t := 9) (by kernel_rfl) h378) <| .cons (decide_eq_true h377) .nil) (by kernel_rfl) (by kernel_rfl)
    · obtain rfl := bF h428
      refine bindE fun o h533 => ?_
      rcases o with ⟨b534, st535⟩ | st536
      · intro h
        obtain rfl := Option.some.inj h
        exact callO_ok (hs := [.run 5, .dec true, .run 1, .val (.str s379), .run 2, .call (.tuple [x380, (.int .i64 i381), (.int .i64 i382)]) st384, .run 11, .val (.str s386), .run 1, .val (.str s388), .run 2, .val (.str s390), .val (.str s392), .call (.tuple [x393, (.int .i64 i394), (.int .i64 i395)]) st397, .run 7, .absG [6, 8, 10, 12] .normal [(54, (.bool false))] st397, .run 1, .abs [6, 9, 10, 13] .ret [(4, (.bool b534))] st535]) (by kernel_rfl) (.cons (loop_leads (parchmentlaw11_LexBlanks_l1111111010_ok R n x380 (andI .i64 i375 3) x393 R 0 st397 _ h533)) <| .cons (parchmentlaw11_LexBlanks_j11111100_ok R n x380 i382 x393 i395 st397 _ h426) <| .cons (lex_Words_ok R n s392 st384 _ h396) <| .cons (cat_ok h391) <| .cons (sub01 (k' := .i64) (P := C0.P) (t := 9) (by kernel_rfl) h389) <| .cons (cat_ok h387) <| .cons (sub01 (k' := .i64) (P := C0.P) (t := 9) (by kernel_rfl) h385) <| .cons (lex_Words_ok R n s379 st376 _ h383) <| .cons (sub01 (k' := .i64) (P := C0.P) (t := 9) (by kernel_rfl) h378) <| .cons (decide_eq_true h377) .nil) (by kernel_rfl) (by kernel_rfl)
      · intro h
        obtain rfl := Option.some.inj h
        exact callO_ok (hs := [.run 5, .dec true, .run 1, .val (.str s379), .run 2, .call (.tuple [x380, (.int .i64 i381), (.int .i64 i382)]) st384, .run 11, .val (.str s386), .run 1, .val (.str s388), .run 2, .val (.str s390), .val (.str s392), .call (.tuple [x393, (.int .i64 i394), (.int .i64 i395)]) st397, .run 7, .absG [6, 8, 10, 12] .normal [(54, (.bool false))] st397, .run 1, .abs [6, 9, 10, 13] (.exit 0) [] st536, .run 1]) (by kernel_rfl) (.cons (loop_leads (parchmentlaw11_LexBlanks_l1111111010_ok R n x380 (andI .i64 i375 3) x393 R 0 st397 _ h533)) <| .cons (parchmentlaw11_LexBlanks_j11111100_ok R n x380 i382 x393 i395 st397 _ h426) <| .cons (lex_Words_ok R n s392 st384 _ h396) <| .cons (cat_ok h391) <| .cons (sub01 (k' := .i64) (P := C0.P) (t := 9) (by kernel_rfl) h389) <| .cons (cat_ok h387) <| .cons (sub01 (k' := .i64) (P := C0.P) (t := 9) (by kernel_rfl) h385) <| .cons (lex_Words_ok R n s379 st376 _ h383) <| .cons (sub01 (k' := .i64) (P := C0.P) (t := 9) (by kernel_rfl) h378) <| .cons (decide_eq_true h377) .nil) (by kernel_rfl) (by kernel_rfl)
  · refine bindE fun o h540 => ?_
    obtain ⟨x537, i538, i539, st541⟩ := o
    refine bindE fun s543 h542 => ?_
    refine bindE fun s545 h544 => ?_
    refine bindE fun s547 h546 => ?_
    refine bindE fun s549 h548 => ?_
    refine bindE fun o h553 => ?_
    obtain ⟨x550, i551, i552, st554⟩ := o
    refine bindE fun b556 h555 => ?_
    refine iteE (fun h557 => ?_) (fun h557 => ?_)
    · subst h557
      intro h
      obtain rfl := Option.some.inj h
      exact callO_ok (hs := [.run 5, .dec false, .run 1, .call (.tuple [x537, (.int .i64 i538), (.int .i64 i539)]) st541, .run 11, .val (.str s543), .run 1, .val (.str s545), .run 2, .val (.str s547), .val (.str s549), .call (.tuple [x550, (.int .i64 i551), (.int .i64 i552)]) st554, .run 7, .absG [6, 8, 10, 12] .normal [(54, (.bool true))] st554, .run 1]) (by kernel_rfl) (.cons (parchmentlaw11_LexBlanks_j11111100_ok R n x537 i539 x550 i552 st554 _ h555) <| .cons (lex_Words_ok R n s549 st541 _ h553) <| .cons (cat_ok h548) <| .cons (sub01 (k' := .i64) (P := C0.P) (t := 9) (by kernel_rfl) h546) <| .cons (cat_ok h544) <| .cons (sub01 (k' := .i64) (P := C0.P) (t := 9) (by kernel_rfl) h542) <| .cons (lex_Words_ok R n s374 st376 _ h540) <| .cons (decide_eq_false h377) .nil) (by kernel_rfl) (by kernel_rfl)
    · obtain rfl := bF h557
      refine bindE fun o h558 => ?_
      rcases o with ⟨b559, st560⟩ | st561
      · intro h
        obtain rfl := Option.some.inj h
        exact callO_ok (hs := [.run 5, .dec false, .run 1, .call (.tuple [x537, (.int .i64 i538), (.int .i64 i539)]) st541, .run 11, .val (.str s543), .run 1, .val (.str s545), .run 2, .val (.str s547), .val (.str s549), .call (.tuple [x550, (.int .i64 i551), (.int .i64 i552)]) st554, .run 7, .absG [6, 8, 10, 12] .normal [(54, (.bool false))] st554, .run 1, .abs [6, 9, 10, 13] .ret [(4, (.bool b559))] st560]) (by kernel_rfl) (.cons (loop_leads (parchmentlaw11_LexBlanks_l1111111010_ok R n x537 (andI .i64 i375 3) x550 R 0 st554 _ h558)) <| .cons (parchmentlaw11_LexBlanks_j11111100_ok R n x537 i539 x550 i552 st554 _ h555) <| .cons (lex_Words_ok R n s549 st541 _ h553) <| .cons (cat_ok h548) <| .cons (sub01 (k' := .i64) (P := C0.P) (t := 9) (by kernel_rfl) h546) <| .cons (cat_ok h544) <| .cons (sub01 (k' := .i64) (P := C0.P) (t := 9) (by kernel_rfl) h542) <| .cons (lex_Words_ok R n s374 st376 _ h540) <| .cons (decide_eq_false h377) .nil) (by kernel_rfl) (by kernel_rfl)
      · intro h
        obtain rfl := Option.some.inj h
        exact callO_ok (hs := [.run 5, .dec false, .run 1, .call (.tuple [x537, (.int .i64 i538), (.int .i64 i539)]) st541, .run 11, .val (.str s543), .run 1, .val (.str s545), .run 2, .val (.str s547), .val (.str s549), .call (.tuple [x550, (.int .i64 i551), (.int .i64 i552)]) st554, .run 7, .absG [6, 8, 10, 12] .normal [(54, (.bool false))] st554, .run 1, .abs [6, 9, 10, 13] (.exit 0) [] st561, .run 1]) (by kernel_rfl) (.cons (loop_leads (parchmentlaw11_LexBlanks_l1111111010_ok R n x537 (andI .i64 i375 3) x550 R 0 st554 _ h558)) <| .cons (parchmentlaw11_LexBlanks_j11111100_ok R n x537 i539 x550 i552 st554 _ h555) <| .cons (lex_Words_ok R n s549 st541 _ h553) <| .cons (cat_ok h548) <| .cons (sub01 (k' := .i64) (P := C0.P) (t := 9) (by kernel_rfl) h546) <| .cons (cat_ok h544) <| .cons (sub01 (k' := .i64) (P := C0.P) (t := 9) (by kernel_rfl) h542) <| .cons (lex_Words_ok R n s374 st376 _ h540) <| .cons (decide_eq_false h377) .nil) (by kernel_rfl) (by kernel_rfl)

noncomputable def parchmentlaw11_LexQuotes_l1111010 (R : Nat) (s599 : List UInt8) : Nat → List UInt8 → List UInt8 → Int → St → Option ((List UInt8 × List UInt8 × St))
  | 0, _, _, _, _ => none
  | r + 1, s600, s601, i602, st603 =>
    if (i602 < (List.length s599 : Int)) then
     Option.bind (subS s599 i602 (IntKind.wrap .i64 (i602 + 1))) fun s606 =>
     Option.bind (catS s600 s606) fun s608 =>
     Option.bind (idxS s599 i602) fun i610 =>
     if (i610 = 39) then
      Option.bind (catS s608 [39]) fun s613 =>
      Option.bind (subS [48, 49, 50, 51, 52, 53, 54, 55, 56, 57, 97, 98, 99, 100, 101, 102] (IntKind.wrap .u8 (Int.tdiv i610 16)) (IntKind.wrap .u8 ((IntKind.wrap .u8 (Int.tdiv i610 16)) + 1))) fun s615 =>
      Option.bind (subS [48, 49, 50, 51, 52, 53, 54, 55, 56, 57, 97, 98, 99, 100, 101, 102] (Int.tmod i610 16) (IntKind.wrap .u8 ((Int.tmod i610 16) + 1))) fun s617 =>
      Option.bind (catS s615 s617) fun s619 =>
      Option.bind (catS s601 s619) fun s621 =>
      parchmentlaw11_LexQuotes_l1111010 R s599 r s613 s621 (IntKind.wrap .i64 (i602 + 1)) st603
     else
      Option.bind (subS [48, 49, 50, 51, 52, 53, 54, 55, 56, 57, 97, 98, 99, 100, 101, 102] (IntKind.wrap .u8 (Int.tdiv i610 16)) (IntKind.wrap .u8 ((IntKind.wrap .u8 (Int.tdiv i610 16)) + 1))) fun s623 =>
      Option.bind (subS [48, 49, 50, 51, 52, 53, 54, 55, 56, 57, 97, 98, 99, 100, 101, 102] (Int.tmod i610 16) (IntKind.wrap .u8 ((Int.tmod i610 16) + 1))) fun s625 =>
      Option.bind (catS s623 s625) fun s627 =>
      Option.bind (catS s601 s627) fun s629 =>
      parchmentlaw11_LexQuotes_l1111010 R s599 r s608 s629 (IntKind.wrap .i64 (i602 + 1)) st603
    else
     some (s600, s601, st603)
noncomputable def parchmentlaw11_LexQuotes_l1111010_x (o : (List UInt8 × List UInt8 × St)) : AExit × List (Nat × AV) × St := match o with
  | (a0, a1, a2) => ((.exit 0), [(4, .str a0), (5, .str a1)], a2)
theorem parchmentlaw11_LexQuotes_l1111010_ok (R n : Nat) (s599 : List UInt8) : ∀ (r : Nat) (s600 : List UInt8) (s601 : List UInt8) (i602 : Int) (st603 : St) (o : (List UInt8 × List UInt8 × St)), parchmentlaw11_LexQuotes_l1111010 R s599 r s600 s601 i602 st603 = some o →
    Leads 124 (loopK (fun fr k => execK C0 (callK C0 ext3 R (n + 3)) 6 R none (codeAt C0.P 6 [1, 1, 1, 1, 0, 1, 0, 0]) fr k) r) (modsOf (codeAt C0.P 6 [1, 1, 1, 1, 0, 1, 0, 0])) [(3, (.str s599)), (4, (.str s600)), (5, (.str s601)), (6, (.int .i64 i602))] st603 (parchmentlaw11_LexQuotes_l1111010_x o).1 (parchmentlaw11_LexQuotes_l1111010_x o).2.1 (parchmentlaw11_LexQuotes_l1111010_x o).2.2 := by
  intro r
  induction r with
  | zero => intro s600 s601 i602 st603 o h; exact nomatch h
  | succ r ih =>
    intro s600 s601 i602 st603 o
    unfold parchmentlaw11_LexQuotes_l1111010
    refine iteE (fun h604 => ?_) (fun h604 => ?_)
    · refine bindE fun s606 h605 => ?_
      refine bindE fun s608 h607 => ?_
      refine bindE fun i610 h609 => ?_
      refine iteE (fun h611 => ?_) (fun h611 => ?_)
      · refine bindE fun s613 h612 => ?_
        refine bindE fun s615 h614 => ?_
        refine bindE fun s617 h616 => ?_
        refine bindE fun s619 h618 => ?_
        refine bindE fun s621 h620 => ?_
        intro h
        exact loop_more (runO_ok (hs := [.run 3, .dec true, .run 5, .val (.str s606), .val (.str s608), .run 3, .val (.int .u8 i610), .dec true, .run 1, .val (.str s613), .run 4, .val (.int .u8 i610), .run 3, .val (.int .u8 i610), .run 2, .val (.str s615), .run 2, .val (.int .u8 i610), .run 3, .val (.int .u8 i610), .run 2, .val (.str s617), .val (.str s619), .val (.str s621), .run 4]) (want := [3, 4, 5, 6]) (by kernel_rfl) (.cons (cat_ok h620) <| .cons (cat_ok h618) <| .cons (sub11 (k := .u8) (k' := .u8) (P := C0.P) (t := 9) (by kernel_rfl) h616) <| .cons (idx_ok (k := .i64) (P := C0.P) (t := 9) (by kernel_rfl) h609) <| .cons (idx_ok (k := .i64) (P := C0.P) (t := 9) (by kernel_rfl) h609) <| .cons (sub11 (k := .u8) (k' := .u8) (P := C0.P) (t := 9) (by kernel_rfl) h614) <| .cons (idx_ok (k := .i64) (P := C0.P) (t := 9) (by kernel_rfl) h609) <| .cons (idx_ok (k := .i64) (P := C0.P) (t := 9) (by kernel_rfl) h609) <| .cons (cat_ok h612) <| .cons (beqT h611) <| .cons (idx_ok (k := .i64) (P := C0.P) (t := 9) (by kernel_rfl) h609) <| .cons (cat_ok h607) <| .cons (sub11 (k := .i64) (k' := .i64) (P := C0.P) (t := 9) (by kernel_rfl) h605) <| .cons (decide_eq_true h604) .nil)) (ih s613 s621 (IntKind.wrap .i64 (i602 + 1)) st603 _ h)
      · refine bindE fun s623 h622 => ?_
        refine bindE fun s625 h624 => ?_
        refine bindE fun s627 h626 => ?_
        refine bindE fun s629 h628 => ?_
        intro h
        exact loop_more (runO_ok (hs := [.run 3, .dec true, .run 5, .val (.str s606), .val (.str s608), .run 3, .val (.int .u8 i610), .dec false, .run 3, .val (.int .u8 i610), .run 3, .val (.int .u8 i610), .run 2, .val (.str s623), .run 2, .val (.int .u8 i610), .run 3, .val (.int .u8 i610), .run 2, .val (.str s625), .val (.str s627), .val (.str s629), .run 4]) (want := [3, 4, 5, 6]) (by kernel_rfl) (.cons (cat_ok h628) <| .cons (cat_ok h626) <| .cons (sub11 (k := .u8) (k' := .u8) (P := C0.P) (t := 9) (by kernel_rfl) h624) <| .cons (idx_ok (k := .i64) (P := C0.P) (t := 9) (by kernel_rfl) h609) <| .cons (idx_ok (k := .i64) (P := C0.P) (t := 9) (by kernel_rfl) h609) <| .cons (sub11 (k := .u8) (k' := .u8) (P := C0.P) (t := 9) (by kernel_rfl) h622) <| .cons (idx_ok (k := .i64) (P := C0.P) (t := 9) (by kernel_rfl) h609) <| .cons (idx_ok (k := .i64) (P := C0.P) (t := 9) (by kernel_rfl) h609) <| .cons (beqF h611) <| .cons (idx_ok (k := .i64) (P := C0.P) (t := 9) (by kernel_rfl) h609) <| .cons (cat_ok h607) <| .cons (sub11 (k := .i64) (k' := .i64) (P := C0.P) (t := 9) (by kernel_rfl) h605) <| .cons (decide_eq_true h604) .nil)) (ih s608 s629 (IntKind.wrap .i64 (i602 + 1)) st603 _ h)
    · intro h
      obtain rfl := Option.some.inj h
      exact loop_done (runO_ok (hs := [.run 3, .dec false]) (want := [4, 5]) (by kernel_rfl) (.cons (decide_eq_false h604) .nil)) (by kernel_rfl)

noncomputable def parchmentlaw11_LexQuotes_j11111110 (R : Nat) (s697 : List UInt8) (x698 : AV) (i699 : Int) (x700 : AV) (i701 : Int) (st702 : St) : Option (Bool × St) :=
  Option.bind (xawake R) fun b703 =>
  if b703 = true then
   if (i699 = 0) then
    Option.bind (lenOf x698) fun n708 =>
    if ((n708 : Int) = 2) then
     Option.bind (indexAddrOp C0.P 23 x698 (.int .i64 0)) fun x711 =>
     Option.bind (shift x711 0) fun x713 =>
     Option.bind (loadAt C0.P st702 3 x713) fun x715 =>
     Option.bind (avInt .i64 x715) fun i716 =>
     if (i716 = 4) then
      Option.bind (shift x711 1) fun x720 =>
      Option.bind (loadAt C0.P st702 9 x720) fun x722 =>
      Option.bind (avStr x722) fun s723 =>
      if (s723 = s697) then
       if (i701 = 0) then
        Option.bind (lenOf x700) fun n728 =>
        if ((n728 : Int) = 2) then
         Option.bind (indexAddrOp C0.P 23 x700 (.int .i64 0)) fun x731 =>
         Option.bind (shift x731 0) fun x733 =>
         Option.bind (loadAt C0.P st702 3 x733) fun x735 =>
         Option.bind (avInt .i64 x735) fun i736 =>
         if (i736 = 5) then
          Option.bind (shift x731 1) fun x740 =>
          Option.bind (loadAt C0.P st702 9 x740) fun x742 =>
          Option.bind (avStr x742) fun s743 =>
          if (s743 = s697) then
           some (true, st702)
          else
           some (false, st702)
         else
          some (false, st702)
        else
         some (false, st702)
       else
        some (false, st702)
      else
       some (false, st702)
     else
      some (false, st702)
    else
     some (false, st702)
   else
    some (false, st702)
  else
   some (false, st702)
theorem parchmentlaw11_LexQuotes_j11111110_ok (R n : Nat) (s697 : List UInt8) (x698 : AV) (i699 : Int) (x700 : AV) (i701 : Int) (st702 : St) (r : Bool × St) (h : parchmentlaw11_LexQuotes_j11111110 R s697 x698 i699 x700 i701 st702 = some r) :
    Leads 124 (execK C0 (callK C0 ext3 R (n + 3)) 6 R none (codeAt C0.P 6 [1, 1, 1, 1, 1, 1, 1, 0])) (modsOf (codeAt C0.P 6 [1, 1, 1, 1, 1, 1, 1, 0])) [(3, (.str s697)), (7, x698), (9, (.int .i64 i699)), (10, x700), (12, (.int .i64 i701))] st702 .normal [(2, .bool r.1)] r.2 := by
  revert h
  unfold parchmentlaw11_LexQuotes_j11111110
  refine bindE fun b703 h704 => ?_
  refine iteE (fun h705 => ?_) (fun h705 => ?_)
  · subst h705
    refine iteE (fun h706 => ?_) (fun h706 => ?_)
    · refine bindE fun n708 h707 => ?_
      refine iteE (fun h709 => ?_) (fun h709 => ?_)
      · refine bindE fun x711 h710 => ?_
        refine bindE fun x713 h712 => ?_
        refine bindE fun x715 h714 => ?_
        refine bindE fun i716 h717 => ?_
        obtain rfl := avInt_ok h717
        refine iteE (fun h718 => ?_) (fun h718 => ?_)
        · refine bindE fun x720 h719 => ?_
          refine bindE fun x722 h721 => ?_
          refine bindE fun s723 h724 => ?_
          obtain rfl := avStr_ok h724
          refine iteE (fun h725 => ?_) (fun h725 => ?_)
          · refine iteE (fun h726 => ?_) (fun h726 => ?_)
            · refine bindE fun n728 h727 => ?_
              refine iteE (fun h729 => ?_) (fun h729 => ?_)
              · refine bindE fun x731 h730 => ?_
                refine bindE fun x733 h732 => ?_
                refine bindE fun x735 h734 => ?_
                refine bindE fun i736 h737 => ?_
                obtain rfl := avInt_ok h737
                refine iteE (fun h738 => ?_) (fun h738 => ?_)
                · refine bindE fun x740 h739 => ?_
                  refine bindE fun x742 h741 => ?_
                  refine bindE fun s743 h744 => ?_
                  obtain rfl := avStr_ok h744
                  refine iteE (fun h745 => ?_) (fun h745 => ?_)
                  · intro h
                    obtain rfl := Option.some.inj h
                    exact runO_ok (hs := [.call (.bool true) st702, .run 2, .dec true, .run 3, .val (.int .i64 (n708 : Int)), .dec true, .run 3, .val x711, .val x713, .val (.int .i64 i716), .dec true, .run 3, .val x711, .val x720, .val (.str s723), .run 1, .dec true, .run 3, .dec true, .run 3, .val (.int .i64 (n728 : Int)), .dec true, .run 3, .val x731, .val x733, .val (.int .i64 i736), .dec true, .run 3, .val x731, .val x740, .val (.str s743), .run 1, .dec true, .run 2]) (want := [2]) (by kernel_rfl) (.cons (strEqT h745) <| .cons h741 <| .cons h739 <| .cons h730 <| .cons (beqT h738) <| .cons h734 <| .cons h732 <| .cons h730 <| .cons (beqT h729) <| .cons (len_ok (P := C0.P) (t := 23) (e := 33) (by kernel_rfl) h727) <| .cons (beqT h726) <| .cons (strEqT h725) <| .cons h721 <| .cons h719 <| .cons h710 <| .cons (beqT h718) <| .cons h714 <| .cons h712 <| .cons h710 <| .cons (beqT h709) <| .cons (len_ok (P := C0.P) (t := 23) (e := 33) (by kernel_rfl) h707) <| .cons (beqT h706) <| .cons (xawake_ok_ext3 R (n + 2) st702 _ h704) .nil)
                  · intro h
                    obtain rfl := Option.some.inj h
                    exact runO_ok (hs := [.call (.bool true) st702, .run 2, .dec true, .run 3, .val (.int .i64 (n708 : Int)), .dec true, .run 3, .val x711, .val x713, .val (.int .i64 i716), .dec true, .run 3, .val x711, .val x720, .val (.str s723), .run 1, .dec true, .run 3, .dec true, .run 3, .val (.int .i64 (n728 : Int)), .dec true, .run 3, .val x731, .val x733, .val (.int .i64 i736), .dec true, .run 3, .val x731, .val x740, .val (.str s743), .run 1, .dec false, .run 2]) (want := [2]) (by kernel_rfl) (.cons (strEqF h745) <| .cons h741 <| .cons h739 <| .cons h730 <| .cons (beqT h738) <| .cons h734 <| .cons h732 <| .cons h730 <| .cons (beqT h729) <| .cons (len_ok (P := C0.P) (t := 23) (e := 33) (by kernel_rfl) h727) <| .cons (beqT h726) <| .cons (strEqT h725) <| .cons h721 <| .cons h719 <| .cons h710 <| .cons (beqT h718) <| .cons h714 <| .cons h712 <| .cons h710 <| .cons (beqT h709) <| .cons (len_ok (P := C0.P) (t := 23) (e := 33) (by kernel_rfl) h707) <| .cons (beqT h706) <| .cons (xawake_ok_ext3 R (n + 2) st702 _ h704) .nil)
                · intro h
                  obtain rfl := Option.some.inj h
                  exact runO_ok (hs := [.call (.bool true) st702, .run 2, .dec true, .run 3, .val (.int .i64 (n708 : Int)), .dec true, .run 3, .val x711, .val x713, .val (.int .i64 i716), .dec true, .run 3, .val x711, .val x720, .val (.str s723), .run 1, .dec true, .run 3, .dec true, .run 3, .val (.int .i64 (n728 : Int)), .dec true, .run 3, .val x731, .val x733, .val (.int .i64 i736), .dec false, .run 4]) (want := [2]) (by kernel_rfl) (.cons (beqF h738) <| .cons h734 <| .cons h732 <| .cons h730 <| .cons (beqT h729) <| .cons (len_ok (P := C0.P) (t := 23) (e := 33) (by kernel_rfl) h727) <| .cons (beqT h726) <| .cons (strEqT h725) <| .cons h721 <| .cons h719 <| .cons h710 <| .cons (beqT h718) <| .cons h714 <| .cons h712 <| .cons h710 <| .cons (beqT h709) <| .cons (len_ok (P := C0.P) (t := 23) (e := 33) (by kernel_rfl) h707) <| .cons (beqT h706) <| .cons (xawake_ok_ext3 R (n + 2) st702 _ h704) .nil)
              · intro h
                obtain rfl := Option.some.inj h
                exact runO_ok (hs := [.call (.bool true) st702, .run 2, .dec true, .run 3, .val (.int .i64 (n708 : Int)), .dec true, .run 3, .val x711, .val x713, .val (.int .i64 i716), .dec true, .run 3, .val x711, .val x720, .val (.str s723), .run 1, .dec true, .run 3, .dec true, .run 3, .val (.int .i64 (n728 : Int)), .dec false, .run 6]) (want := [2]) (by kernel_rfl) (.cons (beqF h729) <| .cons (len_ok (P := C0.P) (t := 23) (e := 33) (by kernel_rfl) h727) <| .cons (beqT h726) <| .cons (strEqT h725) <| .cons h721 <| .cons h719 <| .cons h710 <| .cons (beqT h718) <| .cons h714 <| .cons h712 <| .cons h710 <| .cons (beqT h709) <| .cons (len_ok (P := C0.P) (t := 23) (e := 33) (by kernel_rfl) h707) <| .cons (beqT h706) <| .cons (xawake_ok_ext3 R (n + 2) st702 _ h704) .nil)
            · intro h
              obtain rfl := Option.some.inj h
              exact runO_ok (hs := [.call (.bool true) st702, .run 2, .dec true, .run 3, .val (.int .i64 (n708 : Int)), .dec true, .run 3, .val x711, .val x713, .val (.int .i64 i716), .dec true, .run 3, .val x711, .val x720, .val (.str s723), .run 1, .dec true, .run 3, .dec false, .run 8]) (want := [2]) (by kernel_rfl) (.cons (beqF h726) <| .cons (strEqT h725) <| .cons h721 <| .cons h719 <| .cons h710 <| .cons (beqT h718) <| .cons h714 <| .cons h712 <| .cons h710 <| .cons (beqT h709) <| .cons (len_ok (P := C0.P) (t := 23) (e := 33) (by kernel_rfl) h707) <| .cons (beqT h706) <| .cons (xawake_ok_ext3 R (n + 2) st702 _ h704) .nil)
          · intro h
            obtain rfl := Option.some.inj h
            exact runO_ok (hs := [.call (.bool true) st702, .run 2, .dec true, .run 3, .val (.int .i64 (n708 : Int)), .dec true, .run 3, .val x711, .val x713, .val (.int .i64 i716), .dec true, .run 3, .val x711, .val x720, .val (.str s723), .run 1, .dec false, .run 10]) (want := [2]) (by kernel_rfl) (.cons (strEqF h725) <| .cons h721 <| .cons h719 <| .cons h710 <| .cons (beqT h718) <| .cons h714 <| .cons h712 <| .cons h710 <| .cons (beqT h709) <| .cons (len_ok (P := C0.P) (t := 23) (e := 33) (by kernel_rfl) h707) <| .cons (beqT h706) <| .cons (xawake_ok_ext3 R (n + 2) st702 _ h704) .nil)
        · intro h
          obtain rfl := Option.some.inj h
          exact runO_ok (hs := [.call (.bool true) st702, .run 2, .dec true, .run 3, .val (.int .i64 (n708 : Int)), .dec true, .run 3, .val x711, .val x713, .val (.int .i64 i716), .dec false, .run 12]) (want := [2]) (by kernel_rfl) (.cons (beqF h718) <| .cons h714 <| .cons h712 <| .cons h710 <| .cons (beqT h709) <| .cons (len_ok (P := C0.P) (t := 23) (e := 33) (by kernel_rfl) h707) <| .cons (beqT h706) <| .cons (xawake_ok_ext3 R (n + 2) st702 _ h704) .nil)
      · intro h
        obtain rfl := Option.some.inj h
        exact runO_ok (hs := [.call (.bool true) st702, .run 2, .dec true, .run 3, .val (.int .i64 (n708 : Int)), .dec false, .run 14]) (want := [2]) (by kernel_rfl) (.cons (beqF h709) <| .cons (len_ok (P := C0.P) (t := 23) (e := 33) (by kernel_rfl) h707) <| .cons (beqT h706) <| .cons (xawake_ok_ext3 R (n + 2) st702 _ h704) .nil)
    · intro h
      obtain rfl := Option.some.inj h
      exact runO_ok (hs := [.call (.bool true) st702, .run 2, .dec false, .run 16]) (want := [2]) (by kernel_rfl) (.cons (beqF h706) <| .cons (xawake_ok_ext3 R (n + 2) st702 _ h704) .nil)
  · obtain rfl := bF h705
    intro h
    obtain rfl := Option.some.inj h
    exact runO_ok (hs := [.call (.bool false) st702, .run 17]) (want := [2]) (by kernel_rfl) (.cons (xawake_ok_ext3 R (n + 2) st702 _ h704) .nil)

/- parchment/parchmentlaw11.LexQuotes -/
def parchmentlaw11_LexQuotes_n : Nat := 6
noncomputable def parchmentlaw11_LexQuotes (R : Nat) (s563 : List UInt8) (st564 : St) : Option (Bool × St) :=
  if ((List.length s563 : Int) > 400) then
   Option.bind (subS s563 0 400) fun s567 =>
   Option.bind (parchmentlaw11_LexQuotes_l1111010 R s567 R [39] [120, 39] 0 st564) fun (s631, s632, st633) =>
   Option.bind (catS s631 [39]) fun s635 =>
   Option.bind (lex_Words R s635 st633) fun (x636, i637, i638, st640) =>
   Option.bind (catS s632 [39]) fun s642 =>
   Option.bind (lex_Words R s642 st640) fun (x643, i644, i645, st647) =>
   Option.bind (parchmentlaw11_LexQuotes_j11111110 R s567 x636 i638 x643 i645 st647) fun (b747, st748) =>
   some (b747, st748)
  else
   Option.bind (parchmentlaw11_LexQuotes_l1111010 R s563 R [39] [120, 39] 0 st564) fun (s750, s751, st752) =>
   Option.bind (catS s750 [39]) fun s754 =>
   Option.bind (lex_Words R s754 st752) fun (x755, i756, i757, st759) =>
   Option.bind (catS s751 [39]) fun s761 =>
   Option.bind (lex_Words R s761 st759) fun (x762, i763, i764, st766) =>
   Option.bind (parchmentlaw11_LexQuotes_j11111110 R s563 x755 i757 x762 i764 st766) fun (b768, st769) =>
   some (b768, st769)
theorem parchmentlaw11_LexQuotes_ok (R n : Nat) (s563 : List UInt8) (st564 : St) (r : Bool × St) (h : parchmentlaw11_LexQuotes R s563 st564 = some r) :
    CallsTo (callK C0 ext3 R (n + 4)) false 6 [(.str s563)] st564 (.bool r.1) r.2 := by
  revert h
  unfold parchmentlaw11_LexQuotes
  refine iteE (fun h565 => ?_) (fun h565 => ?_)
  · refine bindE fun s567 h566 => ?_
    refine bindE fun o h630 => ?_
    obtain ⟨s631, s632, st633⟩ := o
    refine bindE fun s635 h634 => ?_
    refine bindE fun o h639 => ?_
    obtain ⟨x636, i637, i638, st640⟩ := o
    refine bindE fun s642 h641 => ?_
    refine bindE fun o h646 => ?_
    obtain ⟨x643, i644, i645, st647⟩ := o
    refine bindE fun o h746 => ?_
    obtain ⟨b747, st748⟩ := o
    intro h
    obtain rfl := Option.some.inj h
    exact callO_ok (hs := [.run 5, .dec true, .run 1, .val (.str s567), .run 4, .abs [3, 4, 5, 6] (.exit 0) [(4, (.str s631)), (5, (.str s632))] st633, .run 1, .val (.str s635), .call (.tuple [x636, (.int .i64 i637), (.int .i64 i638)]) st640, .run 8, .val (.str s642), .call (.tuple [x643, (.int .i64 i644), (.int .i64 i645)]) st647, .run 7, .absG [3, 7, 9, 10, 12] .normal [(2, (.bool b747))] st748]) (by kernel_rfl) (.cons (parchmentlaw11_LexQuotes_j11111110_ok R n s567 x636 i638 x643 i645 st647 _ h746) <| .cons (lex_Words_ok R n s642 st640 _ h646) <| .cons (cat_ok h641) <| .cons (lex_Words_ok R n s635 st633 _ h639) <| .cons (cat_ok h634) <| .cons (loop_leads (parchmentlaw11_LexQuotes_l1111010_ok R n s567 R [39] [120, 39] 0 st564 _ h630)) <| .cons (sub01 (k' := .i64) (P := C0.P) (t := 9) (by kernel_rfl) h566) <| .cons (decide_eq_true h565) .nil) (by kernel_rfl) (by kernel_rfl)
  · refine bindE fun o h749 => ?_
    obtain ⟨s750, s751, st752⟩ := o
    refine bindE fun s754 h753 => ?_
    refine bindE fun o h758 => ?_
    obtain ⟨x755, i756, i757, st759⟩ := o
    refine bindE fun s761 h760 => ?_
    refine bindE fun o h765 => ?_
    obtain ⟨x762, i763, i764, st766⟩ := o
    refine bindE fun o h767 => ?_
    obtain ⟨b768, st769⟩ := o
    intro h
    obtain rfl := Option.some.inj h
    exact callO_ok (hs := [.run 5, .dec false, .run 3, .abs [3, 4, 5, 6] (.exit 0) [(4, (.str s750)), (5, (.str s751))] st752, .run 1, .val (.str s754), .call (.tuple [x755, (.int .i64 i756), (.int .i64 i757)]) st759, .run 8, .val (.str s761), .call (.tuple [x762, (.int .i64 i763), (.int .i64 i764)]) st766, .run 7, .absG [3, 7, 9, 10, 12] .normal [(2, (.bool b768))] st769]) (by kernel_rfl) (.cons (parchmentlaw11_LexQuotes_j11111110_ok R n s563 x755 i757 x762 i764 st766 _ h767) <| .cons (lex_Words_ok R n s761 st759 _ h765) <| .cons (cat_ok h760) <| .cons (lex_Words_ok R n s754 st752 _ h758) <| .cons (cat_ok h753) <| .cons (loop_leads (parchmentlaw11_LexQuotes_l1111010_ok R n s563 R [39] [120, 39] 0 st564 _ h749)) <| .cons (decide_eq_false h565) .nil) (by kernel_rfl) (by kernel_rfl)

noncomputable def parchmentlaw11_LexNumbers_j11010000 (R : Nat) (s810 : List UInt8) (i811 : Int) : Option (Bool) :=
  if (i811 > 0) then
   some true
  else
   if (s810 = []) then
    some true
   else
    some false
theorem parchmentlaw11_LexNumbers_j11010000_ok (R n : Nat) (s810 : List UInt8) (i811 : Int) (st812 : St) (r : Bool) (h : parchmentlaw11_LexNumbers_j11010000 R s810 i811 = some r) :
    Leads 90 (execK C0 (callK C0 ext3 R (n + 3)) 7 R none (codeAt C0.P 7 [1, 1, 0, 1, 0, 0, 0, 0])) (modsOf (codeAt C0.P 7 [1, 1, 0, 1, 0, 0, 0, 0])) [(5, (.str s810)), (6, (.int .u64 i811))] st812 .normal [(18, .bool r)] st812 := by
  revert h
  unfold parchmentlaw11_LexNumbers_j11010000
  refine iteE (fun h813 => ?_) (fun h813 => ?_)
  · intro h
    obtain rfl := Option.some.inj h
    exact runO_ok (hs := [.run 1, .dec true, .run 2]) (want := [18]) (by kernel_rfl) (.cons (decide_eq_true h813) .nil)
  · refine iteE (fun h814 => ?_) (fun h814 => ?_)
    · intro h
      obtain rfl := Option.some.inj h
      exact runO_ok (hs := [.run 1, .dec false, .run 2, .dec true, .run 1]) (want := [18]) (by kernel_rfl) (.cons (strEqT h814) <| .cons (decide_eq_false h813) .nil)
    · intro h
      obtain rfl := Option.some.inj h
      exact runO_ok (hs := [.run 1, .dec false, .run 2, .dec false, .run 1]) (want := [18]) (by kernel_rfl) (.cons (strEqF h814) <| .cons (decide_eq_false h813) .nil)

noncomputable def parchmentlaw11_LexNumbers_l11010 (R : Nat) (i800 : Int) (i801 : Int) : Nat → List UInt8 → Int → St → Option ((List UInt8 × St))
  | 0, _, _, _ => none
  | r + 1, s802, i803, st804 =>
    Option.bind (parchmentlaw11_LexNumbers_j11010000 R s802 i803) fun b816 =>
    if b816 = true then
     Option.bind (mkNew (buildSliceOp C0.P (C0.byref 7) 37 1 [(0, (.int .u8 (IntKind.wrap .u8 (IntKind.wrap .u64 (48 + (Int.tmod i803 10))))))]) st804) fun (x820, st819) =>
     Option.bind (strOf st819 x820) fun s822 =>
     Option.bind (catS s822 s802) fun s824 =>
     parchmentlaw11_LexNumbers_l11010 R i800 i801 r s824 (IntKind.wrap .u64 (Int.tdiv i803 10)) st819
    else
     some (s802, st804)
noncomputable def parchmentlaw11_LexNumbers_l11010_x (o : (List UInt8 × St)) : AExit × List (Nat × AV) × St := match o with
  | (a0, a1) => ((.exit 0), [(5, .str a0)], a1)
theorem parchmentlaw11_LexNumbers_l11010_ok (R n : Nat) (i800 : Int) (i801 : Int) : ∀ (r : Nat) (s802 : List UInt8) (i803 : Int) (st804 : St) (o : (List UInt8 × St)), parchmentlaw11_LexNumbers_l11010 R i800 i801 r s802 i803 st804 = some o →
    Leads 90 (loopK (fun fr k => execK C0 (callK C0 ext3 R (n + 3)) 7 R none (codeAt C0.P 7 [1, 1, 0, 1, 0, 0]) fr k) r) (modsOf (codeAt C0.P 7 [1, 1, 0, 1, 0, 0])) [(0, (.int .u64 i800)), (1, (.int .i64 i801)), (5, (.str s802)), (6, (.int .u64 i803))] st804 (parchmentlaw11_LexNumbers_l11010_x o).1 (parchmentlaw11_LexNumbers_l11010_x o).2.1 (parchmentlaw11_LexNumbers_l11010_x o).2.2 := by
  intro r
  induction r with
  | zero => intro s802 i803 st804 o h; exact nomatch h
  | succ r ih =>
    intro s802 i803 st804 o
    unfold parchmentlaw11_LexNumbers_l11010
    refine bindE fun b816 h815 => ?_
    refine iteE (fun h817 => ?_) (fun h817 => ?_)
    · subst h817
      refine bindE fun o h818 => ?_
      obtain ⟨x820, st819⟩ := o
      refine bindE fun s822 h821 => ?_
      refine bindE fun s824 h823 => ?_
      intro h
      exact loop_more (runO_ok (hs := [.absG [5, 6] .normal [(18, (.bool true))] st804, .run 4, .eff x820 st819, .val (.str s822), .run 1, .val (.str s824), .run 4]) (want := [0, 1, 5, 6]) (by kernel_rfl) (.cons (cat_ok h823) <| .cons (strOf_ok h821) <| .cons h818 <| .cons (parchmentlaw11_LexNumbers_j11010000_ok R n s802 i803 st804 _ h815) .nil)) (ih s824 (IntKind.wrap .u64 (Int.tdiv i803 10)) st819 _ h)
    · obtain rfl := bF h817
      intro h
      obtain rfl := Option.some.inj h
      exact loop_done (runO_ok (hs := [.absG [5, 6] .normal [(18, (.bool false))] st804]) (want := [5]) (by kernel_rfl) (.cons (parchmentlaw11_LexNumbers_j11010000_ok R n s802 i803 st804 _ h815) .nil)) (by kernel_rfl)

noncomputable def parchmentlaw11_LexNumbers_l1111010 (R : Nat) (i837 : Int) (i838 : Int) (s839 : List UInt8) : Nat → List UInt8 → Int → St → Option ((List UInt8 × St))
  | 0, _, _, _ => none
  | r + 1, s840, i841, st842 =>
    if (i841 < (andI .i64 i838 3)) then
     Option.bind (catS s840 [48]) fun s845 =>
     parchmentlaw11_LexNumbers_l1111010 R i837 i838 s839 r s845 (IntKind.wrap .i64 (i841 + 1)) st842
    else
     some (s840, st842)
noncomputable def parchmentlaw11_LexNumbers_l1111010_x (o : (List UInt8 × St)) : AExit × List (Nat × AV) × St := match o with
  | (a0, a1) => ((.exit 2), [(7, .str a0)], a1)
theorem parchmentlaw11_LexNumbers_l1111010_ok (R n : Nat) (i837 : Int) (i838 : Int) (s839 : List UInt8) : ∀ (r : Nat) (s840 : List UInt8) (i841 : Int) (st842 : St) (o : (List UInt8 × St)), parchmentlaw11_LexNumbers_l1111010 R i837 i838 s839 r s840 i841 st842 = some o →
    Leads 90 (loopK (fun fr k => execK C0 (callK C0 ext3 R (n + 3)) 7 R none (codeAt C0.P 7 [1, 1, 1, 1, 0, 1, 0, 0]) fr k) r) (modsOf (codeAt C0.P 7 [1, 1, 1, 1, 0, 1, 0, 0])) [(0, (.int .u64 i837)), (1, (.int .i64 i838)), (5, (.str s839)), (7, (.str s840)), (8, (.int .i64 i841))] st842 (parchmentlaw11_LexNumbers_l1111010_x o).1 (parchmentlaw11_LexNumbers_l1111010_x o).2.1 (parchmentlaw11_LexNumbers_l1111010_x o).2.2 := by
  intro r
  induction r with
  | zero => intro s840 i841 st842 o h; exact nomatch h
  | succ r ih =>
    intro s840 i841 st842 o
    unfold parchmentlaw11_LexNumbers_l1111010
    refine iteE (fun h843 => ?_) (fun h843 => ?_)
    · refine bindE fun s845 h844 => ?_
      intro h
      exact loop_more (runO_ok (hs := [.run 3, .dec true, .run 1, .val (.str s845), .run 4]) (want := [0, 1, 5, 7, 8]) (by kernel_rfl) (.cons (cat_ok h844) <| .cons (decide_eq_true h843) .nil)) (ih s845 (IntKind.wrap .i64 (i841 + 1)) st842 _ h)
    · intro h
      obtain rfl := Option.some.inj h
      exact loop_done (runO_ok (hs := [.run 3, .dec false]) (want := [7]) (by kernel_rfl) (.cons (decide_eq_false h843) .nil)) (by kernel_rfl)

noncomputable def parchmentlaw11_LexNumbers_j11111100 (R : Nat) (i861 : Int) (s862 : List UInt8) : Option (Bool) :=
  if (s862 = []) then
   if (i861 > 9223372036854775807) then
    some true
   else
    some false
  else
   some true
theorem parchmentlaw11_LexNumbers_j11111100_ok (R n : Nat) (i861 : Int) (s862 : List UInt8) (st863 : St) (r : Bool) (h : parchmentlaw11_LexNumbers_j11111100 R i861 s862 = some r) :
    Leads 90 (execK C0 (callK C0 ext3 R (n + 3)) 7 R none (codeAt C0.P 7 [1, 1, 1, 1, 1, 1, 0, 0])) (modsOf (codeAt C0.P 7 [1, 1, 1, 1, 1, 1, 0, 0])) [(0, (.int .u64 i861)), (7, (.str s862))] st863 .normal [(50, .bool r)] st863 := by
  revert h
  unfold parchmentlaw11_LexNumbers_j11111100
  refine iteE (fun h864 => ?_) (fun h864 => ?_)
  · refine iteE (fun h865 => ?_) (fun h865 => ?_)
    · intro h
      obtain rfl := Option.some.inj h
      exact runO_ok (hs := [.run 1, .dec false, .run 2, .dec true, .run 1]) (want := [50]) (by kernel_rfl) (.cons (decide_eq_true h865) <| .cons (strNeF h864) .nil)
    · intro h
      obtain rfl := Option.some.inj h
      exact runO_ok (hs := [.run 1, .dec false, .run 2, .dec false, .run 1]) (want := [50]) (by kernel_rfl) (.cons (decide_eq_false h865) <| .cons (strNeF h864) .nil)
  · intro h
    obtain rfl := Option.some.inj h
    exact runO_ok (hs := [.run 1, .dec true, .run 2]) (want := [50]) (by kernel_rfl) (.cons (strNeT h864) .nil)

noncomputable def parchmentlaw11_LexNumbers_j1111110100 (R : Nat) (x881 : AV) (i882 : Int) (i883 : Int) : Option (Bool) :=
  Option.bind (xawake R) fun b885 =>
  if b885 = true then
   if (i883 = 110) then
    if (i882 = 0) then
     Option.bind (lenOf x881) fun n891 =>
     if ((n891 : Int) = 0) then
      some true
     else
      some false
    else
     some false
   else
    some false
  else
   some false
theorem parchmentlaw11_LexNumbers_j1111110100_ok (R n : Nat) (x881 : AV) (i882 : Int) (i883 : Int) (st884 : St) (r : Bool) (h : parchmentlaw11_LexNumbers_j1111110100 R x881 i882 i883 = some r) :
    Leads 90 (execK C0 (callK C0 ext3 R (n + 3)) 7 R none (codeAt C0.P 7 [1, 1, 1, 1, 1, 1, 0, 1, 0, 0])) (modsOf (codeAt C0.P 7 [1, 1, 1, 1, 1, 1, 0, 1, 0, 0])) [(9, x881), (10, (.int .i64 i882)), (11, (.int .i64 i883))] st884 .normal [(4, .bool r)] st884 := by
  revert h
  unfold parchmentlaw11_LexNumbers_j1111110100
  refine bindE fun b885 h886 => ?_
  refine iteE (fun h887 => ?_) (fun h887 => ?_)
  · subst h887
    refine iteE (fun h888 => ?_) (fun h888 => ?_)
    · refine iteE (fun h889 => ?_) (fun h889 => ?_)
      · refine bindE fun n891 h890 => ?_
        refine iteE (fun h892 => ?_) (fun h892 => ?_)
        · intro h
          obtain rfl := Option.some.inj h
          exact runO_ok (hs := [.call (.bool true) st884, .run 2, .dec true, .run 3, .dec true, .run 3, .val (.int .i64 (n891 : Int)), .dec true, .run 2]) (want := [4]) (by kernel_rfl) (.cons (beqT h892) <| .cons (len_ok (P := C0.P) (t := 23) (e := 33) (by kernel_rfl) h890) <| .cons (beqT h889) <| .cons (beqT h888) <| .cons (xawake_ok_ext3 R (n + 2) st884 _ h886) .nil)
        · intro h
          obtain rfl := Option.some.inj h
          exact runO_ok (hs := [.call (.bool true) st884, .run 2, .dec true, .run 3, .dec true, .run 3, .val (.int .i64 (n891 : Int)), .dec false, .run 2]) (want := [4]) (by kernel_rfl) (.cons (beqF h892) <| .cons (len_ok (P := C0.P) (t := 23) (e := 33) (by kernel_rfl) h890) <| .cons (beqT h889) <| .cons (beqT h888) <| .cons (xawake_ok_ext3 R (n + 2) st884 _ h886) .nil)
      · intro h
        obtain rfl := Option.some.inj h
        exact runO_ok (hs := [.call (.bool true) st884, .run 2, .dec true, .run 3, .dec false, .run 4]) (want := [4]) (by kernel_rfl) (.cons (beqF h889) <| .cons (beqT h888) <| .cons (xawake_ok_ext3 R (n + 2) st884 _ h886) .nil)
    · intro h
      obtain rfl := Option.some.inj h
      exact runO_ok (hs := [.call (.bool true) st884, .run 2, .dec false, .run 6]) (want := [4]) (by kernel_rfl) (.cons (beqF h888) <| .cons (xawake_ok_ext3 R (n + 2) st884 _ h886) .nil)
  · obtain rfl := bF h887
    intro h
    obtain rfl := Option.some.inj h
    exact runO_ok (hs := [.call (.bool false) st884, .run 7]) (want := [4]) (by kernel_rfl) (.cons (xawake_ok_ext3 R (n + 2) st884 _ h886) .nil)

noncomputable def parchmentlaw11_LexNumbers_j11111110 (R : Nat) (s922 : List UInt8) (x923 : AV) (i924 : Int) (st925 : St) : Option (Bool × St) :=
  Option.bind (xawake R) fun b926 =>
  if b926 = true then
   if (i924 = 0) then
    Option.bind (lenOf x923) fun n931 =>
    if ((n931 : Int) = 2) then
     Option.bind (indexAddrOp C0.P 23 x923 (.int .i64 0)) fun x934 =>
     Option.bind (shift x934 0) fun x936 =>
     Option.bind (loadAt C0.P st925 3 x936) fun x938 =>
     Option.bind (avInt .i64 x938) fun i939 =>
     if (i939 = 3) then
      Option.bind (shift x934 1) fun x943 =>
      Option.bind (loadAt C0.P st925 9 x943) fun x945 =>
      Option.bind (avStr x945) fun s946 =>
      if (s946 = s922) then
       some (true, st925)
      else
       some (false, st925)
     else
      some (false, st925)
    else
     some (false, st925)
   else
    some (false, st925)
  else
   some (false, st925)
theorem parchmentlaw11_LexNumbers_j11111110_ok (R n : Nat) (s922 : List UInt8) (x923 : AV) (i924 : Int) (st925 : St) (r : Bool × St) (h : parchmentlaw11_LexNumbers_j11111110 R s922 x923 i924 st925 = some r) :
    Leads 90 (execK C0 (callK C0 ext3 R (n + 3)) 7 R none (codeAt C0.P 7 [1, 1, 1, 1, 1, 1, 1, 0])) (modsOf (codeAt C0.P 7 [1, 1, 1, 1, 1, 1, 1, 0])) [(5, (.str s922)), (9, x923), (11, (.int .i64 i924))] st925 .normal [(4, .bool r.1)] r.2 := by
  revert h
  unfold parchmentlaw11_LexNumbers_j11111110
  refine bindE fun b926 h927 => ?_
  refine iteE (fun h928 => ?_) (fun h928 => ?_)
  · subst h928
    refine iteE (fun h929 => ?_) (fun h929 => ?_)
    · refine bindE fun n931 h930 => ?_
      refine iteE (fun h932 => ?_) (fun h932 => ?_)
      · refine bindE fun x934 h933 => ?_
        refine bindE fun x936 h935 => ?_
        refine bindE fun x938 h937 => ?_
        refine bindE fun i939 h940 => ?_
        obtain rfl := avInt_ok h940
        refine iteE (fun h941 => ?_) (fun h941 => ?_)
        · refine bindE fun x943 h942 => ?_
          refine bindE fun x945 h944 => ?_
          refine bindE fun s946 h947 => ?_
          obtain rfl := avStr_ok h947
          refine iteE (fun h948 => ?_) (fun h948 => ?_)
          · intro h
            obtain rfl := Option.some.inj h
            exact runO_ok (hs := [.call (.bool true) st925, .run 2, .dec true, .run 3, .val (.int .i64 (n931 : Int)), .dec true, .run 3, .val x934, .val x936, .val (.int .i64 i939), .dec true, .run 3, .val x934, .val x943, .val (.str s946), .run 1, .dec true, .run 2]) (want := [4]) (by kernel_rfl) (.cons (strEqT h948) <| .cons h944 <| .cons h942 <| .cons h933 <| .cons (beqT h941) <| .cons h937 <| .cons h935 <| .cons h933 <| .cons (beqT h932) <| .cons (len_ok (P := C0.P) (t := 23) (e := 33) (by kernel_rfl) h930) <| .cons (beqT h929) <| .cons (xawake_ok_ext3 R (n + 2) st925 _ h927) .nil)
          · intro h
            obtain rfl := Option.some.inj h
            exact runO_ok (hs := [.call (.bool true) st925, .run 2, .dec true, .run 3, .val (.int .i64 (n931 : Int)), .dec true, .run 3, .val x934, .val x936, .val (.int .i64 i939), .dec true, .run 3, .val x934, .val x943, .val (.str s946), .run 1, .dec false, .run 2]) (want := [4]) (by kernel_rfl) (.cons (strEqF h948) <| .cons h944 <| .cons h942 <| .cons h933 <| .cons (beqT h941) <| .cons h937 <| .cons h935 <| .cons h933 <| .cons (beqT h932) <| .cons (len_ok (P := C0.P) (t := 23) (e := 33) (by kernel_rfl) h930) <| .cons (beqT h929) <| .cons (xawake_ok_ext3 R (n + 2) st925 _ h927) .nil)
        · intro h
          obtain rfl := Option.some.inj h
          exact runO_ok (hs := [.call (.bool true) st925, .run 2, .dec true, .run 3, .val (.int .i64 (n931 : Int)), .dec true, .run 3, .val x934, .val x936, .val (.int .i64 i939), .dec false, .run 4]) (want := [4]) (by kernel_rfl) (.cons (beqF h941) <| .cons h937 <| .cons h935 <| .cons h933 <| .cons (beqT h932) <| .cons (len_ok (P := C0.P) (t := 23) (e := 33) (by kernel_rfl) h930) <| .cons (beqT h929) <| .cons (xawake_ok_ext3 R (n + 2) st925 _ h927) .nil)
      · intro h
        obtain rfl := Option.some.inj h
        exact runO_ok (hs := [.call (.bool true) st925, .run 2, .dec true, .run 3, .val (.int .i64 (n931 : Int)), .dec false, .run 6]) (want := [4]) (by kernel_rfl) (.cons (beqF h932) <| .cons (len_ok (P := C0.P) (t := 23) (e := 33) (by kernel_rfl) h930) <| .cons (beqT h929) <| .cons (xawake_ok_ext3 R (n + 2) st925 _ h927) .nil)
    · intro h
      obtain rfl := Option.some.inj h
      exact runO_ok (hs := [.call (.bool true) st925, .run 2, .dec false, .run 8]) (want := [4]) (by kernel_rfl) (.cons (beqF h929) <| .cons (xawake_ok_ext3 R (n + 2) st925 _ h927) .nil)
  · obtain rfl := bF h928
    intro h
    obtain rfl := Option.some.inj h
    exact runO_ok (hs := [.call (.bool false) st925, .run 9]) (want := [4]) (by kernel_rfl) (.cons (xawake_ok_ext3 R (n + 2) st925 _ h927) .nil)

/- parchment/parchmentlaw11.LexNumbers -/
def parchmentlaw11_LexNumbers_n : Nat := 7
noncomputable def parchmentlaw11_LexNumbers (R : Nat) (i772 : Int) (i773 : Int) (st774 : St) : Option (Bool × St) :=
  Option.bind (parchmentlaw11_LexNumbers_l11010 R i772 i773 R [] i772 st774) fun (s826, st827) =>
  Option.bind (parchmentlaw11_LexNumbers_l1111010 R i772 i773 s826 R [] 0 st827) fun (s847, st848) =>
  Option.bind (catS s847 s826) fun s850 =>
  Option.bind (lex_Words R s850 st848) fun (x851, i852, i853, st855) =>
  Option.bind (parchmentlaw11_LexNumbers_j11111100 R i772 s847) fun b867 =>
  if b867 = true then
   Option.bind (parchmentlaw11_LexNumbers_j1111110100 R x851 i852 i853) fun b894 =>
   some (b894, st855)
  else
   Option.bind (parchmentlaw11_LexNumbers_j11111110 R s826 x851 i853 st855) fun (b950, st951) =>
   some (b950, st951)
theorem parchmentlaw11_LexNumbers_ok (R n : Nat) (i772 : Int) (i773 : Int) (st774 : St) (r : Bool × St) (h : parchmentlaw11_LexNumbers R i772 i773 st774 = some r) :
    CallsTo (callK C0 ext3 R (n + 4)) false 7 [(.int .u64 i772), (.int .i64 i773)] st774 (.bool r.1) r.2 := by
  revert h
  unfold parchmentlaw11_LexNumbers
  refine bindE fun o h825 => ?_
  obtain ⟨s826, st827⟩ := o
  refine bindE fun o h846 => ?_
  obtain ⟨s847, st848⟩ := o
  refine bindE fun s850 h849 => ?_
  refine bindE fun o h854 => ?_
  obtain ⟨x851, i852, i853, st855⟩ := o
  refine bindE fun b867 h866 => ?_
  refine iteE (fun h868 => ?_) (fun h868 => ?_)
  · subst h868
    refine bindE fun b894 h893 => ?_
    intro h
    obtain rfl := Option.some.inj h
    exact callO_ok (hs := [.run 4, .abs [0, 1, 5, 6] (.exit 0) [(5, (.str s826))] st827, .run 2, .abs [0, 1, 5, 7, 8] (.exit 2) [(7, (.str s847))] st848, .run 2, .val (.str s850), .call (.tuple [x851, (.int .i64 i852), (.int .i64 i853)]) st855, .run 7, .absG [0, 7] .normal [(50, (.bool true))] st855, .absG [9, 10, 11] .normal [(4, (.bool b894))] st855]) (by kernel_rfl) (.cons (parchmentlaw11_LexNumbers_j1111110100_ok R n x851 i852 i853 st855 _ h893) <| .cons (parchmentlaw11_LexNumbers_j11111100_ok R n i772 s847 st855 _ h866) <| .cons (lex_Words_ok R n s850 st848 _ h854) <| .cons (cat_ok h849) <| .cons (loop_leads (parchmentlaw11_LexNumbers_l1111010_ok R n i772 i773 s826 R [] 0 st827 _ h846)) <| .cons (loop_leads (parchmentlaw11_LexNumbers_l11010_ok R n i772 i773 R [] i772 st774 _ h825)) .nil) (by kernel_rfl) (by kernel_rfl)
  · obtain rfl := bF h868
    refine bindE fun o h949 => ?_
    obtain ⟨b950, st951⟩ := o
    intro h
    obtain rfl := Option.some.inj h
    exact callO_ok (hs := [.run 4, .abs [0, 1, 5, 6] (.exit 0) [(5, (.str s826))] st827, .run 2, .abs [0, 1, 5, 7, 8] (.exit 2) [(7, (.str s847))] st848, .run 2, .val (.str s850), .call (.tuple [x851, (.int .i64 i852), (.int .i64 i853)]) st855, .run 7, .absG [0, 7] .normal [(50, (.bool false))] st855, .absG [5, 9, 11] .normal [(4, (.bool b950))] st951]) (by kernel_rfl) (.cons (parchmentlaw11_LexNumbers_j11111110_ok R n s826 x851 i853 st855 _ h949) <| .cons (parchmentlaw11_LexNumbers_j11111100_ok R n i772 s847 st855 _ h866) <| .cons (lex_Words_ok R n s850 st848 _ h854) <| .cons (cat_ok h849) <| .cons (loop_leads (parchmentlaw11_LexNumbers_l1111010_ok R n i772 i773 s826 R [] 0 st827 _ h846)) <| .cons (loop_leads (parchmentlaw11_LexNumbers_l11010_ok R n i772 i773 R [] i772 st774 _ h825)) .nil) (by kernel_rfl) (by kernel_rfl)

end
end Go.Proofs.Ytlmahcmmpfdglaa
