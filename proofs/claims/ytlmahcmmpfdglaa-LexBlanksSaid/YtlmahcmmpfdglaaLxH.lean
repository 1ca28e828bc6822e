import Derived.Test.YtlmahcmmpfdglaaLxG
set_option linter.all false
namespace Go.Proofs.Ytlmahcmmpfdglaa
open Go Go.Ev
noncomputable section
noncomputable def lex_run_lex_digit_j1100000 (R : Nat) (s174 : List UInt8) (i175 : Int) : Option (Bool) :=
  if (i175 < (List.length s174 : Int)) then
   Option.bind (idxS s174 i175) fun i179 =>
   Option.bind (xlex_digit R i179) fun b180 =>
   some b180
  else
   some false
theorem lex_run_lex_digit_j1100000_ok (R n : Nat) (s174 : List UInt8) (i175 : Int) (st176 : St) (r : Bool) (h : lex_run_lex_digit_j1100000 R s174 i175 = some r) :
    Leads 25 (execK C0 (callK C0 ext2 R (n + 1)) 14 R none (codeAt C0.P 14 [1, 1, 0, 0, 0, 0, 0])) (modsOf (codeAt C0.P 14 [1, 1, 0, 0, 0, 0, 0])) [(0, (.str s174)), (2, (.func (.func 24) [] [])), (7, (.int .i64 i175))] st176 .normal [(19, .bool r)] st176 := by
  revert h
  unfold lex_run_lex_digit_j1100000
  refine iteE (fun h177 => ?_) (fun h177 => ?_)
  · refine bindE fun i179 h178 => ?_
    refine bindE fun b180 h181 => ?_
    intro h
    obtain rfl := Option.some.inj h
    exact runO_ok (hs := [.run 3, .dec true, .run 4, .val (.int .u8 i179), .call (.bool b180) st176, .run 1]) (want := [19]) (by kernel_rfl) (.cons (xlex_digit_ok_ext2 R n i179 st176 _ h181) <| .cons (idx_ok (k := .i64) (P := C0.P) (t := 9) (by kernel_rfl) h178) <| .cons (decide_eq_true h177) .nil)
  · intro h
    obtain rfl := Option.some.inj h
    exact runO_ok (hs := [.run 3, .dec false, .run 2]) (want := [19]) (by kernel_rfl) (.cons (decide_eq_false h177) .nil)

noncomputable def lex_run_lex_digit_l1100 (R : Nat) (s162 : List UInt8) (i163 : Int) : Nat → Int → Option ((Int))
  | 0, _ => none
  | r + 1, i164 =>
    Option.bind (lex_run_lex_digit_j1100000 R s162 i164) fun b183 =>
    if b183 = true then
     lex_run_lex_digit_l1100 R s162 i163 r (IntKind.wrap .i64 (i164 + 1))
    else
     some i164
noncomputable def lex_run_lex_digit_l1100_x (st : St) (o : (Int)) : AExit × List (Nat × AV) × St := match o with
  | a0 => ((.exit 0), [(7, .int .i64 a0)], st)
theorem lex_run_lex_digit_l1100_ok (R n : Nat) (s162 : List UInt8) (i163 : Int) (st165 : St) : ∀ (r : Nat) (i164 : Int) (o : (Int)), lex_run_lex_digit_l1100 R s162 i163 r i164 = some o →
    Leads 25 (loopK (fun fr k => execK C0 (callK C0 ext2 R (n + 1)) 14 R none (codeAt C0.P 14 [1, 1, 0, 0, 0]) fr k) r) (modsOf (codeAt C0.P 14 [1, 1, 0, 0, 0])) [(0, (.str s162)), (1, (.int .i64 i163)), (2, (.func (.func 24) [] [])), (7, (.int .i64 i164))] st165 (lex_run_lex_digit_l1100_x st165 o).1 (lex_run_lex_digit_l1100_x st165 o).2.1 (lex_run_lex_digit_l1100_x st165 o).2.2 := by
  intro r
  induction r with
  | zero => intro i164 o h; exact nomatch h
  | succ r ih =>
    intro i164 o
    unfold lex_run_lex_digit_l1100
    refine bindE fun b183 h182 => ?_
    refine iteE (fun h184 => ?_) (fun h184 => ?_)
    · subst h184
      intro h
      exact loop_more (runO_ok (hs := [.absG [0, 2, 7] .normal [(19, (.bool true))] st165, .run 3]) (want := [0, 1, 2, 7]) (by kernel_rfl) (.cons (lex_run_lex_digit_j1100000_ok R n s162 i164 st165 _ h182) .nil)) (ih (IntKind.wrap .i64 (i164 + 1)) _ h)
    · obtain rfl := bF h184
      intro h
      obtain rfl := Option.some.inj h
      exact loop_done (runO_ok (hs := [.absG [0, 2, 7] .normal [(19, (.bool false))] st165]) (want := [7]) (by kernel_rfl) (.cons (lex_run_lex_digit_j1100000_ok R n s162 i164 st165 _ h182) .nil)) (by kernel_rfl)

/- parchment/lex.run -/
def lex_run_lex_digit_n : Nat := 14
noncomputable def lex_run_lex_digit (R : Nat) (s136 : List UInt8) (i137 : Int) : Option (Int) :=
  Option.bind (lex_run_lex_digit_l1100 R s136 i137 R i137) fun i186 =>
  some (IntKind.wrap .i64 (i186 - i137))
theorem lex_run_lex_digit_ok (R n : Nat) (s136 : List UInt8) (i137 : Int) (st138 : St) (r : Int) (h : lex_run_lex_digit R s136 i137 = some r) :
    CallsTo (callK C0 ext2 R (n + 2)) false 14 [(.str s136), (.int .i64 i137), (.func (.func 24) [] [])] st138 (.int .i64 r) st138 := by
  revert h
  unfold lex_run_lex_digit
  refine bindE fun i186 h185 => ?_
  intro h
  obtain rfl := Option.some.inj h
  exact callO_ok (hs := [.run 3, .abs [0, 1, 2, 7] (.exit 0) [(7, (.int .i64 i186))] st138, .run 4]) (by kernel_rfl) (.cons (loop_leads (lex_run_lex_digit_l1100_ok R n s136 i137 st138 R i137 _ h185)) .nil) (by kernel_rfl) (by kernel_rfl)

noncomputable def stringslite_HasPrefix_j10 (R : Nat) (s295 : List UInt8) (s296 : List UInt8) : Option (Bool) :=
  if ((List.length s295 : Int) ≥ (List.length s296 : Int)) then
   Option.bind (subS s295 0 (List.length s296 : Int)) fun s300 =>
   if (s300 = s296) then
    some true
   else
    some false
  else
   some false
theorem stringslite_HasPrefix_j10_ok (R n : Nat) (s295 : List UInt8) (s296 : List UInt8) (st297 : St) (r : Bool) (h : stringslite_HasPrefix_j10 R s295 s296 = some r) :
    Leads 18 (execK C0 (callK C0 ext2 R n) 33 R none (codeAt C0.P 33 [1, 0])) (modsOf (codeAt C0.P 33 [1, 0])) [(0, (.str s295)), (1, (.str s296))] st297 .normal [(4, .bool r)] st297 := by
  revert h
  unfold stringslite_HasPrefix_j10
  refine iteE (fun h298 => ?_) (fun h298 => ?_)
  · refine bindE fun s300 h299 => ?_
    refine iteE (fun h301 => ?_) (fun h301 => ?_)
    · intro h
      obtain rfl := Option.some.inj h
      exact runO_ok (hs := [.run 4, .dec true, .run 4, .val (.str s300), .run 1, .dec true, .run 2]) (want := [4]) (by kernel_rfl) (.cons (strEqT h301) <| .cons (sub01 (k' := .i64) (P := C0.P) (t := 9) (by kernel_rfl) h299) <| .cons (decide_eq_true h298) .nil)
    · intro h
      obtain rfl := Option.some.inj h
      exact runO_ok (hs := [.run 4, .dec true, .run 4, .val (.str s300), .run 1, .dec false, .run 2]) (want := [4]) (by kernel_rfl) (.cons (strEqF h301) <| .cons (sub01 (k' := .i64) (P := C0.P) (t := 9) (by kernel_rfl) h299) <| .cons (decide_eq_true h298) .nil)
  · intro h
    obtain rfl := Option.some.inj h
    exact runO_ok (hs := [.run 4, .dec false, .run 3]) (want := [4]) (by kernel_rfl) (.cons (decide_eq_false h298) .nil)

/- internal/stringslite.HasPrefix -/
def stringslite_HasPrefix_n : Nat := 33
noncomputable def stringslite_HasPrefix (R : Nat) (s285 : List UInt8) (s286 : List UInt8) : Option (Bool) :=
  Option.bind (stringslite_HasPrefix_j10 R s285 s286) fun b303 =>
  some b303
theorem stringslite_HasPrefix_ok (R n : Nat) (s285 : List UInt8) (s286 : List UInt8) (st287 : St) (r : Bool) (h : stringslite_HasPrefix R s285 s286 = some r) :
    CallsTo (callK C0 ext2 R (n + 1)) false 33 [(.str s285), (.str s286)] st287 (.bool r) st287 := by
  revert h
  unfold stringslite_HasPrefix
  refine bindE fun b303 h302 => ?_
  intro h
  obtain rfl := Option.some.inj h
  exact callO_ok (hs := [.run 1, .absG [0, 1] .normal [(4, (.bool b303))] st287]) (by kernel_rfl) (.cons (stringslite_HasPrefix_j10_ok R n s285 s286 st287 _ h302) .nil) (by kernel_rfl) (by kernel_rfl)

/- strings.HasPrefix -/
def strings_HasPrefix_n : Nat := 25
noncomputable def strings_HasPrefix (R : Nat) (s306 : List UInt8) (s307 : List UInt8) : Option (Bool) :=
  Option.bind (stringslite_HasPrefix R s306 s307) fun b309 =>
  some b309
theorem strings_HasPrefix_ok (R n : Nat) (s306 : List UInt8) (s307 : List UInt8) (st308 : St) (r : Bool) (h : strings_HasPrefix R s306 s307 = some r) :
    CallsTo (callK C0 ext2 R (n + 2)) false 25 [(.str s306), (.str s307)] st308 (.bool r) st308 := by
  revert h
  unfold strings_HasPrefix
  refine bindE fun b309 h310 => ?_
  intro h
  obtain rfl := Option.some.inj h
  exact callO_ok (hs := [.run 3, .call (.bool b309) st308, .run 1]) (by kernel_rfl) (.cons (stringslite_HasPrefix_ok R n s306 s307 st308 _ h310) .nil) (by kernel_rfl) (by kernel_rfl)

noncomputable def lex_next_j11000 (R : Nat) (s16 : List UInt8) (i17 : Int) (i18 : Int) : Option (Bool) :=
  if (i18 = 120) then
   if ((IntKind.wrap .i64 (i17 + 1)) < (List.length s16 : Int)) then
    Option.bind (idxS s16 (IntKind.wrap .i64 (i17 + 1))) fun i23 =>
    if (i23 = 39) then
     some true
    else
     some false
   else
    some false
  else
   some false
theorem lex_next_j11000_ok (R n : Nat) (s16 : List UInt8) (i17 : Int) (i18 : Int) (st19 : St) (r : Bool) (h : lex_next_j11000 R s16 i17 i18 = some r) :
    Leads 140 (execK C0 (callK C0 ext2 R (n + 2)) 16 R none (codeAt C0.P 16 [1, 1, 0, 0, 0])) (modsOf (codeAt C0.P 16 [1, 1, 0, 0, 0])) [(0, (.str s16)), (1, (.int .i64 i17)), (6, (.int .u8 i18))] st19 .normal [(20, .bool r)] st19 := by
  revert h
  unfold lex_next_j11000
  refine iteE (fun h20 => ?_) (fun h20 => ?_)
  · refine iteE (fun h21 => ?_) (fun h21 => ?_)
    · refine bindE fun i23 h22 => ?_
      refine iteE (fun h24 => ?_) (fun h24 => ?_)
      · intro h
        obtain rfl := Option.some.inj h
        exact runO_ok (hs := [.run 1, .dec true, .run 5, .dec true, .run 5, .val (.int .u8 i23), .dec true, .run 2]) (want := [20]) (by kernel_rfl) (.cons (beqT h24) <| .cons (idx_ok (k := .i64) (P := C0.P) (t := 9) (by kernel_rfl) h22) <| .cons (decide_eq_true h21) <| .cons (beqT h20) .nil)
      · intro h
        obtain rfl := Option.some.inj h
        exact runO_ok (hs := [.run 1, .dec true, .run 5, .dec true, .run 5, .val (.int .u8 i23), .dec false, .run 2]) (want := [20]) (by kernel_rfl) (.cons (beqF h24) <| .cons (idx_ok (k := .i64) (P := C0.P) (t := 9) (by kernel_rfl) h22) <| .cons (decide_eq_true h21) <| .cons (beqT h20) .nil)
    · intro h
      obtain rfl := Option.some.inj h
      exact runO_ok (hs := [.run 1, .dec true, .run 5, .dec false, .run 4]) (want := [20]) (by kernel_rfl) (.cons (decide_eq_false h21) <| .cons (beqT h20) .nil)
  · intro h
    obtain rfl := Option.some.inj h
    exact runO_ok (hs := [.run 1, .dec false, .run 5]) (want := [20]) (by kernel_rfl) (.cons (beqF h20) .nil)

noncomputable def lex_next_j1100101100 (R : Nat) (i41 : Int) (b42 : Bool) : Option (Bool) :=
  if (i41 = 0) then
   some true
  else
   if b42 = true then
    some false
   else
    some true
theorem lex_next_j1100101100_ok (R n : Nat) (i41 : Int) (b42 : Bool) (st43 : St) (r : Bool) (h : lex_next_j1100101100 R i41 b42 = some r) :
    Leads 140 (execK C0 (callK C0 ext2 R (n + 2)) 16 R none (codeAt C0.P 16 [1, 1, 0, 0, 1, 0, 1, 1, 0, 0])) (modsOf (codeAt C0.P 16 [1, 1, 0, 0, 1, 0, 1, 1, 0, 0])) [(8, (.int .i64 i41)), (10, (.bool b42))] st43 .normal [(55, .bool r)] st43 := by
  revert h
  unfold lex_next_j1100101100
  refine iteE (fun h44 => ?_) (fun h44 => ?_)
  · intro h
    obtain rfl := Option.some.inj h
    exact runO_ok (hs := [.run 1, .dec true, .run 2]) (want := [55]) (by kernel_rfl) (.cons (beqT h44) .nil)
  · refine iteE (fun h45 => ?_) (fun h45 => ?_)
    · subst h45
      intro h
      obtain rfl := Option.some.inj h
      exact runO_ok (hs := [.run 1, .dec false, .run 4]) (want := [55]) (by kernel_rfl) (.cons (beqF h44) .nil)
    · obtain rfl := bF h45
      intro h
      obtain rfl := Option.some.inj h
      exact runO_ok (hs := [.run 1, .dec false, .run 4]) (want := [55]) (by kernel_rfl) (.cons (beqF h44) .nil)

noncomputable def lex_next_j11001111101100 (R : Nat) (i200 : Int) (i201 : Int) (s202 : List UInt8) : Option (Bool) :=
  if (i201 > 1) then
   if (i200 = 48) then
    some true
   else
    if (i201 > 19) then
     some true
    else
     if (i201 = 19) then
      if (!(strLt s202 [57, 50, 50, 51, 51, 55, 50, 48, 51, 54, 56, 53, 52, 55, 55, 53, 56, 48, 55] || strEq s202 [57, 50, 50, 51, 51, 55, 50, 48, 51, 54, 56, 53, 52, 55, 55, 53, 56, 48, 55])) = true then
       some true
      else
       some false
     else
      some false
  else
   some false
theorem lex_next_j11001111101100_ok (R n : Nat) (i200 : Int) (i201 : Int) (s202 : List UInt8) (st203 : St) (r : Bool) (h : lex_next_j11001111101100 R i200 i201 s202 = some r) :
    Leads 140 (execK C0 (callK C0 ext2 R (n + 2)) 16 R none (codeAt C0.P 16 [1, 1, 0, 0, 1, 1, 1, 1, 1, 0, 1, 1, 0, 0])) (modsOf (codeAt C0.P 16 [1, 1, 0, 0, 1, 1, 1, 1, 1, 0, 1, 1, 0, 0])) [(6, (.int .u8 i200)), (11, (.int .i64 i201)), (12, (.str s202))] st203 .normal [(100, .bool r)] st203 := by
  revert h
  unfold lex_next_j11001111101100
  refine iteE (fun h204 => ?_) (fun h204 => ?_)
  · refine iteE (fun h205 => ?_) (fun h205 => ?_)
    · intro h
      obtain rfl := Option.some.inj h
      exact runO_ok (hs := [.run 1, .dec true, .run 2, .dec true, .run 5]) (want := [100]) (by kernel_rfl) (.cons (beqT h205) <| .cons (decide_eq_true h204) .nil)
    · refine iteE (fun h206 => ?_) (fun h206 => ?_)
      · intro h
        obtain rfl := Option.some.inj h
        exact runO_ok (hs := [.run 1, .dec true, .run 2, .dec false, .run 3, .dec true, .run 3]) (want := [100]) (by kernel_rfl) (.cons (decide_eq_true h206) <| .cons (beqF h205) <| .cons (decide_eq_true h204) .nil)
      · refine iteE (fun h207 => ?_) (fun h207 => ?_)
        · refine iteE (fun h208 => ?_) (fun h208 => ?_)
          · intro h
            obtain rfl := Option.some.inj h
            exact runO_ok (hs := [.run 1, .dec true, .run 2, .dec false, .run 3, .dec false, .run 3, .dec true, .run 2, .dec true, .run 2]) (want := [100]) (by kernel_rfl) (.cons h208 <| .cons (beqT h207) <| .cons (decide_eq_false h206) <| .cons (beqF h205) <| .cons (decide_eq_true h204) .nil)
          · intro h
            obtain rfl := Option.some.inj h
            exact runO_ok (hs := [.run 1, .dec true, .run 2, .dec false, .run 3, .dec false, .run 3, .dec true, .run 2, .dec false, .run 2]) (want := [100]) (by kernel_rfl) (.cons (bF h208) <| .cons (beqT h207) <| .cons (decide_eq_false h206) <| .cons (beqF h205) <| .cons (decide_eq_true h204) .nil)
        · intro h
          obtain rfl := Option.some.inj h
          exact runO_ok (hs := [.run 1, .dec true, .run 2, .dec false, .run 3, .dec false, .run 3, .dec false, .run 3]) (want := [100]) (by kernel_rfl) (.cons (beqF h207) <| .cons (decide_eq_false h206) <| .cons (beqF h205) <| .cons (decide_eq_true h204) .nil)
  · intro h
    obtain rfl := Option.some.inj h
    exact runO_ok (hs := [.run 1, .dec false, .run 4, .dec false, .run 3, .dec false, .run 3]) (want := [100]) (by kernel_rfl) (.cons (beqF (show ¬ (i201 = 19) by omega)) <| .cons (decide_eq_false (show ¬ (i201 > 19) by omega)) <| .cons (decide_eq_false h204) .nil)

noncomputable def lex_next_l111010 (R : Nat) (s316 : List UInt8) (i317 : Int) (d318 : Nat) (x319 : AV) (i320 : Int) : Nat → Int → St → Option ((Int × St) ⊕ (St))
  | 0, _, _ => none
  | r + 1, i321, st322 =>
    if (i321 < i320) then
     Option.bind (indexAddrOp C0.P 47 x319 (.int .i64 i321)) fun x325 =>
     Option.bind (loadAt C0.P st322 9 x325) fun x327 =>
     Option.bind (avStr x327) fun s328 =>
     Option.bind (subS s316 i317 (List.length s316 : Nat)) fun s331 =>
     Option.bind (strings_HasPrefix R s331 s328) fun b332 =>
     if b332 = true then
      Option.bind (storeAt C0.P st322 33 (.ref d318 0) (.agg [(.int .i64 6), (.str s328), (.int .i64 i317)])) fun st336 =>
      some (.inl ((List.length s328 : Int), st336))
     else
      lex_next_l111010 R s316 i317 d318 x319 i320 r (IntKind.wrap .i64 (i321 + 1)) st322
    else
     some (.inr st322)
noncomputable def lex_next_l111010_x (o : (Int × St) ⊕ (St)) : AExit × List (Nat × AV) × St := match o with
  | .inl (a0, a1) => (.ret, [(5, .int .i64 a0)], a1)
  | .inr a0 => ((.exit 1), [], a0)
theorem lex_next_l111010_ok (R n : Nat) (s316 : List UInt8) (i317 : Int) (d318 : Nat) (x319 : AV) (i320 : Int) : ∀ (r : Nat) (i321 : Int) (st322 : St) (o : (Int × St) ⊕ (St)), lex_next_l111010 R s316 i317 d318 x319 i320 r i321 st322 = some o →
    Leads 140 (loopK (fun fr k => execK C0 (callK C0 ext2 R (n + 2)) 16 R none (codeAt C0.P 16 [1, 1, 1, 0, 1, 0, 0]) fr k) r) (modsOf (codeAt C0.P 16 [1, 1, 1, 0, 1, 0, 0])) [(0, (.str s316)), (1, (.int .i64 i317)), (4, (.ref d318 0)), (121, x319), (122, (.int .i64 i320)), (123, (.int .i64 i321))] st322 (lex_next_l111010_x o).1 (lex_next_l111010_x o).2.1 (lex_next_l111010_x o).2.2 := by
  intro r
  induction r with
  | zero => intro i321 st322 o h; exact nomatch h
  | succ r ih =>
    intro i321 st322 o
    unfold lex_next_l111010
    refine iteE (fun h323 => ?_) (fun h323 => ?_)
    · refine bindE fun x325 h324 => ?_
      refine bindE fun x327 h326 => ?_
      refine bindE fun s328 h329 => ?_
      obtain rfl := avStr_ok h329
      refine bindE fun s331 h330 => ?_
      refine bindE fun b332 h333 => ?_
      refine iteE (fun h334 => ?_) (fun h334 => ?_)
      · subst h334
        refine bindE fun st336 h335 => ?_
        intro h
        obtain rfl := Option.some.inj h
        exact loop_done (runO_ok (hs := [.dec true, .val x325, .val (.str s328), .run 3, .val (.str s331), .run 1, .call (.bool true) st322, .run 5, .eff AV.undef st336, .run 1]) (want := [5]) (by kernel_rfl) (.cons (sto_ok h335) <| .cons (strings_HasPrefix_ok R n s331 s328 st322 _ h333) <| .cons (sub10 (k := .i64) (P := C0.P) (t := 9) (by kernel_rfl) h330) <| .cons h326 <| .cons h324 <| .cons (decide_eq_true h323) .nil)) (by kernel_rfl)
      · obtain rfl := bF h334
        intro h
        exact loop_more (runO_ok (hs := [.dec true, .val x325, .val (.str s328), .run 3, .val (.str s331), .run 1, .call (.bool false) st322, .run 2]) (want := [0, 1, 4, 121, 122, 123]) (by kernel_rfl) (.cons (strings_HasPrefix_ok R n s331 s328 st322 _ h333) <| .cons (sub10 (k := .i64) (P := C0.P) (t := 9) (by kernel_rfl) h330) <| .cons h326 <| .cons h324 <| .cons (decide_eq_true h323) .nil)) (ih (IntKind.wrap .i64 (i321 + 1)) st322 _ h)
    · intro h
      obtain rfl := Option.some.inj h
      exact loop_done (runO_ok (hs := [.dec false]) (want := []) (by kernel_rfl) (.cons (decide_eq_false h323) .nil)) (by kernel_rfl)

/- parchment/lex.next -/
def lex_next_n : Nat := 16
noncomputable def lex_next (R : Nat) (s2 : List UInt8) (i3 : Int) (st4 : St) : Option (Int × List UInt8 × Int × Int × St) :=
  Option.bind (idxS s2 i3) fun i6 =>
  Option.bind (lex_next_j11000 R s2 i3 i6) fun b26 =>
  if b26 = true then
   Option.bind (subS s2 (IntKind.wrap .i64 (i3 + 1)) (List.length s2 : Nat)) fun s29 =>
   Option.bind (xlex_quoted R s29) fun (s30, i31) =>
   Option.bind (xlex_hex R s30) fun (s33, b34) =>
   Option.bind (lex_next_j1100101100 R i31 b34) fun b47 =>
   if b47 = true then
    Option.bind (storeAt C0.P (St.push st4 (.cells 33 true [(.int .i64 0), (.str []), (.int .i64 0)])) 33 (.ref (St.next st4) 0) (.agg [(.int .i64 0), (.str []), (.int .i64 i3)])) fun st50 =>
    Option.bind (loadAt C0.P st50 33 (.ref (St.next st4) 0)) fun x52 =>
    Option.bind (de_Ai64_s_i64Z x52) fun (i53, s54, i55) =>
    some (i53, s54, i55, 0, st50)
   else
    Option.bind (storeAt C0.P (St.push st4 (.cells 33 true [(.int .i64 0), (.str []), (.int .i64 0)])) 33 (.ref (St.next st4) 0) (.agg [(.int .i64 5), (.str s33), (.int .i64 i3)])) fun st58 =>
    Option.bind (loadAt C0.P st58 33 (.ref (St.next st4) 0)) fun x60 =>
    Option.bind (de_Ai64_s_i64Z x60) fun (i61, s62, i63) =>
    some (i61, s62, i63, (IntKind.wrap .i64 (i31 + 1)), st58)
  else
   Option.bind (xlex_letter R i6) fun b65 =>
   if b65 = true then
    Option.bind (xlex_named R s2 i3) fun (i68, s69, i70, i71) =>
    Option.bind (storeAt C0.P (St.push st4 (.cells 33 true [(.int .i64 0), (.str []), (.int .i64 0)])) 33 (.ref (St.next st4) 0) (.agg [(.int .i64 i68), (.str s69), (.int .i64 i70)])) fun st74 =>
    Option.bind (loadAt C0.P st74 33 (.ref (St.next st4) 0)) fun x76 =>
    Option.bind (de_Ai64_s_i64Z x76) fun (i77, s78, i79) =>
    some (i77, s78, i79, i71, st74)
   else
    Option.bind (xlex_digit R i6) fun b81 =>
    if b81 = true then
     Option.bind (lex_run_lex_digit R s2 i3) fun i187 =>
     Option.bind (subS s2 i3 (IntKind.wrap .i64 (i3 + i187))) fun s190 =>
     Option.bind (lex_next_j11001111101100 R i6 i187 s190) fun b210 =>
     if b210 = true then
      Option.bind (storeAt C0.P (St.push st4 (.cells 33 true [(.int .i64 0), (.str []), (.int .i64 0)])) 33 (.ref (St.next st4) 0) (.agg [(.int .i64 0), (.str []), (.int .i64 i3)])) fun st213 =>
      Option.bind (loadAt C0.P st213 33 (.ref (St.next st4) 0)) fun x215 =>
      Option.bind (de_Ai64_s_i64Z x215) fun (i216, s217, i218) =>
      some (i216, s217, i218, 0, st213)
     else
      Option.bind (storeAt C0.P (St.push st4 (.cells 33 true [(.int .i64 0), (.str []), (.int .i64 0)])) 33 (.ref (St.next st4) 0) (.agg [(.int .i64 3), (.str s190), (.int .i64 i3)])) fun st221 =>
      Option.bind (loadAt C0.P st221 33 (.ref (St.next st4) 0)) fun x223 =>
      Option.bind (de_Ai64_s_i64Z x223) fun (i224, s225, i226) =>
      some (i224, s225, i226, i187, st221)
    else
     if (i6 = 39) then
      Option.bind (subS s2 i3 (List.length s2 : Nat)) fun s230 =>
      Option.bind (xlex_quoted R s230) fun (s231, i232) =>
      Option.bind (storeAt C0.P (St.push st4 (.cells 33 true [(.int .i64 0), (.str []), (.int .i64 0)])) 33 (.ref (St.next st4) 0) (.agg [(.int .i64 4), (.str s231), (.int .i64 i3)])) fun st235 =>
      Option.bind (loadAt C0.P st235 33 (.ref (St.next st4) 0)) fun x237 =>
      Option.bind (de_Ai64_s_i64Z x237) fun (i238, s239, i240) =>
      some (i238, s239, i240, i232, st235)
     else
      Option.bind (mkNew (buildSliceOp C0.P (C0.byref 16) 47 18 [(0, (.str [60, 62])), (1, (.str [60, 61])), (2, (.str [62, 61])), (3, (.str [61])), (4, (.str [60])), (5, (.str [62])), (6, (.str [43])), (7, (.str [45])), (8, (.str [42])), (9, (.str [40])), (10, (.str [41])), (11, (.str [123])), (12, (.str [125])), (13, (.str [91])), (14, (.str [93])), (15, (.str [44])), (16, (.str [58])), (17, (.str [46]))]) (St.push st4 (.cells 33 true [(.int .i64 0), (.str []), (.int .i64 0)]))) fun (x244, st243) =>
      Option.bind (lenOf x244) fun n246 =>
      Option.bind (lex_next_l111010 R s2 i3 (St.next st4) x244 (n246 : Int) R 0 st243) fun o => match o with
      | .inl (i338, st339) =>
       Option.bind (loadAt C0.P st339 33 (.ref (St.next st4) 0)) fun x341 =>
       Option.bind (de_Ai64_s_i64Z x341) fun (i342, s343, i344) =>
       some (i342, s343, i344, i338, st339)
      | .inr st346 =>
       Option.bind (storeAt C0.P st346 33 (.ref (St.next st4) 0) (.agg [(.int .i64 0), (.str []), (.int .i64 i3)])) fun st348 =>
       Option.bind (loadAt C0.P st348 33 (.ref (St.next st4) 0)) fun x350 =>
       Option.bind (de_Ai64_s_i64Z x350) fun (i351, s352, i353) =>
       some (i351, s352, i353, 0, st348)
theorem lex_next_ok (R n : Nat) (s2 : List UInt8) (i3 : Int) (st4 : St) (r : Int × List UInt8 × Int × Int × St) (h : lex_next R s2 i3 st4 = some r) :
    CallsTo (callK C0 ext2 R (n + 3)) false 16 [(.str s2), (.int .i64 i3)] st4 (.tuple [(.agg [.int .i64 r.1, .str r.2.1, .int .i64 r.2.2.1]), (.int .i64 r.2.2.2.1)]) r.2.2.2.2 := by
  revert h
  unfold lex_next
  refine bindE fun i6 h5 => ?_
  refine bindE fun b26 h25 => ?_
  refine iteE (fun h27 => ?_) (fun h27 => ?_)
  · subst h27
    refine bindE fun s29 h28 => ?_
    refine bindE fun o h32 => ?_
    obtain ⟨s30, i31⟩ := o
    refine bindE fun o h35 => ?_
    obtain ⟨s33, b34⟩ := o
    refine bindE fun b47 h46 => ?_
    refine iteE (fun h48 => ?_) (fun h48 => ?_)
    · subst h48
      refine bindE fun st50 h49 => ?_
      refine bindE fun x52 h51 => ?_
      refine bindE fun o h56 => ?_
      obtain ⟨i53, s54, i55⟩ := o
      obtain rfl := de_Ai64_s_i64Z_ok h56
      intro h
      obtain rfl := Option.some.inj h
      exact callO_ok (hs := [.run 4, .val (.int .u8 i6), .run 1, .absG [0, 1, 6] .normal [(20, (.bool true))] (St.push st4 (.cells 33 true [(.int .i64 0), (.str []), (.int .i64 0)])), .run 3, .val (.str s29), .call (.tuple [(.str s30), (.int .i64 i31)]) (St.push st4 (.cells 33 true [(.int .i64 0), (.str []), (.int .i64 0)])), .run 6, .call (.tuple [(.str s33), (.bool b34)]) (St.push st4 (.cells 33 true [(.int .i64 0), (.str []), (.int .i64 0)])), .run 5, .absG [8, 10] .normal [(55, (.bool true))] (St.push st4 (.cells 33 true [(.int .i64 0), (.str []), (.int .i64 0)])), .run 2, .eff AV.undef st50, .run 1, .val (.agg [(.int .i64 i53), (.str s54), (.int .i64 i55)])]) (by kernel_rfl) (.cons h51 <| .cons (sto_ok h49) <| .cons (lex_next_j1100101100_ok R n i31 b34 (St.push st4 (.cells 33 true [(.int .i64 0), (.str []), (.int .i64 0)])) _ h46) <| .cons (xlex_hex_ok_ext2 R (n + 1) s30 (St.push st4 (.cells 33 true [(.int .i64 0), (.str []), (.int .i64 0)])) _ h35) <| .cons (xlex_quoted_ok_ext2 R (n + 1) s29 (St.push st4 (.cells 33 true [(.int .i64 0), (.str []), (.int .i64 0)])) _ h32) <| .cons (sub10 (k := .i64) (P := C0.P) (t := 9) (by kernel_rfl) h28) <| .cons (lex_next_j11000_ok R n s2 i3 i6 (St.push st4 (.cells 33 true [(.int .i64 0), (.str []), (.int .i64 0)])) _ h25) <| .cons (idx_ok (k := .i64) (P := C0.P) (t := 9) (by kernel_rfl) h5) .nil) (by kernel_rfl) (by kernel_rfl)
    · obtain rfl := bF h48
      refine bindE fun st58 h57 => ?_
      refine bindE fun x60 h59 => ?_
      refine bindE fun o h64 => ?_
      obtain ⟨i61, s62, i63⟩ := o
      obtain rfl := de_Ai64_s_i64Z_ok h64
      intro h
      obtain rfl := Option.some.inj h
      exact callO_ok (hs := [.run 4, .val (.int .u8 i6), .run 1, .absG [0, 1, 6] .normal [(20, (.bool true))] (St.push st4 (.cells 33 true [(.int .i64 0), (.str []), (.int .i64 0)])), .run 3, .val (.str s29), .call (.tuple [(.str s30), (.int .i64 i31)]) (St.push st4 (.cells 33 true [(.int .i64 0), (.str []), (.int .i64 0)])), .run 6, .call (.tuple [(.str s33), (.bool b34)]) (St.push st4 (.cells 33 true [(.int .i64 0), (.str []), (.int .i64 0)])), .run 5, .absG [8, 10] .normal [(55, (.bool false))] (St.push st4 (.cells 33 true [(.int .i64 0), (.str []), (.int .i64 0)])), .run 5, .eff AV.undef st58, .run 1, .val (.agg [(.int .i64 i61), (.str s62), (.int .i64 i63)])]) (by kernel_rfl) (.cons h59 <| .cons (sto_ok h57) <| .cons (lex_next_j1100101100_ok R n i31 b34 (St.push st4 (.cells 33 true [(.int .i64 0), (.str []), (.int .i64 0)])) _ h46) <| .cons (xlex_hex_ok_ext2 R (n + 1) s30 (St.push st4 (.cells 33 true [(.int .i64 0), (.str []), (.int .i64 0)])) _ h35) <| .cons (xlex_quoted_ok_ext2 R (n + 1) s29 (St.push st4 (.cells 33 true [(.int .i64 0), (.str []), (.int .i64 0)])) _ h32) <| .cons (sub10 (k := .i64) (P := C0.P) (t := 9) (by kernel_rfl) h28) <| .cons (lex_next_j11000_ok R n s2 i3 i6 (St.push st4 (.cells 33 true [(.int .i64 0), (.str []), (.int .i64 0)])) _ h25) <| .cons (idx_ok (k := .i64) (P := C0.P) (t := 9) (by kernel_rfl) h5) .nil) (by kernel_rfl) (by kernel_rfl)
  · obtain rfl := bF h27
    refine bindE fun b65 h66 => ?_
    refine iteE (fun h67 => ?_) (fun h67 => ?_)
    · subst h67
      refine bindE fun o h72 => ?_
      obtain ⟨i68, s69, i70, i71⟩ := o
      refine bindE fun st74 h73 => ?_
      refine bindE fun x76 h75 => ?_
      refine bindE fun o h80 => ?_
      obtain ⟨i77, s78, i79⟩ := o
      obtain rfl := de_Ai64_s_i64Z_ok h80
      intro h
      obtain rfl := Option.some.inj h
      exact callO_ok (hs := [.run 4, .val (.int .u8 i6), .run 1, .absG [0, 1, 6] .normal [(20, (.bool false))] (St.push st4 (.cells 33 true [(.int .i64 0), (.str []), (.int .i64 0)])), .run 1, .call (.bool true) (St.push st4 (.cells 33 true [(.int .i64 0), (.str []), (.int .i64 0)])), .run 3, .call (.tuple [(.agg [(.int .i64 i68), (.str s69), (.int .i64 i70)]), (.int .i64 i71)]) (St.push st4 (.cells 33 true [(.int .i64 0), (.str []), (.int .i64 0)])), .run 2, .eff AV.undef st74, .run 1, .val (.agg [(.int .i64 i77), (.str s78), (.int .i64 i79)])]) (by kernel_rfl) (.cons h75 <| .cons (sto_ok h73) <| .cons (xlex_named_ok_ext2 R (n + 1) s2 i3 (St.push st4 (.cells 33 true [(.int .i64 0), (.str []), (.int .i64 0)])) _ h72) <| .cons (xlex_letter_ok_ext2 R (n + 1) i6 (St.push st4 (.cells 33 true [(.int .i64 0), (.str []), (.int .i64 0)])) _ h66) <| .cons (lex_next_j11000_ok R n s2 i3 i6 (St.push st4 (.cells 33 true [(.int .i64 0), (.str []), (.int .i64 0)])) _ h25) <| .cons (idx_ok (k := .i64) (P := C0.P) (t := 9) (by kernel_rfl) h5) .nil) (by kernel_rfl) (by kernel_rfl)
    · obtain rfl := bF h67
      refine bindE fun b81 h82 => ?_
      refine iteE (fun h83 => ?_) (fun h83 => ?_)
      · subst h83
        refine bindE fun i187 h188 => ?_
        refine bindE fun s190 h189 => ?_
        refine bindE fun b210 h209 => ?_
        refine iteE (fun h211 => ?_) (fun h211 => ?_)
        · subst h211
          refine bindE fun st213 h212 => ?_
          refine bindE fun x215 h214 => ?_
          refine bindE fun o h219 => ?_
          obtain ⟨i216, s217, i218⟩ := o
          obtain rfl := de_Ai64_s_i64Z_ok h219
          intro h
          obtain rfl := Option.some.inj h
          exact callO_ok (hs := [.run 4, .val (.int .u8 i6), .run 1, .absG [0, 1, 6] .normal [(20, (.bool false))] (St.push st4 (.cells 33 true [(.int .i64 0), (.str []), (.int .i64 0)])), .run 1, .call (.bool false) (St.push st4 (.cells 33 true [(.int .i64 0), (.str []), (.int .i64 0)])), .run 2, .call (.bool true) (St.push st4 (.cells 33 true [(.int .i64 0), (.str []), (.int .i64 0)])), .run 3, .call (.int .i64 i187) (St.push st4 (.cells 33 true [(.int .i64 0), (.str []), (.int .i64 0)])), .run 6, .val (.str s190), .run 1, .absG [6, 11, 12] .normal [(100, (.bool true))] (St.push st4 (.cells 33 true [(.int .i64 0), (.str []), (.int .i64 0)])), .run 2, .eff AV.undef st213, .run 1, .val (.agg [(.int .i64 i216), (.str s217), (.int .i64 i218)])]) (by kernel_rfl) (.cons h214 <| .cons (sto_ok h212) <| .cons (lex_next_j11001111101100_ok R n i6 i187 s190 (St.push st4 (.cells 33 true [(.int .i64 0), (.str []), (.int .i64 0)])) _ h209) <| .cons (sub11 (k := .i64) (k' := .i64) (P := C0.P) (t := 9) (by kernel_rfl) h189) <| .cons (lex_run_lex_digit_ok R n s2 i3 (St.push st4 (.cells 33 true [(.int .i64 0), (.str []), (.int .i64 0)])) _ h188) <| .cons (xlex_digit_ok_ext2 R (n + 1) i6 (St.push st4 (.cells 33 true [(.int .i64 0), (.str []), (.int .i64 0)])) _ h82) <| .cons (xlex_letter_ok_ext2 R (n + 1) i6 (St.push st4 (.cells 33 true [(.int .i64 0), (.str []), (.int .i64 0)])) _ h66) <| .cons (lex_next_j11000_ok R n s2 i3 i6 (St.push st4 (.cells 33 true [(.int .i64 0), (.str []), (.int .i64 0)])) _ h25) <| .cons (idx_ok (k := .i64) (P := C0.P) (t := 9) (by kernel_rfl) h5) .nil) (by kernel_rfl) (by kernel_rfl)
        · obtain rfl := bF h211
          refine bindE fun st221 h220 => ?_
          refine bindE fun x223 h222 => ?_
          refine bindE fun o h227 => ?_
          obtain ⟨i224, s225, i226⟩ := o
          obtain rfl := de_Ai64_s_i64Z_ok h227
          intro h
          obtain rfl := Option.some.inj h
          exact callO_ok (hs := [.run 4, .val (.int .u8 i6), .run 1, .absG [0, 1, 6] .normal [(20, (.bool false))] (St.push st4 (.cells 33 true [(.int .i64 0), (.str []), (.int .i64 0)])), .run 1, .call (.bool false) (St.push st4 (.cells 33 true [(.int .i64 0), (.str []), (.int .i64 0)])), .run 2, .call (.bool true) (St.push st4 (.cells 33 true [(.int .i64 0), (.str []), (.int .i64 0)])), .run 3, .call (.int .i64 i187) (St.push st4 (.cells 33 true [(.int .i64 0), (.str []), (.int .i64 0)])), .run 6, .val (.str s190), .run 1, .absG [6, 11, 12] .normal [(100, (.bool false))] (St.push st4 (.cells 33 true [(.int .i64 0), (.str []), (.int .i64 0)])), .run 4, .eff AV.undef st221, .run 1, .val (.agg [(.int .i64 i224), (.str s225), (.int .i64 i226)])]) (by kernel_rfl) (.cons h222 <| .cons (sto_ok h220) <| .cons (lex_next_j11001111101100_ok R n i6 i187 s190 (St.push st4 (.cells 33 true [(.int .i64 0), (.str []), (.int .i64 0)])) _ h209) <| .cons (sub11 (k := .i64) (k' := .i64) (P := C0.P) (t := 9) (by kernel_rfl) h189) <| .cons (lex_run_lex_digit_ok R n s2 i3 (St.push st4 (.cells 33 true [(.int .i64 0), (.str []), (.int .i64 0)])) _ h188) <| .cons (xlex_digit_ok_ext2 R (n + 1) i6 (St.push st4 (.cells 33 true [(.int .i64 0), (.str []), (.int .i64 0)])) _ h82) <| .cons (xlex_letter_ok_ext2 R (n + 1) i6 (St.push st4 (.cells 33 true [(.int .i64 0), (.str []), (.int .i64 0)])) _ h66) <| .cons (lex_next_j11000_ok R n s2 i3 i6 (St.push st4 (.cells 33 true [(.int .i64 0), (.str []), (.int .i64 0)])) _ h25) <| .cons (idx_ok (k := .i64) (P := C0.P) (t := 9) (by kernel_rfl) h5) .nil) (by kernel_rfl) (by kernel_rfl)
      · obtain rfl := bF h83
        refine iteE (fun h228 => ?_) (fun h228 => ?_)
        · refine bindE fun s230 h229 => ?_
          refine bindE fun o h233 => ?_
          obtain ⟨s231, i232⟩ := o
          refine bindE fun st235 h234 => ?_
          refine bindE fun x237 h236 => ?_
          refine bindE fun o h241 => ?_
          obtain ⟨i238, s239, i240⟩ := o
          obtain rfl := de_Ai64_s_i64Z_ok h241
          intro h
          obtain rfl := Option.some.inj h
          exact callO_ok (hs := [.run 4, .val (.int .u8 i6), .run 1, .absG [0, 1, 6] .normal [(20, (.bool false))] (St.push st4 (.cells 33 true [(.int .i64 0), (.str []), (.int .i64 0)])), .run 1, .call (.bool false) (St.push st4 (.cells 33 true [(.int .i64 0), (.str []), (.int .i64 0)])), .run 2, .call (.bool false) (St.push st4 (.cells 33 true [(.int .i64 0), (.str []), (.int .i64 0)])), .run 2, .dec true, .run 3, .val (.str s230), .call (.tuple [(.str s231), (.int .i64 i232)]) (St.push st4 (.cells 33 true [(.int .i64 0), (.str []), (.int .i64 0)])), .run 9, .eff AV.undef st235, .run 1, .val (.agg [(.int .i64 i238), (.str s239), (.int .i64 i240)])]) (by kernel_rfl) (.cons h236 <| .cons (sto_ok h234) <| .cons (xlex_quoted_ok_ext2 R (n + 1) s230 (St.push st4 (.cells 33 true [(.int .i64 0), (.str []), (.int .i64 0)])) _ h233) <| .cons (sub10 (k := .i64) (P := C0.P) (t := 9) (by kernel_rfl) h229) <| .cons (beqT h228) <| .cons (xlex_digit_ok_ext2 R (n + 1) i6 (St.push st4 (.cells 33 true [(.int .i64 0), (.str []), (.int .i64 0)])) _ h82) <| .cons (xlex_letter_ok_ext2 R (n + 1) i6 (St.push st4 (.cells 33 true [(.int .i64 0), (.str []), (.int .i64 0)])) _ h66) <| .cons (lex_next_j11000_ok R n s2 i3 i6 (St.push st4 (.cells 33 true [(.int .i64 0), (.str []), (.int .i64 0)])) _ h25) <| .cons (idx_ok (k := .i64) (P := C0.P) (t := 9) (by kernel_rfl) h5) .nil) (by kernel_rfl) (by kernel_rfl)
        · refine bindE fun o h242 => ?_
          obtain ⟨x244, st243⟩ := o
          refine bindE fun n246 h245 => ?_
          refine bindE fun o h337 => ?_
          rcases o with ⟨i338, st339⟩ | st346
          · refine bindE fun x341 h340 => ?_
            refine bindE fun o h345 => ?_
            obtain ⟨i342, s343, i344⟩ := o
            obtain rfl := de_Ai64_s_i64Z_ok h345
            intro h
            obtain rfl := Option.some.inj h
            exact callO_ok (hs := [.run 4, .val (.int .u8 i6), .run 1, .absG [0, 1, 6] .normal [(20, (.bool false))] (St.push st4 (.cells 33 true [(.int .i64 0), (.str []), (.int .i64 0)])), .run 1, .call (.bool false) (St.push st4 (.cells 33 true [(.int .i64 0), (.str []), (.int .i64 0)])), .run 2, .call (.bool false) (St.push st4 (.cells 33 true [(.int .i64 0), (.str []), (.int .i64 0)])), .run 2, .dec false, .run 1, .eff x244 st243, .val (.int .i64 (n246 : Int)), .run 1, .abs [0, 1, 4, 121, 122, 123] .ret [(5, (.int .i64 i338))] st339, .val (.agg [(.int .i64 i342), (.str s343), (.int .i64 i344)])]) (by kernel_rfl) (.cons h340 <| .cons (loop_leads (lex_next_l111010_ok R n s2 i3 (St.next st4) x244 (n246 : Int) R 0 st243 _ h337)) <| .cons (len_ok (P := C0.P) (t := 47) (e := 9) (by kernel_rfl) h245) <| .cons h242 <| .cons (beqF h228) <| .cons (xlex_digit_ok_ext2 R (n + 1) i6 (St.push st4 (.cells 33 true [(.int .i64 0), (.str []), (.int .i64 0)])) _ h82) <| .cons (xlex_letter_ok_ext2 R (n + 1) i6 (St.push st4 (.cells 33 true [(.int .i64 0), (.str []), (.int .i64 0)])) _ h66) <| .cons (lex_next_j11000_ok R n s2 i3 i6 (St.push st4 (.cells 33 true [(.int .i64 0), (.str []), (.int .i64 0)])) _ h25) <| .cons (idx_ok (k := .i64) (P := C0.P) (t := 9) (by kernel_rfl) h5) .nil) (by kernel_rfl) (by kernel_rfl)
          · refine bindE fun st348 h347 => ?_
            refine bindE fun x350 h349 => ?_
            refine bindE fun o h354 => ?_
            obtain ⟨i351, s352, i353⟩ := o
            obtain rfl := de_Ai64_s_i64Z_ok h354
            intro h
            obtain rfl := Option.some.inj h
            exact callO_ok (hs := [.run 4, .val (.int .u8 i6), .run 1, .absG [0, 1, 6] .normal [(20, (.bool false))] (St.push st4 (.cells 33 true [(.int .i64 0), (.str []), (.int .i64 0)])), .run 1, .call (.bool false) (St.push st4 (.cells 33 true [(.int .i64 0), (.str []), (.int .i64 0)])), .run 2, .call (.bool false) (St.push st4 (.cells 33 true [(.int .i64 0), (.str []), (.int .i64 0)])), .run 2, .dec false, .run 1, .eff x244 st243, .val (.int .i64 (n246 : Int)), .run 1, .abs [0, 1, 4, 121, 122, 123] (.exit 1) [] st346, .run 2, .eff AV.undef st348, .run 1, .val (.agg [(.int .i64 i351), (.str s352), (.int .i64 i353)])]) (by kernel_rfl) (.cons h349 <| .cons (sto_ok h347) <| .cons (loop_leads (lex_next_l111010_ok R n s2 i3 (St.next st4) x244 (n246 : Int) R 0 st243 _ h337)) <| .cons (len_ok (P := C0.P) (t := 47) (e := 9) (by kernel_rfl) h245) <| .cons h242 <| .cons (beqF h228) <| .cons (xlex_digit_ok_ext2 R (n + 1) i6 (St.push st4 (.cells 33 true [(.int .i64 0), (.str []), (.int .i64 0)])) _ h82) <| .cons (xlex_letter_ok_ext2 R (n + 1) i6 (St.push st4 (.cells 33 true [(.int .i64 0), (.str []), (.int .i64 0)])) _ h66) <| .cons (lex_next_j11000_ok R n s2 i3 i6 (St.push st4 (.cells 33 true [(.int .i64 0), (.str []), (.int .i64 0)])) _ h25) <| .cons (idx_ok (k := .i64) (P := C0.P) (t := 9) (by kernel_rfl) h5) .nil) (by kernel_rfl) (by kernel_rfl)

noncomputable def parchmentref11_word_j1100 (R : Nat) (s371 : List UInt8) (i372 : Int) (i373 : Int) : Option (Bool) :=
  if (i373 = 120) then
   if ((IntKind.wrap .i64 (i372 + 1)) < (List.length s371 : Int)) then
    Option.bind (idxS s371 (IntKind.wrap .i64 (i372 + 1))) fun i378 =>
    if (i378 = 39) then
     some true
    else
     some false
   else
    some false
  else
   some false
theorem parchmentref11_word_j1100_ok (R n : Nat) (s371 : List UInt8) (i372 : Int) (i373 : Int) (st374 : St) (r : Bool) (h : parchmentref11_word_j1100 R s371 i372 i373 = some r) :
    Leads 190 (execK C0 (callK C0 ext2 R (n + 1)) 18 R none (codeAt C0.P 18 [1, 1, 0, 0])) (modsOf (codeAt C0.P 18 [1, 1, 0, 0])) [(0, (.str s371)), (1, (.int .i64 i372)), (6, (.int .u8 i373))] st374 .normal [(36, .bool r)] st374 := by
  revert h
  unfold parchmentref11_word_j1100
  refine iteE (fun h375 => ?_) (fun h375 => ?_)
  · refine iteE (fun h376 => ?_) (fun h376 => ?_)
    · refine bindE fun i378 h377 => ?_
      refine iteE (fun h379 => ?_) (fun h379 => ?_)
      · intro h
        obtain rfl := Option.some.inj h
        exact runO_ok (hs := [.run 1, .dec true, .run 5, .dec true, .run 5, .val (.int .u8 i378), .dec true, .run 1]) (want := [36]) (by kernel_rfl) (.cons (beqT h379) <| .cons (idx_ok (k := .i64) (P := C0.P) (t := 9) (by kernel_rfl) h377) <| .cons (decide_eq_true h376) <| .cons (beqT h375) .nil)
      · intro h
        obtain rfl := Option.some.inj h
        exact runO_ok (hs := [.run 1, .dec true, .run 5, .dec true, .run 5, .val (.int .u8 i378), .dec false, .run 1]) (want := [36]) (by kernel_rfl) (.cons (beqF h379) <| .cons (idx_ok (k := .i64) (P := C0.P) (t := 9) (by kernel_rfl) h377) <| .cons (decide_eq_true h376) <| .cons (beqT h375) .nil)
    · intro h
      obtain rfl := Option.some.inj h
      exact runO_ok (hs := [.run 1, .dec true, .run 5, .dec false, .run 3]) (want := [36]) (by kernel_rfl) (.cons (decide_eq_false h376) <| .cons (beqT h375) .nil)
  · intro h
    obtain rfl := Option.some.inj h
    exact runO_ok (hs := [.run 1, .dec false, .run 4]) (want := [36]) (by kernel_rfl) (.cons (beqF h375) .nil)

noncomputable def parchmentref11_word_j110101100 (R : Nat) (i394 : Int) (b395 : Bool) : Option (Bool) :=
  if (i394 = 0) then
   some true
  else
   if b395 = true then
    some false
   else
    some true
theorem parchmentref11_word_j110101100_ok (R n : Nat) (i394 : Int) (b395 : Bool) (st396 : St) (r : Bool) (h : parchmentref11_word_j110101100 R i394 b395 = some r) :
    Leads 190 (execK C0 (callK C0 ext2 R (n + 1)) 18 R none (codeAt C0.P 18 [1, 1, 0, 1, 0, 1, 1, 0, 0])) (modsOf (codeAt C0.P 18 [1, 1, 0, 1, 0, 1, 1, 0, 0])) [(8, (.int .i64 i394)), (10, (.bool b395))] st396 .normal [(54, .bool r)] st396 := by
  revert h
  unfold parchmentref11_word_j110101100
  refine iteE (fun h397 => ?_) (fun h397 => ?_)
  · intro h
    obtain rfl := Option.some.inj h
    exact runO_ok (hs := [.run 1, .dec true, .run 2]) (want := [54]) (by kernel_rfl) (.cons (beqT h397) .nil)
  · refine iteE (fun h398 => ?_) (fun h398 => ?_)
    · subst h398
      intro h
      obtain rfl := Option.some.inj h
      exact runO_ok (hs := [.run 1, .dec false, .run 4]) (want := [54]) (by kernel_rfl) (.cons (beqF h397) .nil)
    · obtain rfl := bF h398
      intro h
      obtain rfl := Option.some.inj h
      exact runO_ok (hs := [.run 1, .dec false, .run 4]) (want := [54]) (by kernel_rfl) (.cons (beqF h397) .nil)

noncomputable def parchmentref11_word_j1111101000000 (R : Nat) (s482 : List UInt8) (i483 : Int) : Option (Bool) :=
  if (i483 < (List.length s482 : Int)) then
   Option.bind (idxS s482 i483) fun i487 =>
   Option.bind (xparchmentref11_class R i487) fun i488 =>
   if (i488 = 1) then
    some true
   else
    if (i488 = 2) then
     some true
    else
     some false
  else
   some false
theorem parchmentref11_word_j1111101000000_ok (R n : Nat) (s482 : List UInt8) (i483 : Int) (st484 : St) (r : Bool) (h : parchmentref11_word_j1111101000000 R s482 i483 = some r) :
    Leads 190 (execK C0 (callK C0 ext2 R (n + 1)) 18 R none (codeAt C0.P 18 [1, 1, 1, 1, 1, 0, 1, 0, 0, 0, 0, 0, 0])) (modsOf (codeAt C0.P 18 [1, 1, 1, 1, 1, 0, 1, 0, 0, 0, 0, 0, 0])) [(0, (.str s482)), (13, (.int .i64 i483))] st484 .normal [(93, .bool r)] st484 := by
  revert h
  unfold parchmentref11_word_j1111101000000
  refine iteE (fun h485 => ?_) (fun h485 => ?_)
  · refine bindE fun i487 h486 => ?_
    refine bindE fun i488 h489 => ?_
    refine iteE (fun h490 => ?_) (fun h490 => ?_)
    · intro h
      obtain rfl := Option.some.inj h
      exact runO_ok (hs := [.run 3, .dec true, .run 3, .val (.int .u8 i487), .call (.int .i64 i488) st484, .dec true, .run 3]) (want := [93]) (by kernel_rfl) (.cons (beqT h490) <| .cons (xparchmentref11_class_ok_ext2 R n i487 st484 _ h489) <| .cons (idx_ok (k := .i64) (P := C0.P) (t := 9) (by kernel_rfl) h486) <| .cons (decide_eq_true h485) .nil)
    · refine iteE (fun h493 => ?_) (fun h493 => ?_)
      · intro h
        obtain rfl := Option.some.inj h
        exact runO_ok (hs := [.run 3, .dec true, .run 3, .val (.int .u8 i487), .call (.int .i64 i488) st484, .dec false, .run 3, .val (.int .u8 i487), .call (.int .i64 i488) st484, .dec true, .run 2]) (want := [93]) (by kernel_rfl) (.cons (beqT h493) <| .cons (xparchmentref11_class_ok_ext2 R n i487 st484 _ h489) <| .cons (idx_ok (k := .i64) (P := C0.P) (t := 9) (by kernel_rfl) h486) <| .cons (beqF h490) <| .cons (xparchmentref11_class_ok_ext2 R n i487 st484 _ h489) <| .cons (idx_ok (k := .i64) (P := C0.P) (t := 9) (by kernel_rfl) h486) <| .cons (decide_eq_true h485) .nil)
      · intro h
        obtain rfl := Option.some.inj h
        exact runO_ok (hs := [.run 3, .dec true, .run 3, .val (.int .u8 i487), .call (.int .i64 i488) st484, .dec false, .run 3, .val (.int .u8 i487), .call (.int .i64 i488) st484, .dec false, .run 2]) (want := [93]) (by kernel_rfl) (.cons (beqF h493) <| .cons (xparchmentref11_class_ok_ext2 R n i487 st484 _ h489) <| .cons (idx_ok (k := .i64) (P := C0.P) (t := 9) (by kernel_rfl) h486) <| .cons (beqF h490) <| .cons (xparchmentref11_class_ok_ext2 R n i487 st484 _ h489) <| .cons (idx_ok (k := .i64) (P := C0.P) (t := 9) (by kernel_rfl) h486) <| .cons (decide_eq_true h485) .nil)
  · intro h
    obtain rfl := Option.some.inj h
    exact runO_ok (hs := [.run 3, .dec false, .run 2]) (want := [93]) (by kernel_rfl) (.cons (decide_eq_false h485) .nil)

noncomputable def parchmentref11_word_l1111101000 (R : Nat) (s465 : List UInt8) (i466 : Int) (d467 : Nat) : Nat → Int → St → Option ((Int × St))
  | 0, _, _ => none
  | r + 1, i468, st469 =>
    Option.bind (parchmentref11_word_j1111101000000 R s465 i468) fun b495 =>
    if b495 = true then
     parchmentref11_word_l1111101000 R s465 i466 d467 r (IntKind.wrap .i64 (i468 + 1)) st469
    else
     some (i468, st469)
noncomputable def parchmentref11_word_l1111101000_x (o : (Int × St)) : AExit × List (Nat × AV) × St := match o with
  | (a0, a1) => ((.exit 0), [(13, .int .i64 a0)], a1)
theorem parchmentref11_word_l1111101000_ok (R n : Nat) (s465 : List UInt8) (i466 : Int) (d467 : Nat) : ∀ (r : Nat) (i468 : Int) (st469 : St) (o : (Int × St)), parchmentref11_word_l1111101000 R s465 i466 d467 r i468 st469 = some o →
    Leads 190 (loopK (fun fr k => execK C0 (callK C0 ext2 R (n + 1)) 18 R none (codeAt C0.P 18 [1, 1, 1, 1, 1, 0, 1, 0, 0, 0, 0]) fr k) r) (modsOf (codeAt C0.P 18 [1, 1, 1, 1, 1, 0, 1, 0, 0, 0, 0])) [(0, (.str s465)), (1, (.int .i64 i466)), (4, (.ref d467 0)), (13, (.int .i64 i468))] st469 (parchmentref11_word_l1111101000_x o).1 (parchmentref11_word_l1111101000_x o).2.1 (parchmentref11_word_l1111101000_x o).2.2 := by
  intro r
  induction r with
  | zero => intro i468 st469 o h; exact nomatch h
  | succ r ih =>
    intro i468 st469 o
    unfold parchmentref11_word_l1111101000
    refine bindE fun b495 h494 => ?_
    refine iteE (fun h496 => ?_) (fun h496 => ?_)
    · subst h496
      intro h
      exact loop_more (runO_ok (hs := [.absG [0, 13] .normal [(93, (.bool true))] st469, .run 3]) (want := [0, 1, 4, 13]) (by kernel_rfl) (.cons (parchmentref11_word_j1111101000000_ok R n s465 i468 st469 _ h494) .nil)) (ih (IntKind.wrap .i64 (i468 + 1)) st469 _ h)
    · obtain rfl := bF h496
      intro h
      obtain rfl := Option.some.inj h
      exact loop_done (runO_ok (hs := [.absG [0, 13] .normal [(93, (.bool false))] st469]) (want := [13]) (by kernel_rfl) (.cons (parchmentref11_word_j1111101000000_ok R n s465 i468 st469 _ h494) .nil)) (by kernel_rfl)

noncomputable def parchmentref11_word_j11111101000000 (R : Nat) (s573 : List UInt8) (i574 : Int) : Option (Bool) :=
  if (i574 < (List.length s573 : Int)) then
   Option.bind (idxS s573 i574) fun i578 =>
   Option.bind (xparchmentref11_class R i578) fun i579 =>
   if (i579 = 2) then
    some true
   else
    some false
  else
   some false
theorem parchmentref11_word_j11111101000000_ok (R n : Nat) (s573 : List UInt8) (i574 : Int) (st575 : St) (r : Bool) (h : parchmentref11_word_j11111101000000 R s573 i574 = some r) :
    Leads 190 (execK C0 (callK C0 ext2 R (n + 1)) 18 R none (codeAt C0.P 18 [1, 1, 1, 1, 1, 1, 0, 1, 0, 0, 0, 0, 0, 0])) (modsOf (codeAt C0.P 18 [1, 1, 1, 1, 1, 1, 0, 1, 0, 0, 0, 0, 0, 0])) [(0, (.str s573)), (13, (.int .i64 i574))] st575 .normal [(127, .bool r)] st575 := by
  revert h
  unfold parchmentref11_word_j11111101000000
  refine iteE (fun h576 => ?_) (fun h576 => ?_)
  · refine bindE fun i578 h577 => ?_
    refine bindE fun i579 h580 => ?_
    refine iteE (fun h581 => ?_) (fun h581 => ?_)
    · intro h
      obtain rfl := Option.some.inj h
      exact runO_ok (hs := [.run 3, .dec true, .run 3, .val (.int .u8 i578), .call (.int .i64 i579) st575, .dec true, .run 1]) (want := [127]) (by kernel_rfl) (.cons (beqT h581) <| .cons (xparchmentref11_class_ok_ext2 R n i578 st575 _ h580) <| .cons (idx_ok (k := .i64) (P := C0.P) (t := 9) (by kernel_rfl) h577) <| .cons (decide_eq_true h576) .nil)
    · intro h
      obtain rfl := Option.some.inj h
      exact runO_ok (hs := [.run 3, .dec true, .run 3, .val (.int .u8 i578), .call (.int .i64 i579) st575, .dec false, .run 1]) (want := [127]) (by kernel_rfl) (.cons (beqF h581) <| .cons (xparchmentref11_class_ok_ext2 R n i578 st575 _ h580) <| .cons (idx_ok (k := .i64) (P := C0.P) (t := 9) (by kernel_rfl) h577) <| .cons (decide_eq_true h576) .nil)
  · intro h
    obtain rfl := Option.some.inj h
    exact runO_ok (hs := [.run 3, .dec false, .run 2]) (want := [127]) (by kernel_rfl) (.cons (decide_eq_false h576) .nil)

noncomputable def parchmentref11_word_l11111101000 (R : Nat) (s559 : List UInt8) (i560 : Int) (d561 : Nat) : Nat → Int → St → Option ((Int × St))
  | 0, _, _ => none
  | r + 1, i562, st563 =>
    Option.bind (parchmentref11_word_j11111101000000 R s559 i562) fun b583 =>
    if b583 = true then
     parchmentref11_word_l11111101000 R s559 i560 d561 r (IntKind.wrap .i64 (i562 + 1)) st563
    else
     some (i562, st563)
noncomputable def parchmentref11_word_l11111101000_x (o : (Int × St)) : AExit × List (Nat × AV) × St := match o with
  | (a0, a1) => ((.exit 2), [(13, .int .i64 a0)], a1)
theorem parchmentref11_word_l11111101000_ok (R n : Nat) (s559 : List UInt8) (i560 : Int) (d561 : Nat) : ∀ (r : Nat) (i562 : Int) (st563 : St) (o : (Int × St)), parchmentref11_word_l11111101000 R s559 i560 d561 r i562 st563 = some o →
    Leads 190 (loopK (fun fr k => execK C0 (callK C0 ext2 R (n + 1)) 18 R none (codeAt C0.P 18 [1, 1, 1, 1, 1, 1, 0, 1, 0, 0, 0, 0]) fr k) r) (modsOf (codeAt C0.P 18 [1, 1, 1, 1, 1, 1, 0, 1, 0, 0, 0, 0])) [(0, (.str s559)), (1, (.int .i64 i560)), (4, (.ref d561 0)), (13, (.int .i64 i562))] st563 (parchmentref11_word_l11111101000_x o).1 (parchmentref11_word_l11111101000_x o).2.1 (parchmentref11_word_l11111101000_x o).2.2 := by
  intro r
  induction r with
  | zero => intro i562 st563 o h; exact nomatch h
  | succ r ih =>
    intro i562 st563 o
    unfold parchmentref11_word_l11111101000
    refine bindE fun b583 h582 => ?_
    refine iteE (fun h584 => ?_) (fun h584 => ?_)
    · subst h584
      intro h
      exact loop_more (runO_ok (hs := [.absG [0, 13] .normal [(127, (.bool true))] st563, .run 3]) (want := [0, 1, 4, 13]) (by kernel_rfl) (.cons (parchmentref11_word_j11111101000000_ok R n s559 i562 st563 _ h582) .nil)) (ih (IntKind.wrap .i64 (i562 + 1)) st563 _ h)
    · obtain rfl := bF h584
      intro h
      obtain rfl := Option.some.inj h
      exact loop_done (runO_ok (hs := [.absG [0, 13] .normal [(127, (.bool false))] st563]) (want := [13]) (by kernel_rfl) (.cons (parchmentref11_word_j11111101000000_ok R n s559 i562 st563 _ h582) .nil)) (by kernel_rfl)

noncomputable def parchmentref11_word_j111111101010 (R : Nat) (s617 : List UInt8) : Option (Bool) :=
  if (s617 = [60, 62]) then
   some true
  else
   if (s617 = [60, 61]) then
    some true
   else
    if (s617 = [62, 61]) then
     some true
    else
     some false
theorem parchmentref11_word_j111111101010_ok (R n : Nat) (s617 : List UInt8) (st618 : St) (r : Bool) (h : parchmentref11_word_j111111101010 R s617 = some r) :
    Leads 190 (execK C0 (callK C0 ext2 R (n + 1)) 18 R none (codeAt C0.P 18 [1, 1, 1, 1, 1, 1, 1, 0, 1, 0, 1, 0])) (modsOf (codeAt C0.P 18 [1, 1, 1, 1, 1, 1, 1, 0, 1, 0, 1, 0])) [(15, (.str s617))] st618 .normal [(163, .bool r)] st618 := by
  revert h
  unfold parchmentref11_word_j111111101010
  refine iteE (fun h619 => ?_) (fun h619 => ?_)
  · intro h
    obtain rfl := Option.some.inj h
    exact runO_ok (hs := [.run 1, .dec true, .run 4]) (want := [163]) (by kernel_rfl) (.cons (strEqT h619) .nil)
  · refine iteE (fun h620 => ?_) (fun h620 => ?_)
    · intro h
      obtain rfl := Option.some.inj h
      exact runO_ok (hs := [.run 1, .dec false, .run 2, .dec true, .run 3]) (want := [163]) (by kernel_rfl) (.cons (strEqT h620) <| .cons (strEqF h619) .nil)
    · refine iteE (fun h621 => ?_) (fun h621 => ?_)
      · intro h
        obtain rfl := Option.some.inj h
        exact runO_ok (hs := [.run 1, .dec false, .run 2, .dec false, .run 3, .dec true, .run 1]) (want := [163]) (by kernel_rfl) (.cons (strEqT h621) <| .cons (strEqF h620) <| .cons (strEqF h619) .nil)
      · intro h
        obtain rfl := Option.some.inj h
        exact runO_ok (hs := [.run 1, .dec false, .run 2, .dec false, .run 3, .dec false, .run 1]) (want := [163]) (by kernel_rfl) (.cons (strEqF h621) <| .cons (strEqF h620) <| .cons (strEqF h619) .nil)

noncomputable def parchmentref11_word_l111111111010 (R : Nat) (s647 : List UInt8) (i648 : Int) (d649 : Nat) (i650 : Int) : Nat → Int → St → Option ((Int × St) ⊕ (St))
  | 0, _, _ => none
  | r + 1, i651, st652 =>
    if (i651 < 15) then
     Option.bind (idxS [61, 60, 62, 43, 45, 42, 40, 41, 123, 125, 91, 93, 44, 58, 46] i651) fun i655 =>
     if (i655 = i650) then
      Option.bind (subS s647 i648 (IntKind.wrap .i64 (i648 + 1))) fun s658 =>
      Option.bind (storeAt C0.P st652 32 (.ref d649 0) (.agg [(.int .i64 6), (.str s658), (.int .i64 i648)])) fun st660 =>
      some (.inl ((IntKind.wrap .i64 (i648 + 1)), st660))
     else
      parchmentref11_word_l111111111010 R s647 i648 d649 i650 r (IntKind.wrap .i64 (i651 + 1)) st652
    else
     some (.inr st652)
noncomputable def parchmentref11_word_l111111111010_x (o : (Int × St) ⊕ (St)) : AExit × List (Nat × AV) × St := match o with
  | .inl (a0, a1) => (.ret, [(5, .int .i64 a0)], a1)
  | .inr a0 => ((.exit 4), [], a0)
theorem parchmentref11_word_l111111111010_ok (R n : Nat) (s647 : List UInt8) (i648 : Int) (d649 : Nat) (i650 : Int) : ∀ (r : Nat) (i651 : Int) (st652 : St) (o : (Int × St) ⊕ (St)), parchmentref11_word_l111111111010 R s647 i648 d649 i650 r i651 st652 = some o →
    Leads 190 (loopK (fun fr k => execK C0 (callK C0 ext2 R (n + 1)) 18 R none (codeAt C0.P 18 [1, 1, 1, 1, 1, 1, 1, 1, 1, 0, 1, 0, 0]) fr k) r) (modsOf (codeAt C0.P 18 [1, 1, 1, 1, 1, 1, 1, 1, 1, 0, 1, 0, 0])) [(0, (.str s647)), (1, (.int .i64 i648)), (4, (.ref d649 0)), (6, (.int .u8 i650)), (16, (.str [61, 60, 62, 43, 45, 42, 40, 41, 123, 125, 91, 93, 44, 58, 46])), (17, (.int .i64 i651))] st652 (parchmentref11_word_l111111111010_x o).1 (parchmentref11_word_l111111111010_x o).2.1 (parchmentref11_word_l111111111010_x o).2.2 := by
  intro r
  induction r with
  | zero => intro i651 st652 o h; exact nomatch h
  | succ r ih =>
    intro i651 st652 o
    unfold parchmentref11_word_l111111111010
    refine iteE (fun h653 => ?_) (fun h653 => ?_)
    · refine bindE fun i655 h654 => ?_
      refine iteE (fun h656 => ?_) (fun h656 => ?_)
      · refine bindE fun s658 h657 => ?_
        refine bindE fun st660 h659 => ?_
        intro h
        obtain rfl := Option.some.inj h
        exact loop_done (runO_ok (hs := [.run 3, .dec true, .run 2, .val (.int .u8 i655), .run 1, .dec true, .run 4, .val (.str s658), .run 4, .eff AV.undef st660, .run 1]) (want := [5]) (by kernel_rfl) (.cons (sto_ok h659) <| .cons (sub11 (k := .i64) (k' := .i64) (P := C0.P) (t := 9) (by kernel_rfl) h657) <| .cons (beqT h656) <| .cons (idx_ok (k := .i64) (P := C0.P) (t := 9) (by kernel_rfl) h654) <| .cons (decide_eq_true h653) .nil)) (by kernel_rfl)
      · intro h
        exact loop_more (runO_ok (hs := [.run 3, .dec true, .run 2, .val (.int .u8 i655), .run 1, .dec false, .run 3]) (want := [0, 1, 4, 6, 16, 17]) (by kernel_rfl) (.cons (beqF h656) <| .cons (idx_ok (k := .i64) (P := C0.P) (t := 9) (by kernel_rfl) h654) <| .cons (decide_eq_true h653) .nil)) (ih (IntKind.wrap .i64 (i651 + 1)) st652 _ h)
    · intro h
      obtain rfl := Option.some.inj h
      exact loop_done (runO_ok (hs := [.run 3, .dec false]) (want := []) (by kernel_rfl) (.cons (decide_eq_false h653) .nil)) (by kernel_rfl)

/- parchment/parchmentref11.word -/
def parchmentref11_word_n : Nat := 18
noncomputable def parchmentref11_word (R : Nat) (s357 : List UInt8) (i358 : Int) (st359 : St) : Option (Int × List UInt8 × Int × Int × St) :=
  Option.bind (idxS s357 i358) fun i361 =>
  Option.bind (parchmentref11_word_j1100 R s357 i358 i361) fun b381 =>
  if b381 = true then
   Option.bind (xparchmentref11_quoted R s357 (IntKind.wrap .i64 (i358 + 1))) fun (s383, i384) =>
   Option.bind (xparchmentref11_bytes R s383) fun (s386, b387) =>
   Option.bind (parchmentref11_word_j110101100 R i384 b387) fun b400 =>
   if b400 = true then
    Option.bind (storeAt C0.P (St.push st359 (.cells 32 true [(.int .i64 0), (.str []), (.int .i64 0)])) 32 (.ref (St.next st359) 0) (.agg [(.int .i64 0), (.str []), (.int .i64 0)])) fun st403 =>
    Option.bind (loadAt C0.P st403 32 (.ref (St.next st359) 0)) fun x405 =>
    Option.bind (de_Ai64_s_i64Z x405) fun (i406, s407, i408) =>
    some (i406, s407, i408, 0, st403)
   else
    Option.bind (storeAt C0.P (St.push st359 (.cells 32 true [(.int .i64 0), (.str []), (.int .i64 0)])) 32 (.ref (St.next st359) 0) (.agg [(.int .i64 5), (.str s386), (.int .i64 i358)])) fun st411 =>
    Option.bind (loadAt C0.P st411 32 (.ref (St.next st359) 0)) fun x413 =>
    Option.bind (de_Ai64_s_i64Z x413) fun (i414, s415, i416) =>
    some (i414, s415, i416, i384, st411)
  else
   if (i361 = 39) then
    Option.bind (xparchmentref11_quoted R s357 i358) fun (s419, i420) =>
    Option.bind (storeAt C0.P (St.push st359 (.cells 32 true [(.int .i64 0), (.str []), (.int .i64 0)])) 32 (.ref (St.next st359) 0) (.agg [(.int .i64 4), (.str s419), (.int .i64 i358)])) fun st423 =>
    Option.bind (loadAt C0.P st423 32 (.ref (St.next st359) 0)) fun x425 =>
    Option.bind (de_Ai64_s_i64Z x425) fun (i426, s427, i428) =>
    some (i426, s427, i428, i420, st423)
   else
    Option.bind (xparchmentref11_class R i361) fun i430 =>
    if (i430 = 1) then
     Option.bind (parchmentref11_word_l1111101000 R s357 i358 (St.next st359) R i358 (St.push st359 (.cells 32 true [(.int .i64 0), (.str []), (.int .i64 0)]))) fun (i498, st499) =>
     Option.bind (subS s357 i358 i498) fun s501 =>
     Option.bind (xparchmentref11_Key R s501) fun b502 =>
     if b502 = true then
      Option.bind (storeAt C0.P st499 32 (.ref (St.next st359) 0) (.agg [(.int .i64 2), (.str s501), (.int .i64 i358)])) fun st506 =>
      Option.bind (loadAt C0.P st506 32 (.ref (St.next st359) 0)) fun x508 =>
      Option.bind (de_Ai64_s_i64Z x508) fun (i509, s510, i511) =>
      some (i509, s510, i511, i498, st506)
     else
      if ((List.length s501 : Int) > 16) then
       Option.bind (storeAt C0.P st499 32 (.ref (St.next st359) 0) (.agg [(.int .i64 0), (.str []), (.int .i64 0)])) fun st515 =>
       Option.bind (loadAt C0.P st515 32 (.ref (St.next st359) 0)) fun x517 =>
       Option.bind (de_Ai64_s_i64Z x517) fun (i518, s519, i520) =>
       some (i518, s519, i520, 0, st515)
      else
       Option.bind (storeAt C0.P st499 32 (.ref (St.next st359) 0) (.agg [(.int .i64 1), (.str s501), (.int .i64 i358)])) fun st523 =>
       Option.bind (loadAt C0.P st523 32 (.ref (St.next st359) 0)) fun x525 =>
       Option.bind (de_Ai64_s_i64Z x525) fun (i526, s527, i528) =>
       some (i526, s527, i528, i498, st523)
    else
     if (i430 = 2) then
      Option.bind (parchmentref11_word_l11111101000 R s357 i358 (St.next st359) R i358 (St.push st359 (.cells 32 true [(.int .i64 0), (.str []), (.int .i64 0)]))) fun (i586, st587) =>
      Option.bind (subS s357 i358 i586) fun s589 =>
      Option.bind (xparchmentref11_number R s589) fun b590 =>
      if b590 = true then
       Option.bind (storeAt C0.P st587 32 (.ref (St.next st359) 0) (.agg [(.int .i64 3), (.str s589), (.int .i64 i358)])) fun st594 =>
       Option.bind (loadAt C0.P st594 32 (.ref (St.next st359) 0)) fun x596 =>
       Option.bind (de_Ai64_s_i64Z x596) fun (i597, s598, i599) =>
       some (i597, s598, i599, i586, st594)
      else
       Option.bind (storeAt C0.P st587 32 (.ref (St.next st359) 0) (.agg [(.int .i64 0), (.str []), (.int .i64 0)])) fun st602 =>
       Option.bind (loadAt C0.P st602 32 (.ref (St.next st359) 0)) fun x604 =>
       Option.bind (de_Ai64_s_i64Z x604) fun (i605, s606, i607) =>
       some (i605, s606, i607, 0, st602)
     else
      if ((IntKind.wrap .i64 (i358 + 2)) ≤ (List.length s357 : Int)) then
       Option.bind (subS s357 i358 (IntKind.wrap .i64 (i358 + 2))) fun s611 =>
       Option.bind (parchmentref11_word_j111111101010 R s611) fun b623 =>
       if b623 = true then
        Option.bind (storeAt C0.P (St.push st359 (.cells 32 true [(.int .i64 0), (.str []), (.int .i64 0)])) 32 (.ref (St.next st359) 0) (.agg [(.int .i64 6), (.str s611), (.int .i64 i358)])) fun st626 =>
        Option.bind (loadAt C0.P st626 32 (.ref (St.next st359) 0)) fun x628 =>
        Option.bind (de_Ai64_s_i64Z x628) fun (i629, s630, i631) =>
        some (i629, s630, i631, (IntKind.wrap .i64 (i358 + 2)), st626)
       else
        Option.bind (parchmentref11_word_l111111111010 R s357 i358 (St.next st359) i361 R 0 (St.push st359 (.cells 32 true [(.int .i64 0), (.str []), (.int .i64 0)]))) fun o => match o with
        | .inl (i662, st663) =>
         Option.bind (loadAt C0.P st663 32 (.ref (St.next st359) 0)) fun x665 =>
         Option.bind (de_Ai64_s_i64Z x665) fun (i666, s667, i668) =>
         some (i666, s667, i668, i662, st663)
        | .inr st670 =>
         Option.bind (storeAt C0.P st670 32 (.ref (St.next st359) 0) (.agg [(.int .i64 0), (.str []), (.int .i64 0)])) fun st672 =>
         Option.bind (loadAt C0.P st672 32 (.ref (St.next st359) 0)) fun x674 =>
         Option.bind (de_Ai64_s_i64Z x674) fun (i675, s676, i677) =>
         some (i675, s676, i677, 0, st672)
      else
       Option.bind (parchmentref11_word_l111111111010 R s357 i358 (St.next st359) i361 R 0 (St.push st359 (.cells 32 true [(.int .i64 0), (.str []), (.int .i64 0)]))) fun o => match o with
       | .inl (i680, st681) =>
        Option.bind (loadAt C0.P st681 32 (.ref (St.next st359) 0)) fun x683 =>
        Option.bind (de_Ai64_s_i64Z x683) fun (i684, s685, i686) =>
        some (i684, s685, i686, i680, st681)
       | .inr st688 =>
        Option.bind (storeAt C0.P st688 32 (.ref (St.next st359) 0) (.agg [(.int .i64 0), (.str []), (.int .i64 0)])) fun st690 =>
        Option.bind (loadAt C0.P st690 32 (.ref (St.next st359) 0)) fun x692 =>
        Option.bind (de_Ai64_s_i64Z x692) fun (i693, s694, i695) =>
        some (i693, s694, i695, 0, st690)
theorem parchmentref11_word_ok (R n : Nat) (s357 : List UInt8) (i358 : Int) (st359 : St) (r : Int × List UInt8 × Int × Int × St) (h : parchmentref11_word R s357 i358 st359 = some r) :
    CallsTo (callK C0 ext2 R (n + 2)) false 18 [(.str s357), (.int .i64 i358)] st359 (.tuple [(.agg [.int .i64 r.1, .str r.2.1, .int .i64 r.2.2.1]), (.int .i64 r.2.2.2.1)]) r.2.2.2.2 := by
  revert h
  unfold parchmentref11_word
  refine bindE fun i361 h360 => ?_
  refine bindE fun b381 h380 => ?_
  refine iteE (fun h382 => ?_) (fun h382 => ?_)
  · subst h382
    refine bindE fun o h385 => ?_
    obtain ⟨s383, i384⟩ := o
    refine bindE fun o h388 => ?_
    obtain ⟨s386, b387⟩ := o
    refine bindE fun b400 h399 => ?_
    refine iteE (fun h401 => ?_) (fun h401 => ?_)
    · subst h401
      refine bindE fun st403 h402 => ?_
      refine bindE fun x405 h404 => ?_
      refine bindE fun o h409 => ?_
      obtain ⟨i406, s407, i408⟩ := o
      obtain rfl := de_Ai64_s_i64Z_ok h409
      intro h
      obtain rfl := Option.some.inj h
      exact callO_ok (hs := [.run 4, .val (.int .u8 i361), .run 1, .absG [0, 1, 6] .normal [(36, (.bool true))] (St.push st359 (.cells 32 true [(.int .i64 0), (.str []), (.int .i64 0)])), .run 3, .call (.tuple [(.str s383), (.int .i64 i384)]) (St.push st359 (.cells 32 true [(.int .i64 0), (.str []), (.int .i64 0)])), .run 6, .call (.tuple [(.str s386), (.bool b387)]) (St.push st359 (.cells 32 true [(.int .i64 0), (.str []), (.int .i64 0)])), .run 5, .absG [8, 10] .normal [(54, (.bool true))] (St.push st359 (.cells 32 true [(.int .i64 0), (.str []), (.int .i64 0)])), .run 1, .eff AV.undef st403, .run 1, .val (.agg [(.int .i64 i406), (.str s407), (.int .i64 i408)])]) (by kernel_rfl) (.cons h404 <| .cons (sto_ok h402) <| .cons (parchmentref11_word_j110101100_ok R n i384 b387 (St.push st359 (.cells 32 true [(.int .i64 0), (.str []), (.int .i64 0)])) _ h399) <| .cons (xparchmentref11_bytes_ok_ext2 R n s383 (St.push st359 (.cells 32 true [(.int .i64 0), (.str []), (.int .i64 0)])) _ h388) <| .cons (xparchmentref11_quoted_ok_ext2 R n s357 (IntKind.wrap .i64 (i358 + 1)) (St.push st359 (.cells 32 true [(.int .i64 0), (.str []), (.int .i64 0)])) _ h385) <| .cons (parchmentref11_word_j1100_ok R n s357 i358 i361 (St.push st359 (.cells 32 true [(.int .i64 0), (.str []), (.int .i64 0)])) _ h380) <| .cons (idx_ok (k := .i64) (P := C0.P) (t := 9) (by kernel_rfl) h360) .nil) (by kernel_rfl) (by kernel_rfl)
    · obtain rfl := bF h401
      refine bindE fun st411 h410 => ?_
      refine bindE fun x413 h412 => ?_
      refine bindE fun o h417 => ?_
      obtain ⟨i414, s415, i416⟩ := o
      obtain rfl := de_Ai64_s_i64Z_ok h417
      intro h
      obtain rfl := Option.some.inj h
      exact callO_ok (hs := [.run 4, .val (.int .u8 i361), .run 1, .absG [0, 1, 6] .normal [(36, (.bool true))] (St.push st359 (.cells 32 true [(.int .i64 0), (.str []), (.int .i64 0)])), .run 3, .call (.tuple [(.str s383), (.int .i64 i384)]) (St.push st359 (.cells 32 true [(.int .i64 0), (.str []), (.int .i64 0)])), .run 6, .call (.tuple [(.str s386), (.bool b387)]) (St.push st359 (.cells 32 true [(.int .i64 0), (.str []), (.int .i64 0)])), .run 5, .absG [8, 10] .normal [(54, (.bool false))] (St.push st359 (.cells 32 true [(.int .i64 0), (.str []), (.int .i64 0)])), .run 4, .eff AV.undef st411, .run 1, .val (.agg [(.int .i64 i414), (.str s415), (.int .i64 i416)])]) (by kernel_rfl) (.cons h412 <| .cons (sto_ok h410) <| .cons (parchmentref11_word_j110101100_ok R n i384 b387 (St.push st359 (.cells 32 true [(.int .i64 0), (.str []), (.int .i64 0)])) _ h399) <| .cons (xparchmentref11_bytes_ok_ext2 R n s383 (St.push st359 (.cells 32 true [(.int .i64 0), (.str []), (.int .i64 0)])) _ h388) <| .cons (xparchmentref11_quoted_ok_ext2 R n s357 (IntKind.wrap .i64 (i358 + 1)) (St.push st359 (.cells 32 true [(.int .i64 0), (.str []), (.int .i64 0)])) _ h385) <| .cons (parchmentref11_word_j1100_ok R n s357 i358 i361 (St.push st359 (.cells 32 true [(.int .i64 0), (.str []), (.int .i64 0)])) _ h380) <| .cons (idx_ok (k := .i64) (P := C0.P) (t := 9) (by kernel_rfl) h360) .nil) (by kernel_rfl) (by kernel_rfl)
  · obtain rfl := bF h382
    refine iteE (fun h418 => ?_) (fun h418 => ?_)
    · refine bindE fun o h421 => ?_
      obtain ⟨s419, i420⟩ := o
      refine bindE fun st423 h422 => ?_
      refine bindE fun x425 h424 => ?_
      refine bindE fun o h429 => ?_
      obtain ⟨i426, s427, i428⟩ := o
      obtain rfl := de_Ai64_s_i64Z_ok h429
      intro h
      obtain rfl := Option.some.inj h
      exact callO_ok (hs := [.run 4, .val (.int .u8 i361), .run 1, .absG [0, 1, 6] .normal [(36, (.bool false))] (St.push st359 (.cells 32 true [(.int .i64 0), (.str []), (.int .i64 0)])), .run 1, .dec true, .run 2, .call (.tuple [(.str s419), (.int .i64 i420)]) (St.push st359 (.cells 32 true [(.int .i64 0), (.str []), (.int .i64 0)])), .run 9, .eff AV.undef st423, .run 1, .val (.agg [(.int .i64 i426), (.str s427), (.int .i64 i428)])]) (by kernel_rfl) (.cons h424 <| .cons (sto_ok h422) <| .cons (xparchmentref11_quoted_ok_ext2 R n s357 i358 (St.push st359 (.cells 32 true [(.int .i64 0), (.str []), (.int .i64 0)])) _ h421) <| .cons (beqT h418) <| .cons (parchmentref11_word_j1100_ok R n s357 i358 i361 (St.push st359 (.cells 32 true [(.int .i64 0), (.str []), (.int .i64 0)])) _ h380) <| .cons (idx_ok (k := .i64) (P := C0.P) (t := 9) (by kernel_rfl) h360) .nil) (by kernel_rfl) (by kernel_rfl)
    · refine bindE fun i430 h431 => ?_
      refine iteE (fun h432 => ?_) (fun h432 => ?_)
      · refine bindE fun o h497 => ?_
        obtain ⟨i498, st499⟩ := o
        refine bindE fun s501 h500 => ?_
        refine bindE fun b502 h503 => ?_
        refine iteE (fun h504 => ?_) (fun h504 => ?_)
        · subst h504
          refine bindE fun st506 h505 => ?_
          refine bindE fun x508 h507 => ?_
          refine bindE fun o h512 => ?_
          obtain ⟨i509, s510, i511⟩ := o
          obtain rfl := de_Ai64_s_i64Z_ok h512
          intro h
          obtain rfl := Option.some.inj h
          exact callO_ok (hs := [.run 4, .val (.int .u8 i361), .run 1, .absG [0, 1, 6] .normal [(36, (.bool false))] (St.push st359 (.cells 32 true [(.int .i64 0), (.str []), (.int .i64 0)])), .run 1, .dec false, .run 3, .call (.int .i64 i430) (St.push st359 (.cells 32 true [(.int .i64 0), (.str []), (.int .i64 0)])), .dec true, .abs [0, 1, 4, 13] (.exit 0) [(13, (.int .i64 i498))] st499, .run 3, .val (.str s501), .run 2, .call (.bool true) st499, .run 4, .eff AV.undef st506, .run 1, .val (.agg [(.int .i64 i509), (.str s510), (.int .i64 i511)])]) (by kernel_rfl) (.cons h507 <| .cons (sto_ok h505) <| .cons (xparchmentref11_Key_ok_ext2 R n s501 st499 _ h503) <| .cons (sub11 (k := .i64) (k' := .i64) (P := C0.P) (t := 9) (by kernel_rfl) h500) <| .cons (loop_leads (parchmentref11_word_l1111101000_ok R n s357 i358 (St.next st359) R i358 (St.push st359 (.cells 32 true [(.int .i64 0), (.str []), (.int .i64 0)])) _ h497)) <| .cons (beqT h432) <| .cons (xparchmentref11_class_ok_ext2 R n i361 (St.push st359 (.cells 32 true [(.int .i64 0), (.str []), (.int .i64 0)])) _ h431) <| .cons (beqF h418) <| .cons (parchmentref11_word_j1100_ok R n s357 i358 i361 (St.push st359 (.cells 32 true [(.int .i64 0), (.str []), (.int .i64 0)])) _ h380) <| .cons (idx_ok (k := .i64) (P := C0.P) (t := 9) (by kernel_rfl) h360) .nil) (by kernel_rfl) (by kernel_rfl)
        · obtain rfl := bF h504
          refine iteE (fun h513 => ?_) (fun h513 => ?_)
          · refine bindE fun st515 h514 => ?_
            refine bindE fun x517 h516 => ?_
            refine bindE fun o h521 => ?_
            obtain ⟨i518, s519, i520⟩ := o
            obtain rfl := de_Ai64_s_i64Z_ok h521
            intro h
            obtain rfl := Option.some.inj h
            exact callO_ok (hs := [.run 4, .val (.int .u8 i361), .run 1, .absG [0, 1, 6] .normal [(36, (.bool false))] (St.push st359 (.cells 32 true [(.int .i64 0), (.str []), (.int .i64 0)])), .run 1, .dec false, .run 3, .call (.int .i64 i430) (St.push st359 (.cells 32 true [(.int .i64 0), (.str []), (.int .i64 0)])), .dec true, .abs [0, 1, 4, 13] (.exit 0) [(13, (.int .i64 i498))] st499, .run 3, .val (.str s501), .run 2, .call (.bool false) st499, .run 2, .dec true, .run 1, .eff AV.undef st515, .run 1, .val (.agg [(.int .i64 i518), (.str s519), (.int .i64 i520)])]) (by kernel_rfl) (.cons h516 <| .cons (sto_ok h514) <| .cons (decide_eq_true h513) <| .cons (xparchmentref11_Key_ok_ext2 R n s501 st499 _ h503) <| .cons (sub11 (k := .i64) (k' := .i64) (P := C0.P) (t := 9) (by kernel_rfl) h500) <| .cons (loop_leads (parchmentref11_word_l1111101000_ok R n s357 i358 (St.next st359) R i358 (St.push st359 (.cells 32 true [(.int .i64 0), (.str []), (.int .i64 0)])) _ h497)) <| .cons (beqT h432) <| .cons (xparchmentref11_class_ok_ext2 R n i361 (St.push st359 (.cells 32 true [(.int .i64 0), (.str []), (.int .i64 0)])) _ h431) <| .cons (beqF h418) <| .cons (parchmentref11_word_j1100_ok R n s357 i358 i361 (St.push st359 (.cells 32 true [(.int .i64 0), (.str []), (.int .i64 0)])) _ h380) <| .cons (idx_ok (k := .i64) (P := C0.P) (t := 9) (by kernel_rfl) h360) .nil) (by kernel_rfl) (by kernel_rfl)
          · refine bindE fun st523 h522 => ?_
            refine bindE fun x525 h524 => ?_
            refine bindE fun o h529 => ?_
            obtain ⟨i526, s527, i528⟩ := o
            obtain rfl := de_Ai64_s_i64Z_ok h529
            intro h
            obtain rfl := Option.some.inj h
            exact callO_ok (hs := [.run 4, .val (.int .u8 i361), .run 1, .absG [0, 1, 6] .normal [(36, (.bool false))] (St.push st359 (.cells 32 true [(.int .i64 0), (.str []), (.int .i64 0)])), .run 1, .dec false, .run 3, .call (.int .i64 i430) (St.push st359 (.cells 32 true [(.int .i64 0), (.str []), (.int .i64 0)])), .dec true, .abs [0, 1, 4, 13] (.exit 0) [(13, (.int .i64 i498))] st499, .run 3, .val (.str s501), .run 2, .call (.bool false) st499, .run 2, .dec false, .run 4, .eff AV.undef st523, .run 1, .val (.agg [(.int .i64 i526), (.str s527), (.int .i64 i528)])]) (by kernel_rfl) (.cons h524 <| .cons (sto_ok h522) <| .cons (decide_eq_false h513) <| .cons (xparchmentref11_Key_ok_ext2 R n s501 st499 _ h503) <| .cons (sub11 (k := .i64) (k' := .i64) (P := C0.P) (t := 9) (by kernel_rfl) h500) <| .cons (loop_leads (parchmentref11_word_l1111101000_ok R n s357 i358 (St.next st359) R i358 (St.push st359 (.cells 32 true [(.int .i64 0), (.str []), (.int .i64 0)])) _ h497)) <| .cons (beqT h432) <| .cons (xparchmentref11_class_ok_ext2 R n i361 (St.push st359 (.cells 32 true [(.int .i64 0), (.str []), (.int .i64 0)])) _ h431) <| .cons (beqF h418) <| .cons (parchmentref11_word_j1100_ok R n s357 i358 i361 (St.push st359 (.cells 32 true [(.int .i64 0), (.str []), (.int .i64 0)])) _ h380) <| .cons (idx_ok (k := .i64) (P := C0.P) (t := 9) (by kernel_rfl) h360) .nil) (by kernel_rfl) (by kernel_rfl)
      · refine iteE (fun h532 => ?_) (fun h532 => ?_)
        · refine bindE fun o h585 => ?_
          obtain ⟨i586, st587⟩ := o
          refine bindE fun s589 h588 => ?_
          refine bindE fun b590 h591 => ?_
          refine iteE (fun h592 => ?_) (fun h592 => ?_)
          · subst h592
            refine bindE fun st594 h593 => ?_
            refine bindE fun x596 h595 => ?_
            refine bindE fun o h600 => ?_
            obtain ⟨i597, s598, i599⟩ := o
            obtain rfl := de_Ai64_s_i64Z_ok h600
            intro h
            obtain rfl := Option.some.inj h
            exact callO_ok (hs := [.run 4, .val (.int .u8 i361), .run 1, .absG [0, 1, 6] .normal [(36, (.bool false))] (St.push st359 (.cells 32 true [(.int .i64 0), (.str []), (.int .i64 0)])), .run 1, .dec false, .run 3, .call (.int .i64 i430) (St.push st359 (.cells 32 true [(.int .i64 0), (.str []), (.int .i64 0)])), .dec false, .run 1, .call (.int .i64 i430) (St.push st359 (.cells 32 true [(.int .i64 0), (.str []), (.int .i64 0)])), .dec true, .abs [0, 1, 4, 13] (.exit 2) [(13, (.int .i64 i586))] st587, .run 3, .val (.str s589), .call (.bool true) st587, .run 4, .val (.str s589), .run 3, .eff AV.undef st594, .run 1, .val (.agg [(.int .i64 i597), (.str s598), (.int .i64 i599)])]) (by kernel_rfl) (.cons h595 <| .cons (sto_ok h593) <| .cons (sub11 (k := .i64) (k' := .i64) (P := C0.P) (t := 9) (by kernel_rfl) h588) <| .cons (xparchmentref11_number_ok_ext2 R n s589 st587 _ h591) <| .cons (sub11 (k := .i64) (k' := .i64) (P := C0.P) (t := 9) (by kernel_rfl) h588) <| .cons (loop_leads (parchmentref11_word_l11111101000_ok R n s357 i358 (St.next st359) R i358 (St.push st359 (.cells 32 true [(.int .i64 0), (.str []), (.int .i64 0)])) _ h585)) <| .cons (beqT h532) <| .cons (xparchmentref11_class_ok_ext2 R n i361 (St.push st359 (.cells 32 true [(.int .i64 0), (.str []), (.int .i64 0)])) _ h431) <| .cons (beqF h432) <| .cons (xparchmentref11_class_ok_ext2 R n i361 (St.push st359 (.cells 32 true [(.int .i64 0), (.str []), (.int .i64 0)])) _ h431) <| .cons (beqF h418) <| .cons (parchmentref11_word_j1100_ok R n s357 i358 i361 (St.push st359 (.cells 32 true [(.int .i64 0), (.str []), (.int .i64 0)])) _ h380) <| .cons (idx_ok (k := .i64) (P := C0.P) (t := 9) (by kernel_rfl) h360) .nil) (by kernel_rfl) (by kernel_rfl)
          · obtain rfl := bF h592
            refine bindE fun st602 h601 => ?_
            refine bindE fun x604 h603 => ?_
            refine bindE fun o h608 => ?_
            obtain ⟨i605, s606, i607⟩ := o
            obtain rfl := de_Ai64_s_i64Z_ok h608
            intro h
            obtain rfl := Option.some.inj h
            exact callO_ok (hs := [.run 4, .val (.int .u8 i361), .run 1, .absG [0, 1, 6] .normal [(36, (.bool false))] (St.push st359 (.cells 32 true [(.int .i64 0), (.str []), (.int .i64 0)])), .run 1, .dec false, .run 3, .call (.int .i64 i430) (St.push st359 (.cells 32 true [(.int .i64 0), (.str []), (.int .i64 0)])), .dec false, .run 1, .call (.int .i64 i430) (St.push st359 (.cells 32 true [(.int .i64 0), (.str []), (.int .i64 0)])), .dec true, .abs [0, 1, 4, 13] (.exit 2) [(13, (.int .i64 i586))] st587, .run 3, .val (.str s589), .call (.bool false) st587, .run 2, .eff AV.undef st602, .run 1, .val (.agg [(.int .i64 i605), (.str s606), (.int .i64 i607)])]) (by kernel_rfl) (.cons h603 <| .cons (sto_ok h601) <| .cons (xparchmentref11_number_ok_ext2 R n s589 st587 _ h591) <| .cons (sub11 (k := .i64) (k' := .i64) (P := C0.P) (t := 9) (by kernel_rfl) h588) <| .cons (loop_leads (parchmentref11_word_l11111101000_ok R n s357 i358 (St.next st359) R i358 (St.push st359 (.cells 32 true [(.int .i64 0), (.str []), (.int .i64 0)])) _ h585)) <| .cons (beqT h532) <| .cons (xparchmentref11_class_ok_ext2 R n i361 (St.push st359 (.cells 32 true [(.int .i64 0), (.str []), (.int .i64 0)])) _ h431) <| .cons (beqF h432) <| .cons (xparchmentref11_class_ok_ext2 R n i361 (St.push st359 (.cells 32 true [(.int .i64 0), (.str []), (.int .i64 0)])) _ h431) <| .cons (beqF h418) <| .cons (parchmentref11_word_j1100_ok R n s357 i358 i361 (St.push st359 (.cells 32 true [(.int .i64 0), (.str []), (.int .i64 0)])) _ h380) <| .cons (idx_ok (k := .i64) (P := C0.P) (t := 9) (by kernel_rfl) h360) .nil) (by kernel_rfl) (by kernel_rfl)
        · refine iteE (fun h609 => ?_) (fun h609 => ?_)
          · refine bindE fun s611 h610 => ?_
            refine bindE fun b623 h622 => ?_
            refine iteE (fun h624 => ?_) (fun h624 => ?_)
            · subst h624
              refine bindE fun st626 h625 => ?_
              refine bindE fun x628 h627 => ?_
              refine bindE fun o h632 => ?_
              obtain ⟨i629, s630, i631⟩ := o
              obtain rfl := de_Ai64_s_i64Z_ok h632
              intro h
              obtain rfl := Option.some.inj h
              exact callO_ok (hs := [.run 4, .val (.int .u8 i361), .run 1, .absG [0, 1, 6] .normal [(36, (.bool false))] (St.push st359 (.cells 32 true [(.int .i64 0), (.str []), (.int .i64 0)])), .run 1, .dec false, .run 3, .call (.int .i64 i430) (St.push st359 (.cells 32 true [(.int .i64 0), (.str []), (.int .i64 0)])), .dec false, .run 1, .call (.int .i64 i430) (St.push st359 (.cells 32 true [(.int .i64 0), (.str []), (.int .i64 0)])), .dec false, .run 4, .dec true, .run 4, .val (.str s611), .run 1, .absG [15] .normal [(163, (.bool true))] (St.push st359 (.cells 32 true [(.int .i64 0), (.str []), (.int .i64 0)])), .run 5, .eff AV.undef st626, .run 1, .val (.agg [(.int .i64 i629), (.str s630), (.int .i64 i631)])]) (by kernel_rfl) (.cons h627 <| .cons (sto_ok h625) <| .cons (parchmentref11_word_j111111101010_ok R n s611 (St.push st359 (.cells 32 true [(.int .i64 0), (.str []), (.int .i64 0)])) _ h622) <| .cons (sub11 (k := .i64) (k' := .i64) (P := C0.P) (t := 9) (by kernel_rfl) h610) <| .cons (decide_eq_true h609) <| .cons (beqF h532) <| .cons (xparchmentref11_class_ok_ext2 R n i361 (St.push st359 (.cells 32 true [(.int .i64 0), (.str []), (.int .i64 0)])) _ h431) <| .cons (beqF h432) <| .cons (xparchmentref11_class_ok_ext2 R n i361 (St.push st359 (.cells 32 true [(.int .i64 0), (.str []), (.int .i64 0)])) _ h431) <| .cons (beqF h418) <| .cons (parchmentref11_word_j1100_ok R n s357 i358 i361 (St.push st359 (.cells 32 true [(.int .i64 0), (.str []), (.int .i64 0)])) _ h380) <| .cons (idx_ok (k := .i64) (P := C0.P) (t := 9) (by kernel_rfl) h360) .nil) (by kernel_rfl) (by kernel_rfl)
            · obtain rfl := bF h624
              refine bindE fun o h661 => ?_
              rcases o with ⟨i662, st663⟩ | st670
              · refine bindE fun x665 h664 => ?_
                refine bindE fun o h669 => ?_
                obtain ⟨i666, s667, i668⟩ := o
                obtain rfl := de_Ai64_s_i64Z_ok h669
                intro h
                obtain rfl := Option.some.inj h
                exact callO_ok (hs := [.run 4, .val (.int .u8 i361), .run 1, .absG [0, 1, 6] .normal [(36, (.bool false))] (St.push st359 (.cells 32 true [(.int .i64 0), (.str []), (.int .i64 0)])), .run 1, .dec false, .run 3, .call (.int .i64 i430) (St.push st359 (.cells 32 true [(.int .i64 0), (.str []), (.int .i64 0)])), .dec false, .run 1, .call (.int .i64 i430) (St.push st359 (.cells 32 true [(.int .i64 0), (.str []), (.int .i64 0)])), .dec false, .run 4, .dec true, .run 4, .val (.str s611), .run 1, .absG [15] .normal [(163, (.bool false))] (St.push st359 (.cells 32 true [(.int .i64 0), (.str []), (.int .i64 0)])), .run 2, .abs [0, 1, 4, 6, 16, 17] .ret [(5, (.int .i64 i662))] st663, .val (.agg [(.int .i64 i666), (.str s667), (.int .i64 i668)])]) (by kernel_rfl) (.cons h664 <| .cons (loop_leads (parchmentref11_word_l111111111010_ok R n s357 i358 (St.next st359) i361 R 0 (St.push st359 (.cells 32 true [(.int .i64 0), (.str []), (.int .i64 0)])) _ h661)) <| .cons (parchmentref11_word_j111111101010_ok R n s611 (St.push st359 (.cells 32 true [(.int .i64 0), (.str []), (.int .i64 0)])) _ h622) <| .cons (sub11 (k := .i64) (k' := .i64) (P := C0.P) (t := 9) (by kernel_rfl) h610) <| .cons (decide_eq_true h609) <| .cons (beqF h532) <| .cons (xparchmentref11_class_ok_ext2 R n i361 (St.push st359 (.cells 32 true [(.int .i64 0), (.str []), (.int .i64 0)])) _ h431) <| .cons (beqF h432) <| .cons (xparchmentref11_class_ok_ext2 R n i361 (St.push st359 (.cells 32 true [(.int .i64 0), (.str []), (.int .i64 0)])) _ h431) <| .cons (beqF h418) <| .cons (parchmentref11_word_j1100_ok R n s357 i358 i361 (St.push st359 (.cells 32 true [(.int .i64 0), (.str []), (.int .i64 0)])) _ h380) <| .cons (idx_ok (k := .i64) (P := C0.P) (t := 9) (by kernel_rfl) h360) .nil) (by kernel_rfl) (by kernel_rfl)
              · refine bindE fun st672 h671 => ?_
                refine bindE fun x674 h673 => ?_
                refine bindE fun o h678 => ?_
                obtain ⟨i675, s676, i677⟩ := o
                obtain rfl := de_Ai64_s_i64Z_ok h678
                intro h
                obtain rfl := Option.some.inj h
                exact callO_ok (hs := [.run 4, .val (.int .u8 i361), .run 1, .absG [0, 1, 6] .normal [(36, (.bool false))] (St.push st359 (.cells 32 true [(.int .i64 0), (.str []), (.int .i64 0)])), .run 1, .dec false, .run 3, .call (.int .i64 i430) (St.push st359 (.cells 32 true [(.int .i64 0), (.str []), (.int .i64 0)])), .dec false, .run 1, .call (.int .i64 i430) (St.push st359 (.cells 32 true [(.int .i64 0), (.str []), (.int .i64 0)])), .dec false, .run 4, .dec true, .run 4, .val (.str s611), .run 1, .absG [15] .normal [(163, (.bool false))] (St.push st359 (.cells 32 true [(.int .i64 0), (.str []), (.int .i64 0)])), .run 2, .abs [0, 1, 4, 6, 16, 17] (.exit 4) [] st670, .run 1, .eff AV.undef st672, .run 1, .val (.agg [(.int .i64 i675), (.str s676), (.int .i64 i677)])]) (by kernel_rfl) (.cons h673 <| .cons (sto_ok h671) <| .cons (loop_leads (parchmentref11_word_l111111111010_ok R n s357 i358 (St.next st359) i361 R 0 (St.push st359 (.cells 32 true [(.int .i64 0), (.str []), (.int .i64 0)])) _ h661)) <| .cons (parchmentref11_word_j111111101010_ok R n s611 (St.push st359 (.cells 32 true [(.int .i64 0), (.str []), (.int .i64 0)])) _ h622) <| .cons (sub11 (k := .i64) (k' := .i64) (P := C0.P) (t := 9) (by kernel_rfl) h610) <| .cons (decide_eq_true h609) <| .cons (beqF h532) <| .cons (xparchmentref11_class_ok_ext2 R n i361 (St.push st359 (.cells 32 true [(.int .i64 0), (.str []), (.int .i64 0)])) _ h431) <| .cons (beqF h432) <| .cons (xparchmentref11_class_ok_ext2 R n i361 (St.push st359 (.cells 32 true [(.int .i64 0), (.str []), (.int .i64 0)])) _ h431) <| .cons (beqF h418) <| .cons (parchmentref11_word_j1100_ok R n s357 i358 i361 (St.push st359 (.cells 32 true [(.int .i64 0), (.str []), (.int .i64 0)])) _ h380) <| .cons (idx_ok (k := .i64) (P := C0.P) (t := 9) (by kernel_rfl) h360) .nil) (by kernel_rfl) (by kernel_rfl)
          · refine bindE fun o h679 => ?_
            rcases o with ⟨i680, st681⟩ | st688
            · refine bindE fun x683 h682 => ?_
              refine bindE fun o h687 => ?_
              obtain ⟨i684, s685, i686⟩ := o
              obtain rfl := de_Ai64_s_i64Z_ok h687
              intro h
              obtain rfl := Option.some.inj h
              exact callO_ok (hs := [.run 4, .val (.int .u8 i361), .run 1, .absG [0, 1, 6] .normal [(36, (.bool false))] (St.push st359 (.cells 32 true [(.int .i64 0), (.str []), (.int .i64 0)])), .run 1, .dec false, .run 3, .call (.int .i64 i430) (St.push st359 (.cells 32 true [(.int .i64 0), (.str []), (.int .i64 0)])), .dec false, .run 1, .call (.int .i64 i430) (St.push st359 (.cells 32 true [(.int .i64 0), (.str []), (.int .i64 0)])), .dec false, .run 4, .dec false, .run 2, .abs [0, 1, 4, 6, 16, 17] .ret [(5, (.int .i64 i680))] st681, .val (.agg [(.int .i64 i684), (.str s685), (.int .i64 i686)])]) (by kernel_rfl) (.cons h682 <| .cons (loop_leads (parchmentref11_word_l111111111010_ok R n s357 i358 (St.next st359) i361 R 0 (St.push st359 (.cells 32 true [(.int .i64 0), (.str []), (.int .i64 0)])) _ h679)) <| .cons (decide_eq_false h609) <| .cons (beqF h532) <| .cons (xparchmentref11_class_ok_ext2 R n i361 (St.push st359 (.cells 32 true [(.int .i64 0), (.str []), (.int .i64 0)])) _ h431) <| .cons (beqF h432) <| .cons (xparchmentref11_class_ok_ext2 R n i361 (St.push st359 (.cells 32 true [(.int .i64 0), (.str []), (.int .i64 0)])) _ h431) <| .cons (beqF h418) <| .cons (parchmentref11_word_j1100_ok R n s357 i358 i361 (St.push st359 (.cells 32 true [(.int .i64 0), (.str []), (.int .i64 0)])) _ h380) <| .cons (idx_ok (k := .i64) (P := C0.P) (t := 9) (by kernel_rfl) h360) .nil) (by kernel_rfl) (by kernel_rfl)
            · refine bindE fun st690 h689 => ?_
              refine bindE fun x692 h691 => ?_
              refine bindE fun o h696 => ?_
              obtain ⟨i693, s694, i695⟩ := o
              obtain rfl := de_Ai64_s_i64Z_ok h696
              intro h
              obtain rfl := Option.some.inj h
              exact callO_ok (hs := [.run 4, .val (.int .u8 i361), .run 1, .absG [0, 1, 6] .normal [(36, (.bool false))] (St.push st359 (.cells 32 true [(.int .i64 0), (.str []), (.int .i64 0)])), .run 1, .dec false, .run 3, .call (.int .i64 i430) (St.push st359 (.cells 32 true [(.int .i64 0), (.str []), (.int .i64 0)])), .dec false, .run 1, .call (.int .i64 i430) (St.push st359 (.cells 32 true [(.int .i64 0), (.str []), (.int .i64 0)])), .dec false, .run 4, .dec false, .run 2, .abs [0, 1, 4, 6, 16, 17] (.exit 4) [] st688, .run 1, .eff AV.undef st690, .run 1, .val (.agg [(.int .i64 i693), (.str s694), (.int .i64 i695)])]) (by kernel_rfl) (.cons h691 <| .cons (sto_ok h689) <| .cons (loop_leads (parchmentref11_word_l111111111010_ok R n s357 i358 (St.next st359) i361 R 0 (St.push st359 (.cells 32 true [(.int .i64 0), (.str []), (.int .i64 0)])) _ h679)) <| .cons (decide_eq_false h609) <| .cons (beqF h532) <| .cons (xparchmentref11_class_ok_ext2 R n i361 (St.push st359 (.cells 32 true [(.int .i64 0), (.str []), (.int .i64 0)])) _ h431) <| .cons (beqF h432) <| .cons (xparchmentref11_class_ok_ext2 R n i361 (St.push st359 (.cells 32 true [(.int .i64 0), (.str []), (.int .i64 0)])) _ h431) <| .cons (beqF h418) <| .cons (parchmentref11_word_j1100_ok R n s357 i358 i361 (St.push st359 (.cells 32 true [(.int .i64 0), (.str []), (.int .i64 0)])) _ h380) <| .cons (idx_ok (k := .i64) (P := C0.P) (t := 9) (by kernel_rfl) h360) .nil) (by kernel_rfl) (by kernel_rfl)

noncomputable def xlex_next (R : Nat) (a0 : List UInt8) (a1 : Int) : Option (Int × List UInt8 × Int × Int) := (lex_next 2000000 a0 a1 St.empty).map fun r => (r.1, r.2.1, r.2.2.1, r.2.2.2.1)
noncomputable def xlex_next_t (args : List AV) : Option AV := match args with
  | [.str a0, .int .i64 a1] => (xlex_next 0 a0 a1).map fun r => (.tuple [(.agg [.int .i64 r.1, .str r.2.1, .int .i64 r.2.2.1]), (.int .i64 r.2.2.2)])
  | _ => none
theorem xlex_next_c : Tellable C0 ext2 (16, xlex_next_t) := by
  intro args v h0
  have h : xlex_next_t args = some v := h0
  unfold xlex_next_t at h
  split at h
  · obtain ⟨q0, h2, rfl⟩ := Option.map_eq_some_iff.1 h
    obtain ⟨q, h1, rfl⟩ := Option.map_eq_some_iff.1 h2
    exact ⟨rfl, rfl, 2000000, 0 + 3, _, lex_next_ok 2000000 0 _ _ St.empty q h1⟩
  · cases h
noncomputable def xparchmentref11_word (R : Nat) (a0 : List UInt8) (a1 : Int) : Option (Int × List UInt8 × Int × Int) := (parchmentref11_word 2000000 a0 a1 St.empty).map fun r => (r.1, r.2.1, r.2.2.1, r.2.2.2.1)
noncomputable def xparchmentref11_word_t (args : List AV) : Option AV := match args with
  | [.str a0, .int .i64 a1] => (xparchmentref11_word 0 a0 a1).map fun r => (.tuple [(.agg [.int .i64 r.1, .str r.2.1, .int .i64 r.2.2.1]), (.int .i64 r.2.2.2)])
  | _ => none
theorem xparchmentref11_word_c : Tellable C0 ext2 (18, xparchmentref11_word_t) := by
  intro args v h0
  have h : xparchmentref11_word_t args = some v := h0
  unfold xparchmentref11_word_t at h
  split at h
  · obtain ⟨q0, h2, rfl⟩ := Option.map_eq_some_iff.1 h
    obtain ⟨q, h1, rfl⟩ := Option.map_eq_some_iff.1 h2
    exact ⟨rfl, rfl, 2000000, 0 + 2, _, parchmentref11_word_ok 2000000 0 _ _ St.empty q h1⟩
  · cases h
noncomputable def ext3_tab : List (Nat × (List AV → Option AV)) := [(16, xlex_next_t), (18, xparchmentref11_word_t)]
noncomputable def ext3 : Ext := moreExt (specL ext3_tab) ext2
theorem ext3_ok : ExtOk C0.P ext3 := moreL_ok mixed0 ext2_ok mext0 ext2_ok (by kernel_rfl) (.cons xlex_next_c <| .cons xparchmentref11_word_c <|  .nil)
theorem xlex_next_s_ext3 (R : Nat) (a0 : List UInt8) (a1 : Int) (r : Int × List UInt8 × Int × Int) (h : xlex_next R a0 a1 = some r) : ext3 16 [.str a0, .int .i64 a1] = some (.tuple [(.agg [.int .i64 r.1, .str r.2.1, .int .i64 r.2.2.1]), (.int .i64 r.2.2.2)]) :=
  more_comes ((by kernel_rfl : specL ext3_tab 16 [.str a0, .int .i64 a1] = (xlex_next R a0 a1).map fun r => (.tuple [(.agg [.int .i64 r.1, .str r.2.1, .int .i64 r.2.2.1]), (.int .i64 r.2.2.2)])).trans (by rw [h]; rfl))
theorem xlex_next_ok_ext3 (R n : Nat) (a0 : List UInt8) (a1 : Int) (st : St) (r : Int × List UInt8 × Int × Int) (h : xlex_next R a0 a1 = some r) : CallsTo (callK C0 ext3 R (n + 1)) false 16 [.str a0, .int .i64 a1] st (.tuple [(.agg [.int .i64 r.1, .str r.2.1, .int .i64 r.2.2.1]), (.int .i64 r.2.2.2)]) st := ext_comes (xlex_next_s_ext3 R a0 a1 r h) st
theorem xparchmentref11_word_s_ext3 (R : Nat) (a0 : List UInt8) (a1 : Int) (r : Int × List UInt8 × Int × Int) (h : xparchmentref11_word R a0 a1 = some r) : ext3 18 [.str a0, .int .i64 a1] = some (.tuple [(.agg [.int .i64 r.1, .str r.2.1, .int .i64 r.2.2.1]), (.int .i64 r.2.2.2)]) :=
  more_comes ((by kernel_rfl : specL ext3_tab 18 [.str a0, .int .i64 a1] = (xparchmentref11_word R a0 a1).map fun r => (.tuple [(.agg [.int .i64 r.1, .str r.2.1, .int .i64 r.2.2.1]), (.int .i64 r.2.2.2)])).trans (by rw [h]; rfl))
theorem xparchmentref11_word_ok_ext3 (R n : Nat) (a0 : List UInt8) (a1 : Int) (st : St) (r : Int × List UInt8 × Int × Int) (h : xparchmentref11_word R a0 a1 = some r) : CallsTo (callK C0 ext3 R (n + 1)) false 18 [.str a0, .int .i64 a1] st (.tuple [(.agg [.int .i64 r.1, .str r.2.1, .int .i64 r.2.2.1]), (.int .i64 r.2.2.2)]) st := ext_comes (xparchmentref11_word_s_ext3 R a0 a1 r h) st
theorem xlex_quoted_s_ext3 (R : Nat) (a0 : List UInt8) (r : List UInt8 × Int) (h : xlex_quoted R a0 = some r) : ext3 20 [.str a0] = some (.tuple [(.str r.1), (.int .i64 r.2)]) :=
  (by kernel_rfl : ext3 20 [.str a0] = ext2 20 [.str a0]).trans (xlex_quoted_s_ext2 R a0 r h)
theorem xlex_quoted_ok_ext3 (R n : Nat) (a0 : List UInt8) (st : St) (r : List UInt8 × Int) (h : xlex_quoted R a0 = some r) : CallsTo (callK C0 ext3 R (n + 1)) false 20 [.str a0] st (.tuple [(.str r.1), (.int .i64 r.2)]) st := ext_comes (xlex_quoted_s_ext3 R a0 r h) st
theorem xlex_hex_s_ext3 (R : Nat) (a0 : List UInt8) (r : List UInt8 × Bool) (h : xlex_hex R a0 = some r) : ext3 21 [.str a0] = some (.tuple [(.str r.1), (.bool r.2)]) :=
  (by kernel_rfl : ext3 21 [.str a0] = ext2 21 [.str a0]).trans (xlex_hex_s_ext2 R a0 r h)
theorem xlex_hex_ok_ext3 (R n : Nat) (a0 : List UInt8) (st : St) (r : List UInt8 × Bool) (h : xlex_hex R a0 = some r) : CallsTo (callK C0 ext3 R (n + 1)) false 21 [.str a0] st (.tuple [(.str r.1), (.bool r.2)]) st := ext_comes (xlex_hex_s_ext3 R a0 r h) st
theorem xlex_Key_s_ext3 (R : Nat) (a0 : List UInt8) (r : Bool) (h : xlex_Key R a0 = some r) : ext3 12 [.str a0] = some (.bool r) :=
  (by kernel_rfl : ext3 12 [.str a0] = ext2 12 [.str a0]).trans (xlex_Key_s_ext2 R a0 r h)
theorem xlex_Key_ok_ext3 (R n : Nat) (a0 : List UInt8) (st : St) (r : Bool) (h : xlex_Key R a0 = some r) : CallsTo (callK C0 ext3 R (n + 1)) false 12 [.str a0] st (.bool r) st := ext_comes (xlex_Key_s_ext3 R a0 r h) st
theorem xvalue_Name_s_ext3 (R : Nat) (a0 : List UInt8) (r : Bool) (h : xvalue_Name R a0 = some r) : ext3 32 [.str a0] = some (.bool r) :=
  (by kernel_rfl : ext3 32 [.str a0] = ext2 32 [.str a0]).trans (xvalue_Name_s_ext2 R a0 r h)
theorem xvalue_Name_ok_ext3 (R n : Nat) (a0 : List UInt8) (st : St) (r : Bool) (h : xvalue_Name R a0 = some r) : CallsTo (callK C0 ext3 R (n + 1)) false 32 [.str a0] st (.bool r) st := ext_comes (xvalue_Name_s_ext3 R a0 r h) st
theorem xparchmentref11_quoted_s_ext3 (R : Nat) (a0 : List UInt8) (a1 : Int) (r : List UInt8 × Int) (h : xparchmentref11_quoted R a0 a1 = some r) : ext3 26 [.str a0, .int .i64 a1] = some (.tuple [(.str r.1), (.int .i64 r.2)]) :=
  (by kernel_rfl : ext3 26 [.str a0, .int .i64 a1] = ext2 26 [.str a0, .int .i64 a1]).trans (xparchmentref11_quoted_s_ext2 R a0 a1 r h)
theorem xparchmentref11_quoted_ok_ext3 (R n : Nat) (a0 : List UInt8) (a1 : Int) (st : St) (r : List UInt8 × Int) (h : xparchmentref11_quoted R a0 a1 = some r) : CallsTo (callK C0 ext3 R (n + 1)) false 26 [.str a0, .int .i64 a1] st (.tuple [(.str r.1), (.int .i64 r.2)]) st := ext_comes (xparchmentref11_quoted_s_ext3 R a0 a1 r h) st
theorem xparchmentref11_bytes_s_ext3 (R : Nat) (a0 : List UInt8) (r : List UInt8 × Bool) (h : xparchmentref11_bytes R a0 = some r) : ext3 27 [.str a0] = some (.tuple [(.str r.1), (.bool r.2)]) :=
  (by kernel_rfl : ext3 27 [.str a0] = ext2 27 [.str a0]).trans (xparchmentref11_bytes_s_ext2 R a0 r h)
theorem xparchmentref11_bytes_ok_ext3 (R n : Nat) (a0 : List UInt8) (st : St) (r : List UInt8 × Bool) (h : xparchmentref11_bytes R a0 = some r) : CallsTo (callK C0 ext3 R (n + 1)) false 27 [.str a0] st (.tuple [(.str r.1), (.bool r.2)]) st := ext_comes (xparchmentref11_bytes_s_ext3 R a0 r h) st
theorem xparchmentref11_Key_s_ext3 (R : Nat) (a0 : List UInt8) (r : Bool) (h : xparchmentref11_Key R a0 = some r) : ext3 13 [.str a0] = some (.bool r) :=
  (by kernel_rfl : ext3 13 [.str a0] = ext2 13 [.str a0]).trans (xparchmentref11_Key_s_ext2 R a0 r h)
theorem xparchmentref11_Key_ok_ext3 (R n : Nat) (a0 : List UInt8) (st : St) (r : Bool) (h : xparchmentref11_Key R a0 = some r) : CallsTo (callK C0 ext3 R (n + 1)) false 13 [.str a0] st (.bool r) st := ext_comes (xparchmentref11_Key_s_ext3 R a0 r h) st
theorem xparchmentref11_number_s_ext3 (R : Nat) (a0 : List UInt8) (r : Bool) (h : xparchmentref11_number R a0 = some r) : ext3 28 [.str a0] = some (.bool r) :=
  (by kernel_rfl : ext3 28 [.str a0] = ext2 28 [.str a0]).trans (xparchmentref11_number_s_ext2 R a0 r h)
theorem xparchmentref11_number_ok_ext3 (R n : Nat) (a0 : List UInt8) (st : St) (r : Bool) (h : xparchmentref11_number R a0 = some r) : CallsTo (callK C0 ext3 R (n + 1)) false 28 [.str a0] st (.bool r) st := ext_comes (xparchmentref11_number_s_ext3 R a0 r h) st
theorem xparchmentref11_class_s_ext3 (R : Nat) (a0 : Int) (r : Int) (h : xparchmentref11_class R a0 = some r) : ext3 17 [.int .u8 a0] = some (.int .i64 r) :=
  (by kernel_rfl : ext3 17 [.int .u8 a0] = ext2 17 [.int .u8 a0]).trans (xparchmentref11_class_s_ext2 R a0 r h)
theorem xparchmentref11_class_ok_ext3 (R n : Nat) (a0 : Int) (st : St) (r : Int) (h : xparchmentref11_class R a0 = some r) : CallsTo (callK C0 ext3 R (n + 1)) false 17 [.int .u8 a0] st (.int .i64 r) st := ext_comes (xparchmentref11_class_s_ext3 R a0 r h) st
theorem xlex_letter_s_ext3 (R : Nat) (a0 : Int) (r : Bool) (h : xlex_letter R a0 = some r) : ext3 22 [.int .u8 a0] = some (.bool r) :=
  (by kernel_rfl : ext3 22 [.int .u8 a0] = ext2 22 [.int .u8 a0]).trans (xlex_letter_s_ext2 R a0 r h)
theorem xlex_letter_ok_ext3 (R n : Nat) (a0 : Int) (st : St) (r : Bool) (h : xlex_letter R a0 = some r) : CallsTo (callK C0 ext3 R (n + 1)) false 22 [.int .u8 a0] st (.bool r) st := ext_comes (xlex_letter_s_ext3 R a0 r h) st
theorem xlex_digit_s_ext3 (R : Nat) (a0 : Int) (r : Bool) (h : xlex_digit R a0 = some r) : ext3 24 [.int .u8 a0] = some (.bool r) :=
  (by kernel_rfl : ext3 24 [.int .u8 a0] = ext2 24 [.int .u8 a0]).trans (xlex_digit_s_ext2 R a0 r h)
theorem xlex_digit_ok_ext3 (R n : Nat) (a0 : Int) (st : St) (r : Bool) (h : xlex_digit R a0 = some r) : CallsTo (callK C0 ext3 R (n + 1)) false 24 [.int .u8 a0] st (.bool r) st := ext_comes (xlex_digit_s_ext3 R a0 r h) st
theorem xlex_blank_s_ext3 (R : Nat) (a0 : Int) (r : Bool) (h : xlex_blank R a0 = some r) : ext3 15 [.int .u8 a0] = some (.bool r) :=
  (by kernel_rfl : ext3 15 [.int .u8 a0] = ext2 15 [.int .u8 a0]).trans (xlex_blank_s_ext2 R a0 r h)
theorem xlex_blank_ok_ext3 (R n : Nat) (a0 : Int) (st : St) (r : Bool) (h : xlex_blank R a0 = some r) : CallsTo (callK C0 ext3 R (n + 1)) false 15 [.int .u8 a0] st (.bool r) st := ext_comes (xlex_blank_s_ext3 R a0 r h) st
theorem xlex_wordy_s_ext3 (R : Nat) (a0 : Int) (r : Bool) (h : xlex_wordy R a0 = some r) : ext3 31 [.int .u8 a0] = some (.bool r) :=
  (by kernel_rfl : ext3 31 [.int .u8 a0] = ext2 31 [.int .u8 a0]).trans (xlex_wordy_s_ext2 R a0 r h)
theorem xlex_wordy_ok_ext3 (R n : Nat) (a0 : Int) (st : St) (r : Bool) (h : xlex_wordy R a0 = some r) : CallsTo (callK C0 ext3 R (n + 1)) false 31 [.int .u8 a0] st (.bool r) st := ext_comes (xlex_wordy_s_ext3 R a0 r h) st
theorem xlex_named_s_ext3 (R : Nat) (a0 : List UInt8) (a1 : Int) (r : Int × List UInt8 × Int × Int) (h : xlex_named R a0 a1 = some r) : ext3 23 [.str a0, .int .i64 a1] = some (.tuple [(.agg [.int .i64 r.1, .str r.2.1, .int .i64 r.2.2.1]), (.int .i64 r.2.2.2)]) :=
  (by kernel_rfl : ext3 23 [.str a0, .int .i64 a1] = ext2 23 [.str a0, .int .i64 a1]).trans (xlex_named_s_ext2 R a0 a1 r h)
theorem xlex_named_ok_ext3 (R n : Nat) (a0 : List UInt8) (a1 : Int) (st : St) (r : Int × List UInt8 × Int × Int) (h : xlex_named R a0 a1 = some r) : CallsTo (callK C0 ext3 R (n + 1)) false 23 [.str a0, .int .i64 a1] st (.tuple [(.agg [.int .i64 r.1, .str r.2.1, .int .i64 r.2.2.1]), (.int .i64 r.2.2.2)]) st := ext_comes (xlex_named_s_ext3 R a0 a1 r h) st
end
end Go.Proofs.Ytlmahcmmpfdglaa
