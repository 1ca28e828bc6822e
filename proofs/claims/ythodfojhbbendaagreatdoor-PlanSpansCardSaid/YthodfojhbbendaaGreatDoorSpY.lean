/- Walks, printed by a program: keys, spans, the order of values, the document's own. -/
import Derived.Test.YthodfojhbbendaaGreatDoorSpA
set_option linter.all false
set_option maxRecDepth 100000
namespace Go.Proofs.YthodfojhbbendaaGreatDoor
open Go Go.Ev
noncomputable section
/-- A group of functions that call one another: how many rounds, what they come to. -/
structure Rc56 where
  n : Nat
  f56 : Int → Bool → Int → List UInt8 → AV → AV → St → Option (List UInt8 × St)
def Rc56.ok (R : Rc56) (n : Nat) : Prop := (∀ m, n ≤ m → ∀ (a0 : Int) (a1 : Bool) (a2 : Int) (a3 : List UInt8) (a4 : AV) (a5 : AV) (st : St) (r : List UInt8 × St), R.f56 a0 a1 a2 a3 a4 a5 st = some r → CallsTo (callK C0 ext0 R.n m) false 56 [(.agg [.int .i64 a0, .bool a1, .int .i64 a2, .str a3, a4, a5])] st (.str r.1) r.2)
theorem Rc56.ok.h56 {R : Rc56} {n : Nat} (h : R.ok n) : (∀ m, n ≤ m → ∀ (a0 : Int) (a1 : Bool) (a2 : Int) (a3 : List UInt8) (a4 : AV) (a5 : AV) (st : St) (r : List UInt8 × St), R.f56 a0 a1 a2 a3 a4 a5 st = some r → CallsTo (callK C0 ext0 R.n m) false 56 [(.agg [.int .i64 a0, .bool a1, .int .i64 a2, .str a3, a4, a5])] st (.str r.1) r.2) := h
theorem Rc56.ok.mono {R : Rc56} {n m : Nat} (h : R.ok n) (hn : n ≤ m) : R.ok m := fun k hk => h.h56 k (Nat.le_trans hn hk)

noncomputable def keys_Of_j11010111100 (R : Rc56) (i1933 : Int) : Option (Bool) :=
  if (i1933 = 3) then
   some true
  else
   some false
theorem keys_Of_j11010111100_ok (R : Rc56) (n : Nat) (hR : R.ok n) (i1933 : Int) (st1934 : St) (r : Bool) (h : keys_Of_j11010111100 R i1933 = some r) :
    Leads 72 (execK C0 (callK C0 ext0 R.n (n + 2)) 56 R.n none (codeAt C0.P 56 [1, 1, 0, 1, 0, 1, 1, 1, 1, 0, 0])) (modsOf (codeAt C0.P 56 [1, 1, 0, 1, 0, 1, 1, 1, 1, 0, 0])) [(12, (.int .i64 i1933))] st1934 .normal [(30, .bool r)] st1934 := by
  revert h
  unfold keys_Of_j11010111100
  refine iteE (fun h1935 => ?_) (fun h1935 => ?_)
  · intro h
    obtain rfl := Option.some.inj h
    exact runO_ok (hs := [.dec true, .run 1]) (want := [30]) (by kernel_rfl) (.cons (beqT h1935) .nil)
  · intro h
    obtain rfl := Option.some.inj h
    exact runO_ok (hs := [.dec false, .run 1]) (want := [30]) (by kernel_rfl) (.cons (beqF h1935) .nil)

noncomputable def keys_Of_c11010111101 (R : Rc56) (x1945 : AV) (s1946 : List UInt8) (i1947 : Int) (b1948 : Bool) : Option (Bool) :=
  if b1948 = true then
   some true
  else
   if (i1947 = 4) then
    some true
   else
    some false
theorem keys_Of_c11010111101_ok (R : Rc56) (n : Nat) (hR : R.ok n) (x1945 : AV) (s1946 : List UInt8) (i1947 : Int) (b1948 : Bool) (st1949 : St) (r : Bool) (h : keys_Of_c11010111101 R x1945 s1946 i1947 b1948 = some r) :
    Leads 72 (execK C0 (callK C0 ext0 R.n (n + 2)) 56 R.n none (codeAt C0.P 56 [1, 1, 0, 1, 0, 1, 1, 1, 1, 0, 1])) (modsOf (codeAt C0.P 56 [1, 1, 0, 1, 0, 1, 1, 1, 1, 0, 1])) [(1, x1945), (3, (.str s1946)), (12, (.int .i64 i1947)), (30, (.bool b1948))] st1949 .normal [(30, .bool r)] st1949 := by
  revert h
  unfold keys_Of_c11010111101
  refine iteE (fun h1950 => ?_) (fun h1950 => ?_)
  · subst h1950
    intro h
    obtain rfl := Option.some.inj h
    exact runO_ok (hs := [.into]) (want := [30]) (by kernel_rfl) .nil
  · obtain rfl := bF h1950
    refine iteE (fun h1951 => ?_) (fun h1951 => ?_)
    · intro h
      obtain rfl := Option.some.inj h
      exact runO_ok (hs := [.into, .dec true, .run 1]) (want := [30]) (by kernel_rfl) (.cons (beqT h1951) .nil)
    · intro h
      obtain rfl := Option.some.inj h
      exact runO_ok (hs := [.into, .dec false, .run 1]) (want := [30]) (by kernel_rfl) (.cons (beqF h1951) .nil)

noncomputable def keys_Of_j1101011111100 (R : Rc56) (i1969 : Int) : Option (Bool) :=
  if (i1969 = 5) then
   some true
  else
   some false
theorem keys_Of_j1101011111100_ok (R : Rc56) (n : Nat) (hR : R.ok n) (i1969 : Int) (st1970 : St) (r : Bool) (h : keys_Of_j1101011111100 R i1969 = some r) :
    Leads 72 (execK C0 (callK C0 ext0 R.n (n + 2)) 56 R.n none (codeAt C0.P 56 [1, 1, 0, 1, 0, 1, 1, 1, 1, 1, 1, 0, 0])) (modsOf (codeAt C0.P 56 [1, 1, 0, 1, 0, 1, 1, 1, 1, 1, 1, 0, 0])) [(12, (.int .i64 i1969))] st1970 .normal [(38, .bool r)] st1970 := by
  revert h
  unfold keys_Of_j1101011111100
  refine iteE (fun h1971 => ?_) (fun h1971 => ?_)
  · intro h
    obtain rfl := Option.some.inj h
    exact runO_ok (hs := [.dec true, .run 1]) (want := [38]) (by kernel_rfl) (.cons (beqT h1971) .nil)
  · intro h
    obtain rfl := Option.some.inj h
    exact runO_ok (hs := [.dec false, .run 1]) (want := [38]) (by kernel_rfl) (.cons (beqF h1971) .nil)

noncomputable def keys_Of_c1101011111101 (R : Rc56) (x1981 : AV) (s1982 : List UInt8) (i1983 : Int) (b1984 : Bool) : Option (Bool) :=
  if b1984 = true then
   some true
  else
   if (i1983 = 6) then
    some true
   else
    some false
theorem keys_Of_c1101011111101_ok (R : Rc56) (n : Nat) (hR : R.ok n) (x1981 : AV) (s1982 : List UInt8) (i1983 : Int) (b1984 : Bool) (st1985 : St) (r : Bool) (h : keys_Of_c1101011111101 R x1981 s1982 i1983 b1984 = some r) :
    Leads 72 (execK C0 (callK C0 ext0 R.n (n + 2)) 56 R.n none (codeAt C0.P 56 [1, 1, 0, 1, 0, 1, 1, 1, 1, 1, 1, 0, 1])) (modsOf (codeAt C0.P 56 [1, 1, 0, 1, 0, 1, 1, 1, 1, 1, 1, 0, 1])) [(1, x1981), (3, (.str s1982)), (12, (.int .i64 i1983)), (38, (.bool b1984))] st1985 .normal [(38, .bool r)] st1985 := by
  revert h
  unfold keys_Of_c1101011111101
  refine iteE (fun h1986 => ?_) (fun h1986 => ?_)
  · subst h1986
    intro h
    obtain rfl := Option.some.inj h
    exact runO_ok (hs := [.into]) (want := [38]) (by kernel_rfl) .nil
  · obtain rfl := bF h1986
    refine iteE (fun h1987 => ?_) (fun h1987 => ?_)
    · intro h
      obtain rfl := Option.some.inj h
      exact runO_ok (hs := [.into, .dec true, .run 1]) (want := [38]) (by kernel_rfl) (.cons (beqT h1987) .nil)
    · intro h
      obtain rfl := Option.some.inj h
      exact runO_ok (hs := [.into, .dec false, .run 1]) (want := [38]) (by kernel_rfl) (.cons (beqF h1987) .nil)

noncomputable def keys_Of_j1101011111110010011001100 (R : Rc56) (x2040 : AV) (i2041 : Int) (st2042 : St) : Option (Bool × St) :=
  Option.bind (shift x2040 5) fun x2044 =>
  Option.bind (loadAt C0.P st2042 22 x2044) fun x2046 =>
  Option.bind (lenOf x2046) fun n2048 =>
  if (i2041 < (n2048 : Int)) then
   some (true, st2042)
  else
   some (false, st2042)
theorem keys_Of_j1101011111110010011001100_ok (R : Rc56) (n : Nat) (hR : R.ok n) (x2040 : AV) (i2041 : Int) (st2042 : St) (r : Bool × St) (h : keys_Of_j1101011111110010011001100 R x2040 i2041 st2042 = some r) :
    Leads 72 (execK C0 (callK C0 ext0 R.n (n + 2)) 56 R.n none (codeAt C0.P 56 [1, 1, 0, 1, 0, 1, 1, 1, 1, 1, 1, 1, 0, 0, 1, 0, 0, 1, 1, 0, 0, 1, 1, 0, 0])) (modsOf (codeAt C0.P 56 [1, 1, 0, 1, 0, 1, 1, 1, 1, 1, 1, 1, 0, 0, 1, 0, 0, 1, 1, 0, 0, 1, 1, 0, 0])) [(1, x2040), (4, (.int .i64 i2041))] st2042 .normal [(55, .bool r.1)] r.2 := by
  revert h
  unfold keys_Of_j1101011111110010011001100
  refine bindE fun x2044 h2043 => ?_
  refine bindE fun x2046 h2045 => ?_
  refine bindE fun n2048 h2047 => ?_
  refine iteE (fun h2049 => ?_) (fun h2049 => ?_)
  · intro h
    obtain rfl := Option.some.inj h
    exact runO_ok (hs := [.run 1, .val x2044, .val x2046, .val (.int .i64 (n2048 : Int)), .dec true]) (want := [55]) (by kernel_rfl) (.cons (decide_eq_true h2049) <| .cons (len_ok (P := C0.P) (t := 22) (e := 9) (by kernel_rfl) h2047) <| .cons h2045 <| .cons h2043 .nil)
  · intro h
    obtain rfl := Option.some.inj h
    exact runO_ok (hs := [.run 1, .val x2044, .val x2046, .val (.int .i64 (n2048 : Int)), .dec false]) (want := [55]) (by kernel_rfl) (.cons (decide_eq_false h2049) <| .cons (len_ok (P := C0.P) (t := 22) (e := 9) (by kernel_rfl) h2047) <| .cons h2045 <| .cons h2043 .nil)

noncomputable def keys_Of_c1101011111110010011001101 (R : Rc56) (x2078 : AV) (s2079 : List UInt8) (i2080 : Int) (d2081 : Nat) (x2082 : AV) (i2083 : Int) (i2084 : Int) (b2085 : Bool) (st2086 : St) : Option (List UInt8 × St) :=
  if b2085 = true then
   Option.bind (shift x2078 5) fun x2089 =>
   Option.bind (loadAt C0.P st2086 22 x2089) fun x2091 =>
   Option.bind (indexAddrOp C0.P 22 x2091 (.int .i64 i2080)) fun x2093 =>
   Option.bind (loadAt C0.P st2086 9 x2093) fun x2095 =>
   Option.bind (avStr x2095) fun s2096 =>
   Option.bind (keys_text R.n s2096 st2086) fun (s2098, st2100) =>
   Option.bind (catS s2079 s2098) fun s2102 =>
   some (s2102, st2100)
  else
   some (s2079, st2086)
theorem keys_Of_c1101011111110010011001101_ok (R : Rc56) (n : Nat) (hR : R.ok n) (x2078 : AV) (s2079 : List UInt8) (i2080 : Int) (d2081 : Nat) (x2082 : AV) (i2083 : Int) (i2084 : Int) (b2085 : Bool) (st2086 : St) (r : List UInt8 × St) (h : keys_Of_c1101011111110010011001101 R x2078 s2079 i2080 d2081 x2082 i2083 i2084 b2085 st2086 = some r) :
    Leads 72 (execK C0 (callK C0 ext0 R.n (n + 2)) 56 R.n none (codeAt C0.P 56 [1, 1, 0, 1, 0, 1, 1, 1, 1, 1, 1, 1, 0, 0, 1, 0, 0, 1, 1, 0, 0, 1, 1, 0, 1])) (modsOf (codeAt C0.P 56 [1, 1, 0, 1, 0, 1, 1, 1, 1, 1, 1, 1, 0, 0, 1, 0, 0, 1, 1, 0, 0, 1, 1, 0, 1])) [(1, x2078), (3, (.str s2079)), (4, (.int .i64 i2080)), (5, (.ref d2081 0)), (42, x2082), (43, (.int .i64 i2083)), (44, (.int .i64 i2084)), (55, (.bool b2085))] st2086 .normal [(3, .str r.1)] r.2 := by
  revert h
  unfold keys_Of_c1101011111110010011001101
  refine iteE (fun h2087 => ?_) (fun h2087 => ?_)
  · subst h2087
    refine bindE fun x2089 h2088 => ?_
    refine bindE fun x2091 h2090 => ?_
    refine bindE fun x2093 h2092 => ?_
    refine bindE fun x2095 h2094 => ?_
    refine bindE fun s2096 h2097 => ?_
    obtain rfl := avStr_ok h2097
    refine bindE fun o h2099 => ?_
    obtain ⟨s2098, st2100⟩ := o
    refine bindE fun s2102 h2101 => ?_
    intro h
    obtain rfl := Option.some.inj h
    exact runO_ok (hs := [.into, .run 1, .val x2089, .val x2091, .run 1, .val x2093, .val (.str s2096), .call (.str s2098) st2100, .val (.str s2102), .run 1]) (want := [3]) (by kernel_rfl) (.cons (cat_ok h2101) <| .cons (keys_text_ok R.n n s2096 st2086 _ h2099) <| .cons h2094 <| .cons h2092 <| .cons h2090 <| .cons h2088 .nil)
  · obtain rfl := bF h2087
    intro h
    obtain rfl := Option.some.inj h
    exact runO_ok (hs := [.into]) (want := [3]) (by kernel_rfl) .nil

noncomputable def keys_Of_c11010111111100100110 (R : Rc56) (x2120 : AV) (s2121 : List UInt8) (x2122 : AV) (i2123 : Int) (i2124 : Int) (st2125 : St) : Option (List UInt8 × St) :=
  Option.bind (indexAddrOp C0.P 23 x2122 (.int .i64 i2124)) fun x2127 =>
  Option.bind (loadAt C0.P st2125 25 x2127) fun x2129 =>
  Option.bind (de_Ai64_b_i64_s_a_aZ x2129) fun (i2130, b2131, i2132, s2133, x2134, x2135) =>
  Option.bind (storeAt C0.P (St.push st2125 (.cells 25 true [(.int .i64 0), (.bool false), (.int .i64 0), (.str []), AV.snil, AV.snil])) 25 (.ref (St.next st2125) 0) (.agg [(.int .i64 i2130), (.bool b2131), (.int .i64 i2132), (.str s2133), x2134, x2135])) fun st2138 =>
  Option.bind (catS s2121 [1]) fun s2140 =>
  Option.bind (keys_Of_j1101011111110010011001100 R x2120 i2124 st2138) fun (b2142, st2143) =>
  Option.bind (keys_Of_c1101011111110010011001101 R x2120 s2140 i2124 (St.next st2125) x2122 i2123 i2124 b2142 st2143) fun (s2145, st2146) =>
  Option.bind (loadAt C0.P st2146 25 (.ref (St.next st2125) 0)) fun x2148 =>
  Option.bind (de_Ai64_b_i64_s_a_aZ x2148) fun (i2149, b2150, i2151, s2152, x2153, x2154) =>
  Option.bind (R.f56 i2149 b2150 i2151 s2152 x2153 x2154 st2146) fun (s2156, st2158) =>
  Option.bind (catS s2145 s2156) fun s2160 =>
  some (s2160, st2158)
theorem keys_Of_c11010111111100100110_ok (R : Rc56) (n : Nat) (hR : R.ok n) (x2120 : AV) (s2121 : List UInt8) (x2122 : AV) (i2123 : Int) (i2124 : Int) (st2125 : St) (r : List UInt8 × St) (h : keys_Of_c11010111111100100110 R x2120 s2121 x2122 i2123 i2124 st2125 = some r) :
    Leads 72 (execK C0 (callK C0 ext0 R.n (n + 2)) 56 R.n none (codeAt C0.P 56 [1, 1, 0, 1, 0, 1, 1, 1, 1, 1, 1, 1, 0, 0, 1, 0, 0, 1, 1, 0])) (modsOf (codeAt C0.P 56 [1, 1, 0, 1, 0, 1, 1, 1, 1, 1, 1, 1, 0, 0, 1, 0, 0, 1, 1, 0])) [(1, x2120), (3, (.str s2121)), (42, x2122), (43, (.int .i64 i2123)), (44, (.int .i64 i2124))] st2125 .normal [(3, .str r.1)] r.2 := by
  revert h
  unfold keys_Of_c11010111111100100110
  refine bindE fun x2127 h2126 => ?_
  refine bindE fun x2129 h2128 => ?_
  refine bindE fun o h2136 => ?_
  obtain ⟨i2130, b2131, i2132, s2133, x2134, x2135⟩ := o
  obtain rfl := de_Ai64_b_i64_s_a_aZ_ok h2136
  refine bindE fun st2138 h2137 => ?_
  refine bindE fun s2140 h2139 => ?_
  refine bindE fun o h2141 => ?_
  obtain ⟨b2142, st2143⟩ := o
  refine bindE fun o h2144 => ?_
  obtain ⟨s2145, st2146⟩ := o
  refine bindE fun x2148 h2147 => ?_
  refine bindE fun o h2155 => ?_
  obtain ⟨i2149, b2150, i2151, s2152, x2153, x2154⟩ := o
  obtain rfl := de_Ai64_b_i64_s_a_aZ_ok h2155
  refine bindE fun o h2157 => ?_
  obtain ⟨s2156, st2158⟩ := o
  refine bindE fun s2160 h2159 => ?_
  intro h
  obtain rfl := Option.some.inj h
  exact runO_ok (hs := [.into, .run 1, .val x2127, .val (.agg [(.int .i64 i2130), (.bool b2131), (.int .i64 i2132), (.str s2133), x2134, x2135]), .run 2, .eff AV.undef st2138, .run 1, .val (.str s2140), .run 1, .absG [1, 4] .normal [(55, (.bool b2142))] st2143, .absC [1, 3, 4, 5, 42, 43, 44, 55] .normal [(3, (.str s2145))] st2146, .run 1, .val (.agg [(.int .i64 i2149), (.bool b2150), (.int .i64 i2151), (.str s2152), x2153, x2154]), .call (.str s2156) st2158, .val (.str s2160), .run 1]) (want := [3]) (by kernel_rfl) (.cons (cat_ok h2159) <| .cons (hR.h56 (n + 2) (by omega) i2149 b2150 i2151 s2152 x2153 x2154 st2146 _ h2157) <| .cons h2147 <| .cons (keys_Of_c1101011111110010011001101_ok R n hR x2120 s2140 i2124 (St.next st2125) x2122 i2123 i2124 b2142 st2143 _ h2144) <| .cons (keys_Of_j1101011111110010011001100_ok R n hR x2120 i2124 st2138 _ h2141) <| .cons (cat_ok h2139) <| .cons (sto_ok h2137) <| .cons h2128 <| .cons h2126 .nil)

noncomputable def keys_Of_l1101011111110010 (R : Rc56) (x2164 : AV) (x2165 : AV) (i2166 : Int) : Nat → List UInt8 → Int → St → Option ((List UInt8 × St))
  | 0, _, _, _ => none
  | r + 1, s2167, i2168, st2169 =>
    if (i2168 < i2166) then
     Option.bind (keys_Of_c11010111111100100110 R x2164 s2167 x2165 i2166 i2168 st2169) fun (s2172, st2173) =>
     keys_Of_l1101011111110010 R x2164 x2165 i2166 r s2172 (IntKind.wrap .i64 (i2168 + 1)) st2173
    else
     some (s2167, st2169)
noncomputable def keys_Of_l1101011111110010_x (o : (List UInt8 × St)) : AExit × List (Nat × AV) × St := match o with
  | (a0, a1) => ((.exit 1), [(3, .str a0)], a1)
theorem keys_Of_l1101011111110010_ok (R : Rc56) (n : Nat) (hR : R.ok n) (x2164 : AV) (x2165 : AV) (i2166 : Int) : ∀ (r : Nat) (s2167 : List UInt8) (i2168 : Int) (st2169 : St) (o : (List UInt8 × St)), keys_Of_l1101011111110010 R x2164 x2165 i2166 r s2167 i2168 st2169 = some o →
    Leads 72 (loopK (fun fr k => execK C0 (callK C0 ext0 R.n (n + 2)) 56 R.n none (codeAt C0.P 56 [1, 1, 0, 1, 0, 1, 1, 1, 1, 1, 1, 1, 0, 0, 1, 0, 0]) fr k) r) (modsOf (codeAt C0.P 56 [1, 1, 0, 1, 0, 1, 1, 1, 1, 1, 1, 1, 0, 0, 1, 0, 0])) [(1, x2164), (42, x2165), (43, (.int .i64 i2166)), (3, (.str s2167)), (44, (.int .i64 i2168))] st2169 (keys_Of_l1101011111110010_x o).1 (keys_Of_l1101011111110010_x o).2.1 (keys_Of_l1101011111110010_x o).2.2 := by
  intro r
  induction r with
  | zero => intro s2167 i2168 st2169 o h; exact nomatch h
  | succ r ih =>
    intro s2167 i2168 st2169 o
    unfold keys_Of_l1101011111110010
    refine iteE (fun h2170 => ?_) (fun h2170 => ?_)
    · refine bindE fun o h2171 => ?_
      obtain ⟨s2172, st2173⟩ := o
      intro h
      exact loop_more (runO_ok (hs := [.dec true, .into, .absB [1, 3, 42, 43, 44] .normal [(3, (.str s2172))] st2173, .run 2]) (want := [1, 42, 43, 3, 44]) (by kernel_rfl) (.cons (keys_Of_c11010111111100100110_ok R n hR x2164 s2167 x2165 i2166 i2168 st2169 _ h2171) <| .cons (decide_eq_true h2170) .nil)) (ih s2172 (IntKind.wrap .i64 (i2168 + 1)) st2173 _ h)
    · intro h
      obtain rfl := Option.some.inj h
      exact loop_done (runO_ok (hs := [.dec false, .into]) (want := [3]) (by kernel_rfl) (.cons (decide_eq_false h2170) .nil)) (by kernel_rfl)

noncomputable def keys_Of_c110101111111001 (R : Rc56) (x2177 : AV) (s2178 : List UInt8) (x2179 : AV) (i2180 : Int) (st2181 : St) : Option (List UInt8 × St) :=
  Option.bind (keys_Of_l1101011111110010 R x2177 x2179 i2180 R.n s2178 0 st2181) fun (s2183, st2184) =>
  some (s2183, st2184)
theorem keys_Of_c110101111111001_ok (R : Rc56) (n : Nat) (hR : R.ok n) (x2177 : AV) (s2178 : List UInt8) (x2179 : AV) (i2180 : Int) (st2181 : St) (r : List UInt8 × St) (h : keys_Of_c110101111111001 R x2177 s2178 x2179 i2180 st2181 = some r) :
    Leads 72 (execK C0 (callK C0 ext0 R.n (n + 2)) 56 R.n none (codeAt C0.P 56 [1, 1, 0, 1, 0, 1, 1, 1, 1, 1, 1, 1, 0, 0, 1])) (modsOf (codeAt C0.P 56 [1, 1, 0, 1, 0, 1, 1, 1, 1, 1, 1, 1, 0, 0, 1])) [(1, x2177), (3, (.str s2178)), (42, x2179), (43, (.int .i64 i2180)), (44, (.int .i64 0))] st2181 .normal [(3, .str r.1)] r.2 := by
  revert h
  unfold keys_Of_c110101111111001
  refine bindE fun o h2182 => ?_
  obtain ⟨s2183, st2184⟩ := o
  intro h
  obtain rfl := Option.some.inj h
  exact runO_ok (hs := [.into, .abs [1, 42, 43, 3, 44] (.exit 1) [(3, (.str s2183))] st2184]) (want := [3]) (by kernel_rfl) (.cons (loop_leads (keys_Of_l1101011111110010_ok R n hR x2177 x2179 i2180 R.n s2178 0 st2181 _ h2182)) .nil)

/- parchment/keys.Of -/
def keys_Of_n : Nat := 56
noncomputable def keys_Of (R : Rc56) (i1881 : Int) (b1882 : Bool) (i1883 : Int) (s1884 : List UInt8) (x1885 : AV) (x1886 : AV) (st1887 : St) : Option (List UInt8 × St) :=
  Option.bind (boxOp 25 (.agg [(.int .i64 i1881), (.bool b1882), (.int .i64 i1883), (.str s1884), x1885, x1886]) st1887) fun (x1890, st1889) =>
  Option.bind (shift x1890 0) fun x1892 =>
  Option.bind (loadAt C0.P st1889 3 x1892) fun x1894 =>
  Option.bind (avInt .i64 x1894) fun i1895 =>
  Option.bind (mkNew (buildSliceOp C0.P (C0.byref 56) 90 1 [(0, (.int .u8 (IntKind.wrap .u8 i1895)))]) st1889) fun (x1899, st1898) =>
  Option.bind (strOf st1898 x1899) fun s1901 =>
  Option.bind (loadAt C0.P st1898 3 x1892) fun x1903 =>
  Option.bind (avInt .i64 x1903) fun i1904 =>
  if (i1904 = 1) then
   Option.bind (shift x1890 1) fun x1908 =>
   Option.bind (loadAt C0.P st1898 4 x1908) fun x1910 =>
   Option.bind (avBool x1910) fun b1911 =>
   if b1911 = true then
    Option.bind (catS s1901 [1]) fun s1915 =>
    some (s1915, st1898)
   else
    Option.bind (catS s1901 [0]) fun s1917 =>
    some (s1917, st1898)
  else
   if (i1904 = 2) then
    Option.bind (shift x1890 2) fun x1920 =>
    Option.bind (loadAt C0.P st1898 2 x1920) fun x1922 =>
    Option.bind (avInt .i64 x1922) fun i1923 =>
    Option.bind (keys_Number R.n (xorI .u64 (IntKind.wrap .u64 i1923) 9223372036854775808) st1898) fun (s1925, st1927) =>
    Option.bind (catS s1901 s1925) fun s1929 =>
    some (s1929, st1927)
   else
    Option.bind (keys_Of_j11010111100 R i1904) fun b1937 =>
    Option.bind (keys_Of_c11010111101 R x1890 s1901 i1904 b1937) fun b1953 =>
    if b1953 = true then
     Option.bind (shift x1890 3) fun x1956 =>
     Option.bind (loadAt C0.P st1898 9 x1956) fun x1958 =>
     Option.bind (avStr x1958) fun s1959 =>
     Option.bind (keys_text R.n s1959 st1898) fun (s1961, st1963) =>
     Option.bind (catS s1901 s1961) fun s1965 =>
     some (s1965, st1963)
    else
     Option.bind (keys_Of_j1101011111100 R i1904) fun b1973 =>
     Option.bind (keys_Of_c1101011111101 R x1890 s1901 i1904 b1973) fun b1989 =>
     if b1989 = true then
      Option.bind (shift x1890 4) fun x1992 =>
      Option.bind (loadAt C0.P st1898 23 x1992) fun x1994 =>
      Option.bind (lenOf x1994) fun n1996 =>
      Option.bind (keys_Of_c110101111111001 R x1890 s1901 x1994 (n1996 : Int) st1898) fun (s2186, st2187) =>
      Option.bind (catS s2186 [0]) fun s2189 =>
      some (s2189, st2187)
     else
      some (s1901, st1898)
theorem keys_Of_ok (R : Rc56) (n : Nat) (hR : R.ok n) (i1881 : Int) (b1882 : Bool) (i1883 : Int) (s1884 : List UInt8) (x1885 : AV) (x1886 : AV) (st1887 : St) (r : List UInt8 × St) (h : keys_Of R i1881 b1882 i1883 s1884 x1885 x1886 st1887 = some r) :
    CallsTo (callK C0 ext0 R.n (n + 3)) false 56 [(.agg [(.int .i64 i1881), (.bool b1882), (.int .i64 i1883), (.str s1884), x1885, x1886])] st1887 (.str r.1) r.2 := by
  revert h
  unfold keys_Of
  refine bindE fun o h1888 => ?_
  obtain ⟨x1890, st1889⟩ := o
  refine bindE fun x1892 h1891 => ?_
  refine bindE fun x1894 h1893 => ?_
  refine bindE fun i1895 h1896 => ?_
  obtain rfl := avInt_ok h1896
  refine bindE fun o h1897 => ?_
  obtain ⟨x1899, st1898⟩ := o
  refine bindE fun s1901 h1900 => ?_
  refine bindE fun x1903 h1902 => ?_
  refine bindE fun i1904 h1905 => ?_
  obtain rfl := avInt_ok h1905
  refine iteE (fun h1906 => ?_) (fun h1906 => ?_)
  · refine bindE fun x1908 h1907 => ?_
    refine bindE fun x1910 h1909 => ?_
    refine bindE fun b1911 h1912 => ?_
    obtain rfl := avBool_ok h1912
    refine iteE (fun h1913 => ?_) (fun h1913 => ?_)
    · subst h1913
      refine bindE fun s1915 h1914 => ?_
      intro h
      obtain rfl := Option.some.inj h
      exact callO_ok (hs := [.eff x1890 st1889, .run 1, .val x1892, .val (.int .i64 i1895), .run 1, .eff x1899 st1898, .val (.str s1901), .run 1, .val x1892, .val (.int .i64 i1904), .into, .dec true, .run 1, .into, .val x1908, .val (.bool true), .into, .run 1, .val (.str s1915), .run 1]) (by kernel_rfl) (.cons (cat_ok h1914) <| .cons h1909 <| .cons h1907 <| .cons (beqT h1906) <| .cons h1902 <| .cons h1891 <| .cons (strOf_ok h1900) <| .cons h1897 <| .cons h1893 <| .cons h1891 <| .cons (box_ok h1888) .nil) (by kernel_rfl) (by kernel_rfl)
    · obtain rfl := bF h1913
      refine bindE fun s1917 h1916 => ?_
      intro h
      obtain rfl := Option.some.inj h
      exact callO_ok (hs := [.eff x1890 st1889, .run 1, .val x1892, .val (.int .i64 i1895), .run 1, .eff x1899 st1898, .val (.str s1901), .run 1, .val x1892, .val (.int .i64 i1904), .into, .dec true, .run 1, .into, .val x1908, .val (.bool false), .into, .run 1, .val (.str s1917), .run 1]) (by kernel_rfl) (.cons (cat_ok h1916) <| .cons h1909 <| .cons h1907 <| .cons (beqT h1906) <| .cons h1902 <| .cons h1891 <| .cons (strOf_ok h1900) <| .cons h1897 <| .cons h1893 <| .cons h1891 <| .cons (box_ok h1888) .nil) (by kernel_rfl) (by kernel_rfl)
  · refine iteE (fun h1918 => ?_) (fun h1918 => ?_)
    · refine bindE fun x1920 h1919 => ?_
      refine bindE fun x1922 h1921 => ?_
      refine bindE fun i1923 h1924 => ?_
      obtain rfl := avInt_ok h1924
      refine bindE fun o h1926 => ?_
      obtain ⟨s1925, st1927⟩ := o
      refine bindE fun s1929 h1928 => ?_
      intro h
      obtain rfl := Option.some.inj h
      exact callO_ok (hs := [.eff x1890 st1889, .run 1, .val x1892, .val (.int .i64 i1895), .run 1, .eff x1899 st1898, .val (.str s1901), .run 1, .val x1892, .val (.int .i64 i1904), .into, .dec false, .run 1, .into, .dec true, .run 1, .into, .run 1, .val x1920, .val (.int .i64 i1923), .run 2, .call (.str s1925) st1927, .val (.str s1929), .run 1]) (by kernel_rfl) (.cons (cat_ok h1928) <| .cons (keys_Number_ok R.n (n + 1) (xorI .u64 (IntKind.wrap .u64 i1923) 9223372036854775808) st1898 _ h1926) <| .cons h1921 <| .cons h1919 <| .cons (beqT h1918) <| .cons (beqF h1906) <| .cons h1902 <| .cons h1891 <| .cons (strOf_ok h1900) <| .cons h1897 <| .cons h1893 <| .cons h1891 <| .cons (box_ok h1888) .nil) (by kernel_rfl) (by kernel_rfl)
    · refine bindE fun b1937 h1936 => ?_
      refine bindE fun b1953 h1952 => ?_
      refine iteE (fun h1954 => ?_) (fun h1954 => ?_)
      · subst h1954
        refine bindE fun x1956 h1955 => ?_
        refine bindE fun x1958 h1957 => ?_
        refine bindE fun s1959 h1960 => ?_
        obtain rfl := avStr_ok h1960
        refine bindE fun o h1962 => ?_
        obtain ⟨s1961, st1963⟩ := o
        refine bindE fun s1965 h1964 => ?_
        intro h
        obtain rfl := Option.some.inj h
        exact callO_ok (hs := [.eff x1890 st1889, .run 1, .val x1892, .val (.int .i64 i1895), .run 1, .eff x1899 st1898, .val (.str s1901), .run 1, .val x1892, .val (.int .i64 i1904), .into, .dec false, .run 1, .into, .dec false, .run 1, .into, .absG [12] .normal [(30, (.bool b1937))] st1898, .absC [1, 3, 12, 30] .normal [(30, (.bool true))] st1898, .into, .run 1, .val x1956, .val (.str s1959), .call (.str s1961) st1963, .val (.str s1965), .run 1]) (by kernel_rfl) (.cons (cat_ok h1964) <| .cons (keys_text_ok R.n n s1959 st1898 _ h1962) <| .cons h1957 <| .cons h1955 <| .cons (keys_Of_c11010111101_ok R n hR x1890 s1901 i1904 b1937 st1898 _ h1952) <| .cons (keys_Of_j11010111100_ok R n hR i1904 st1898 _ h1936) <| .cons (beqF h1918) <| .cons (beqF h1906) <| .cons h1902 <| .cons h1891 <| .cons (strOf_ok h1900) <| .cons h1897 <| .cons h1893 <| .cons h1891 <| .cons (box_ok h1888) .nil) (by kernel_rfl) (by kernel_rfl)
      · obtain rfl := bF h1954
        refine bindE fun b1973 h1972 => ?_
        refine bindE fun b1989 h1988 => ?_
        refine iteE (fun h1990 => ?_) (fun h1990 => ?_)
        · subst h1990
          refine bindE fun x1992 h1991 => ?_
          refine bindE fun x1994 h1993 => ?_
          refine bindE fun n1996 h1995 => ?_
          refine bindE fun o h2185 => ?_
          obtain ⟨s2186, st2187⟩ := o
          refine bindE fun s2189 h2188 => ?_
          intro h
          obtain rfl := Option.some.inj h
          exact callO_ok (hs := [.eff x1890 st1889, .run 1, .val x1892, .val (.int .i64 i1895), .run 1, .eff x1899 st1898, .val (.str s1901), .run 1, .val x1892, .val (.int .i64 i1904), .into, .dec false, .run 1, .into, .dec false, .run 1, .into, .absG [12] .normal [(30, (.bool b1937))] st1898, .absC [1, 3, 12, 30] .normal [(30, (.bool false))] st1898, .into, .absG [12] .normal [(38, (.bool b1973))] st1898, .absC [1, 3, 12, 38] .normal [(38, (.bool true))] st1898, .into, .val x1992, .val x1994, .val (.int .i64 (n1996 : Int)), .run 1, .absB [1, 3, 42, 43, 44] .normal [(3, (.str s2186))] st2187, .run 1, .val (.str s2189), .run 1]) (by kernel_rfl) (.cons (cat_ok h2188) <| .cons (keys_Of_c110101111111001_ok R n hR x1890 s1901 x1994 (n1996 : Int) st1898 _ h2185) <| .cons (len_ok (P := C0.P) (t := 23) (e := 25) (by kernel_rfl) h1995) <| .cons h1993 <| .cons h1991 <| .cons (keys_Of_c1101011111101_ok R n hR x1890 s1901 i1904 b1973 st1898 _ h1988) <| .cons (keys_Of_j1101011111100_ok R n hR i1904 st1898 _ h1972) <| .cons (keys_Of_c11010111101_ok R n hR x1890 s1901 i1904 b1937 st1898 _ h1952) <| .cons (keys_Of_j11010111100_ok R n hR i1904 st1898 _ h1936) <| .cons (beqF h1918) <| .cons (beqF h1906) <| .cons h1902 <| .cons h1891 <| .cons (strOf_ok h1900) <| .cons h1897 <| .cons h1893 <| .cons h1891 <| .cons (box_ok h1888) .nil) (by kernel_rfl) (by kernel_rfl)
        · obtain rfl := bF h1990
          intro h
          obtain rfl := Option.some.inj h
          exact callO_ok (hs := [.eff x1890 st1889, .run 1, .val x1892, .val (.int .i64 i1895), .run 1, .eff x1899 st1898, .val (.str s1901), .run 1, .val x1892, .val (.int .i64 i1904), .into, .dec false, .run 1, .into, .dec false, .run 1, .into, .absG [12] .normal [(30, (.bool b1937))] st1898, .absC [1, 3, 12, 30] .normal [(30, (.bool false))] st1898, .into, .absG [12] .normal [(38, (.bool b1973))] st1898, .absC [1, 3, 12, 38] .normal [(38, (.bool false))] st1898, .into, .run 2]) (by kernel_rfl) (.cons (keys_Of_c1101011111101_ok R n hR x1890 s1901 i1904 b1973 st1898 _ h1988) <| .cons (keys_Of_j1101011111100_ok R n hR i1904 st1898 _ h1972) <| .cons (keys_Of_c11010111101_ok R n hR x1890 s1901 i1904 b1937 st1898 _ h1952) <| .cons (keys_Of_j11010111100_ok R n hR i1904 st1898 _ h1936) <| .cons (beqF h1918) <| .cons (beqF h1906) <| .cons h1902 <| .cons h1891 <| .cons (strOf_ok h1900) <| .cons h1897 <| .cons h1893 <| .cons h1891 <| .cons (box_ok h1888) .nil) (by kernel_rfl) (by kernel_rfl)

noncomputable def rc56 (R : Nat) : Nat → Rc56
  | 0 => ⟨R, (fun _ _ _ _ _ _ _ => none)⟩
  | k + 1 => ⟨R, (fun a0 a1 a2 a3 a4 a5 st => keys_Of (rc56 R k) a0 a1 a2 a3 a4 a5 st)⟩
theorem rc56_n (R : Nat) : ∀ k, (rc56 R k).n = R
  | 0 => rfl
  | _ + 1 => rfl
theorem rc56_ok (R : Nat) : ∀ k n, 3 * k ≤ n → (rc56 R k).ok n
  | 0, n, _ => (fun _ _ _ _ _ _ _ _ _ _ h => nomatch h)
  | k + 1, n, hn => 
    fun m hm a0 a1 a2 a3 a4 a5 st r h => by
      obtain ⟨j, rfl⟩ : ∃ j, m = j + 3 := ⟨m - 3, by omega⟩
      have := keys_Of_ok (rc56 R k) j (rc56_ok R k j (by omega)) a0 a1 a2 a3 a4 a5 st r h
      rw [rc56_n] at this
      exact this
noncomputable def keys_Of_top (R : Nat) (a0 : Int) (a1 : Bool) (a2 : Int) (a3 : List UInt8) (a4 : AV) (a5 : AV) (st : St) : Option (List UInt8 × St) := keys_Of (rc56 R 4000) a0 a1 a2 a3 a4 a5 st
theorem keys_Of_top_ok (R n : Nat) (a0 : Int) (a1 : Bool) (a2 : Int) (a3 : List UInt8) (a4 : AV) (a5 : AV) (st : St) (r : List UInt8 × St) (h : keys_Of_top R a0 a1 a2 a3 a4 a5 st = some r) : CallsTo (callK C0 ext0 R (n + 12003)) false 56 [(.agg [.int .i64 a0, .bool a1, .int .i64 a2, .str a3, a4, a5])] st (.str r.1) r.2 := by
  have := keys_Of_ok (rc56 R 4000) (n + 12000) (rc56_ok R 4000 _ (by omega)) a0 a1 a2 a3 a4 a5 st r h
  rw [rc56_n] at this
  exact this

/- parchment/keys.Equal -/
def keys_Equal_n : Nat := 57
noncomputable def keys_Equal (R : Nat) (i2196 : Int) (b2197 : Bool) (i2198 : Int) (s2199 : List UInt8) (x2200 : AV) (x2201 : AV) (st2202 : St) : Option (List UInt8 × List UInt8 × St) :=
  Option.bind (boxOp 25 (.agg [(.int .i64 i2196), (.bool b2197), (.int .i64 i2198), (.str s2199), x2200, x2201]) st2202) fun (x2205, st2204) =>
  Option.bind (loadAt C0.P (St.push st2204 (.cells 33 true [(.str []), (.str [])])) 25 x2205) fun x2207 =>
  Option.bind (de_Ai64_b_i64_s_a_aZ x2207) fun (i2208, b2209, i2210, s2211, x2212, x2213) =>
  Option.bind (keys_Of_top R i2208 b2209 i2210 s2211 x2212 x2213 (St.push st2204 (.cells 33 true [(.str []), (.str [])]))) fun (s2215, st2217) =>
  Option.bind (loadAt C0.P st2217 25 x2205) fun x2218 =>
  if AV.beq x2218 (.agg [(.int .i64 i2208), (.bool b2209), (.int .i64 i2210), (.str s2211), x2212, x2213]) = true then
   Option.bind (keys_Of_top R i2208 b2209 i2210 s2211 x2212 x2213 st2217) fun (s2221, st2223) =>
   Option.bind (keys_Next R s2221 st2223) fun (s2224, st2226) =>
   Option.bind (storeAt C0.P st2226 33 (.ref (St.next st2204) 0) (.agg [(.str s2215), (.str s2224)])) fun st2228 =>
   Option.bind (loadAt C0.P st2228 33 (.ref (St.next st2204) 0)) fun x2230 =>
   Option.bind (de_As_sZ x2230) fun (s2231, s2232) =>
   some (s2231, s2232, st2228)
  else
   none
theorem keys_Equal_ok (R n : Nat) (i2196 : Int) (b2197 : Bool) (i2198 : Int) (s2199 : List UInt8) (x2200 : AV) (x2201 : AV) (st2202 : St) (r : List UInt8 × List UInt8 × St) (h : keys_Equal R i2196 b2197 i2198 s2199 x2200 x2201 st2202 = some r) :
    CallsTo (callK C0 ext0 R (n + 12004)) false 57 [(.agg [(.int .i64 i2196), (.bool b2197), (.int .i64 i2198), (.str s2199), x2200, x2201])] st2202 (.agg [.str r.1, .str r.2.1]) r.2.2 := by
  revert h
  unfold keys_Equal
  refine bindE fun o h2203 => ?_
  obtain ⟨x2205, st2204⟩ := o
  refine bindE fun x2207 h2206 => ?_
  refine bindE fun o h2214 => ?_
  obtain ⟨i2208, b2209, i2210, s2211, x2212, x2213⟩ := o
  obtain rfl := de_Ai64_b_i64_s_a_aZ_ok h2214
  refine bindE fun o h2216 => ?_
  obtain ⟨s2215, st2217⟩ := o
  refine bindE fun x2218 h2219 => ?_
  refine iteE (fun h2220 => ?_) (fun h2220 => ?_)
  · refine bindE fun o h2222 => ?_
    obtain ⟨s2221, st2223⟩ := o
    refine bindE fun o h2225 => ?_
    obtain ⟨s2224, st2226⟩ := o
    refine bindE fun st2228 h2227 => ?_
    refine bindE fun x2230 h2229 => ?_
    refine bindE fun o h2233 => ?_
    obtain ⟨s2231, s2232⟩ := o
    obtain rfl := de_As_sZ_ok h2233
    intro h
    obtain rfl := Option.some.inj h
    exact callO_ok (hs := [.eff x2205 st2204, .run 1, .val (.agg [(.int .i64 i2208), (.bool b2209), (.int .i64 i2210), (.str s2211), x2212, x2213]), .val (.agg [(.int .i64 i2208), (.bool b2209), (.int .i64 i2210), (.str s2211), x2212, x2213]), .call (.str s2215) st2217, .call (.str s2221) st2223, .call (.str s2224) st2226, .run 1, .eff AV.undef st2228, .val (.agg [(.str s2231), (.str s2232)])]) (by kernel_rfl) (.cons h2229 <| .cons (sto_ok h2227) <| .cons (keys_Next_ok R (n + 12002) s2221 st2223 _ h2225) <| .cons (keys_Of_top_ok R n i2208 b2209 i2210 s2211 x2212 x2213 st2217 _ h2222) <| .cons (ask_ok h2219 h2220) <| .cons (keys_Of_top_ok R n i2208 b2209 i2210 s2211 x2212 x2213 (St.push st2204 (.cells 33 true [(.str []), (.str [])])) _ h2216) <| .cons h2206 <| .cons h2206 <| .cons (box_ok h2203) .nil) (by kernel_rfl) (by kernel_rfl)
  · exact fun h => nomatch h

/- parchment/plan.Span -/
def plan_Span_n : Nat := 27
noncomputable def plan_Span (R : Nat) (s2241 : List UInt8) (i2242 : Int) (b2243 : Bool) (i2244 : Int) (s2245 : List UInt8) (x2246 : AV) (x2247 : AV) (st2248 : St) : Option (List UInt8 × List UInt8 × Bool × St) :=
  Option.bind (boxOp 25 (.agg [(.int .i64 i2242), (.bool b2243), (.int .i64 i2244), (.str s2245), x2246, x2247]) st2248) fun (x2251, st2250) =>
  Option.bind (loadAt C0.P (St.push st2250 (.cells 33 true [(.str []), (.str [])])) 25 x2251) fun x2253 =>
  Option.bind (de_Ai64_b_i64_s_a_aZ x2253) fun (i2254, b2255, i2256, s2257, x2258, x2259) =>
  Option.bind (keys_Of_top R i2254 b2255 i2256 s2257 x2258 x2259 (St.push st2250 (.cells 33 true [(.str []), (.str [])]))) fun (s2261, st2263) =>
  if (s2241 = [61]) then
   Option.bind (loadAt C0.P st2263 25 x2251) fun x2266 =>
   Option.bind (de_Ai64_b_i64_s_a_aZ x2266) fun (i2267, b2268, i2269, s2270, x2271, x2272) =>
   Option.bind (keys_Equal R i2267 b2268 i2269 s2270 x2271 x2272 st2263) fun (s2274, s2275, st2277) =>
   Option.bind (storeAt C0.P st2277 33 (.ref (St.next st2250) 0) (.agg [(.str s2274), (.str s2275)])) fun st2279 =>
   Option.bind (loadAt C0.P st2279 33 (.ref (St.next st2250) 0)) fun x2281 =>
   Option.bind (de_As_sZ x2281) fun (s2282, s2283) =>
   some (s2282, s2283, true, st2279)
  else
   if (s2241 = [60]) then
    Option.bind (storeAt C0.P st2263 33 (.ref (St.next st2250) 0) (.agg [(.str []), (.str s2261)])) fun st2287 =>
    Option.bind (loadAt C0.P st2287 33 (.ref (St.next st2250) 0)) fun x2289 =>
    Option.bind (de_As_sZ x2289) fun (s2290, s2291) =>
    some (s2290, s2291, true, st2287)
   else
    if (s2241 = [60, 61]) then
     Option.bind (keys_Next R s2261 st2263) fun (s2294, st2296) =>
     Option.bind (storeAt C0.P st2296 33 (.ref (St.next st2250) 0) (.agg [(.str []), (.str s2294)])) fun st2298 =>
     Option.bind (loadAt C0.P st2298 33 (.ref (St.next st2250) 0)) fun x2300 =>
     Option.bind (de_As_sZ x2300) fun (s2301, s2302) =>
     some (s2301, s2302, true, st2298)
    else
     if (s2241 = [62]) then
      Option.bind (keys_Next R s2261 st2263) fun (s2305, st2307) =>
      Option.bind (storeAt C0.P st2307 33 (.ref (St.next st2250) 0) (.agg [(.str s2305), (.str [])])) fun st2309 =>
      Option.bind (loadAt C0.P st2309 33 (.ref (St.next st2250) 0)) fun x2311 =>
      Option.bind (de_As_sZ x2311) fun (s2312, s2313) =>
      some (s2312, s2313, true, st2309)
     else
      if (s2241 = [62, 61]) then
       Option.bind (storeAt C0.P st2263 33 (.ref (St.next st2250) 0) (.agg [(.str s2261), (.str [])])) fun st2317 =>
       Option.bind (loadAt C0.P st2317 33 (.ref (St.next st2250) 0)) fun x2319 =>
       Option.bind (de_As_sZ x2319) fun (s2320, s2321) =>
       some (s2320, s2321, true, st2317)
      else
       Option.bind (storeAt C0.P st2263 33 (.ref (St.next st2250) 0) (.agg [(.str []), (.str [])])) fun st2324 =>
       Option.bind (loadAt C0.P st2324 33 (.ref (St.next st2250) 0)) fun x2326 =>
       Option.bind (de_As_sZ x2326) fun (s2327, s2328) =>
       some (s2327, s2328, false, st2324)
theorem plan_Span_ok (R n : Nat) (s2241 : List UInt8) (i2242 : Int) (b2243 : Bool) (i2244 : Int) (s2245 : List UInt8) (x2246 : AV) (x2247 : AV) (st2248 : St) (r : List UInt8 × List UInt8 × Bool × St) (h : plan_Span R s2241 i2242 b2243 i2244 s2245 x2246 x2247 st2248 = some r) :
    CallsTo (callK C0 ext0 R (n + 12005)) false 27 [(.str s2241), (.agg [(.int .i64 i2242), (.bool b2243), (.int .i64 i2244), (.str s2245), x2246, x2247])] st2248 (.tuple [(.agg [.str r.1, .str r.2.1]), (.bool r.2.2.1)]) r.2.2.2 := by
  revert h
  unfold plan_Span
  refine bindE fun o h2249 => ?_
  obtain ⟨x2251, st2250⟩ := o
  refine bindE fun x2253 h2252 => ?_
  refine bindE fun o h2260 => ?_
  obtain ⟨i2254, b2255, i2256, s2257, x2258, x2259⟩ := o
  obtain rfl := de_Ai64_b_i64_s_a_aZ_ok h2260
  refine bindE fun o h2262 => ?_
  obtain ⟨s2261, st2263⟩ := o
  refine iteE (fun h2264 => ?_) (fun h2264 => ?_)
  · refine bindE fun x2266 h2265 => ?_
    refine bindE fun o h2273 => ?_
    obtain ⟨i2267, b2268, i2269, s2270, x2271, x2272⟩ := o
    obtain rfl := de_Ai64_b_i64_s_a_aZ_ok h2273
    refine bindE fun o h2276 => ?_
    obtain ⟨s2274, s2275, st2277⟩ := o
    refine bindE fun st2279 h2278 => ?_
    refine bindE fun x2281 h2280 => ?_
    refine bindE fun o h2284 => ?_
    obtain ⟨s2282, s2283⟩ := o
    obtain rfl := de_As_sZ_ok h2284
    intro h
    obtain rfl := Option.some.inj h
    exact callO_ok (hs := [.eff x2251 st2250, .run 2, .val (.agg [(.int .i64 i2254), (.bool b2255), (.int .i64 i2256), (.str s2257), x2258, x2259]), .call (.str s2261) st2263, .run 2, .into, .dec true, .run 1, .into, .val (.agg [(.int .i64 i2267), (.bool b2268), (.int .i64 i2269), (.str s2270), x2271, x2272]), .call (.agg [(.str s2274), (.str s2275)]) st2277, .eff AV.undef st2279, .run 1, .val (.agg [(.str s2282), (.str s2283)])]) (by kernel_rfl) (.cons h2280 <| .cons (sto_ok h2278) <| .cons (keys_Equal_ok R n i2267 b2268 i2269 s2270 x2271 x2272 st2263 _ h2276) <| .cons h2265 <| .cons (strEqT h2264) <| .cons (keys_Of_top_ok R (n + 1) i2254 b2255 i2256 s2257 x2258 x2259 (St.push st2250 (.cells 33 true [(.str []), (.str [])])) _ h2262) <| .cons h2252 <| .cons (box_ok h2249) .nil) (by kernel_rfl) (by kernel_rfl)
  · refine iteE (fun h2285 => ?_) (fun h2285 => ?_)
    · refine bindE fun st2287 h2286 => ?_
      refine bindE fun x2289 h2288 => ?_
      refine bindE fun o h2292 => ?_
      obtain ⟨s2290, s2291⟩ := o
      obtain rfl := de_As_sZ_ok h2292
      intro h
      obtain rfl := Option.some.inj h
      exact callO_ok (hs := [.eff x2251 st2250, .run 2, .val (.agg [(.int .i64 i2254), (.bool b2255), (.int .i64 i2256), (.str s2257), x2258, x2259]), .call (.str s2261) st2263, .run 2, .into, .dec false, .run 1, .into, .dec true, .run 1, .into, .run 2, .eff AV.undef st2287, .run 1, .val (.agg [(.str s2290), (.str s2291)])]) (by kernel_rfl) (.cons h2288 <| .cons (sto_ok h2286) <| .cons (strEqT h2285) <| .cons (strEqF h2264) <| .cons (keys_Of_top_ok R (n + 1) i2254 b2255 i2256 s2257 x2258 x2259 (St.push st2250 (.cells 33 true [(.str []), (.str [])])) _ h2262) <| .cons h2252 <| .cons (box_ok h2249) .nil) (by kernel_rfl) (by kernel_rfl)
    · refine iteE (fun h2293 => ?_) (fun h2293 => ?_)
      · refine bindE fun o h2295 => ?_
        obtain ⟨s2294, st2296⟩ := o
        refine bindE fun st2298 h2297 => ?_
        refine bindE fun x2300 h2299 => ?_
        refine bindE fun o h2303 => ?_
        obtain ⟨s2301, s2302⟩ := o
        obtain rfl := de_As_sZ_ok h2303
        intro h
        obtain rfl := Option.some.inj h
        exact callO_ok (hs := [.eff x2251 st2250, .run 2, .val (.agg [(.int .i64 i2254), (.bool b2255), (.int .i64 i2256), (.str s2257), x2258, x2259]), .call (.str s2261) st2263, .run 2, .into, .dec false, .run 1, .into, .dec false, .run 1, .into, .dec true, .run 1, .into, .run 1, .call (.str s2294) st2296, .run 1, .eff AV.undef st2298, .run 1, .val (.agg [(.str s2301), (.str s2302)])]) (by kernel_rfl) (.cons h2299 <| .cons (sto_ok h2297) <| .cons (keys_Next_ok R (n + 12003) s2261 st2263 _ h2295) <| .cons (strEqT h2293) <| .cons (strEqF h2285) <| .cons (strEqF h2264) <| .cons (keys_Of_top_ok R (n + 1) i2254 b2255 i2256 s2257 x2258 x2259 (St.push st2250 (.cells 33 true [(.str []), (.str [])])) _ h2262) <| .cons h2252 <| .cons (box_ok h2249) .nil) (by kernel_rfl) (by kernel_rfl)
      · refine iteE (fun h2304 => ?_) (fun h2304 => ?_)
        · refine bindE fun o h2306 => ?_
          obtain ⟨s2305, st2307⟩ := o
          refine bindE fun st2309 h2308 => ?_
          refine bindE fun x2311 h2310 => ?_
          refine bindE fun o h2314 => ?_
          obtain ⟨s2312, s2313⟩ := o
          obtain rfl := de_As_sZ_ok h2314
          intro h
          obtain rfl := Option.some.inj h
          exact callO_ok (hs := [.eff x2251 st2250, .run 2, .val (.agg [(.int .i64 i2254), (.bool b2255), (.int .i64 i2256), (.str s2257), x2258, x2259]), .call (.str s2261) st2263, .run 2, .into, .dec false, .run 1, .into, .dec false, .run 1, .into, .dec false, .run 1, .into, .dec true, .run 1, .into, .run 1, .call (.str s2305) st2307, .run 1, .eff AV.undef st2309, .run 1, .val (.agg [(.str s2312), (.str s2313)])]) (by kernel_rfl) (.cons h2310 <| .cons (sto_ok h2308) <| .cons (keys_Next_ok R (n + 12003) s2261 st2263 _ h2306) <| .cons (strEqT h2304) <| .cons (strEqF h2293) <| .cons (strEqF h2285) <| .cons (strEqF h2264) <| .cons (keys_Of_top_ok R (n + 1) i2254 b2255 i2256 s2257 x2258 x2259 (St.push st2250 (.cells 33 true [(.str []), (.str [])])) _ h2262) <| .cons h2252 <| .cons (box_ok h2249) .nil) (by kernel_rfl) (by kernel_rfl)
        · refine iteE (fun h2315 => ?_) (fun h2315 => ?_)
          · refine bindE fun st2317 h2316 => ?_
            refine bindE fun x2319 h2318 => ?_
            refine bindE fun o h2322 => ?_
            obtain ⟨s2320, s2321⟩ := o
            obtain rfl := de_As_sZ_ok h2322
            intro h
            obtain rfl := Option.some.inj h
            exact callO_ok (hs := [.eff x2251 st2250, .run 2, .val (.agg [(.int .i64 i2254), (.bool b2255), (.int .i64 i2256), (.str s2257), x2258, x2259]), .call (.str s2261) st2263, .run 2, .into, .dec false, .run 1, .into, .dec false, .run 1, .into, .dec false, .run 1, .into, .dec false, .run 1, .into, .dec true, .run 1, .into, .run 2, .eff AV.undef st2317, .run 1, .val (.agg [(.str s2320), (.str s2321)])]) (by kernel_rfl) (.cons h2318 <| .cons (sto_ok h2316) <| .cons (strEqT h2315) <| .cons (strEqF h2304) <| .cons (strEqF h2293) <| .cons (strEqF h2285) <| .cons (strEqF h2264) <| .cons (keys_Of_top_ok R (n + 1) i2254 b2255 i2256 s2257 x2258 x2259 (St.push st2250 (.cells 33 true [(.str []), (.str [])])) _ h2262) <| .cons h2252 <| .cons (box_ok h2249) .nil) (by kernel_rfl) (by kernel_rfl)
          · refine bindE fun st2324 h2323 => ?_
            refine bindE fun x2326 h2325 => ?_
            refine bindE fun o h2329 => ?_
            obtain ⟨s2327, s2328⟩ := o
            obtain rfl := de_As_sZ_ok h2329
            intro h
            obtain rfl := Option.some.inj h
            exact callO_ok (hs := [.eff x2251 st2250, .run 2, .val (.agg [(.int .i64 i2254), (.bool b2255), (.int .i64 i2256), (.str s2257), x2258, x2259]), .call (.str s2261) st2263, .run 2, .into, .dec false, .run 1, .into, .dec false, .run 1, .into, .dec false, .run 1, .into, .dec false, .run 1, .into, .dec false, .run 1, .into, .run 1, .eff AV.undef st2324, .run 1, .val (.agg [(.str s2327), (.str s2328)])]) (by kernel_rfl) (.cons h2325 <| .cons (sto_ok h2323) <| .cons (strEqF h2315) <| .cons (strEqF h2304) <| .cons (strEqF h2293) <| .cons (strEqF h2285) <| .cons (strEqF h2264) <| .cons (keys_Of_top_ok R (n + 1) i2254 b2255 i2256 s2257 x2258 x2259 (St.push st2250 (.cells 33 true [(.str []), (.str [])])) _ h2262) <| .cons h2252 <| .cons (box_ok h2249) .nil) (by kernel_rfl) (by kernel_rfl)

/- cmp.isNaN[int] -/
def cmp_isNaN_int__n : Nat := 103
noncomputable def cmp_isNaN_int_ (R : Nat) (i2338 : Int) : Option (Bool) :=
  if (i2338 = i2338) then
   some false
  else
   some true
theorem cmp_isNaN_int__ok (R n : Nat) (i2338 : Int) (st2339 : St) (r : Bool) (h : cmp_isNaN_int_ R i2338 = some r) :
    CallsTo (callK C0 ext0 R (n + 1)) false 103 [(.int .i64 i2338)] st2339 (.bool r) st2339 := by
  revert h
  unfold cmp_isNaN_int_
  refine iteE (fun h2340 => ?_) (fun h2340 => ?_)
  · intro h
    obtain rfl := Option.some.inj h
    exact callO_ok (hs := [.run 3, .dec false, .run 1]) (by kernel_rfl) (.cons (bneF h2340) .nil) (by kernel_rfl) (by kernel_rfl)
  · intro h
    obtain rfl := Option.some.inj h
    exact callO_ok (hs := [.run 3, .dec true, .run 1]) (by kernel_rfl) (.cons (bneT h2340) .nil) (by kernel_rfl) (by kernel_rfl)

/- cmp.Compare[int] -/
def cmp_Compare_int__n : Nat := 59
noncomputable def cmp_Compare_int_ (R : Nat) (i2350 : Int) (i2351 : Int) : Option (Int) :=
  Option.bind (cmp_isNaN_int_ R i2350) fun b2353 =>
  Option.bind (cmp_isNaN_int_ R i2351) fun b2355 =>
  if b2353 = true then
   if b2355 = true then
    some 0
   else
    some (-1)
  else
   if b2355 = true then
    some 1
   else
    if (i2350 < i2351) then
     some (-1)
    else
     if (i2350 > i2351) then
      some 1
     else
      some 0
theorem cmp_Compare_int__ok (R n : Nat) (i2350 : Int) (i2351 : Int) (st2352 : St) (r : Int) (h : cmp_Compare_int_ R i2350 i2351 = some r) :
    CallsTo (callK C0 ext0 R (n + 2)) false 59 [(.int .i64 i2350), (.int .i64 i2351)] st2352 (.int .i64 r) st2352 := by
  revert h
  unfold cmp_Compare_int_
  refine bindE fun b2353 h2354 => ?_
  refine bindE fun b2355 h2356 => ?_
  refine iteE (fun h2357 => ?_) (fun h2357 => ?_)
  · subst h2357
    refine iteE (fun h2358 => ?_) (fun h2358 => ?_)
    · subst h2358
      intro h
      obtain rfl := Option.some.inj h
      exact callO_ok (hs := [.run 2, .call (.bool true) st2352, .run 2, .call (.bool true) st2352, .run 2, .into, .run 1, .into, .run 1]) (by kernel_rfl) (.cons (cmp_isNaN_int__ok R n i2351 st2352 _ h2356) <| .cons (cmp_isNaN_int__ok R n i2350 st2352 _ h2354) .nil) (by kernel_rfl) (by kernel_rfl)
    · obtain rfl := bF h2358
      intro h
      obtain rfl := Option.some.inj h
      exact callO_ok (hs := [.run 2, .call (.bool true) st2352, .run 2, .call (.bool false) st2352, .run 2, .into, .run 1, .into, .run 1]) (by kernel_rfl) (.cons (cmp_isNaN_int__ok R n i2351 st2352 _ h2356) <| .cons (cmp_isNaN_int__ok R n i2350 st2352 _ h2354) .nil) (by kernel_rfl) (by kernel_rfl)
  · obtain rfl := bF h2357
    refine iteE (fun h2359 => ?_) (fun h2359 => ?_)
    · subst h2359
      intro h
      obtain rfl := Option.some.inj h
      exact callO_ok (hs := [.run 2, .call (.bool false) st2352, .run 2, .call (.bool true) st2352, .run 2, .into, .run 1, .into, .run 1]) (by kernel_rfl) (.cons (cmp_isNaN_int__ok R n i2351 st2352 _ h2356) <| .cons (cmp_isNaN_int__ok R n i2350 st2352 _ h2354) .nil) (by kernel_rfl) (by kernel_rfl)
    · obtain rfl := bF h2359
      refine iteE (fun h2360 => ?_) (fun h2360 => ?_)
      · intro h
        obtain rfl := Option.some.inj h
        exact callO_ok (hs := [.run 2, .call (.bool false) st2352, .run 2, .call (.bool false) st2352, .run 2, .into, .run 1, .into, .run 2, .dec true, .into, .run 1]) (by kernel_rfl) (.cons (decide_eq_true h2360) <| .cons (cmp_isNaN_int__ok R n i2351 st2352 _ h2356) <| .cons (cmp_isNaN_int__ok R n i2350 st2352 _ h2354) .nil) (by kernel_rfl) (by kernel_rfl)
      · refine iteE (fun h2361 => ?_) (fun h2361 => ?_)
        · intro h
          obtain rfl := Option.some.inj h
          exact callO_ok (hs := [.run 2, .call (.bool false) st2352, .run 2, .call (.bool false) st2352, .run 2, .into, .run 1, .into, .run 2, .dec false, .into, .run 2, .dec true, .into, .run 1]) (by kernel_rfl) (.cons (decide_eq_true h2361) <| .cons (decide_eq_false h2360) <| .cons (cmp_isNaN_int__ok R n i2351 st2352 _ h2356) <| .cons (cmp_isNaN_int__ok R n i2350 st2352 _ h2354) .nil) (by kernel_rfl) (by kernel_rfl)
        · intro h
          obtain rfl := Option.some.inj h
          exact callO_ok (hs := [.run 2, .call (.bool false) st2352, .run 2, .call (.bool false) st2352, .run 2, .into, .run 1, .into, .run 2, .dec false, .into, .run 2, .dec false, .into, .run 1]) (by kernel_rfl) (.cons (decide_eq_false h2361) <| .cons (decide_eq_false h2360) <| .cons (cmp_isNaN_int__ok R n i2351 st2352 _ h2356) <| .cons (cmp_isNaN_int__ok R n i2350 st2352 _ h2354) .nil) (by kernel_rfl) (by kernel_rfl)

/- cmp.isNaN[int64] -/
def cmp_isNaN_int64__n : Nat := 104
noncomputable def cmp_isNaN_int64_ (R : Nat) (i2370 : Int) : Option (Bool) :=
  if (i2370 = i2370) then
   some false
  else
   some true
theorem cmp_isNaN_int64__ok (R n : Nat) (i2370 : Int) (st2371 : St) (r : Bool) (h : cmp_isNaN_int64_ R i2370 = some r) :
    CallsTo (callK C0 ext0 R (n + 1)) false 104 [(.int .i64 i2370)] st2371 (.bool r) st2371 := by
  revert h
  unfold cmp_isNaN_int64_
  refine iteE (fun h2372 => ?_) (fun h2372 => ?_)
  · intro h
    obtain rfl := Option.some.inj h
    exact callO_ok (hs := [.run 3, .dec false, .run 1]) (by kernel_rfl) (.cons (bneF h2372) .nil) (by kernel_rfl) (by kernel_rfl)
  · intro h
    obtain rfl := Option.some.inj h
    exact callO_ok (hs := [.run 3, .dec true, .run 1]) (by kernel_rfl) (.cons (bneT h2372) .nil) (by kernel_rfl) (by kernel_rfl)

/- cmp.Compare[int64] -/
def cmp_Compare_int64__n : Nat := 61
noncomputable def cmp_Compare_int64_ (R : Nat) (i2382 : Int) (i2383 : Int) : Option (Int) :=
  Option.bind (cmp_isNaN_int64_ R i2382) fun b2385 =>
  Option.bind (cmp_isNaN_int64_ R i2383) fun b2387 =>
  if b2385 = true then
   if b2387 = true then
    some 0
   else
    some (-1)
  else
   if b2387 = true then
    some 1
   else
    if (i2382 < i2383) then
     some (-1)
    else
     if (i2382 > i2383) then
      some 1
     else
      some 0
theorem cmp_Compare_int64__ok (R n : Nat) (i2382 : Int) (i2383 : Int) (st2384 : St) (r : Int) (h : cmp_Compare_int64_ R i2382 i2383 = some r) :
    CallsTo (callK C0 ext0 R (n + 2)) false 61 [(.int .i64 i2382), (.int .i64 i2383)] st2384 (.int .i64 r) st2384 := by
  revert h
  unfold cmp_Compare_int64_
  refine bindE fun b2385 h2386 => ?_
  refine bindE fun b2387 h2388 => ?_
  refine iteE (fun h2389 => ?_) (fun h2389 => ?_)
  · subst h2389
    refine iteE (fun h2390 => ?_) (fun h2390 => ?_)
    · subst h2390
      intro h
      obtain rfl := Option.some.inj h
      exact callO_ok (hs := [.run 2, .call (.bool true) st2384, .run 2, .call (.bool true) st2384, .run 2, .into, .run 1, .into, .run 1]) (by kernel_rfl) (.cons (cmp_isNaN_int64__ok R n i2383 st2384 _ h2388) <| .cons (cmp_isNaN_int64__ok R n i2382 st2384 _ h2386) .nil) (by kernel_rfl) (by kernel_rfl)
    · obtain rfl := bF h2390
      intro h
      obtain rfl := Option.some.inj h
      exact callO_ok (hs := [.run 2, .call (.bool true) st2384, .run 2, .call (.bool false) st2384, .run 2, .into, .run 1, .into, .run 1]) (by kernel_rfl) (.cons (cmp_isNaN_int64__ok R n i2383 st2384 _ h2388) <| .cons (cmp_isNaN_int64__ok R n i2382 st2384 _ h2386) .nil) (by kernel_rfl) (by kernel_rfl)
  · obtain rfl := bF h2389
    refine iteE (fun h2391 => ?_) (fun h2391 => ?_)
    · subst h2391
      intro h
      obtain rfl := Option.some.inj h
      exact callO_ok (hs := [.run 2, .call (.bool false) st2384, .run 2, .call (.bool true) st2384, .run 2, .into, .run 1, .into, .run 1]) (by kernel_rfl) (.cons (cmp_isNaN_int64__ok R n i2383 st2384 _ h2388) <| .cons (cmp_isNaN_int64__ok R n i2382 st2384 _ h2386) .nil) (by kernel_rfl) (by kernel_rfl)
    · obtain rfl := bF h2391
      refine iteE (fun h2392 => ?_) (fun h2392 => ?_)
      · intro h
        obtain rfl := Option.some.inj h
        exact callO_ok (hs := [.run 2, .call (.bool false) st2384, .run 2, .call (.bool false) st2384, .run 2, .into, .run 1, .into, .run 2, .dec true, .into, .run 1]) (by kernel_rfl) (.cons (decide_eq_true h2392) <| .cons (cmp_isNaN_int64__ok R n i2383 st2384 _ h2388) <| .cons (cmp_isNaN_int64__ok R n i2382 st2384 _ h2386) .nil) (by kernel_rfl) (by kernel_rfl)
      · refine iteE (fun h2393 => ?_) (fun h2393 => ?_)
        · intro h
          obtain rfl := Option.some.inj h
          exact callO_ok (hs := [.run 2, .call (.bool false) st2384, .run 2, .call (.bool false) st2384, .run 2, .into, .run 1, .into, .run 2, .dec false, .into, .run 2, .dec true, .into, .run 1]) (by kernel_rfl) (.cons (decide_eq_true h2393) <| .cons (decide_eq_false h2392) <| .cons (cmp_isNaN_int64__ok R n i2383 st2384 _ h2388) <| .cons (cmp_isNaN_int64__ok R n i2382 st2384 _ h2386) .nil) (by kernel_rfl) (by kernel_rfl)
        · intro h
          obtain rfl := Option.some.inj h
          exact callO_ok (hs := [.run 2, .call (.bool false) st2384, .run 2, .call (.bool false) st2384, .run 2, .into, .run 1, .into, .run 2, .dec false, .into, .run 2, .dec false, .into, .run 1]) (by kernel_rfl) (.cons (decide_eq_false h2393) <| .cons (decide_eq_false h2392) <| .cons (cmp_isNaN_int64__ok R n i2383 st2384 _ h2388) <| .cons (cmp_isNaN_int64__ok R n i2382 st2384 _ h2386) .nil) (by kernel_rfl) (by kernel_rfl)

/- internal/bytealg.CompareString -/
def bytealg_CompareString_n : Nat := 105
noncomputable def bytealg_CompareString (R : Nat) (s2404 : List UInt8) (s2405 : List UInt8) : Option (Int) :=
  Option.bind (xCs R s2404 s2405) fun i2407 =>
  some i2407
theorem bytealg_CompareString_ok (R n : Nat) (s2404 : List UInt8) (s2405 : List UInt8) (st2406 : St) (r : Int) (h : bytealg_CompareString R s2404 s2405 = some r) :
    CallsTo (callK C0 ext0 R (n + 2)) false 105 [(.str s2404), (.str s2405)] st2406 (.int .i64 r) st2406 := by
  revert h
  unfold bytealg_CompareString
  refine bindE fun i2407 h2408 => ?_
  intro h
  obtain rfl := Option.some.inj h
  exact callO_ok (hs := [.run 3, .call (.int .i64 i2407) st2406, .run 1]) (by kernel_rfl) (.cons (xCs_ok R n s2404 s2405 st2406 _ h2408) .nil) (by kernel_rfl) (by kernel_rfl)

/- strings.Compare -/
def strings_Compare_n : Nat := 62
noncomputable def strings_Compare (R : Nat) (s2411 : List UInt8) (s2412 : List UInt8) : Option (Int) :=
  Option.bind (bytealg_CompareString R s2411 s2412) fun i2414 =>
  some i2414
theorem strings_Compare_ok (R n : Nat) (s2411 : List UInt8) (s2412 : List UInt8) (st2413 : St) (r : Int) (h : strings_Compare R s2411 s2412 = some r) :
    CallsTo (callK C0 ext0 R (n + 3)) false 62 [(.str s2411), (.str s2412)] st2413 (.int .i64 r) st2413 := by
  revert h
  unfold strings_Compare
  refine bindE fun i2414 h2415 => ?_
  intro h
  obtain rfl := Option.some.inj h
  exact callO_ok (hs := [.run 3, .call (.int .i64 i2414) st2413, .run 1]) (by kernel_rfl) (.cons (bytealg_CompareString_ok R n s2411 s2412 st2413 _ h2415) .nil) (by kernel_rfl) (by kernel_rfl)

/- parchment/value.number -/
def value_number_n : Nat := 60
noncomputable def value_number (R : Nat) (b2420 : Bool) : Option (Int) :=
  if b2420 = true then
   some 1
  else
   some 0
theorem value_number_ok (R n : Nat) (b2420 : Bool) (st2421 : St) (r : Int) (h : value_number R b2420 = some r) :
    CallsTo (callK C0 ext0 R (n + 1)) false 60 [(.bool b2420)] st2421 (.int .i64 r) st2421 := by
  revert h
  unfold value_number
  refine iteE (fun h2422 => ?_) (fun h2422 => ?_)
  · subst h2422
    intro h
    obtain rfl := Option.some.inj h
    exact callO_ok (hs := [.run 2, .into, .run 1]) (by kernel_rfl) .nil (by kernel_rfl) (by kernel_rfl)
  · obtain rfl := bF h2422
    intro h
    obtain rfl := Option.some.inj h
    exact callO_ok (hs := [.run 2, .into, .run 1]) (by kernel_rfl) .nil (by kernel_rfl) (by kernel_rfl)

/-- A group of functions that call one another: how many rounds, what they come to. -/
structure Rc28 where
  n : Nat
  f28 : Int → Bool → Int → List UInt8 → AV → AV → Int → Bool → Int → List UInt8 → AV → AV → St → Option (Int × St)
def Rc28.ok (R : Rc28) (n : Nat) : Prop := (∀ m, n ≤ m → ∀ (a0 : Int) (a1 : Bool) (a2 : Int) (a3 : List UInt8) (a4 : AV) (a5 : AV) (a6 : Int) (a7 : Bool) (a8 : Int) (a9 : List UInt8) (a10 : AV) (a11 : AV) (st : St) (r : Int × St), R.f28 a0 a1 a2 a3 a4 a5 a6 a7 a8 a9 a10 a11 st = some r → CallsTo (callK C0 ext0 R.n m) false 28 [(.agg [.int .i64 a0, .bool a1, .int .i64 a2, .str a3, a4, a5]), (.agg [.int .i64 a6, .bool a7, .int .i64 a8, .str a9, a10, a11])] st (.int .i64 r.1) r.2)
theorem Rc28.ok.h28 {R : Rc28} {n : Nat} (h : R.ok n) : (∀ m, n ≤ m → ∀ (a0 : Int) (a1 : Bool) (a2 : Int) (a3 : List UInt8) (a4 : AV) (a5 : AV) (a6 : Int) (a7 : Bool) (a8 : Int) (a9 : List UInt8) (a10 : AV) (a11 : AV) (st : St) (r : Int × St), R.f28 a0 a1 a2 a3 a4 a5 a6 a7 a8 a9 a10 a11 st = some r → CallsTo (callK C0 ext0 R.n m) false 28 [(.agg [.int .i64 a0, .bool a1, .int .i64 a2, .str a3, a4, a5]), (.agg [.int .i64 a6, .bool a7, .int .i64 a8, .str a9, a10, a11])] st (.int .i64 r.1) r.2) := h
theorem Rc28.ok.mono {R : Rc28} {n m : Nat} (h : R.ok n) (hn : n ≤ m) : R.ok m := fun k hk => h.h28 k (Nat.le_trans hn hk)

noncomputable def value_Compare_j11010111100 (R : Rc28) (i2506 : Int) : Option (Bool) :=
  if (i2506 = 3) then
   some true
  else
   some false
theorem value_Compare_j11010111100_ok (R : Rc28) (n : Nat) (hR : R.ok n) (i2506 : Int) (st2507 : St) (r : Bool) (h : value_Compare_j11010111100 R i2506 = some r) :
    Leads 106 (execK C0 (callK C0 ext0 R.n (n + 3)) 28 R.n none (codeAt C0.P 28 [1, 1, 0, 1, 0, 1, 1, 1, 1, 0, 0])) (modsOf (codeAt C0.P 28 [1, 1, 0, 1, 0, 1, 1, 1, 1, 0, 0])) [(18, (.int .i64 i2506))] st2507 .normal [(35, .bool r)] st2507 := by
  revert h
  unfold value_Compare_j11010111100
  refine iteE (fun h2508 => ?_) (fun h2508 => ?_)
  · intro h
    obtain rfl := Option.some.inj h
    exact runO_ok (hs := [.dec true, .run 1]) (want := [35]) (by kernel_rfl) (.cons (beqT h2508) .nil)
  · intro h
    obtain rfl := Option.some.inj h
    exact runO_ok (hs := [.dec false, .run 1]) (want := [35]) (by kernel_rfl) (.cons (beqF h2508) .nil)

noncomputable def value_Compare_c11010111101 (R : Rc28) (x2518 : AV) (x2519 : AV) (i2520 : Int) (b2521 : Bool) : Option (Bool) :=
  if b2521 = true then
   some true
  else
   if (i2520 = 4) then
    some true
   else
    some false
theorem value_Compare_c11010111101_ok (R : Rc28) (n : Nat) (hR : R.ok n) (x2518 : AV) (x2519 : AV) (i2520 : Int) (b2521 : Bool) (st2522 : St) (r : Bool) (h : value_Compare_c11010111101 R x2518 x2519 i2520 b2521 = some r) :
    Leads 106 (execK C0 (callK C0 ext0 R.n (n + 3)) 28 R.n none (codeAt C0.P 28 [1, 1, 0, 1, 0, 1, 1, 1, 1, 0, 1])) (modsOf (codeAt C0.P 28 [1, 1, 0, 1, 0, 1, 1, 1, 1, 0, 1])) [(2, x2518), (3, x2519), (18, (.int .i64 i2520)), (35, (.bool b2521))] st2522 .normal [(35, .bool r)] st2522 := by
  revert h
  unfold value_Compare_c11010111101
  refine iteE (fun h2523 => ?_) (fun h2523 => ?_)
  · subst h2523
    intro h
    obtain rfl := Option.some.inj h
    exact runO_ok (hs := [.into]) (want := [35]) (by kernel_rfl) .nil
  · obtain rfl := bF h2523
    refine iteE (fun h2524 => ?_) (fun h2524 => ?_)
    · intro h
      obtain rfl := Option.some.inj h
      exact runO_ok (hs := [.into, .dec true, .run 1]) (want := [35]) (by kernel_rfl) (.cons (beqT h2524) .nil)
    · intro h
      obtain rfl := Option.some.inj h
      exact runO_ok (hs := [.into, .dec false, .run 1]) (want := [35]) (by kernel_rfl) (.cons (beqF h2524) .nil)

noncomputable def value_Compare_j11101001100100 (R : Rc28) (x2585 : AV) (x2586 : AV) (i2587 : Int) (st2588 : St) : Option (Bool × St) :=
  Option.bind (shift x2585 0) fun x2590 =>
  Option.bind (loadAt C0.P st2588 3 x2590) fun x2592 =>
  Option.bind (avInt .i64 x2592) fun i2593 =>
  if (i2593 = 6) then
   Option.bind (shift x2585 5) fun x2597 =>
   Option.bind (loadAt C0.P st2588 22 x2597) fun x2599 =>
   Option.bind (lenOf x2599) fun n2601 =>
   if (i2587 < (n2601 : Int)) then
    Option.bind (shift x2586 5) fun x2604 =>
    Option.bind (loadAt C0.P st2588 22 x2604) fun x2606 =>
    Option.bind (lenOf x2606) fun n2608 =>
    if (i2587 < (n2608 : Int)) then
     some (true, st2588)
    else
     some (false, st2588)
   else
    some (false, st2588)
  else
   some (false, st2588)
theorem value_Compare_j11101001100100_ok (R : Rc28) (n : Nat) (hR : R.ok n) (x2585 : AV) (x2586 : AV) (i2587 : Int) (st2588 : St) (r : Bool × St) (h : value_Compare_j11101001100100 R x2585 x2586 i2587 st2588 = some r) :
    Leads 106 (execK C0 (callK C0 ext0 R.n (n + 3)) 28 R.n none (codeAt C0.P 28 [1, 1, 1, 0, 1, 0, 0, 1, 1, 0, 0, 1, 0, 0])) (modsOf (codeAt C0.P 28 [1, 1, 1, 0, 1, 0, 0, 1, 1, 0, 0, 1, 0, 0])) [(2, x2585), (3, x2586), (6, (.int .i64 i2587))] st2588 .normal [(69, .bool r.1)] r.2 := by
  revert h
  unfold value_Compare_j11101001100100
  refine bindE fun x2590 h2589 => ?_
  refine bindE fun x2592 h2591 => ?_
  refine bindE fun i2593 h2594 => ?_
  obtain rfl := avInt_ok h2594
  refine iteE (fun h2595 => ?_) (fun h2595 => ?_)
  · refine bindE fun x2597 h2596 => ?_
    refine bindE fun x2599 h2598 => ?_
    refine bindE fun n2601 h2600 => ?_
    refine iteE (fun h2602 => ?_) (fun h2602 => ?_)
    · refine bindE fun x2604 h2603 => ?_
      refine bindE fun x2606 h2605 => ?_
      refine bindE fun n2608 h2607 => ?_
      refine iteE (fun h2609 => ?_) (fun h2609 => ?_)
      · intro h
        obtain rfl := Option.some.inj h
        exact runO_ok (hs := [.val x2590, .val (.int .i64 i2593), .dec true, .run 2, .val x2597, .val x2599, .val (.int .i64 (n2601 : Int)), .dec true, .run 3, .val x2604, .val x2606, .val (.int .i64 (n2608 : Int)), .dec true, .run 1]) (want := [69]) (by kernel_rfl) (.cons (decide_eq_true h2609) <| .cons (len_ok (P := C0.P) (t := 22) (e := 9) (by kernel_rfl) h2607) <| .cons h2605 <| .cons h2603 <| .cons (decide_eq_true h2602) <| .cons (len_ok (P := C0.P) (t := 22) (e := 9) (by kernel_rfl) h2600) <| .cons h2598 <| .cons h2596 <| .cons (beqT h2595) <| .cons h2591 <| .cons h2589 .nil)
      · intro h
        obtain rfl := Option.some.inj h
        exact runO_ok (hs := [.val x2590, .val (.int .i64 i2593), .dec true, .run 2, .val x2597, .val x2599, .val (.int .i64 (n2601 : Int)), .dec true, .run 3, .val x2604, .val x2606, .val (.int .i64 (n2608 : Int)), .dec false, .run 1]) (want := [69]) (by kernel_rfl) (.cons (decide_eq_false h2609) <| .cons (len_ok (P := C0.P) (t := 22) (e := 9) (by kernel_rfl) h2607) <| .cons h2605 <| .cons h2603 <| .cons (decide_eq_true h2602) <| .cons (len_ok (P := C0.P) (t := 22) (e := 9) (by kernel_rfl) h2600) <| .cons h2598 <| .cons h2596 <| .cons (beqT h2595) <| .cons h2591 <| .cons h2589 .nil)
    · intro h
      obtain rfl := Option.some.inj h
      exact runO_ok (hs := [.val x2590, .val (.int .i64 i2593), .dec true, .run 2, .val x2597, .val x2599, .val (.int .i64 (n2601 : Int)), .dec false, .run 3]) (want := [69]) (by kernel_rfl) (.cons (decide_eq_false h2602) <| .cons (len_ok (P := C0.P) (t := 22) (e := 9) (by kernel_rfl) h2600) <| .cons h2598 <| .cons h2596 <| .cons (beqT h2595) <| .cons h2591 <| .cons h2589 .nil)
  · intro h
    obtain rfl := Option.some.inj h
    exact runO_ok (hs := [.val x2590, .val (.int .i64 i2593), .dec false, .run 4]) (want := [69]) (by kernel_rfl) (.cons (beqF h2595) <| .cons h2591 <| .cons h2589 .nil)

noncomputable def value_Compare_l111010 (R : Rc28) (x2705 : AV) (x2706 : AV) (i2707 : Int) : Nat → Int → St → Option ((Int × St) ⊕ (St))
  | 0, _, _ => none
  | r + 1, i2708, st2709 =>
    if (i2708 < i2707) then
     Option.bind (value_Compare_j11101001100100 R x2705 x2706 i2708 st2709) fun (b2712, st2713) =>
     if b2712 = true then
      Option.bind (shift x2705 5) fun x2716 =>
      Option.bind (loadAt C0.P st2713 22 x2716) fun x2718 =>
      Option.bind (indexAddrOp C0.P 22 x2718 (.int .i64 i2708)) fun x2720 =>
      Option.bind (loadAt C0.P st2713 9 x2720) fun x2722 =>
      Option.bind (avStr x2722) fun s2723 =>
      Option.bind (shift x2706 5) fun x2726 =>
      Option.bind (loadAt C0.P st2713 22 x2726) fun x2728 =>
      Option.bind (indexAddrOp C0.P 22 x2728 (.int .i64 i2708)) fun x2730 =>
      Option.bind (loadAt C0.P st2713 9 x2730) fun x2732 =>
      Option.bind (avStr x2732) fun s2733 =>
      Option.bind (strings_Compare R.n s2723 s2733) fun i2735 =>
      if (i2735 = 0) then
       Option.bind (shift x2705 4) fun x2739 =>
       Option.bind (loadAt C0.P st2713 23 x2739) fun x2741 =>
       Option.bind (indexAddrOp C0.P 23 x2741 (.int .i64 i2708)) fun x2743 =>
       Option.bind (loadAt C0.P st2713 25 x2743) fun x2745 =>
       Option.bind (de_Ai64_b_i64_s_a_aZ x2745) fun (i2746, b2747, i2748, s2749, x2750, x2751) =>
       Option.bind (shift x2706 4) fun x2754 =>
       Option.bind (loadAt C0.P st2713 23 x2754) fun x2756 =>
       Option.bind (indexAddrOp C0.P 23 x2756 (.int .i64 i2708)) fun x2758 =>
       Option.bind (loadAt C0.P st2713 25 x2758) fun x2760 =>
       Option.bind (de_Ai64_b_i64_s_a_aZ x2760) fun (i2761, b2762, i2763, s2764, x2765, x2766) =>
       Option.bind (R.f28 i2746 b2747 i2748 s2749 x2750 x2751 i2761 b2762 i2763 s2764 x2765 x2766 st2713) fun (i2768, st2770) =>
       if (i2768 = 0) then
        value_Compare_l111010 R x2705 x2706 i2707 r (IntKind.wrap .i64 (i2708 + 1)) st2770
       else
        some (.inl (i2768, st2770))
      else
       some (.inl (i2735, st2713))
     else
      Option.bind (shift x2705 4) fun x2773 =>
      Option.bind (loadAt C0.P st2713 23 x2773) fun x2775 =>
      Option.bind (indexAddrOp C0.P 23 x2775 (.int .i64 i2708)) fun x2777 =>
      Option.bind (loadAt C0.P st2713 25 x2777) fun x2779 =>
      Option.bind (de_Ai64_b_i64_s_a_aZ x2779) fun (i2780, b2781, i2782, s2783, x2784, x2785) =>
      Option.bind (shift x2706 4) fun x2788 =>
      Option.bind (loadAt C0.P st2713 23 x2788) fun x2790 =>
      Option.bind (indexAddrOp C0.P 23 x2790 (.int .i64 i2708)) fun x2792 =>
      Option.bind (loadAt C0.P st2713 25 x2792) fun x2794 =>
      Option.bind (de_Ai64_b_i64_s_a_aZ x2794) fun (i2795, b2796, i2797, s2798, x2799, x2800) =>
      Option.bind (R.f28 i2780 b2781 i2782 s2783 x2784 x2785 i2795 b2796 i2797 s2798 x2799 x2800 st2713) fun (i2802, st2804) =>
      if (i2802 = 0) then
       value_Compare_l111010 R x2705 x2706 i2707 r (IntKind.wrap .i64 (i2708 + 1)) st2804
      else
       some (.inl (i2802, st2804))
    else
     some (.inr st2709)
noncomputable def value_Compare_l111010_x (o : (Int × St) ⊕ (St)) : AExit × List (Nat × AV) × St := match o with
  | .inl (a0, a1) => (.ret, [(4, .int .i64 a0)], a1)
  | .inr a0 => ((.exit 1), [], a0)
theorem value_Compare_l111010_ok (R : Rc28) (n : Nat) (hR : R.ok n) (x2705 : AV) (x2706 : AV) (i2707 : Int) : ∀ (r : Nat) (i2708 : Int) (st2709 : St) (o : (Int × St) ⊕ (St)), value_Compare_l111010 R x2705 x2706 i2707 r i2708 st2709 = some o →
    Leads 106 (loopK (fun fr k => execK C0 (callK C0 ext0 R.n (n + 3)) 28 R.n none (codeAt C0.P 28 [1, 1, 1, 0, 1, 0, 0]) fr k) r) (modsOf (codeAt C0.P 28 [1, 1, 1, 0, 1, 0, 0])) [(2, x2705), (3, x2706), (49, (.int .i64 i2707)), (50, (.int .i64 i2708))] st2709 (value_Compare_l111010_x o).1 (value_Compare_l111010_x o).2.1 (value_Compare_l111010_x o).2.2 := by
  intro r
  induction r with
  | zero => intro i2708 st2709 o h; exact nomatch h
  | succ r ih =>
    intro i2708 st2709 o
    unfold value_Compare_l111010
    refine iteE (fun h2710 => ?_) (fun h2710 => ?_)
    · refine bindE fun o h2711 => ?_
      obtain ⟨b2712, st2713⟩ := o
      refine iteE (fun h2714 => ?_) (fun h2714 => ?_)
      · subst h2714
        refine bindE fun x2716 h2715 => ?_
        refine bindE fun x2718 h2717 => ?_
        refine bindE fun x2720 h2719 => ?_
        refine bindE fun x2722 h2721 => ?_
        refine bindE fun s2723 h2724 => ?_
        obtain rfl := avStr_ok h2724
        refine bindE fun x2726 h2725 => ?_
        refine bindE fun x2728 h2727 => ?_
        refine bindE fun x2730 h2729 => ?_
        refine bindE fun x2732 h2731 => ?_
        refine bindE fun s2733 h2734 => ?_
        obtain rfl := avStr_ok h2734
        refine bindE fun i2735 h2736 => ?_
        refine iteE (fun h2737 => ?_) (fun h2737 => ?_)
        · refine bindE fun x2739 h2738 => ?_
          refine bindE fun x2741 h2740 => ?_
          refine bindE fun x2743 h2742 => ?_
          refine bindE fun x2745 h2744 => ?_
          refine bindE fun o h2752 => ?_
          obtain ⟨i2746, b2747, i2748, s2749, x2750, x2751⟩ := o
          obtain rfl := de_Ai64_b_i64_s_a_aZ_ok h2752
          refine bindE fun x2754 h2753 => ?_
          refine bindE fun x2756 h2755 => ?_
          refine bindE fun x2758 h2757 => ?_
          refine bindE fun x2760 h2759 => ?_
          refine bindE fun o h2767 => ?_
          obtain ⟨i2761, b2762, i2763, s2764, x2765, x2766⟩ := o
          obtain rfl := de_Ai64_b_i64_s_a_aZ_ok h2767
          refine bindE fun o h2769 => ?_
          obtain ⟨i2768, st2770⟩ := o
          refine iteE (fun h2771 => ?_) (fun h2771 => ?_)
          · intro h
            exact loop_more (runO_ok (hs := [.dec true, .into, .into, .run 2, .absG [2, 3, 6] .normal [(69, (.bool true))] st2713, .into, .val x2716, .val x2718, .run 1, .val x2720, .val (.str s2723), .val x2726, .val x2728, .run 1, .val x2730, .val (.str s2733), .call (.int .i64 i2735) st2713, .run 2, .dec false, .into, .val x2739, .val x2741, .run 1, .val x2743, .val (.agg [(.int .i64 i2746), (.bool b2747), (.int .i64 i2748), (.str s2749), x2750, x2751]), .val x2754, .val x2756, .run 1, .val x2758, .val (.agg [(.int .i64 i2761), (.bool b2762), (.int .i64 i2763), (.str s2764), x2765, x2766]), .call (.int .i64 i2768) st2770, .run 2, .dec false, .into, .run 2]) (want := [2, 3, 49, 50]) (by kernel_rfl) (.cons (bneF h2771) <| .cons (hR.h28 (n + 3) (by omega) i2746 b2747 i2748 s2749 x2750 x2751 i2761 b2762 i2763 s2764 x2765 x2766 st2713 _ h2769) <| .cons h2759 <| .cons h2757 <| .cons h2755 <| .cons h2753 <| .cons h2744 <| .cons h2742 <| .cons h2740 <| .cons h2738 <| .cons (bneF h2737) <| .cons (strings_Compare_ok R.n n s2723 s2733 st2713 _ h2736) <| .cons h2731 <| .cons h2729 <| .cons h2727 <| .cons h2725 <| .cons h2721 <| .cons h2719 <| .cons h2717 <| .cons h2715 <| .cons (value_Compare_j11101001100100_ok R n hR x2705 x2706 i2708 st2709 _ h2711) <| .cons (decide_eq_true h2710) .nil)) (ih (IntKind.wrap .i64 (i2708 + 1)) st2770 _ h)
          · intro h
            obtain rfl := Option.some.inj h
            exact loop_done (runO_ok (hs := [.dec true, .into, .into, .run 2, .absG [2, 3, 6] .normal [(69, (.bool true))] st2713, .into, .val x2716, .val x2718, .run 1, .val x2720, .val (.str s2723), .val x2726, .val x2728, .run 1, .val x2730, .val (.str s2733), .call (.int .i64 i2735) st2713, .run 2, .dec false, .into, .val x2739, .val x2741, .run 1, .val x2743, .val (.agg [(.int .i64 i2746), (.bool b2747), (.int .i64 i2748), (.str s2749), x2750, x2751]), .val x2754, .val x2756, .run 1, .val x2758, .val (.agg [(.int .i64 i2761), (.bool b2762), (.int .i64 i2763), (.str s2764), x2765, x2766]), .call (.int .i64 i2768) st2770, .run 2, .dec true, .into, .run 2]) (want := [4]) (by kernel_rfl) (.cons (bneT h2771) <| .cons (hR.h28 (n + 3) (by omega) i2746 b2747 i2748 s2749 x2750 x2751 i2761 b2762 i2763 s2764 x2765 x2766 st2713 _ h2769) <| .cons h2759 <| .cons h2757 <| .cons h2755 <| .cons h2753 <| .cons h2744 <| .cons h2742 <| .cons h2740 <| .cons h2738 <| .cons (bneF h2737) <| .cons (strings_Compare_ok R.n n s2723 s2733 st2713 _ h2736) <| .cons h2731 <| .cons h2729 <| .cons h2727 <| .cons h2725 <| .cons h2721 <| .cons h2719 <| .cons h2717 <| .cons h2715 <| .cons (value_Compare_j11101001100100_ok R n hR x2705 x2706 i2708 st2709 _ h2711) <| .cons (decide_eq_true h2710) .nil)) (by kernel_rfl)
        · intro h
          obtain rfl := Option.some.inj h
          exact loop_done (runO_ok (hs := [.dec true, .into, .into, .run 2, .absG [2, 3, 6] .normal [(69, (.bool true))] st2713, .into, .val x2716, .val x2718, .run 1, .val x2720, .val (.str s2723), .val x2726, .val x2728, .run 1, .val x2730, .val (.str s2733), .call (.int .i64 i2735) st2713, .run 2, .dec true, .into, .run 2]) (want := [4]) (by kernel_rfl) (.cons (bneT h2737) <| .cons (strings_Compare_ok R.n n s2723 s2733 st2713 _ h2736) <| .cons h2731 <| .cons h2729 <| .cons h2727 <| .cons h2725 <| .cons h2721 <| .cons h2719 <| .cons h2717 <| .cons h2715 <| .cons (value_Compare_j11101001100100_ok R n hR x2705 x2706 i2708 st2709 _ h2711) <| .cons (decide_eq_true h2710) .nil)) (by kernel_rfl)
      · obtain rfl := bF h2714
        refine bindE fun x2773 h2772 => ?_
        refine bindE fun x2775 h2774 => ?_
        refine bindE fun x2777 h2776 => ?_
        refine bindE fun x2779 h2778 => ?_
        refine bindE fun o h2786 => ?_
        obtain ⟨i2780, b2781, i2782, s2783, x2784, x2785⟩ := o
        obtain rfl := de_Ai64_b_i64_s_a_aZ_ok h2786
        refine bindE fun x2788 h2787 => ?_
        refine bindE fun x2790 h2789 => ?_
        refine bindE fun x2792 h2791 => ?_
        refine bindE fun x2794 h2793 => ?_
        refine bindE fun o h2801 => ?_
        obtain ⟨i2795, b2796, i2797, s2798, x2799, x2800⟩ := o
        obtain rfl := de_Ai64_b_i64_s_a_aZ_ok h2801
        refine bindE fun o h2803 => ?_
        obtain ⟨i2802, st2804⟩ := o
        refine iteE (fun h2805 => ?_) (fun h2805 => ?_)
        · intro h
          exact loop_more (runO_ok (hs := [.dec true, .into, .into, .run 2, .absG [2, 3, 6] .normal [(69, (.bool false))] st2713, .into, .val x2773, .val x2775, .run 1, .val x2777, .val (.agg [(.int .i64 i2780), (.bool b2781), (.int .i64 i2782), (.str s2783), x2784, x2785]), .val x2788, .val x2790, .run 1, .val x2792, .val (.agg [(.int .i64 i2795), (.bool b2796), (.int .i64 i2797), (.str s2798), x2799, x2800]), .call (.int .i64 i2802) st2804, .run 2, .dec false, .into, .run 2]) (want := [2, 3, 49, 50]) (by kernel_rfl) (.cons (bneF h2805) <| .cons (hR.h28 (n + 3) (by omega) i2780 b2781 i2782 s2783 x2784 x2785 i2795 b2796 i2797 s2798 x2799 x2800 st2713 _ h2803) <| .cons h2793 <| .cons h2791 <| .cons h2789 <| .cons h2787 <| .cons h2778 <| .cons h2776 <| .cons h2774 <| .cons h2772 <| .cons (value_Compare_j11101001100100_ok R n hR x2705 x2706 i2708 st2709 _ h2711) <| .cons (decide_eq_true h2710) .nil)) (ih (IntKind.wrap .i64 (i2708 + 1)) st2804 _ h)
        · intro h
          obtain rfl := Option.some.inj h
          exact loop_done (runO_ok (hs := [.dec true, .into, .into, .run 2, .absG [2, 3, 6] .normal [(69, (.bool false))] st2713, .into, .val x2773, .val x2775, .run 1, .val x2777, .val (.agg [(.int .i64 i2780), (.bool b2781), (.int .i64 i2782), (.str s2783), x2784, x2785]), .val x2788, .val x2790, .run 1, .val x2792, .val (.agg [(.int .i64 i2795), (.bool b2796), (.int .i64 i2797), (.str s2798), x2799, x2800]), .call (.int .i64 i2802) st2804, .run 2, .dec true, .into, .run 2]) (want := [4]) (by kernel_rfl) (.cons (bneT h2805) <| .cons (hR.h28 (n + 3) (by omega) i2780 b2781 i2782 s2783 x2784 x2785 i2795 b2796 i2797 s2798 x2799 x2800 st2713 _ h2803) <| .cons h2793 <| .cons h2791 <| .cons h2789 <| .cons h2787 <| .cons h2778 <| .cons h2776 <| .cons h2774 <| .cons h2772 <| .cons (value_Compare_j11101001100100_ok R n hR x2705 x2706 i2708 st2709 _ h2711) <| .cons (decide_eq_true h2710) .nil)) (by kernel_rfl)
    · intro h
      obtain rfl := Option.some.inj h
      exact loop_done (runO_ok (hs := [.dec false, .into]) (want := []) (by kernel_rfl) (.cons (decide_eq_false h2710) .nil)) (by kernel_rfl)

/- parchment/value.Compare -/
def value_Compare_n : Nat := 28
noncomputable def value_Compare (R : Rc28) (i2435 : Int) (b2436 : Bool) (i2437 : Int) (s2438 : List UInt8) (x2439 : AV) (x2440 : AV) (i2441 : Int) (b2442 : Bool) (i2443 : Int) (s2444 : List UInt8) (x2445 : AV) (x2446 : AV) (st2447 : St) : Option (Int × St) :=
  Option.bind (boxOp 25 (.agg [(.int .i64 i2435), (.bool b2436), (.int .i64 i2437), (.str s2438), x2439, x2440]) st2447) fun (x2450, st2449) =>
  Option.bind (boxOp 25 (.agg [(.int .i64 i2441), (.bool b2442), (.int .i64 i2443), (.str s2444), x2445, x2446]) st2449) fun (x2453, st2452) =>
  Option.bind (shift x2450 0) fun x2455 =>
  Option.bind (loadAt C0.P st2452 3 x2455) fun x2457 =>
  Option.bind (avInt .i64 x2457) fun i2458 =>
  Option.bind (shift x2453 0) fun x2461 =>
  Option.bind (loadAt C0.P st2452 3 x2461) fun x2463 =>
  Option.bind (avInt .i64 x2463) fun i2464 =>
  Option.bind (cmp_Compare_int_ R.n i2458 i2464) fun i2466 =>
  if (i2466 = 0) then
   if (i2458 = 1) then
    Option.bind (shift x2450 1) fun x2471 =>
    Option.bind (loadAt C0.P st2452 4 x2471) fun x2473 =>
    Option.bind (avBool x2473) fun b2474 =>
    Option.bind (shift x2453 1) fun x2477 =>
    Option.bind (loadAt C0.P st2452 4 x2477) fun x2479 =>
    Option.bind (avBool x2479) fun b2480 =>
    Option.bind (value_number R.n b2474) fun i2482 =>
    Option.bind (value_number R.n b2480) fun i2484 =>
    Option.bind (cmp_Compare_int_ R.n i2482 i2484) fun i2486 =>
    some (i2486, st2452)
   else
    if (i2458 = 2) then
     Option.bind (shift x2450 2) fun x2490 =>
     Option.bind (loadAt C0.P st2452 2 x2490) fun x2492 =>
     Option.bind (avInt .i64 x2492) fun i2493 =>
     Option.bind (shift x2453 2) fun x2496 =>
     Option.bind (loadAt C0.P st2452 2 x2496) fun x2498 =>
     Option.bind (avInt .i64 x2498) fun i2499 =>
     Option.bind (cmp_Compare_int64_ R.n i2493 i2499) fun i2501 =>
     some (i2501, st2452)
    else
     Option.bind (value_Compare_j11010111100 R i2458) fun b2510 =>
     Option.bind (value_Compare_c11010111101 R x2450 x2453 i2458 b2510) fun b2526 =>
     if b2526 = true then
      Option.bind (shift x2450 3) fun x2529 =>
      Option.bind (loadAt C0.P st2452 9 x2529) fun x2531 =>
      Option.bind (avStr x2531) fun s2532 =>
      Option.bind (shift x2453 3) fun x2535 =>
      Option.bind (loadAt C0.P st2452 9 x2535) fun x2537 =>
      Option.bind (avStr x2537) fun s2538 =>
      Option.bind (strings_Compare R.n s2532 s2538) fun i2540 =>
      some (i2540, st2452)
     else
      Option.bind (shift x2450 4) fun x2543 =>
      Option.bind (loadAt C0.P st2452 23 x2543) fun x2545 =>
      Option.bind (lenOf x2545) fun n2547 =>
      Option.bind (shift x2453 4) fun x2549 =>
      Option.bind (loadAt C0.P st2452 23 x2549) fun x2551 =>
      Option.bind (lenOf x2551) fun n2553 =>
      Option.bind (value_Compare_l111010 R x2450 x2453 (if (n2553 : Int) < (n2547 : Int) then (n2553 : Int) else (n2547 : Int)) R.n 0 st2452) fun o => match o with
      | .inl (i2807, st2808) =>
       some (i2807, st2808)
      | .inr st2809 =>
       Option.bind (loadAt C0.P st2809 23 x2543) fun x2811 =>
       Option.bind (lenOf x2811) fun n2813 =>
       Option.bind (loadAt C0.P st2809 23 x2549) fun x2815 =>
       Option.bind (lenOf x2815) fun n2817 =>
       Option.bind (cmp_Compare_int_ R.n (n2813 : Int) (n2817 : Int)) fun i2818 =>
       some (i2818, st2809)
  else
   some (i2466, st2452)
theorem value_Compare_ok (R : Rc28) (n : Nat) (hR : R.ok n) (i2435 : Int) (b2436 : Bool) (i2437 : Int) (s2438 : List UInt8) (x2439 : AV) (x2440 : AV) (i2441 : Int) (b2442 : Bool) (i2443 : Int) (s2444 : List UInt8) (x2445 : AV) (x2446 : AV) (st2447 : St) (r : Int × St) (h : value_Compare R i2435 b2436 i2437 s2438 x2439 x2440 i2441 b2442 i2443 s2444 x2445 x2446 st2447 = some r) :
    CallsTo (callK C0 ext0 R.n (n + 4)) false 28 [(.agg [(.int .i64 i2435), (.bool b2436), (.int .i64 i2437), (.str s2438), x2439, x2440]), (.agg [(.int .i64 i2441), (.bool b2442), (.int .i64 i2443), (.str s2444), x2445, x2446])] st2447 (.int .i64 r.1) r.2 := by
  revert h
  unfold value_Compare
  refine bindE fun o h2448 => ?_
  obtain ⟨x2450, st2449⟩ := o
  refine bindE fun o h2451 => ?_
  obtain ⟨x2453, st2452⟩ := o
  refine bindE fun x2455 h2454 => ?_
  refine bindE fun x2457 h2456 => ?_
  refine bindE fun i2458 h2459 => ?_
  obtain rfl := avInt_ok h2459
  refine bindE fun x2461 h2460 => ?_
  refine bindE fun x2463 h2462 => ?_
  refine bindE fun i2464 h2465 => ?_
  obtain rfl := avInt_ok h2465
  refine bindE fun i2466 h2467 => ?_
  refine iteE (fun h2468 => ?_) (fun h2468 => ?_)
  · refine iteE (fun h2469 => ?_) (fun h2469 => ?_)
    · refine bindE fun x2471 h2470 => ?_
      refine bindE fun x2473 h2472 => ?_
      refine bindE fun b2474 h2475 => ?_
      obtain rfl := avBool_ok h2475
      refine bindE fun x2477 h2476 => ?_
      refine bindE fun x2479 h2478 => ?_
      refine bindE fun b2480 h2481 => ?_
      obtain rfl := avBool_ok h2481
      refine bindE fun i2482 h2483 => ?_
      refine bindE fun i2484 h2485 => ?_
      refine bindE fun i2486 h2487 => ?_
      intro h
      obtain rfl := Option.some.inj h
      exact callO_ok (hs := [.eff x2450 st2449, .eff x2453 st2452, .run 1, .val x2455, .val (.int .i64 i2458), .val x2461, .val (.int .i64 i2464), .call (.int .i64 i2466) st2452, .run 2, .dec false, .into, .val x2455, .val (.int .i64 i2458), .into, .dec true, .run 1, .into, .val x2471, .val (.bool b2474), .val x2477, .val (.bool b2480), .call (.int .i64 i2482) st2452, .call (.int .i64 i2484) st2452, .call (.int .i64 i2486) st2452, .run 1]) (by kernel_rfl) (.cons (cmp_Compare_int__ok R.n (n + 1) i2482 i2484 st2452 _ h2487) <| .cons (value_number_ok R.n (n + 2) b2480 st2452 _ h2485) <| .cons (And.intro h2478 (beq_bool b2480)) <| .cons (value_number_ok R.n (n + 2) b2474 st2452 _ h2483) <| .cons h2478 <| .cons h2476 <| .cons h2472 <| .cons h2470 <| .cons (beqT h2469) <| .cons h2456 <| .cons h2454 <| .cons (bneF h2468) <| .cons (cmp_Compare_int__ok R.n (n + 1) i2458 i2464 st2452 _ h2467) <| .cons h2462 <| .cons h2460 <| .cons h2456 <| .cons h2454 <| .cons (box_ok h2451) <| .cons (box_ok h2448) .nil) (by kernel_rfl) (by kernel_rfl)
    · refine iteE (fun h2488 => ?_) (fun h2488 => ?_)
      · refine bindE fun x2490 h2489 => ?_
        refine bindE fun x2492 h2491 => ?_
        refine bindE fun i2493 h2494 => ?_
        obtain rfl := avInt_ok h2494
        refine bindE fun x2496 h2495 => ?_
        refine bindE fun x2498 h2497 => ?_
        refine bindE fun i2499 h2500 => ?_
        obtain rfl := avInt_ok h2500
        refine bindE fun i2501 h2502 => ?_
        intro h
        obtain rfl := Option.some.inj h
        exact callO_ok (hs := [.eff x2450 st2449, .eff x2453 st2452, .run 1, .val x2455, .val (.int .i64 i2458), .val x2461, .val (.int .i64 i2464), .call (.int .i64 i2466) st2452, .run 2, .dec false, .into, .val x2455, .val (.int .i64 i2458), .into, .dec false, .run 1, .into, .dec true, .run 1, .into, .val x2490, .val (.int .i64 i2493), .val x2496, .val (.int .i64 i2499), .call (.int .i64 i2501) st2452, .run 1]) (by kernel_rfl) (.cons (cmp_Compare_int64__ok R.n (n + 1) i2493 i2499 st2452 _ h2502) <| .cons h2497 <| .cons h2495 <| .cons h2491 <| .cons h2489 <| .cons (beqT h2488) <| .cons (beqF h2469) <| .cons h2456 <| .cons h2454 <| .cons (bneF h2468) <| .cons (cmp_Compare_int__ok R.n (n + 1) i2458 i2464 st2452 _ h2467) <| .cons h2462 <| .cons h2460 <| .cons h2456 <| .cons h2454 <| .cons (box_ok h2451) <| .cons (box_ok h2448) .nil) (by kernel_rfl) (by kernel_rfl)
      · refine bindE fun b2510 h2509 => ?_
        refine bindE fun b2526 h2525 => ?_
        refine iteE (fun h2527 => ?_) (fun h2527 => ?_)
        · subst h2527
          refine bindE fun x2529 h2528 => ?_
          refine bindE fun x2531 h2530 => ?_
          refine bindE fun s2532 h2533 => ?_
          obtain rfl := avStr_ok h2533
          refine bindE fun x2535 h2534 => ?_
          refine bindE fun x2537 h2536 => ?_
          refine bindE fun s2538 h2539 => ?_
          obtain rfl := avStr_ok h2539
          refine bindE fun i2540 h2541 => ?_
          intro h
          obtain rfl := Option.some.inj h
          exact callO_ok (hs := [.eff x2450 st2449, .eff x2453 st2452, .run 1, .val x2455, .val (.int .i64 i2458), .val x2461, .val (.int .i64 i2464), .call (.int .i64 i2466) st2452, .run 2, .dec false, .into, .val x2455, .val (.int .i64 i2458), .into, .dec false, .run 1, .into, .dec false, .run 1, .into, .absG [18] .normal [(35, (.bool b2510))] st2452, .absC [2, 3, 18, 35] .normal [(35, (.bool true))] st2452, .into, .val x2529, .val (.str s2532), .val x2535, .val (.str s2538), .call (.int .i64 i2540) st2452, .run 1]) (by kernel_rfl) (.cons (strings_Compare_ok R.n n s2532 s2538 st2452 _ h2541) <| .cons h2536 <| .cons h2534 <| .cons h2530 <| .cons h2528 <| .cons (value_Compare_c11010111101_ok R n hR x2450 x2453 i2458 b2510 st2452 _ h2525) <| .cons (value_Compare_j11010111100_ok R n hR i2458 st2452 _ h2509) <| .cons (beqF h2488) <| .cons (beqF h2469) <| .cons h2456 <| .cons h2454 <| .cons (bneF h2468) <| .cons (cmp_Compare_int__ok R.n (n + 1) i2458 i2464 st2452 _ h2467) <| .cons h2462 <| .cons h2460 <| .cons h2456 <| .cons h2454 <| .cons (box_ok h2451) <| .cons (box_ok h2448) .nil) (by kernel_rfl) (by kernel_rfl)
        · obtain rfl := bF h2527
          refine bindE fun x2543 h2542 => ?_
          refine bindE fun x2545 h2544 => ?_
          refine bindE fun n2547 h2546 => ?_
          refine bindE fun x2549 h2548 => ?_
          refine bindE fun x2551 h2550 => ?_
          refine bindE fun n2553 h2552 => ?_
          refine bindE fun o h2806 => ?_
          rcases o with ⟨i2807, st2808⟩ | st2809
          · intro h
            obtain rfl := Option.some.inj h
            exact callO_ok (hs := [.eff x2450 st2449, .eff x2453 st2452, .run 1, .val x2455, .val (.int .i64 i2458), .val x2461, .val (.int .i64 i2464), .call (.int .i64 i2466) st2452, .run 2, .dec false, .into, .val x2455, .val (.int .i64 i2458), .into, .dec false, .run 1, .into, .dec false, .run 1, .into, .absG [18] .normal [(35, (.bool b2510))] st2452, .absC [2, 3, 18, 35] .normal [(35, (.bool false))] st2452, .into, .val x2543, .val x2545, .val (.int .i64 (n2547 : Int)), .val x2549, .val x2551, .val (.int .i64 (n2553 : Int)), .run 2, .into, .abs [2, 3, 49, 50] .ret [(4, (.int .i64 i2807))] st2808]) (by kernel_rfl) (.cons (loop_leads (value_Compare_l111010_ok R n hR x2450 x2453 (if (n2553 : Int) < (n2547 : Int) then (n2553 : Int) else (n2547 : Int)) R.n 0 st2452 _ h2806)) <| .cons (len_ok (P := C0.P) (t := 23) (e := 25) (by kernel_rfl) h2552) <| .cons h2550 <| .cons h2548 <| .cons (len_ok (P := C0.P) (t := 23) (e := 25) (by kernel_rfl) h2546) <| .cons h2544 <| .cons h2542 <| .cons (value_Compare_c11010111101_ok R n hR x2450 x2453 i2458 b2510 st2452 _ h2525) <| .cons (value_Compare_j11010111100_ok R n hR i2458 st2452 _ h2509) <| .cons (beqF h2488) <| .cons (beqF h2469) <| .cons h2456 <| .cons h2454 <| .cons (bneF h2468) <| .cons (cmp_Compare_int__ok R.n (n + 1) i2458 i2464 st2452 _ h2467) <| .cons h2462 <| .cons h2460 <| .cons h2456 <| .cons h2454 <| .cons (box_ok h2451) <| .cons (box_ok h2448) .nil) (by kernel_rfl) (by kernel_rfl)
          · refine bindE fun x2811 h2810 => ?_
            refine bindE fun n2813 h2812 => ?_
            refine bindE fun x2815 h2814 => ?_
            refine bindE fun n2817 h2816 => ?_
            refine bindE fun i2818 h2819 => ?_
            intro h
            obtain rfl := Option.some.inj h
            exact callO_ok (hs := [.eff x2450 st2449, .eff x2453 st2452, .run 1, .val x2455, .val (.int .i64 i2458), .val x2461, .val (.int .i64 i2464), .call (.int .i64 i2466) st2452, .run 2, .dec false, .into, .val x2455, .val (.int .i64 i2458), .into, .dec false, .run 1, .into, .dec false, .run 1, .into, .absG [18] .normal [(35, (.bool b2510))] st2452, .absC [2, 3, 18, 35] .normal [(35, (.bool false))] st2452, .into, .val x2543, .val x2545, .val (.int .i64 (n2547 : Int)), .val x2549, .val x2551, .val (.int .i64 (n2553 : Int)), .run 2, .into, .abs [2, 3, 49, 50] (.exit 1) [] st2809, .val x2543, .val x2811, .val (.int .i64 (n2813 : Int)), .val x2549, .val x2815, .val (.int .i64 (n2817 : Int)), .call (.int .i64 i2818) st2809, .run 1]) (by kernel_rfl) (.cons (cmp_Compare_int__ok R.n (n + 1) (n2813 : Int) (n2817 : Int) st2809 _ h2819) <| .cons (len_ok (P := C0.P) (t := 23) (e := 25) (by kernel_rfl) h2816) <| .cons h2814 <| .cons h2548 <| .cons (len_ok (P := C0.P) (t := 23) (e := 25) (by kernel_rfl) h2812) <| .cons h2810 <| .cons h2542 <| .cons (loop_leads (value_Compare_l111010_ok R n hR x2450 x2453 (if (n2553 : Int) < (n2547 : Int) then (n2553 : Int) else (n2547 : Int)) R.n 0 st2452 _ h2806)) <| .cons (len_ok (P := C0.P) (t := 23) (e := 25) (by kernel_rfl) h2552) <| .cons h2550 <| .cons h2548 <| .cons (len_ok (P := C0.P) (t := 23) (e := 25) (by kernel_rfl) h2546) <| .cons h2544 <| .cons h2542 <| .cons (value_Compare_c11010111101_ok R n hR x2450 x2453 i2458 b2510 st2452 _ h2525) <| .cons (value_Compare_j11010111100_ok R n hR i2458 st2452 _ h2509) <| .cons (beqF h2488) <| .cons (beqF h2469) <| .cons h2456 <| .cons h2454 <| .cons (bneF h2468) <| .cons (cmp_Compare_int__ok R.n (n + 1) i2458 i2464 st2452 _ h2467) <| .cons h2462 <| .cons h2460 <| .cons h2456 <| .cons h2454 <| .cons (box_ok h2451) <| .cons (box_ok h2448) .nil) (by kernel_rfl) (by kernel_rfl)
  · intro h
    obtain rfl := Option.some.inj h
    exact callO_ok (hs := [.eff x2450 st2449, .eff x2453 st2452, .run 1, .val x2455, .val (.int .i64 i2458), .val x2461, .val (.int .i64 i2464), .call (.int .i64 i2466) st2452, .run 2, .dec true, .into, .run 2]) (by kernel_rfl) (.cons (bneT h2468) <| .cons (cmp_Compare_int__ok R.n (n + 1) i2458 i2464 st2452 _ h2467) <| .cons h2462 <| .cons h2460 <| .cons h2456 <| .cons h2454 <| .cons (box_ok h2451) <| .cons (box_ok h2448) .nil) (by kernel_rfl) (by kernel_rfl)

noncomputable def rc28 (R : Nat) : Nat → Rc28
  | 0 => ⟨R, (fun _ _ _ _ _ _ _ _ _ _ _ _ _ => none)⟩
  | k + 1 => ⟨R, (fun a0 a1 a2 a3 a4 a5 a6 a7 a8 a9 a10 a11 st => value_Compare (rc28 R k) a0 a1 a2 a3 a4 a5 a6 a7 a8 a9 a10 a11 st)⟩
theorem rc28_n (R : Nat) : ∀ k, (rc28 R k).n = R
  | 0 => rfl
  | _ + 1 => rfl
theorem rc28_ok (R : Nat) : ∀ k n, 4 * k ≤ n → (rc28 R k).ok n
  | 0, n, _ => (fun _ _ _ _ _ _ _ _ _ _ _ _ _ _ _ _ h => nomatch h)
  | k + 1, n, hn => 
    fun m hm a0 a1 a2 a3 a4 a5 a6 a7 a8 a9 a10 a11 st r h => by
      obtain ⟨j, rfl⟩ : ∃ j, m = j + 4 := ⟨m - 4, by omega⟩
      have := value_Compare_ok (rc28 R k) j (rc28_ok R k j (by omega)) a0 a1 a2 a3 a4 a5 a6 a7 a8 a9 a10 a11 st r h
      rw [rc28_n] at this
      exact this
noncomputable def value_Compare_top (R : Nat) (a0 : Int) (a1 : Bool) (a2 : Int) (a3 : List UInt8) (a4 : AV) (a5 : AV) (a6 : Int) (a7 : Bool) (a8 : Int) (a9 : List UInt8) (a10 : AV) (a11 : AV) (st : St) : Option (Int × St) := value_Compare (rc28 R 4000) a0 a1 a2 a3 a4 a5 a6 a7 a8 a9 a10 a11 st
theorem value_Compare_top_ok (R n : Nat) (a0 : Int) (a1 : Bool) (a2 : Int) (a3 : List UInt8) (a4 : AV) (a5 : AV) (a6 : Int) (a7 : Bool) (a8 : Int) (a9 : List UInt8) (a10 : AV) (a11 : AV) (st : St) (r : Int × St) (h : value_Compare_top R a0 a1 a2 a3 a4 a5 a6 a7 a8 a9 a10 a11 st = some r) : CallsTo (callK C0 ext0 R (n + 16004)) false 28 [(.agg [.int .i64 a0, .bool a1, .int .i64 a2, .str a3, a4, a5]), (.agg [.int .i64 a6, .bool a7, .int .i64 a8, .str a9, a10, a11])] st (.int .i64 r.1) r.2 := by
  have := value_Compare_ok (rc28 R 4000) (n + 16000) (rc28_ok R 4000 _ (by omega)) a0 a1 a2 a3 a4 a5 a6 a7 a8 a9 a10 a11 st r h
  rw [rc28_n] at this
  exact this

/-- A group of functions that call one another: how many rounds, what they come to. -/
structure Rc19 where
  n : Nat
  f19 : Int → Bool → Int → List UInt8 → AV → AV → St → Option (Int × Bool × Int × List UInt8 × AV × AV × St)
def Rc19.ok (R : Rc19) (n : Nat) : Prop := (∀ m, n ≤ m → ∀ (a0 : Int) (a1 : Bool) (a2 : Int) (a3 : List UInt8) (a4 : AV) (a5 : AV) (st : St) (r : Int × Bool × Int × List UInt8 × AV × AV × St), R.f19 a0 a1 a2 a3 a4 a5 st = some r → CallsTo (callK C0 ext0 R.n m) false 19 [(.agg [.int .i64 a0, .bool a1, .int .i64 a2, .str a3, a4, a5])] st (.agg [.int .i64 r.1, .bool r.2.1, .int .i64 r.2.2.1, .str r.2.2.2.1, r.2.2.2.2.1, r.2.2.2.2.2.1]) r.2.2.2.2.2.2)
theorem Rc19.ok.h19 {R : Rc19} {n : Nat} (h : R.ok n) : (∀ m, n ≤ m → ∀ (a0 : Int) (a1 : Bool) (a2 : Int) (a3 : List UInt8) (a4 : AV) (a5 : AV) (st : St) (r : Int × Bool × Int × List UInt8 × AV × AV × St), R.f19 a0 a1 a2 a3 a4 a5 st = some r → CallsTo (callK C0 ext0 R.n m) false 19 [(.agg [.int .i64 a0, .bool a1, .int .i64 a2, .str a3, a4, a5])] st (.agg [.int .i64 r.1, .bool r.2.1, .int .i64 r.2.2.1, .str r.2.2.2.1, r.2.2.2.2.1, r.2.2.2.2.2.1]) r.2.2.2.2.2.2) := h
theorem Rc19.ok.mono {R : Rc19} {n m : Nat} (h : R.ok n) (hn : n ≤ m) : R.ok m := fun k hk => h.h19 k (Nat.le_trans hn hk)

noncomputable def parchmentlaw03_Ref_c11010010 (R : Rc19) (x2924 : AV) (d2925 : Nat) (d2926 : Nat) (i2927 : Int) (st2928 : St) : Option (St) :=
  Option.bind (loadAt C0.P st2928 46 (.ref d2926 4)) fun x2930 =>
  Option.bind (shift x2924 4) fun x2932 =>
  Option.bind (loadAt C0.P st2928 23 x2932) fun x2934 =>
  Option.bind (indexAddrOp C0.P 23 x2934 (.int .i64 i2927)) fun x2936 =>
  Option.bind (loadAt C0.P st2928 25 x2936) fun x2938 =>
  Option.bind (de_Ai64_b_i64_s_a_aZ x2938) fun (i2939, b2940, i2941, s2942, x2943, x2944) =>
  Option.bind (R.f19 i2939 b2940 i2941 s2942 x2943 x2944 st2928) fun (i2946, b2947, i2948, s2949, x2950, x2951, st2953) =>
  Option.bind (loadAt C0.P st2953 46 (.ref d2926 4)) fun x2954 =>
  if AV.beq x2954 x2930 = true then
   Option.bind (mkNew (buildSliceOp C0.P (C0.byref 19) 46 1 [(0, (.agg [(.int .i64 i2946), (.bool b2947), (.int .i64 i2948), (.str s2949), x2950, x2951]))]) st2953) fun (x2959, st2958) =>
   Option.bind (appendOp C0.P (C0.byref 19) st2958 #[46, 46] x2930 x2959) fun (x2962, st2961) =>
   Option.bind (storeAt C0.P st2961 46 (.ref d2926 4) x2962) fun st2964 =>
   some st2964
  else
   none
theorem parchmentlaw03_Ref_c11010010_ok (R : Rc19) (n : Nat) (hR : R.ok n) (x2924 : AV) (d2925 : Nat) (d2926 : Nat) (i2927 : Int) (st2928 : St) (r : St) (h : parchmentlaw03_Ref_c11010010 R x2924 d2925 d2926 i2927 st2928 = some r) :
    Leads 35 (execK C0 (callK C0 ext0 R.n n) 19 R.n none (codeAt C0.P 19 [1, 1, 0, 1, 0, 0, 1, 0])) (modsOf (codeAt C0.P 19 [1, 1, 0, 1, 0, 0, 1, 0])) [(1, x2924), (2, (.ref d2925 0)), (3, (.ref d2926 0)), (4, (.int .i64 i2927))] st2928 .normal [] r := by
  revert h
  unfold parchmentlaw03_Ref_c11010010
  refine bindE fun x2930 h2929 => ?_
  refine bindE fun x2932 h2931 => ?_
  refine bindE fun x2934 h2933 => ?_
  refine bindE fun x2936 h2935 => ?_
  refine bindE fun x2938 h2937 => ?_
  refine bindE fun o h2945 => ?_
  obtain ⟨i2939, b2940, i2941, s2942, x2943, x2944⟩ := o
  obtain rfl := de_Ai64_b_i64_s_a_aZ_ok h2945
  refine bindE fun o h2952 => ?_
  obtain ⟨i2946, b2947, i2948, s2949, x2950, x2951, st2953⟩ := o
  refine bindE fun x2954 h2955 => ?_
  refine iteE (fun h2956 => ?_) (fun h2956 => ?_)
  · refine bindE fun o h2957 => ?_
    obtain ⟨x2959, st2958⟩ := o
    refine bindE fun o h2960 => ?_
    obtain ⟨x2962, st2961⟩ := o
    refine bindE fun st2964 h2963 => ?_
    intro h
    obtain rfl := Option.some.inj h
    exact runO_ok (hs := [.into, .run 1, .val x2930, .val x2932, .val x2934, .run 1, .val x2936, .val (.agg [(.int .i64 i2939), (.bool b2940), (.int .i64 i2941), (.str s2942), x2943, x2944]), .call (.agg [(.int .i64 i2946), (.bool b2947), (.int .i64 i2948), (.str s2949), x2950, x2951]) st2953, .eff x2959 st2958, .eff x2962 st2961, .run 1, .eff AV.undef st2964]) (want := []) (by kernel_rfl) (.cons (sto_ok h2963) <| .cons h2960 <| .cons h2957 <| .cons (ask_ok h2955 h2956) <| .cons (hR.h19 n (by omega) i2939 b2940 i2941 s2942 x2943 x2944 st2928 _ h2952) <| .cons h2937 <| .cons h2935 <| .cons h2933 <| .cons h2931 <| .cons h2929 .nil)
  · exact fun h => nomatch h

noncomputable def parchmentlaw03_Ref_l11010 (R : Rc19) (x2967 : AV) (d2968 : Nat) (d2969 : Nat) : Nat → Int → St → Option ((St))
  | 0, _, _ => none
  | r + 1, i2970, st2971 =>
    Option.bind (shift x2967 4) fun x2973 =>
    Option.bind (loadAt C0.P st2971 23 x2973) fun x2975 =>
    Option.bind (lenOf x2975) fun n2977 =>
    if (i2970 < (n2977 : Int)) then
     Option.bind (parchmentlaw03_Ref_c11010010 R x2967 d2968 d2969 i2970 st2971) fun st2980 =>
     parchmentlaw03_Ref_l11010 R x2967 d2968 d2969 r (IntKind.wrap .i64 (i2970 + 1)) st2980
    else
     some st2971
noncomputable def parchmentlaw03_Ref_l11010_x (o : (St)) : AExit × List (Nat × AV) × St := match o with
  | a0 => ((.exit 0), [], a0)
theorem parchmentlaw03_Ref_l11010_ok (R : Rc19) (n : Nat) (hR : R.ok n) (x2967 : AV) (d2968 : Nat) (d2969 : Nat) : ∀ (r : Nat) (i2970 : Int) (st2971 : St) (o : (St)), parchmentlaw03_Ref_l11010 R x2967 d2968 d2969 r i2970 st2971 = some o →
    Leads 35 (loopK (fun fr k => execK C0 (callK C0 ext0 R.n n) 19 R.n none (codeAt C0.P 19 [1, 1, 0, 1, 0, 0]) fr k) r) (modsOf (codeAt C0.P 19 [1, 1, 0, 1, 0, 0])) [(1, x2967), (2, (.ref d2968 0)), (3, (.ref d2969 0)), (4, (.int .i64 i2970))] st2971 (parchmentlaw03_Ref_l11010_x o).1 (parchmentlaw03_Ref_l11010_x o).2.1 (parchmentlaw03_Ref_l11010_x o).2.2 := by
  intro r
  induction r with
  | zero => intro i2970 st2971 o h; exact nomatch h
  | succ r ih =>
    intro i2970 st2971 o
    unfold parchmentlaw03_Ref_l11010
    refine bindE fun x2973 h2972 => ?_
    refine bindE fun x2975 h2974 => ?_
    refine bindE fun n2977 h2976 => ?_
    refine iteE (fun h2978 => ?_) (fun h2978 => ?_)
    · refine bindE fun st2980 h2979 => ?_
      intro h
      exact loop_more (runO_ok (hs := [.run 1, .val x2973, .val x2975, .val (.int .i64 (n2977 : Int)), .dec true, .into, .absB [1, 2, 3, 4] .normal [] st2980, .run 3]) (want := [1, 2, 3, 4]) (by kernel_rfl) (.cons (parchmentlaw03_Ref_c11010010_ok R n hR x2967 d2968 d2969 i2970 st2971 _ h2979) <| .cons (decide_eq_true h2978) <| .cons (len_ok (P := C0.P) (t := 23) (e := 25) (by kernel_rfl) h2976) <| .cons h2974 <| .cons h2972 .nil)) (ih (IntKind.wrap .i64 (i2970 + 1)) st2980 _ h)
    · intro h
      obtain rfl := Option.some.inj h
      exact loop_done (runO_ok (hs := [.run 1, .val x2973, .val x2975, .val (.int .i64 (n2977 : Int)), .dec false, .into]) (want := []) (by kernel_rfl) (.cons (decide_eq_false h2978) <| .cons (len_ok (P := C0.P) (t := 23) (e := 25) (by kernel_rfl) h2976) <| .cons h2974 <| .cons h2972 .nil)) (by kernel_rfl)

noncomputable def parchmentlaw03_Ref_c1101 (R : Rc19) (x2983 : AV) (d2984 : Nat) (d2985 : Nat) (st2986 : St) : Option (St) :=
  Option.bind (parchmentlaw03_Ref_l11010 R x2983 d2984 d2985 R.n 0 st2986) fun st2988 =>
  some st2988
theorem parchmentlaw03_Ref_c1101_ok (R : Rc19) (n : Nat) (hR : R.ok n) (x2983 : AV) (d2984 : Nat) (d2985 : Nat) (st2986 : St) (r : St) (h : parchmentlaw03_Ref_c1101 R x2983 d2984 d2985 st2986 = some r) :
    Leads 35 (execK C0 (callK C0 ext0 R.n n) 19 R.n none (codeAt C0.P 19 [1, 1, 0, 1])) (modsOf (codeAt C0.P 19 [1, 1, 0, 1])) [(1, x2983), (2, (.ref d2984 0)), (3, (.ref d2985 0)), (4, (.int .i64 0))] st2986 .normal [] r := by
  revert h
  unfold parchmentlaw03_Ref_c1101
  refine bindE fun st2988 h2987 => ?_
  intro h
  obtain rfl := Option.some.inj h
  exact runO_ok (hs := [.into, .abs [1, 2, 3, 4] (.exit 0) [] st2988]) (want := []) (by kernel_rfl) (.cons (loop_leads (parchmentlaw03_Ref_l11010_ok R n hR x2983 d2984 d2985 R.n 0 st2986 _ h2987)) .nil)

/- parchment/parchmentlaw03.Ref -/
def parchmentlaw03_Ref_n : Nat := 19
noncomputable def parchmentlaw03_Ref (R : Rc19) (i2826 : Int) (b2827 : Bool) (i2828 : Int) (s2829 : List UInt8) (x2830 : AV) (x2831 : AV) (st2832 : St) : Option (Int × Bool × Int × List UInt8 × AV × AV × St) :=
  Option.bind (boxOp 25 (.agg [(.int .i64 i2826), (.bool b2827), (.int .i64 i2828), (.str s2829), x2830, x2831]) st2832) fun (x2835, st2834) =>
  Option.bind (shift x2835 0) fun x2837 =>
  Option.bind (loadAt C0.P (St.push st2834 (.cells 48 true [(.int .i64 0), (.bool false), (.int .i64 0), (.str []), AV.snil, AV.snil])) 3 x2837) fun x2839 =>
  Option.bind (avInt .i64 x2839) fun i2840 =>
  Option.bind (shift x2835 1) fun x2843 =>
  Option.bind (loadAt C0.P (St.push st2834 (.cells 48 true [(.int .i64 0), (.bool false), (.int .i64 0), (.str []), AV.snil, AV.snil])) 4 x2843) fun x2845 =>
  Option.bind (avBool x2845) fun b2846 =>
  Option.bind (shift x2835 2) fun x2849 =>
  Option.bind (loadAt C0.P (St.push st2834 (.cells 48 true [(.int .i64 0), (.bool false), (.int .i64 0), (.str []), AV.snil, AV.snil])) 2 x2849) fun x2851 =>
  Option.bind (avInt .i64 x2851) fun i2852 =>
  Option.bind (shift x2835 3) fun x2855 =>
  Option.bind (loadAt C0.P (St.push st2834 (.cells 48 true [(.int .i64 0), (.bool false), (.int .i64 0), (.str []), AV.snil, AV.snil])) 9 x2855) fun x2857 =>
  Option.bind (avStr x2857) fun s2858 =>
  Option.bind (shift x2835 5) fun x2861 =>
  Option.bind (loadAt C0.P (St.push st2834 (.cells 48 true [(.int .i64 0), (.bool false), (.int .i64 0), (.str []), AV.snil, AV.snil])) 22 x2861) fun x2863 =>
  Option.bind (isOne x2863) fun _ =>
  Option.bind (storeAt C0.P (St.push (St.push st2834 (.cells 48 true [(.int .i64 0), (.bool false), (.int .i64 0), (.str []), AV.snil, AV.snil])) (.cells 48 true [(.int .i64 0), (.bool false), (.int .i64 0), (.str []), AV.snil, AV.snil])) 48 (.ref (St.next (St.push st2834 (.cells 48 true [(.int .i64 0), (.bool false), (.int .i64 0), (.str []), AV.snil, AV.snil]))) 0) (.agg [(.int .i64 i2840), (.bool b2846), (.int .i64 i2852), (.str s2858), AV.snil, x2863])) fun st2866 =>
  Option.bind (parchmentlaw03_Ref_c1101 R x2835 (St.next st2834) (St.next (St.push st2834 (.cells 48 true [(.int .i64 0), (.bool false), (.int .i64 0), (.str []), AV.snil, AV.snil]))) st2866) fun st2990 =>
  Option.bind (loadAt C0.P st2990 48 (.ref (St.next (St.push st2834 (.cells 48 true [(.int .i64 0), (.bool false), (.int .i64 0), (.str []), AV.snil, AV.snil]))) 0)) fun x2992 =>
  Option.bind (de_Ai64_b_i64_s_a_aZ x2992) fun (i2993, b2994, i2995, s2996, x2997, x2998) =>
  Option.bind (storeAt C0.P st2990 48 (.ref (St.next st2834) 0) (.agg [(.int .i64 i2993), (.bool b2994), (.int .i64 i2995), (.str s2996), x2997, x2998])) fun st3001 =>
  Option.bind (loadAt C0.P st3001 48 (.ref (St.next st2834) 0)) fun x3003 =>
  Option.bind (de_Ai64_b_i64_s_a_aZ x3003) fun (i3004, b3005, i3006, s3007, x3008, x3009) =>
  some (i3004, b3005, i3006, s3007, x3008, x3009, st3001)
theorem parchmentlaw03_Ref_ok (R : Rc19) (n : Nat) (hR : R.ok n) (i2826 : Int) (b2827 : Bool) (i2828 : Int) (s2829 : List UInt8) (x2830 : AV) (x2831 : AV) (st2832 : St) (r : Int × Bool × Int × List UInt8 × AV × AV × St) (h : parchmentlaw03_Ref R i2826 b2827 i2828 s2829 x2830 x2831 st2832 = some r) :
    CallsTo (callK C0 ext0 R.n (n + 1)) false 19 [(.agg [(.int .i64 i2826), (.bool b2827), (.int .i64 i2828), (.str s2829), x2830, x2831])] st2832 (.agg [.int .i64 r.1, .bool r.2.1, .int .i64 r.2.2.1, .str r.2.2.2.1, r.2.2.2.2.1, r.2.2.2.2.2.1]) r.2.2.2.2.2.2 := by
  revert h
  unfold parchmentlaw03_Ref
  refine bindE fun o h2833 => ?_
  obtain ⟨x2835, st2834⟩ := o
  refine bindE fun x2837 h2836 => ?_
  refine bindE fun x2839 h2838 => ?_
  refine bindE fun i2840 h2841 => ?_
  obtain rfl := avInt_ok h2841
  refine bindE fun x2843 h2842 => ?_
  refine bindE fun x2845 h2844 => ?_
  refine bindE fun b2846 h2847 => ?_
  obtain rfl := avBool_ok h2847
  refine bindE fun x2849 h2848 => ?_
  refine bindE fun x2851 h2850 => ?_
  refine bindE fun i2852 h2853 => ?_
  obtain rfl := avInt_ok h2853
  refine bindE fun x2855 h2854 => ?_
  refine bindE fun x2857 h2856 => ?_
  refine bindE fun s2858 h2859 => ?_
  obtain rfl := avStr_ok h2859
  refine bindE fun x2861 h2860 => ?_
  refine bindE fun x2863 h2862 => ?_
  refine bindE fun _o h2864 => ?_
  refine bindE fun st2866 h2865 => ?_
  refine bindE fun st2990 h2989 => ?_
  refine bindE fun x2992 h2991 => ?_
  refine bindE fun o h2999 => ?_
  obtain ⟨i2993, b2994, i2995, s2996, x2997, x2998⟩ := o
  obtain rfl := de_Ai64_b_i64_s_a_aZ_ok h2999
  refine bindE fun st3001 h3000 => ?_
  refine bindE fun x3003 h3002 => ?_
  refine bindE fun o h3010 => ?_
  obtain ⟨i3004, b3005, i3006, s3007, x3008, x3009⟩ := o
  obtain rfl := de_Ai64_b_i64_s_a_aZ_ok h3010
  intro h
  obtain rfl := Option.some.inj h
  exact callO_ok (hs := [.eff x2835 st2834, .run 1, .val x2837, .val (.int .i64 i2840), .val x2843, .val (.bool b2846), .val x2849, .val (.int .i64 i2852), .val x2855, .val (.str s2858), .val x2861, .val x2863, .cel [[(.int .i64 i2840)], [(.bool b2846)], [(.int .i64 i2852)], [(.str s2858)], [x2863]], .run 1, .eff AV.undef st2866, .run 1, .absB [1, 2, 3, 4] .normal [] st2990, .val (.agg [(.int .i64 i2993), (.bool b2994), (.int .i64 i2995), (.str s2996), x2997, x2998]), .eff AV.undef st3001, .val (.agg [(.int .i64 i3004), (.bool b3005), (.int .i64 i3006), (.str s3007), x3008, x3009])]) (by kernel_rfl) (.cons h3002 <| .cons (sto_ok h3000) <| .cons h2991 <| .cons (parchmentlaw03_Ref_c1101_ok R n hR x2835 (St.next st2834) (St.next (St.push st2834 (.cells 48 true [(.int .i64 0), (.bool false), (.int .i64 0), (.str []), AV.snil, AV.snil]))) st2866 _ h2989) <| .cons (sto_ok h2865) <| .cons (cellsC (rfl : AV.cells (.int .i64 i2840) = [(.int .i64 i2840)]) (cellsC (rfl : AV.cells (.bool b2846) = [(.bool b2846)]) (cellsC (rfl : AV.cells (.int .i64 i2852) = [(.int .i64 i2852)]) (cellsC (rfl : AV.cells (.str s2858) = [(.str s2858)]) (cellsC (isOne_ok h2864) (cellsN)))))) <| .cons h2862 <| .cons h2860 <| .cons h2856 <| .cons h2854 <| .cons h2850 <| .cons h2848 <| .cons h2844 <| .cons h2842 <| .cons h2838 <| .cons h2836 <| .cons (box_ok h2833) .nil) (by kernel_rfl) (by kernel_rfl)

noncomputable def rc19 (R : Nat) : Nat → Rc19
  | 0 => ⟨R, (fun _ _ _ _ _ _ _ => none)⟩
  | k + 1 => ⟨R, (fun a0 a1 a2 a3 a4 a5 st => parchmentlaw03_Ref (rc19 R k) a0 a1 a2 a3 a4 a5 st)⟩
theorem rc19_n (R : Nat) : ∀ k, (rc19 R k).n = R
  | 0 => rfl
  | _ + 1 => rfl
theorem rc19_ok (R : Nat) : ∀ k n, 1 * k ≤ n → (rc19 R k).ok n
  | 0, n, _ => (fun _ _ _ _ _ _ _ _ _ _ h => nomatch h)
  | k + 1, n, hn => 
    fun m hm a0 a1 a2 a3 a4 a5 st r h => by
      obtain ⟨j, rfl⟩ : ∃ j, m = j + 1 := ⟨m - 1, by omega⟩
      have := parchmentlaw03_Ref_ok (rc19 R k) j (rc19_ok R k j (by omega)) a0 a1 a2 a3 a4 a5 st r h
      rw [rc19_n] at this
      exact this
noncomputable def parchmentlaw03_Ref_top (R : Nat) (a0 : Int) (a1 : Bool) (a2 : Int) (a3 : List UInt8) (a4 : AV) (a5 : AV) (st : St) : Option (Int × Bool × Int × List UInt8 × AV × AV × St) := parchmentlaw03_Ref (rc19 R 4000) a0 a1 a2 a3 a4 a5 st
theorem parchmentlaw03_Ref_top_ok (R n : Nat) (a0 : Int) (a1 : Bool) (a2 : Int) (a3 : List UInt8) (a4 : AV) (a5 : AV) (st : St) (r : Int × Bool × Int × List UInt8 × AV × AV × St) (h : parchmentlaw03_Ref_top R a0 a1 a2 a3 a4 a5 st = some r) : CallsTo (callK C0 ext0 R (n + 4001)) false 19 [(.agg [.int .i64 a0, .bool a1, .int .i64 a2, .str a3, a4, a5])] st (.agg [.int .i64 r.1, .bool r.2.1, .int .i64 r.2.2.1, .str r.2.2.2.1, r.2.2.2.2.1, r.2.2.2.2.2.1]) r.2.2.2.2.2.2 := by
  have := parchmentlaw03_Ref_ok (rc19 R 4000) (n + 4000) (rc19_ok R 4000 _ (by omega)) a0 a1 a2 a3 a4 a5 st r h
  rw [rc19_n] at this
  exact this

noncomputable def parchmentlaw04_eight_c11010010 (R : Nat) (i3032 : Int) (s3033 : List UInt8) (i3034 : Int) (st3035 : St) : Option (Int × List UInt8 × St) :=
  Option.bind (mkNew (buildSliceOp C0.P (C0.byref 45) 90 1 [(0, (.int .u8 (IntKind.wrap .u8 (Int.tmod i3032 256))))]) st3035) fun (x3038, st3037) =>
  Option.bind (strOf st3037 x3038) fun s3040 =>
  Option.bind (catS s3040 s3033) fun s3042 =>
  some ((IntKind.wrap .u64 (Int.tdiv i3032 256)), s3042, st3037)
theorem parchmentlaw04_eight_c11010010_ok (R n : Nat) (i3032 : Int) (s3033 : List UInt8) (i3034 : Int) (st3035 : St) (r : Int × List UInt8 × St) (h : parchmentlaw04_eight_c11010010 R i3032 s3033 i3034 st3035 = some r) :
    Leads 19 (execK C0 (callK C0 ext0 R n) 45 R none (codeAt C0.P 45 [1, 1, 0, 1, 0, 0, 1, 0])) (modsOf (codeAt C0.P 45 [1, 1, 0, 1, 0, 0, 1, 0])) [(0, (.int .u64 i3032)), (3, (.str s3033)), (4, (.int .i64 i3034))] st3035 .normal [(0, .int .u64 r.1), (3, .str r.2.1)] r.2.2 := by
  revert h
  unfold parchmentlaw04_eight_c11010010
  refine bindE fun o h3036 => ?_
  obtain ⟨x3038, st3037⟩ := o
  refine bindE fun s3040 h3039 => ?_
  refine bindE fun s3042 h3041 => ?_
  intro h
  obtain rfl := Option.some.inj h
  exact runO_ok (hs := [.into, .run 3, .eff x3038 st3037, .val (.str s3040), .run 1, .val (.str s3042), .run 4]) (want := [0, 3]) (by kernel_rfl) (.cons (cat_ok h3041) <| .cons (strOf_ok h3039) <| .cons h3036 .nil)

noncomputable def parchmentlaw04_eight_l11010 (R : Nat) : Nat → Int → List UInt8 → Int → St → Option ((List UInt8 × St))
  | 0, _, _, _, _ => none
  | r + 1, i3047, s3048, i3049, st3050 =>
    if (i3049 < 8) then
     Option.bind (parchmentlaw04_eight_c11010010 R i3047 s3048 i3049 st3050) fun (i3053, s3054, st3055) =>
     parchmentlaw04_eight_l11010 R r i3053 s3054 (IntKind.wrap .i64 (i3049 + 1)) st3055
    else
     some (s3048, st3050)
noncomputable def parchmentlaw04_eight_l11010_x (o : (List UInt8 × St)) : AExit × List (Nat × AV) × St := match o with
  | (a0, a1) => ((.exit 0), [(3, .str a0)], a1)
theorem parchmentlaw04_eight_l11010_ok (R n : Nat) : ∀ (r : Nat) (i3047 : Int) (s3048 : List UInt8) (i3049 : Int) (st3050 : St) (o : (List UInt8 × St)), parchmentlaw04_eight_l11010 R r i3047 s3048 i3049 st3050 = some o →
    Leads 19 (loopK (fun fr k => execK C0 (callK C0 ext0 R n) 45 R none (codeAt C0.P 45 [1, 1, 0, 1, 0, 0]) fr k) r) (modsOf (codeAt C0.P 45 [1, 1, 0, 1, 0, 0])) [(0, (.int .u64 i3047)), (3, (.str s3048)), (4, (.int .i64 i3049))] st3050 (parchmentlaw04_eight_l11010_x o).1 (parchmentlaw04_eight_l11010_x o).2.1 (parchmentlaw04_eight_l11010_x o).2.2 := by
  intro r
  induction r with
  | zero => intro i3047 s3048 i3049 st3050 o h; exact nomatch h
  | succ r ih =>
    intro i3047 s3048 i3049 st3050 o
    unfold parchmentlaw04_eight_l11010
    refine iteE (fun h3051 => ?_) (fun h3051 => ?_)
    · refine bindE fun o h3052 => ?_
      obtain ⟨i3053, s3054, st3055⟩ := o
      intro h
      exact loop_more (runO_ok (hs := [.run 1, .dec true, .into, .absB [0, 3, 4] .normal [(0, (.int .u64 i3053)), (3, (.str s3054))] st3055, .run 3]) (want := [0, 3, 4]) (by kernel_rfl) (.cons (parchmentlaw04_eight_c11010010_ok R n i3047 s3048 i3049 st3050 _ h3052) <| .cons (decide_eq_true h3051) .nil)) (ih i3053 s3054 (IntKind.wrap .i64 (i3049 + 1)) st3055 _ h)
    · intro h
      obtain rfl := Option.some.inj h
      exact loop_done (runO_ok (hs := [.run 1, .dec false, .into]) (want := [3]) (by kernel_rfl) (.cons (decide_eq_false h3051) .nil)) (by kernel_rfl)

noncomputable def parchmentlaw04_eight_c1101 (R : Nat) (i3059 : Int) (st3060 : St) : Option (List UInt8 × St) :=
  Option.bind (parchmentlaw04_eight_l11010 R R i3059 [] 0 st3060) fun (s3062, st3063) =>
  some (s3062, st3063)
theorem parchmentlaw04_eight_c1101_ok (R n : Nat) (i3059 : Int) (st3060 : St) (r : List UInt8 × St) (h : parchmentlaw04_eight_c1101 R i3059 st3060 = some r) :
    Leads 19 (execK C0 (callK C0 ext0 R n) 45 R none (codeAt C0.P 45 [1, 1, 0, 1])) (modsOf (codeAt C0.P 45 [1, 1, 0, 1])) [(0, (.int .u64 i3059)), (3, (.str [])), (4, (.int .i64 0))] st3060 .normal [(3, .str r.1)] r.2 := by
  revert h
  unfold parchmentlaw04_eight_c1101
  refine bindE fun o h3061 => ?_
  obtain ⟨s3062, st3063⟩ := o
  intro h
  obtain rfl := Option.some.inj h
  exact runO_ok (hs := [.into, .abs [0, 3, 4] (.exit 0) [(3, (.str s3062))] st3063]) (want := [3]) (by kernel_rfl) (.cons (loop_leads (parchmentlaw04_eight_l11010_ok R n R i3059 [] 0 st3060 _ h3061)) .nil)

/- parchment/parchmentlaw04.eight -/
def parchmentlaw04_eight_n : Nat := 45
noncomputable def parchmentlaw04_eight (R : Nat) (i3012 : Int) (st3013 : St) : Option (List UInt8 × St) :=
  Option.bind (parchmentlaw04_eight_c1101 R i3012 st3013) fun (s3065, st3066) =>
  some (s3065, st3066)
theorem parchmentlaw04_eight_ok (R n : Nat) (i3012 : Int) (st3013 : St) (r : List UInt8 × St) (h : parchmentlaw04_eight R i3012 st3013 = some r) :
    CallsTo (callK C0 ext0 R (n + 1)) false 45 [(.int .u64 i3012)] st3013 (.str r.1) r.2 := by
  revert h
  unfold parchmentlaw04_eight
  refine bindE fun o h3064 => ?_
  obtain ⟨s3065, st3066⟩ := o
  intro h
  obtain rfl := Option.some.inj h
  exact callO_ok (hs := [.run 3, .absB [0, 3, 4] .normal [(3, (.str s3065))] st3066, .run 2]) (by kernel_rfl) (.cons (parchmentlaw04_eight_c1101_ok R n i3012 st3013 _ h3064) .nil) (by kernel_rfl) (by kernel_rfl)

noncomputable def parchmentlaw04_text_c11010010 (R : Nat) (s3146 : List UInt8) (s3147 : List UInt8) (i3148 : Int) : Option (List UInt8) :=
  Option.bind (subS s3146 i3148 (IntKind.wrap .i64 (i3148 + 1))) fun s3151 =>
  Option.bind (catS s3147 s3151) fun s3153 =>
  Option.bind (idxS s3146 i3148) fun i3155 =>
  if (i3155 = 0) then
   Option.bind (catS s3153 [255]) fun s3158 =>
   some s3158
  else
   some s3153
theorem parchmentlaw04_text_c11010010_ok (R n : Nat) (s3146 : List UInt8) (s3147 : List UInt8) (i3148 : Int) (st3149 : St) (r : List UInt8) (h : parchmentlaw04_text_c11010010 R s3146 s3147 i3148 = some r) :
    Leads 26 (execK C0 (callK C0 ext0 R n) 46 R none (codeAt C0.P 46 [1, 1, 0, 1, 0, 0, 1, 0])) (modsOf (codeAt C0.P 46 [1, 1, 0, 1, 0, 0, 1, 0])) [(0, (.str s3146)), (3, (.str s3147)), (4, (.int .i64 i3148))] st3149 .normal [(3, .str r)] st3149 := by
  revert h
  unfold parchmentlaw04_text_c11010010
  refine bindE fun s3151 h3150 => ?_
  refine bindE fun s3153 h3152 => ?_
  refine bindE fun i3155 h3154 => ?_
  refine iteE (fun h3156 => ?_) (fun h3156 => ?_)
  · refine bindE fun s3158 h3157 => ?_
    intro h
    obtain rfl := Option.some.inj h
    exact runO_ok (hs := [.into, .run 5, .val (.str s3151), .val (.str s3153), .run 3, .val (.int .u8 i3155), .dec true, .into, .run 1, .val (.str s3158), .run 1]) (want := [3]) (by kernel_rfl) (.cons (cat_ok h3157) <| .cons (beqT h3156) <| .cons (idx_ok (k := .i64) (P := C0.P) (t := 9) (by kernel_rfl) h3154) <| .cons (cat_ok h3152) <| .cons (sub11 (k := .i64) (k' := .i64) (P := C0.P) (t := 9) (by kernel_rfl) h3150) .nil)
  · intro h
    obtain rfl := Option.some.inj h
    exact runO_ok (hs := [.into, .run 5, .val (.str s3151), .val (.str s3153), .run 3, .val (.int .u8 i3155), .dec false, .into]) (want := [3]) (by kernel_rfl) (.cons (beqF h3156) <| .cons (idx_ok (k := .i64) (P := C0.P) (t := 9) (by kernel_rfl) h3154) <| .cons (cat_ok h3152) <| .cons (sub11 (k := .i64) (k' := .i64) (P := C0.P) (t := 9) (by kernel_rfl) h3150) .nil)

noncomputable def parchmentlaw04_text_l11010 (R : Nat) (s3161 : List UInt8) : Nat → List UInt8 → Int → Option ((List UInt8))
  | 0, _, _ => none
  | r + 1, s3162, i3163 =>
    if (i3163 < (List.length s3161 : Int)) then
     Option.bind (parchmentlaw04_text_c11010010 R s3161 s3162 i3163) fun s3167 =>
     parchmentlaw04_text_l11010 R s3161 r s3167 (IntKind.wrap .i64 (i3163 + 1))
    else
     some s3162
noncomputable def parchmentlaw04_text_l11010_x (st : St) (o : (List UInt8)) : AExit × List (Nat × AV) × St := match o with
  | a0 => ((.exit 0), [(3, .str a0)], st)
theorem parchmentlaw04_text_l11010_ok (R n : Nat) (s3161 : List UInt8) (st3164 : St) : ∀ (r : Nat) (s3162 : List UInt8) (i3163 : Int) (o : (List UInt8)), parchmentlaw04_text_l11010 R s3161 r s3162 i3163 = some o →
    Leads 26 (loopK (fun fr k => execK C0 (callK C0 ext0 R n) 46 R none (codeAt C0.P 46 [1, 1, 0, 1, 0, 0]) fr k) r) (modsOf (codeAt C0.P 46 [1, 1, 0, 1, 0, 0])) [(0, (.str s3161)), (3, (.str s3162)), (4, (.int .i64 i3163))] st3164 (parchmentlaw04_text_l11010_x st3164 o).1 (parchmentlaw04_text_l11010_x st3164 o).2.1 (parchmentlaw04_text_l11010_x st3164 o).2.2 := by
  intro r
  induction r with
  | zero => intro s3162 i3163 o h; exact nomatch h
  | succ r ih =>
    intro s3162 i3163 o
    unfold parchmentlaw04_text_l11010
    refine iteE (fun h3165 => ?_) (fun h3165 => ?_)
    · refine bindE fun s3167 h3166 => ?_
      intro h
      exact loop_more (runO_ok (hs := [.run 3, .dec true, .into, .absB [0, 3, 4] .normal [(3, (.str s3167))] st3164, .run 3]) (want := [0, 3, 4]) (by kernel_rfl) (.cons (parchmentlaw04_text_c11010010_ok R n s3161 s3162 i3163 st3164 _ h3166) <| .cons (decide_eq_true h3165) .nil)) (ih s3167 (IntKind.wrap .i64 (i3163 + 1)) _ h)
    · intro h
      obtain rfl := Option.some.inj h
      exact loop_done (runO_ok (hs := [.run 3, .dec false, .into]) (want := [3]) (by kernel_rfl) (.cons (decide_eq_false h3165) .nil)) (by kernel_rfl)

noncomputable def parchmentlaw04_text_c1101 (R : Nat) (s3170 : List UInt8) : Option (List UInt8) :=
  Option.bind (parchmentlaw04_text_l11010 R s3170 R [] 0) fun s3173 =>
  some s3173
theorem parchmentlaw04_text_c1101_ok (R n : Nat) (s3170 : List UInt8) (st3171 : St) (r : List UInt8) (h : parchmentlaw04_text_c1101 R s3170 = some r) :
    Leads 26 (execK C0 (callK C0 ext0 R n) 46 R none (codeAt C0.P 46 [1, 1, 0, 1])) (modsOf (codeAt C0.P 46 [1, 1, 0, 1])) [(0, (.str s3170)), (3, (.str [])), (4, (.int .i64 0))] st3171 .normal [(3, .str r)] st3171 := by
  revert h
  unfold parchmentlaw04_text_c1101
  refine bindE fun s3173 h3172 => ?_
  intro h
  obtain rfl := Option.some.inj h
  exact runO_ok (hs := [.into, .abs [0, 3, 4] (.exit 0) [(3, (.str s3173))] st3171]) (want := [3]) (by kernel_rfl) (.cons (loop_leads (parchmentlaw04_text_l11010_ok R n s3170 st3171 R [] 0 _ h3172)) .nil)

/- parchment/parchmentlaw04.text -/
def parchmentlaw04_text_n : Nat := 46
noncomputable def parchmentlaw04_text (R : Nat) (s3124 : List UInt8) : Option (List UInt8) :=
  Option.bind (parchmentlaw04_text_c1101 R s3124) fun s3175 =>
  Option.bind (catS s3175 [0, 1]) fun s3177 =>
  some s3177
theorem parchmentlaw04_text_ok (R n : Nat) (s3124 : List UInt8) (st3125 : St) (r : List UInt8) (h : parchmentlaw04_text R s3124 = some r) :
    CallsTo (callK C0 ext0 R (n + 1)) false 46 [(.str s3124)] st3125 (.str r) st3125 := by
  revert h
  unfold parchmentlaw04_text
  refine bindE fun s3175 h3174 => ?_
  refine bindE fun s3177 h3176 => ?_
  intro h
  obtain rfl := Option.some.inj h
  exact callO_ok (hs := [.run 3, .absB [0, 3, 4] .normal [(3, (.str s3175))] st3125, .run 1, .val (.str s3177), .run 1]) (by kernel_rfl) (.cons (cat_ok h3176) <| .cons (parchmentlaw04_text_c1101_ok R n s3124 st3125 _ h3174) .nil) (by kernel_rfl) (by kernel_rfl)

/-- A group of functions that call one another: how many rounds, what they come to. -/
structure Rc20 where
  n : Nat
  f20 : Int → Bool → Int → List UInt8 → AV → AV → St → Option (List UInt8 × St)
def Rc20.ok (R : Rc20) (n : Nat) : Prop := (∀ m, n ≤ m → ∀ (a0 : Int) (a1 : Bool) (a2 : Int) (a3 : List UInt8) (a4 : AV) (a5 : AV) (st : St) (r : List UInt8 × St), R.f20 a0 a1 a2 a3 a4 a5 st = some r → CallsTo (callK C0 ext0 R.n m) false 20 [(.agg [.int .i64 a0, .bool a1, .int .i64 a2, .str a3, a4, a5])] st (.str r.1) r.2)
theorem Rc20.ok.h20 {R : Rc20} {n : Nat} (h : R.ok n) : (∀ m, n ≤ m → ∀ (a0 : Int) (a1 : Bool) (a2 : Int) (a3 : List UInt8) (a4 : AV) (a5 : AV) (st : St) (r : List UInt8 × St), R.f20 a0 a1 a2 a3 a4 a5 st = some r → CallsTo (callK C0 ext0 R.n m) false 20 [(.agg [.int .i64 a0, .bool a1, .int .i64 a2, .str a3, a4, a5])] st (.str r.1) r.2) := h
theorem Rc20.ok.mono {R : Rc20} {n m : Nat} (h : R.ok n) (hn : n ≤ m) : R.ok m := fun k hk => h.h20 k (Nat.le_trans hn hk)

noncomputable def parchmentlaw04_Key_j11010111100 (R : Rc20) (i3236 : Int) : Option (Bool) :=
  if (i3236 = 3) then
   some true
  else
   some false
theorem parchmentlaw04_Key_j11010111100_ok (R : Rc20) (n : Nat) (hR : R.ok n) (i3236 : Int) (st3237 : St) (r : Bool) (h : parchmentlaw04_Key_j11010111100 R i3236 = some r) :
    Leads 78 (execK C0 (callK C0 ext0 R.n (n + 1)) 20 R.n none (codeAt C0.P 20 [1, 1, 0, 1, 0, 1, 1, 1, 1, 0, 0])) (modsOf (codeAt C0.P 20 [1, 1, 0, 1, 0, 1, 1, 1, 1, 0, 0])) [(11, (.int .i64 i3236))] st3237 .normal [(29, .bool r)] st3237 := by
  revert h
  unfold parchmentlaw04_Key_j11010111100
  refine iteE (fun h3238 => ?_) (fun h3238 => ?_)
  · intro h
    obtain rfl := Option.some.inj h
    exact runO_ok (hs := [.dec true, .run 1]) (want := [29]) (by kernel_rfl) (.cons (beqT h3238) .nil)
  · intro h
    obtain rfl := Option.some.inj h
    exact runO_ok (hs := [.dec false, .run 1]) (want := [29]) (by kernel_rfl) (.cons (beqF h3238) .nil)

noncomputable def parchmentlaw04_Key_c11010111101 (R : Rc20) (x3248 : AV) (s3249 : List UInt8) (i3250 : Int) (b3251 : Bool) : Option (Bool) :=
  if b3251 = true then
   some true
  else
   if (i3250 = 4) then
    some true
   else
    some false
theorem parchmentlaw04_Key_c11010111101_ok (R : Rc20) (n : Nat) (hR : R.ok n) (x3248 : AV) (s3249 : List UInt8) (i3250 : Int) (b3251 : Bool) (st3252 : St) (r : Bool) (h : parchmentlaw04_Key_c11010111101 R x3248 s3249 i3250 b3251 = some r) :
    Leads 78 (execK C0 (callK C0 ext0 R.n (n + 1)) 20 R.n none (codeAt C0.P 20 [1, 1, 0, 1, 0, 1, 1, 1, 1, 0, 1])) (modsOf (codeAt C0.P 20 [1, 1, 0, 1, 0, 1, 1, 1, 1, 0, 1])) [(1, x3248), (3, (.str s3249)), (11, (.int .i64 i3250)), (29, (.bool b3251))] st3252 .normal [(29, .bool r)] st3252 := by
  revert h
  unfold parchmentlaw04_Key_c11010111101
  refine iteE (fun h3253 => ?_) (fun h3253 => ?_)
  · subst h3253
    intro h
    obtain rfl := Option.some.inj h
    exact runO_ok (hs := [.into]) (want := [29]) (by kernel_rfl) .nil
  · obtain rfl := bF h3253
    refine iteE (fun h3254 => ?_) (fun h3254 => ?_)
    · intro h
      obtain rfl := Option.some.inj h
      exact runO_ok (hs := [.into, .dec true, .run 1]) (want := [29]) (by kernel_rfl) (.cons (beqT h3254) .nil)
    · intro h
      obtain rfl := Option.some.inj h
      exact runO_ok (hs := [.into, .dec false, .run 1]) (want := [29]) (by kernel_rfl) (.cons (beqF h3254) .nil)

noncomputable def parchmentlaw04_Key_j1101011111100 (R : Rc20) (i3271 : Int) : Option (Bool) :=
  if (i3271 = 5) then
   some true
  else
   some false
theorem parchmentlaw04_Key_j1101011111100_ok (R : Rc20) (n : Nat) (hR : R.ok n) (i3271 : Int) (st3272 : St) (r : Bool) (h : parchmentlaw04_Key_j1101011111100 R i3271 = some r) :
    Leads 78 (execK C0 (callK C0 ext0 R.n (n + 1)) 20 R.n none (codeAt C0.P 20 [1, 1, 0, 1, 0, 1, 1, 1, 1, 1, 1, 0, 0])) (modsOf (codeAt C0.P 20 [1, 1, 0, 1, 0, 1, 1, 1, 1, 1, 1, 0, 0])) [(11, (.int .i64 i3271))] st3272 .normal [(37, .bool r)] st3272 := by
  revert h
  unfold parchmentlaw04_Key_j1101011111100
  refine iteE (fun h3273 => ?_) (fun h3273 => ?_)
  · intro h
    obtain rfl := Option.some.inj h
    exact runO_ok (hs := [.dec true, .run 1]) (want := [37]) (by kernel_rfl) (.cons (beqT h3273) .nil)
  · intro h
    obtain rfl := Option.some.inj h
    exact runO_ok (hs := [.dec false, .run 1]) (want := [37]) (by kernel_rfl) (.cons (beqF h3273) .nil)

noncomputable def parchmentlaw04_Key_c1101011111101 (R : Rc20) (x3283 : AV) (s3284 : List UInt8) (i3285 : Int) (b3286 : Bool) : Option (Bool) :=
  if b3286 = true then
   some true
  else
   if (i3285 = 6) then
    some true
   else
    some false
theorem parchmentlaw04_Key_c1101011111101_ok (R : Rc20) (n : Nat) (hR : R.ok n) (x3283 : AV) (s3284 : List UInt8) (i3285 : Int) (b3286 : Bool) (st3287 : St) (r : Bool) (h : parchmentlaw04_Key_c1101011111101 R x3283 s3284 i3285 b3286 = some r) :
    Leads 78 (execK C0 (callK C0 ext0 R.n (n + 1)) 20 R.n none (codeAt C0.P 20 [1, 1, 0, 1, 0, 1, 1, 1, 1, 1, 1, 0, 1])) (modsOf (codeAt C0.P 20 [1, 1, 0, 1, 0, 1, 1, 1, 1, 1, 1, 0, 1])) [(1, x3283), (3, (.str s3284)), (11, (.int .i64 i3285)), (37, (.bool b3286))] st3287 .normal [(37, .bool r)] st3287 := by
  revert h
  unfold parchmentlaw04_Key_c1101011111101
  refine iteE (fun h3288 => ?_) (fun h3288 => ?_)
  · subst h3288
    intro h
    obtain rfl := Option.some.inj h
    exact runO_ok (hs := [.into]) (want := [37]) (by kernel_rfl) .nil
  · obtain rfl := bF h3288
    refine iteE (fun h3289 => ?_) (fun h3289 => ?_)
    · intro h
      obtain rfl := Option.some.inj h
      exact runO_ok (hs := [.into, .dec true, .run 1]) (want := [37]) (by kernel_rfl) (.cons (beqT h3289) .nil)
    · intro h
      obtain rfl := Option.some.inj h
      exact runO_ok (hs := [.into, .dec false, .run 1]) (want := [37]) (by kernel_rfl) (.cons (beqF h3289) .nil)

noncomputable def parchmentlaw04_Key_j11010111111100100100100 (R : Rc20) (x3330 : AV) (i3331 : Int) (st3332 : St) : Option (Bool × St) :=
  Option.bind (shift x3330 0) fun x3334 =>
  Option.bind (loadAt C0.P st3332 3 x3334) fun x3336 =>
  Option.bind (avInt .i64 x3336) fun i3337 =>
  if (i3337 = 6) then
   Option.bind (shift x3330 5) fun x3341 =>
   Option.bind (loadAt C0.P st3332 22 x3341) fun x3343 =>
   Option.bind (lenOf x3343) fun n3345 =>
   if (i3331 < (n3345 : Int)) then
    some (true, st3332)
   else
    some (false, st3332)
  else
   some (false, st3332)
theorem parchmentlaw04_Key_j11010111111100100100100_ok (R : Rc20) (n : Nat) (hR : R.ok n) (x3330 : AV) (i3331 : Int) (st3332 : St) (r : Bool × St) (h : parchmentlaw04_Key_j11010111111100100100100 R x3330 i3331 st3332 = some r) :
    Leads 78 (execK C0 (callK C0 ext0 R.n (n + 1)) 20 R.n none (codeAt C0.P 20 [1, 1, 0, 1, 0, 1, 1, 1, 1, 1, 1, 1, 0, 0, 1, 0, 0, 1, 0, 0, 1, 0, 0])) (modsOf (codeAt C0.P 20 [1, 1, 0, 1, 0, 1, 1, 1, 1, 1, 1, 1, 0, 0, 1, 0, 0, 1, 0, 0, 1, 0, 0])) [(1, x3330), (4, (.int .i64 i3331))] st3332 .normal [(58, .bool r.1)] r.2 := by
  revert h
  unfold parchmentlaw04_Key_j11010111111100100100100
  refine bindE fun x3334 h3333 => ?_
  refine bindE fun x3336 h3335 => ?_
  refine bindE fun i3337 h3338 => ?_
  obtain rfl := avInt_ok h3338
  refine iteE (fun h3339 => ?_) (fun h3339 => ?_)
  · refine bindE fun x3341 h3340 => ?_
    refine bindE fun x3343 h3342 => ?_
    refine bindE fun n3345 h3344 => ?_
    refine iteE (fun h3346 => ?_) (fun h3346 => ?_)
    · intro h
      obtain rfl := Option.some.inj h
      exact runO_ok (hs := [.val x3334, .val (.int .i64 i3337), .dec true, .run 2, .val x3341, .val x3343, .val (.int .i64 (n3345 : Int)), .dec true, .run 1]) (want := [58]) (by kernel_rfl) (.cons (decide_eq_true h3346) <| .cons (len_ok (P := C0.P) (t := 22) (e := 9) (by kernel_rfl) h3344) <| .cons h3342 <| .cons h3340 <| .cons (beqT h3339) <| .cons h3335 <| .cons h3333 .nil)
    · intro h
      obtain rfl := Option.some.inj h
      exact runO_ok (hs := [.val x3334, .val (.int .i64 i3337), .dec true, .run 2, .val x3341, .val x3343, .val (.int .i64 (n3345 : Int)), .dec false, .run 1]) (want := [58]) (by kernel_rfl) (.cons (decide_eq_false h3346) <| .cons (len_ok (P := C0.P) (t := 22) (e := 9) (by kernel_rfl) h3344) <| .cons h3342 <| .cons h3340 <| .cons (beqT h3339) <| .cons h3335 <| .cons h3333 .nil)
  · intro h
    obtain rfl := Option.some.inj h
    exact runO_ok (hs := [.val x3334, .val (.int .i64 i3337), .dec false, .run 2]) (want := [58]) (by kernel_rfl) (.cons (beqF h3339) <| .cons h3335 <| .cons h3333 .nil)

noncomputable def parchmentlaw04_Key_c11010111111100100100101 (R : Rc20) (x3370 : AV) (s3371 : List UInt8) (i3372 : Int) (b3373 : Bool) (st3374 : St) : Option (List UInt8 × St) :=
  if b3373 = true then
   Option.bind (shift x3370 5) fun x3377 =>
   Option.bind (loadAt C0.P st3374 22 x3377) fun x3379 =>
   Option.bind (indexAddrOp C0.P 22 x3379 (.int .i64 i3372)) fun x3381 =>
   Option.bind (loadAt C0.P st3374 9 x3381) fun x3383 =>
   Option.bind (avStr x3383) fun s3384 =>
   Option.bind (parchmentlaw04_text R.n s3384) fun s3386 =>
   Option.bind (catS s3371 s3386) fun s3389 =>
   some (s3389, st3374)
  else
   some (s3371, st3374)
theorem parchmentlaw04_Key_c11010111111100100100101_ok (R : Rc20) (n : Nat) (hR : R.ok n) (x3370 : AV) (s3371 : List UInt8) (i3372 : Int) (b3373 : Bool) (st3374 : St) (r : List UInt8 × St) (h : parchmentlaw04_Key_c11010111111100100100101 R x3370 s3371 i3372 b3373 st3374 = some r) :
    Leads 78 (execK C0 (callK C0 ext0 R.n (n + 1)) 20 R.n none (codeAt C0.P 20 [1, 1, 0, 1, 0, 1, 1, 1, 1, 1, 1, 1, 0, 0, 1, 0, 0, 1, 0, 0, 1, 0, 1])) (modsOf (codeAt C0.P 20 [1, 1, 0, 1, 0, 1, 1, 1, 1, 1, 1, 1, 0, 0, 1, 0, 0, 1, 0, 0, 1, 0, 1])) [(1, x3370), (3, (.str s3371)), (4, (.int .i64 i3372)), (58, (.bool b3373))] st3374 .normal [(3, .str r.1)] r.2 := by
  revert h
  unfold parchmentlaw04_Key_c11010111111100100100101
  refine iteE (fun h3375 => ?_) (fun h3375 => ?_)
  · subst h3375
    refine bindE fun x3377 h3376 => ?_
    refine bindE fun x3379 h3378 => ?_
    refine bindE fun x3381 h3380 => ?_
    refine bindE fun x3383 h3382 => ?_
    refine bindE fun s3384 h3385 => ?_
    obtain rfl := avStr_ok h3385
    refine bindE fun s3386 h3387 => ?_
    refine bindE fun s3389 h3388 => ?_
    intro h
    obtain rfl := Option.some.inj h
    exact runO_ok (hs := [.into, .run 1, .val x3377, .val x3379, .run 1, .val x3381, .val (.str s3384), .call (.str s3386) st3374, .val (.str s3389), .run 1]) (want := [3]) (by kernel_rfl) (.cons (cat_ok h3388) <| .cons (parchmentlaw04_text_ok R.n n s3384 st3374 _ h3387) <| .cons h3382 <| .cons h3380 <| .cons h3378 <| .cons h3376 .nil)
  · obtain rfl := bF h3375
    intro h
    obtain rfl := Option.some.inj h
    exact runO_ok (hs := [.into]) (want := [3]) (by kernel_rfl) .nil

noncomputable def parchmentlaw04_Key_c1101011111110010010 (R : Rc20) (x3413 : AV) (s3414 : List UInt8) (i3415 : Int) (st3416 : St) : Option (List UInt8 × St) :=
  Option.bind (catS s3414 [1]) fun s3418 =>
  Option.bind (parchmentlaw04_Key_j11010111111100100100100 R x3413 i3415 st3416) fun (b3420, st3421) =>
  Option.bind (parchmentlaw04_Key_c11010111111100100100101 R x3413 s3418 i3415 b3420 st3421) fun (s3423, st3424) =>
  Option.bind (shift x3413 4) fun x3426 =>
  Option.bind (loadAt C0.P st3424 46 x3426) fun x3428 =>
  Option.bind (indexAddrOp C0.P 46 x3428 (.int .i64 i3415)) fun x3430 =>
  Option.bind (loadAt C0.P st3424 48 x3430) fun x3432 =>
  Option.bind (de_Ai64_b_i64_s_a_aZ x3432) fun (i3433, b3434, i3435, s3436, x3437, x3438) =>
  Option.bind (R.f20 i3433 b3434 i3435 s3436 x3437 x3438 st3424) fun (s3440, st3442) =>
  Option.bind (catS s3423 s3440) fun s3444 =>
  some (s3444, st3442)
theorem parchmentlaw04_Key_c1101011111110010010_ok (R : Rc20) (n : Nat) (hR : R.ok n) (x3413 : AV) (s3414 : List UInt8) (i3415 : Int) (st3416 : St) (r : List UInt8 × St) (h : parchmentlaw04_Key_c1101011111110010010 R x3413 s3414 i3415 st3416 = some r) :
    Leads 78 (execK C0 (callK C0 ext0 R.n (n + 1)) 20 R.n none (codeAt C0.P 20 [1, 1, 0, 1, 0, 1, 1, 1, 1, 1, 1, 1, 0, 0, 1, 0, 0, 1, 0])) (modsOf (codeAt C0.P 20 [1, 1, 0, 1, 0, 1, 1, 1, 1, 1, 1, 1, 0, 0, 1, 0, 0, 1, 0])) [(1, x3413), (3, (.str s3414)), (4, (.int .i64 i3415))] st3416 .normal [(3, .str r.1)] r.2 := by
  revert h
  unfold parchmentlaw04_Key_c1101011111110010010
  refine bindE fun s3418 h3417 => ?_
  refine bindE fun o h3419 => ?_
  obtain ⟨b3420, st3421⟩ := o
  refine bindE fun o h3422 => ?_
  obtain ⟨s3423, st3424⟩ := o
  refine bindE fun x3426 h3425 => ?_
  refine bindE fun x3428 h3427 => ?_
  refine bindE fun x3430 h3429 => ?_
  refine bindE fun x3432 h3431 => ?_
  refine bindE fun o h3439 => ?_
  obtain ⟨i3433, b3434, i3435, s3436, x3437, x3438⟩ := o
  obtain rfl := de_Ai64_b_i64_s_a_aZ_ok h3439
  refine bindE fun o h3441 => ?_
  obtain ⟨s3440, st3442⟩ := o
  refine bindE fun s3444 h3443 => ?_
  intro h
  obtain rfl := Option.some.inj h
  exact runO_ok (hs := [.into, .run 1, .val (.str s3418), .run 1, .absG [1, 4] .normal [(58, (.bool b3420))] st3421, .absC [1, 3, 4, 58] .normal [(3, (.str s3423))] st3424, .run 1, .val x3426, .val x3428, .run 1, .val x3430, .val (.agg [(.int .i64 i3433), (.bool b3434), (.int .i64 i3435), (.str s3436), x3437, x3438]), .call (.str s3440) st3442, .val (.str s3444), .run 1]) (want := [3]) (by kernel_rfl) (.cons (cat_ok h3443) <| .cons (hR.h20 (n + 1) (by omega) i3433 b3434 i3435 s3436 x3437 x3438 st3424 _ h3441) <| .cons h3431 <| .cons h3429 <| .cons h3427 <| .cons h3425 <| .cons (parchmentlaw04_Key_c11010111111100100100101_ok R n hR x3413 s3418 i3415 b3420 st3421 _ h3422) <| .cons (parchmentlaw04_Key_j11010111111100100100100_ok R n hR x3413 i3415 st3416 _ h3419) <| .cons (cat_ok h3417) .nil)

noncomputable def parchmentlaw04_Key_l1101011111110010 (R : Rc20) (x3448 : AV) : Nat → List UInt8 → Int → St → Option ((List UInt8 × St))
  | 0, _, _, _ => none
  | r + 1, s3449, i3450, st3451 =>
    Option.bind (shift x3448 4) fun x3453 =>
    Option.bind (loadAt C0.P st3451 46 x3453) fun x3455 =>
    Option.bind (lenOf x3455) fun n3457 =>
    if (i3450 < (n3457 : Int)) then
     Option.bind (parchmentlaw04_Key_c1101011111110010010 R x3448 s3449 i3450 st3451) fun (s3460, st3461) =>
     parchmentlaw04_Key_l1101011111110010 R x3448 r s3460 (IntKind.wrap .i64 (i3450 + 1)) st3461
    else
     some (s3449, st3451)
noncomputable def parchmentlaw04_Key_l1101011111110010_x (o : (List UInt8 × St)) : AExit × List (Nat × AV) × St := match o with
  | (a0, a1) => ((.exit 1), [(3, .str a0)], a1)
theorem parchmentlaw04_Key_l1101011111110010_ok (R : Rc20) (n : Nat) (hR : R.ok n) (x3448 : AV) : ∀ (r : Nat) (s3449 : List UInt8) (i3450 : Int) (st3451 : St) (o : (List UInt8 × St)), parchmentlaw04_Key_l1101011111110010 R x3448 r s3449 i3450 st3451 = some o →
    Leads 78 (loopK (fun fr k => execK C0 (callK C0 ext0 R.n (n + 1)) 20 R.n none (codeAt C0.P 20 [1, 1, 0, 1, 0, 1, 1, 1, 1, 1, 1, 1, 0, 0, 1, 0, 0]) fr k) r) (modsOf (codeAt C0.P 20 [1, 1, 0, 1, 0, 1, 1, 1, 1, 1, 1, 1, 0, 0, 1, 0, 0])) [(1, x3448), (3, (.str s3449)), (4, (.int .i64 i3450))] st3451 (parchmentlaw04_Key_l1101011111110010_x o).1 (parchmentlaw04_Key_l1101011111110010_x o).2.1 (parchmentlaw04_Key_l1101011111110010_x o).2.2 := by
  intro r
  induction r with
  | zero => intro s3449 i3450 st3451 o h; exact nomatch h
  | succ r ih =>
    intro s3449 i3450 st3451 o
    unfold parchmentlaw04_Key_l1101011111110010
    refine bindE fun x3453 h3452 => ?_
    refine bindE fun x3455 h3454 => ?_
    refine bindE fun n3457 h3456 => ?_
    refine iteE (fun h3458 => ?_) (fun h3458 => ?_)
    · refine bindE fun o h3459 => ?_
      obtain ⟨s3460, st3461⟩ := o
      intro h
      exact loop_more (runO_ok (hs := [.run 1, .val x3453, .val x3455, .val (.int .i64 (n3457 : Int)), .dec true, .into, .absB [1, 3, 4] .normal [(3, (.str s3460))] st3461, .run 3]) (want := [1, 3, 4]) (by kernel_rfl) (.cons (parchmentlaw04_Key_c1101011111110010010_ok R n hR x3448 s3449 i3450 st3451 _ h3459) <| .cons (decide_eq_true h3458) <| .cons (len_ok (P := C0.P) (t := 46) (e := 48) (by kernel_rfl) h3456) <| .cons h3454 <| .cons h3452 .nil)) (ih s3460 (IntKind.wrap .i64 (i3450 + 1)) st3461 _ h)
    · intro h
      obtain rfl := Option.some.inj h
      exact loop_done (runO_ok (hs := [.run 1, .val x3453, .val x3455, .val (.int .i64 (n3457 : Int)), .dec false, .into]) (want := [3]) (by kernel_rfl) (.cons (decide_eq_false h3458) <| .cons (len_ok (P := C0.P) (t := 46) (e := 48) (by kernel_rfl) h3456) <| .cons h3454 <| .cons h3452 .nil)) (by kernel_rfl)

noncomputable def parchmentlaw04_Key_c110101111111001 (R : Rc20) (x3465 : AV) (s3466 : List UInt8) (st3467 : St) : Option (List UInt8 × St) :=
  Option.bind (parchmentlaw04_Key_l1101011111110010 R x3465 R.n s3466 0 st3467) fun (s3469, st3470) =>
  some (s3469, st3470)
theorem parchmentlaw04_Key_c110101111111001_ok (R : Rc20) (n : Nat) (hR : R.ok n) (x3465 : AV) (s3466 : List UInt8) (st3467 : St) (r : List UInt8 × St) (h : parchmentlaw04_Key_c110101111111001 R x3465 s3466 st3467 = some r) :
    Leads 78 (execK C0 (callK C0 ext0 R.n (n + 1)) 20 R.n none (codeAt C0.P 20 [1, 1, 0, 1, 0, 1, 1, 1, 1, 1, 1, 1, 0, 0, 1])) (modsOf (codeAt C0.P 20 [1, 1, 0, 1, 0, 1, 1, 1, 1, 1, 1, 1, 0, 0, 1])) [(1, x3465), (3, (.str s3466)), (4, (.int .i64 0))] st3467 .normal [(3, .str r.1)] r.2 := by
  revert h
  unfold parchmentlaw04_Key_c110101111111001
  refine bindE fun o h3468 => ?_
  obtain ⟨s3469, st3470⟩ := o
  intro h
  obtain rfl := Option.some.inj h
  exact runO_ok (hs := [.into, .abs [1, 3, 4] (.exit 1) [(3, (.str s3469))] st3470]) (want := [3]) (by kernel_rfl) (.cons (loop_leads (parchmentlaw04_Key_l1101011111110010_ok R n hR x3465 R.n s3466 0 st3467 _ h3468)) .nil)

/- parchment/parchmentlaw04.Key -/
def parchmentlaw04_Key_n : Nat := 20
noncomputable def parchmentlaw04_Key (R : Rc20) (i3184 : Int) (b3185 : Bool) (i3186 : Int) (s3187 : List UInt8) (x3188 : AV) (x3189 : AV) (st3190 : St) : Option (List UInt8 × St) :=
  Option.bind (boxOp 48 (.agg [(.int .i64 i3184), (.bool b3185), (.int .i64 i3186), (.str s3187), x3188, x3189]) st3190) fun (x3193, st3192) =>
  Option.bind (shift x3193 0) fun x3195 =>
  Option.bind (loadAt C0.P st3192 3 x3195) fun x3197 =>
  Option.bind (avInt .i64 x3197) fun i3198 =>
  Option.bind (mkNew (buildSliceOp C0.P (C0.byref 20) 90 1 [(0, (.int .u8 (IntKind.wrap .u8 i3198)))]) st3192) fun (x3202, st3201) =>
  Option.bind (strOf st3201 x3202) fun s3204 =>
  Option.bind (loadAt C0.P st3201 3 x3195) fun x3206 =>
  Option.bind (avInt .i64 x3206) fun i3207 =>
  if (i3207 = 1) then
   Option.bind (shift x3193 1) fun x3211 =>
   Option.bind (loadAt C0.P st3201 4 x3211) fun x3213 =>
   Option.bind (avBool x3213) fun b3214 =>
   if b3214 = true then
    Option.bind (catS s3204 [1]) fun s3218 =>
    some (s3218, st3201)
   else
    Option.bind (catS s3204 [0]) fun s3220 =>
    some (s3220, st3201)
  else
   if (i3207 = 2) then
    Option.bind (shift x3193 2) fun x3223 =>
    Option.bind (loadAt C0.P st3201 2 x3223) fun x3225 =>
    Option.bind (avInt .i64 x3225) fun i3226 =>
    Option.bind (parchmentlaw04_eight R.n (IntKind.wrap .u64 ((IntKind.wrap .u64 i3226) + 9223372036854775808)) st3201) fun (s3228, st3230) =>
    Option.bind (catS s3204 s3228) fun s3232 =>
    some (s3232, st3230)
   else
    Option.bind (parchmentlaw04_Key_j11010111100 R i3207) fun b3240 =>
    Option.bind (parchmentlaw04_Key_c11010111101 R x3193 s3204 i3207 b3240) fun b3256 =>
    if b3256 = true then
     Option.bind (shift x3193 3) fun x3259 =>
     Option.bind (loadAt C0.P st3201 9 x3259) fun x3261 =>
     Option.bind (avStr x3261) fun s3262 =>
     Option.bind (parchmentlaw04_text R.n s3262) fun s3264 =>
     Option.bind (catS s3204 s3264) fun s3267 =>
     some (s3267, st3201)
    else
     Option.bind (parchmentlaw04_Key_j1101011111100 R i3207) fun b3275 =>
     Option.bind (parchmentlaw04_Key_c1101011111101 R x3193 s3204 i3207 b3275) fun b3291 =>
     if b3291 = true then
      Option.bind (parchmentlaw04_Key_c110101111111001 R x3193 s3204 st3201) fun (s3472, st3473) =>
      Option.bind (catS s3472 [0]) fun s3475 =>
      some (s3475, st3473)
     else
      some (s3204, st3201)
theorem parchmentlaw04_Key_ok (R : Rc20) (n : Nat) (hR : R.ok n) (i3184 : Int) (b3185 : Bool) (i3186 : Int) (s3187 : List UInt8) (x3188 : AV) (x3189 : AV) (st3190 : St) (r : List UInt8 × St) (h : parchmentlaw04_Key R i3184 b3185 i3186 s3187 x3188 x3189 st3190 = some r) :
    CallsTo (callK C0 ext0 R.n (n + 2)) false 20 [(.agg [(.int .i64 i3184), (.bool b3185), (.int .i64 i3186), (.str s3187), x3188, x3189])] st3190 (.str r.1) r.2 := by
  revert h
  unfold parchmentlaw04_Key
  refine bindE fun o h3191 => ?_
  obtain ⟨x3193, st3192⟩ := o
  refine bindE fun x3195 h3194 => ?_
  refine bindE fun x3197 h3196 => ?_
  refine bindE fun i3198 h3199 => ?_
  obtain rfl := avInt_ok h3199
  refine bindE fun o h3200 => ?_
  obtain ⟨x3202, st3201⟩ := o
  refine bindE fun s3204 h3203 => ?_
  refine bindE fun x3206 h3205 => ?_
  refine bindE fun i3207 h3208 => ?_
  obtain rfl := avInt_ok h3208
  refine iteE (fun h3209 => ?_) (fun h3209 => ?_)
  · refine bindE fun x3211 h3210 => ?_
    refine bindE fun x3213 h3212 => ?_
    refine bindE fun b3214 h3215 => ?_
    obtain rfl := avBool_ok h3215
    refine iteE (fun h3216 => ?_) (fun h3216 => ?_)
    · subst h3216
      refine bindE fun s3218 h3217 => ?_
      intro h
      obtain rfl := Option.some.inj h
      exact callO_ok (hs := [.eff x3193 st3192, .run 1, .val x3195, .val (.int .i64 i3198), .run 1, .eff x3202 st3201, .val (.str s3204), .run 1, .val x3195, .val (.int .i64 i3207), .into, .dec true, .run 1, .into, .val x3211, .val (.bool true), .into, .run 1, .val (.str s3218), .run 1]) (by kernel_rfl) (.cons (cat_ok h3217) <| .cons h3212 <| .cons h3210 <| .cons (beqT h3209) <| .cons h3205 <| .cons h3194 <| .cons (strOf_ok h3203) <| .cons h3200 <| .cons h3196 <| .cons h3194 <| .cons (box_ok h3191) .nil) (by kernel_rfl) (by kernel_rfl)
    · obtain rfl := bF h3216
      refine bindE fun s3220 h3219 => ?_
      intro h
      obtain rfl := Option.some.inj h
      exact callO_ok (hs := [.eff x3193 st3192, .run 1, .val x3195, .val (.int .i64 i3198), .run 1, .eff x3202 st3201, .val (.str s3204), .run 1, .val x3195, .val (.int .i64 i3207), .into, .dec true, .run 1, .into, .val x3211, .val (.bool false), .into, .run 1, .val (.str s3220), .run 1]) (by kernel_rfl) (.cons (cat_ok h3219) <| .cons h3212 <| .cons h3210 <| .cons (beqT h3209) <| .cons h3205 <| .cons h3194 <| .cons (strOf_ok h3203) <| .cons h3200 <| .cons h3196 <| .cons h3194 <| .cons (box_ok h3191) .nil) (by kernel_rfl) (by kernel_rfl)
  · refine iteE (fun h3221 => ?_) (fun h3221 => ?_)
    · refine bindE fun x3223 h3222 => ?_
      refine bindE fun x3225 h3224 => ?_
      refine bindE fun i3226 h3227 => ?_
      obtain rfl := avInt_ok h3227
      refine bindE fun o h3229 => ?_
      obtain ⟨s3228, st3230⟩ := o
      refine bindE fun s3232 h3231 => ?_
      intro h
      obtain rfl := Option.some.inj h
      exact callO_ok (hs := [.eff x3193 st3192, .run 1, .val x3195, .val (.int .i64 i3198), .run 1, .eff x3202 st3201, .val (.str s3204), .run 1, .val x3195, .val (.int .i64 i3207), .into, .dec false, .run 1, .into, .dec true, .run 1, .into, .run 1, .val x3223, .val (.int .i64 i3226), .run 2, .call (.str s3228) st3230, .val (.str s3232), .run 1]) (by kernel_rfl) (.cons (cat_ok h3231) <| .cons (parchmentlaw04_eight_ok R.n n (IntKind.wrap .u64 ((IntKind.wrap .u64 i3226) + 9223372036854775808)) st3201 _ h3229) <| .cons h3224 <| .cons h3222 <| .cons (beqT h3221) <| .cons (beqF h3209) <| .cons h3205 <| .cons h3194 <| .cons (strOf_ok h3203) <| .cons h3200 <| .cons h3196 <| .cons h3194 <| .cons (box_ok h3191) .nil) (by kernel_rfl) (by kernel_rfl)
    · refine bindE fun b3240 h3239 => ?_
      refine bindE fun b3256 h3255 => ?_
      refine iteE (fun h3257 => ?_) (fun h3257 => ?_)
      · subst h3257
        refine bindE fun x3259 h3258 => ?_
        refine bindE fun x3261 h3260 => ?_
        refine bindE fun s3262 h3263 => ?_
        obtain rfl := avStr_ok h3263
        refine bindE fun s3264 h3265 => ?_
        refine bindE fun s3267 h3266 => ?_
        intro h
        obtain rfl := Option.some.inj h
        exact callO_ok (hs := [.eff x3193 st3192, .run 1, .val x3195, .val (.int .i64 i3198), .run 1, .eff x3202 st3201, .val (.str s3204), .run 1, .val x3195, .val (.int .i64 i3207), .into, .dec false, .run 1, .into, .dec false, .run 1, .into, .absG [11] .normal [(29, (.bool b3240))] st3201, .absC [1, 3, 11, 29] .normal [(29, (.bool true))] st3201, .into, .run 1, .val x3259, .val (.str s3262), .call (.str s3264) st3201, .val (.str s3267), .run 1]) (by kernel_rfl) (.cons (cat_ok h3266) <| .cons (parchmentlaw04_text_ok R.n n s3262 st3201 _ h3265) <| .cons h3260 <| .cons h3258 <| .cons (parchmentlaw04_Key_c11010111101_ok R n hR x3193 s3204 i3207 b3240 st3201 _ h3255) <| .cons (parchmentlaw04_Key_j11010111100_ok R n hR i3207 st3201 _ h3239) <| .cons (beqF h3221) <| .cons (beqF h3209) <| .cons h3205 <| .cons h3194 <| .cons (strOf_ok h3203) <| .cons h3200 <| .cons h3196 <| .cons h3194 <| .cons (box_ok h3191) .nil) (by kernel_rfl) (by kernel_rfl)
      · obtain rfl := bF h3257
        refine bindE fun b3275 h3274 => ?_
        refine bindE fun b3291 h3290 => ?_
        refine iteE (fun h3292 => ?_) (fun h3292 => ?_)
        · subst h3292
          refine bindE fun o h3471 => ?_
          obtain ⟨s3472, st3473⟩ := o
          refine bindE fun s3475 h3474 => ?_
          intro h
          obtain rfl := Option.some.inj h
          exact callO_ok (hs := [.eff x3193 st3192, .run 1, .val x3195, .val (.int .i64 i3198), .run 1, .eff x3202 st3201, .val (.str s3204), .run 1, .val x3195, .val (.int .i64 i3207), .into, .dec false, .run 1, .into, .dec false, .run 1, .into, .absG [11] .normal [(29, (.bool b3240))] st3201, .absC [1, 3, 11, 29] .normal [(29, (.bool false))] st3201, .into, .absG [11] .normal [(37, (.bool b3275))] st3201, .absC [1, 3, 11, 37] .normal [(37, (.bool true))] st3201, .into, .run 1, .absB [1, 3, 4] .normal [(3, (.str s3472))] st3473, .run 1, .val (.str s3475), .run 1]) (by kernel_rfl) (.cons (cat_ok h3474) <| .cons (parchmentlaw04_Key_c110101111111001_ok R n hR x3193 s3204 st3201 _ h3471) <| .cons (parchmentlaw04_Key_c1101011111101_ok R n hR x3193 s3204 i3207 b3275 st3201 _ h3290) <| .cons (parchmentlaw04_Key_j1101011111100_ok R n hR i3207 st3201 _ h3274) <| .cons (parchmentlaw04_Key_c11010111101_ok R n hR x3193 s3204 i3207 b3240 st3201 _ h3255) <| .cons (parchmentlaw04_Key_j11010111100_ok R n hR i3207 st3201 _ h3239) <| .cons (beqF h3221) <| .cons (beqF h3209) <| .cons h3205 <| .cons h3194 <| .cons (strOf_ok h3203) <| .cons h3200 <| .cons h3196 <| .cons h3194 <| .cons (box_ok h3191) .nil) (by kernel_rfl) (by kernel_rfl)
        · obtain rfl := bF h3292
          intro h
          obtain rfl := Option.some.inj h
          exact callO_ok (hs := [.eff x3193 st3192, .run 1, .val x3195, .val (.int .i64 i3198), .run 1, .eff x3202 st3201, .val (.str s3204), .run 1, .val x3195, .val (.int .i64 i3207), .into, .dec false, .run 1, .into, .dec false, .run 1, .into, .absG [11] .normal [(29, (.bool b3240))] st3201, .absC [1, 3, 11, 29] .normal [(29, (.bool false))] st3201, .into, .absG [11] .normal [(37, (.bool b3275))] st3201, .absC [1, 3, 11, 37] .normal [(37, (.bool false))] st3201, .into, .run 2]) (by kernel_rfl) (.cons (parchmentlaw04_Key_c1101011111101_ok R n hR x3193 s3204 i3207 b3275 st3201 _ h3290) <| .cons (parchmentlaw04_Key_j1101011111100_ok R n hR i3207 st3201 _ h3274) <| .cons (parchmentlaw04_Key_c11010111101_ok R n hR x3193 s3204 i3207 b3240 st3201 _ h3255) <| .cons (parchmentlaw04_Key_j11010111100_ok R n hR i3207 st3201 _ h3239) <| .cons (beqF h3221) <| .cons (beqF h3209) <| .cons h3205 <| .cons h3194 <| .cons (strOf_ok h3203) <| .cons h3200 <| .cons h3196 <| .cons h3194 <| .cons (box_ok h3191) .nil) (by kernel_rfl) (by kernel_rfl)

noncomputable def rc20 (R : Nat) : Nat → Rc20
  | 0 => ⟨R, (fun _ _ _ _ _ _ _ => none)⟩
  | k + 1 => ⟨R, (fun a0 a1 a2 a3 a4 a5 st => parchmentlaw04_Key (rc20 R k) a0 a1 a2 a3 a4 a5 st)⟩
theorem rc20_n (R : Nat) : ∀ k, (rc20 R k).n = R
  | 0 => rfl
  | _ + 1 => rfl
theorem rc20_ok (R : Nat) : ∀ k n, 2 * k ≤ n → (rc20 R k).ok n
  | 0, n, _ => (fun _ _ _ _ _ _ _ _ _ _ h => nomatch h)
  | k + 1, n, hn => 
    fun m hm a0 a1 a2 a3 a4 a5 st r h => by
      obtain ⟨j, rfl⟩ : ∃ j, m = j + 2 := ⟨m - 2, by omega⟩
      have := parchmentlaw04_Key_ok (rc20 R k) j (rc20_ok R k j (by omega)) a0 a1 a2 a3 a4 a5 st r h
      rw [rc20_n] at this
      exact this
noncomputable def parchmentlaw04_Key_top (R : Nat) (a0 : Int) (a1 : Bool) (a2 : Int) (a3 : List UInt8) (a4 : AV) (a5 : AV) (st : St) : Option (List UInt8 × St) := parchmentlaw04_Key (rc20 R 4000) a0 a1 a2 a3 a4 a5 st
theorem parchmentlaw04_Key_top_ok (R n : Nat) (a0 : Int) (a1 : Bool) (a2 : Int) (a3 : List UInt8) (a4 : AV) (a5 : AV) (st : St) (r : List UInt8 × St) (h : parchmentlaw04_Key_top R a0 a1 a2 a3 a4 a5 st = some r) : CallsTo (callK C0 ext0 R (n + 8002)) false 20 [(.agg [.int .i64 a0, .bool a1, .int .i64 a2, .str a3, a4, a5])] st (.str r.1) r.2 := by
  have := parchmentlaw04_Key_ok (rc20 R 4000) (n + 8000) (rc20_ok R 4000 _ (by omega)) a0 a1 a2 a3 a4 a5 st r h
  rw [rc20_n] at this
  exact this

end
end Go.Proofs.YthodfojhbbendaaGreatDoor
