/- Frames of sixteen rows of sixteen. -/
import Derived.Test.YtgmhnpfpmcccnaaGreatDoorEvC
set_option linter.all false
namespace Go.Ev

inductive E1 where
  | mk (a0 a1 a2 a3 a4 a5 a6 a7 a8 a9 a10 a11 a12 a13 a14 a15 : AV)
inductive E2 where
  | mk (b0 b1 b2 b3 b4 b5 b6 b7 b8 b9 b10 b11 b12 b13 b14 b15 : E1)
def E1.l : E1 → List AV
  | .mk a0 a1 a2 a3 a4 a5 a6 a7 a8 a9 a10 a11 a12 a13 a14 a15 => [a0, a1, a2, a3, a4, a5, a6, a7, a8, a9, a10, a11, a12, a13, a14, a15]
def E2.r : E2 → List E1
  | .mk b0 b1 b2 b3 b4 b5 b6 b7 b8 b9 b10 b11 b12 b13 b14 b15 => [b0, b1, b2, b3, b4, b5, b6, b7, b8, b9, b10, b11, b12, b13, b14, b15]
noncomputable def E1.g0 (e : E1) (k : AV → Bool) : Bool := E1.rec (fun a0 _ _ _ _ _ _ _ _ _ _ _ _ _ _ _ => k a0) e
noncomputable def E1.g1 (e : E1) (k : AV → Bool) : Bool := E1.rec (fun _ a1 _ _ _ _ _ _ _ _ _ _ _ _ _ _ => k a1) e
noncomputable def E1.g2 (e : E1) (k : AV → Bool) : Bool := E1.rec (fun _ _ a2 _ _ _ _ _ _ _ _ _ _ _ _ _ => k a2) e
noncomputable def E1.g3 (e : E1) (k : AV → Bool) : Bool := E1.rec (fun _ _ _ a3 _ _ _ _ _ _ _ _ _ _ _ _ => k a3) e
noncomputable def E1.g4 (e : E1) (k : AV → Bool) : Bool := E1.rec (fun _ _ _ _ a4 _ _ _ _ _ _ _ _ _ _ _ => k a4) e
noncomputable def E1.g5 (e : E1) (k : AV → Bool) : Bool := E1.rec (fun _ _ _ _ _ a5 _ _ _ _ _ _ _ _ _ _ => k a5) e
noncomputable def E1.g6 (e : E1) (k : AV → Bool) : Bool := E1.rec (fun _ _ _ _ _ _ a6 _ _ _ _ _ _ _ _ _ => k a6) e
noncomputable def E1.g7 (e : E1) (k : AV → Bool) : Bool := E1.rec (fun _ _ _ _ _ _ _ a7 _ _ _ _ _ _ _ _ => k a7) e
noncomputable def E1.g8 (e : E1) (k : AV → Bool) : Bool := E1.rec (fun _ _ _ _ _ _ _ _ a8 _ _ _ _ _ _ _ => k a8) e
noncomputable def E1.g9 (e : E1) (k : AV → Bool) : Bool := E1.rec (fun _ _ _ _ _ _ _ _ _ a9 _ _ _ _ _ _ => k a9) e
noncomputable def E1.g10 (e : E1) (k : AV → Bool) : Bool := E1.rec (fun _ _ _ _ _ _ _ _ _ _ a10 _ _ _ _ _ => k a10) e
noncomputable def E1.g11 (e : E1) (k : AV → Bool) : Bool := E1.rec (fun _ _ _ _ _ _ _ _ _ _ _ a11 _ _ _ _ => k a11) e
noncomputable def E1.g12 (e : E1) (k : AV → Bool) : Bool := E1.rec (fun _ _ _ _ _ _ _ _ _ _ _ _ a12 _ _ _ => k a12) e
noncomputable def E1.g13 (e : E1) (k : AV → Bool) : Bool := E1.rec (fun _ _ _ _ _ _ _ _ _ _ _ _ _ a13 _ _ => k a13) e
noncomputable def E1.g14 (e : E1) (k : AV → Bool) : Bool := E1.rec (fun _ _ _ _ _ _ _ _ _ _ _ _ _ _ a14 _ => k a14) e
noncomputable def E1.g15 (e : E1) (k : AV → Bool) : Bool := E1.rec (fun _ _ _ _ _ _ _ _ _ _ _ _ _ _ _ a15 => k a15) e
noncomputable def E2.g0 (e : E2) (k : E1 → Bool) : Bool := E2.rec (fun b0 _ _ _ _ _ _ _ _ _ _ _ _ _ _ _ => k b0) e
noncomputable def E2.g1 (e : E2) (k : E1 → Bool) : Bool := E2.rec (fun _ b1 _ _ _ _ _ _ _ _ _ _ _ _ _ _ => k b1) e
noncomputable def E2.g2 (e : E2) (k : E1 → Bool) : Bool := E2.rec (fun _ _ b2 _ _ _ _ _ _ _ _ _ _ _ _ _ => k b2) e
noncomputable def E2.g3 (e : E2) (k : E1 → Bool) : Bool := E2.rec (fun _ _ _ b3 _ _ _ _ _ _ _ _ _ _ _ _ => k b3) e
noncomputable def E2.g4 (e : E2) (k : E1 → Bool) : Bool := E2.rec (fun _ _ _ _ b4 _ _ _ _ _ _ _ _ _ _ _ => k b4) e
noncomputable def E2.g5 (e : E2) (k : E1 → Bool) : Bool := E2.rec (fun _ _ _ _ _ b5 _ _ _ _ _ _ _ _ _ _ => k b5) e
noncomputable def E2.g6 (e : E2) (k : E1 → Bool) : Bool := E2.rec (fun _ _ _ _ _ _ b6 _ _ _ _ _ _ _ _ _ => k b6) e
noncomputable def E2.g7 (e : E2) (k : E1 → Bool) : Bool := E2.rec (fun _ _ _ _ _ _ _ b7 _ _ _ _ _ _ _ _ => k b7) e
noncomputable def E2.g8 (e : E2) (k : E1 → Bool) : Bool := E2.rec (fun _ _ _ _ _ _ _ _ b8 _ _ _ _ _ _ _ => k b8) e
noncomputable def E2.g9 (e : E2) (k : E1 → Bool) : Bool := E2.rec (fun _ _ _ _ _ _ _ _ _ b9 _ _ _ _ _ _ => k b9) e
noncomputable def E2.g10 (e : E2) (k : E1 → Bool) : Bool := E2.rec (fun _ _ _ _ _ _ _ _ _ _ b10 _ _ _ _ _ => k b10) e
noncomputable def E2.g11 (e : E2) (k : E1 → Bool) : Bool := E2.rec (fun _ _ _ _ _ _ _ _ _ _ _ b11 _ _ _ _ => k b11) e
noncomputable def E2.g12 (e : E2) (k : E1 → Bool) : Bool := E2.rec (fun _ _ _ _ _ _ _ _ _ _ _ _ b12 _ _ _ => k b12) e
noncomputable def E2.g13 (e : E2) (k : E1 → Bool) : Bool := E2.rec (fun _ _ _ _ _ _ _ _ _ _ _ _ _ b13 _ _ => k b13) e
noncomputable def E2.g14 (e : E2) (k : E1 → Bool) : Bool := E2.rec (fun _ _ _ _ _ _ _ _ _ _ _ _ _ _ b14 _ => k b14) e
noncomputable def E2.g15 (e : E2) (k : E1 → Bool) : Bool := E2.rec (fun _ _ _ _ _ _ _ _ _ _ _ _ _ _ _ b15 => k b15) e
noncomputable def E1.s0 (e : E1) (v : AV) (k : E1 → Bool) : Bool := E1.rec (fun _ a1 a2 a3 a4 a5 a6 a7 a8 a9 a10 a11 a12 a13 a14 a15 => k (.mk v a1 a2 a3 a4 a5 a6 a7 a8 a9 a10 a11 a12 a13 a14 a15)) e
noncomputable def E1.s1 (e : E1) (v : AV) (k : E1 → Bool) : Bool := E1.rec (fun a0 _ a2 a3 a4 a5 a6 a7 a8 a9 a10 a11 a12 a13 a14 a15 => k (.mk a0 v a2 a3 a4 a5 a6 a7 a8 a9 a10 a11 a12 a13 a14 a15)) e
noncomputable def E1.s2 (e : E1) (v : AV) (k : E1 → Bool) : Bool := E1.rec (fun a0 a1 _ a3 a4 a5 a6 a7 a8 a9 a10 a11 a12 a13 a14 a15 => k (.mk a0 a1 v a3 a4 a5 a6 a7 a8 a9 a10 a11 a12 a13 a14 a15)) e
noncomputable def E1.s3 (e : E1) (v : AV) (k : E1 → Bool) : Bool := E1.rec (fun a0 a1 a2 _ a4 a5 a6 a7 a8 a9 a10 a11 a12 a13 a14 a15 => k (.mk a0 a1 a2 v a4 a5 a6 a7 a8 a9 a10 a11 a12 a13 a14 a15)) e
noncomputable def E1.s4 (e : E1) (v : AV) (k : E1 → Bool) : Bool := E1.rec (fun a0 a1 a2 a3 _ a5 a6 a7 a8 a9 a10 a11 a12 a13 a14 a15 => k (.mk a0 a1 a2 a3 v a5 a6 a7 a8 a9 a10 a11 a12 a13 a14 a15)) e
noncomputable def E1.s5 (e : E1) (v : AV) (k : E1 → Bool) : Bool := E1.rec (fun a0 a1 a2 a3 a4 _ a6 a7 a8 a9 a10 a11 a12 a13 a14 a15 => k (.mk a0 a1 a2 a3 a4 v a6 a7 a8 a9 a10 a11 a12 a13 a14 a15)) e
noncomputable def E1.s6 (e : E1) (v : AV) (k : E1 → Bool) : Bool := E1.rec (fun a0 a1 a2 a3 a4 a5 _ a7 a8 a9 a10 a11 a12 a13 a14 a15 => k (.mk a0 a1 a2 a3 a4 a5 v a7 a8 a9 a10 a11 a12 a13 a14 a15)) e
noncomputable def E1.s7 (e : E1) (v : AV) (k : E1 → Bool) : Bool := E1.rec (fun a0 a1 a2 a3 a4 a5 a6 _ a8 a9 a10 a11 a12 a13 a14 a15 => k (.mk a0 a1 a2 a3 a4 a5 a6 v a8 a9 a10 a11 a12 a13 a14 a15)) e
noncomputable def E1.s8 (e : E1) (v : AV) (k : E1 → Bool) : Bool := E1.rec (fun a0 a1 a2 a3 a4 a5 a6 a7 _ a9 a10 a11 a12 a13 a14 a15 => k (.mk a0 a1 a2 a3 a4 a5 a6 a7 v a9 a10 a11 a12 a13 a14 a15)) e
noncomputable def E1.s9 (e : E1) (v : AV) (k : E1 → Bool) : Bool := E1.rec (fun a0 a1 a2 a3 a4 a5 a6 a7 a8 _ a10 a11 a12 a13 a14 a15 => k (.mk a0 a1 a2 a3 a4 a5 a6 a7 a8 v a10 a11 a12 a13 a14 a15)) e
noncomputable def E1.s10 (e : E1) (v : AV) (k : E1 → Bool) : Bool := E1.rec (fun a0 a1 a2 a3 a4 a5 a6 a7 a8 a9 _ a11 a12 a13 a14 a15 => k (.mk a0 a1 a2 a3 a4 a5 a6 a7 a8 a9 v a11 a12 a13 a14 a15)) e
noncomputable def E1.s11 (e : E1) (v : AV) (k : E1 → Bool) : Bool := E1.rec (fun a0 a1 a2 a3 a4 a5 a6 a7 a8 a9 a10 _ a12 a13 a14 a15 => k (.mk a0 a1 a2 a3 a4 a5 a6 a7 a8 a9 a10 v a12 a13 a14 a15)) e
noncomputable def E1.s12 (e : E1) (v : AV) (k : E1 → Bool) : Bool := E1.rec (fun a0 a1 a2 a3 a4 a5 a6 a7 a8 a9 a10 a11 _ a13 a14 a15 => k (.mk a0 a1 a2 a3 a4 a5 a6 a7 a8 a9 a10 a11 v a13 a14 a15)) e
noncomputable def E1.s13 (e : E1) (v : AV) (k : E1 → Bool) : Bool := E1.rec (fun a0 a1 a2 a3 a4 a5 a6 a7 a8 a9 a10 a11 a12 _ a14 a15 => k (.mk a0 a1 a2 a3 a4 a5 a6 a7 a8 a9 a10 a11 a12 v a14 a15)) e
noncomputable def E1.s14 (e : E1) (v : AV) (k : E1 → Bool) : Bool := E1.rec (fun a0 a1 a2 a3 a4 a5 a6 a7 a8 a9 a10 a11 a12 a13 _ a15 => k (.mk a0 a1 a2 a3 a4 a5 a6 a7 a8 a9 a10 a11 a12 a13 v a15)) e
noncomputable def E1.s15 (e : E1) (v : AV) (k : E1 → Bool) : Bool := E1.rec (fun a0 a1 a2 a3 a4 a5 a6 a7 a8 a9 a10 a11 a12 a13 a14 _ => k (.mk a0 a1 a2 a3 a4 a5 a6 a7 a8 a9 a10 a11 a12 a13 a14 v)) e
noncomputable def E2.s0 (e : E2) (w : E1 → (E1 → Bool) → Bool) (k : E2 → Bool) : Bool := E2.rec (fun b0 b1 b2 b3 b4 b5 b6 b7 b8 b9 b10 b11 b12 b13 b14 b15 => w b0 fun v => k (.mk v b1 b2 b3 b4 b5 b6 b7 b8 b9 b10 b11 b12 b13 b14 b15)) e
noncomputable def E2.s1 (e : E2) (w : E1 → (E1 → Bool) → Bool) (k : E2 → Bool) : Bool := E2.rec (fun b0 b1 b2 b3 b4 b5 b6 b7 b8 b9 b10 b11 b12 b13 b14 b15 => w b1 fun v => k (.mk b0 v b2 b3 b4 b5 b6 b7 b8 b9 b10 b11 b12 b13 b14 b15)) e
noncomputable def E2.s2 (e : E2) (w : E1 → (E1 → Bool) → Bool) (k : E2 → Bool) : Bool := E2.rec (fun b0 b1 b2 b3 b4 b5 b6 b7 b8 b9 b10 b11 b12 b13 b14 b15 => w b2 fun v => k (.mk b0 b1 v b3 b4 b5 b6 b7 b8 b9 b10 b11 b12 b13 b14 b15)) e
noncomputable def E2.s3 (e : E2) (w : E1 → (E1 → Bool) → Bool) (k : E2 → Bool) : Bool := E2.rec (fun b0 b1 b2 b3 b4 b5 b6 b7 b8 b9 b10 b11 b12 b13 b14 b15 => w b3 fun v => k (.mk b0 b1 b2 v b4 b5 b6 b7 b8 b9 b10 b11 b12 b13 b14 b15)) e
noncomputable def E2.s4 (e : E2) (w : E1 → (E1 → Bool) → Bool) (k : E2 → Bool) : Bool := E2.rec (fun b0 b1 b2 b3 b4 b5 b6 b7 b8 b9 b10 b11 b12 b13 b14 b15 => w b4 fun v => k (.mk b0 b1 b2 b3 v b5 b6 b7 b8 b9 b10 b11 b12 b13 b14 b15)) e
noncomputable def E2.s5 (e : E2) (w : E1 → (E1 → Bool) → Bool) (k : E2 → Bool) : Bool := E2.rec (fun b0 b1 b2 b3 b4 b5 b6 b7 b8 b9 b10 b11 b12 b13 b14 b15 => w b5 fun v => k (.mk b0 b1 b2 b3 b4 v b6 b7 b8 b9 b10 b11 b12 b13 b14 b15)) e
noncomputable def E2.s6 (e : E2) (w : E1 → (E1 → Bool) → Bool) (k : E2 → Bool) : Bool := E2.rec (fun b0 b1 b2 b3 b4 b5 b6 b7 b8 b9 b10 b11 b12 b13 b14 b15 => w b6 fun v => k (.mk b0 b1 b2 b3 b4 b5 v b7 b8 b9 b10 b11 b12 b13 b14 b15)) e
noncomputable def E2.s7 (e : E2) (w : E1 → (E1 → Bool) → Bool) (k : E2 → Bool) : Bool := E2.rec (fun b0 b1 b2 b3 b4 b5 b6 b7 b8 b9 b10 b11 b12 b13 b14 b15 => w b7 fun v => k (.mk b0 b1 b2 b3 b4 b5 b6 v b8 b9 b10 b11 b12 b13 b14 b15)) e
noncomputable def E2.s8 (e : E2) (w : E1 → (E1 → Bool) → Bool) (k : E2 → Bool) : Bool := E2.rec (fun b0 b1 b2 b3 b4 b5 b6 b7 b8 b9 b10 b11 b12 b13 b14 b15 => w b8 fun v => k (.mk b0 b1 b2 b3 b4 b5 b6 b7 v b9 b10 b11 b12 b13 b14 b15)) e
noncomputable def E2.s9 (e : E2) (w : E1 → (E1 → Bool) → Bool) (k : E2 → Bool) : Bool := E2.rec (fun b0 b1 b2 b3 b4 b5 b6 b7 b8 b9 b10 b11 b12 b13 b14 b15 => w b9 fun v => k (.mk b0 b1 b2 b3 b4 b5 b6 b7 b8 v b10 b11 b12 b13 b14 b15)) e
noncomputable def E2.s10 (e : E2) (w : E1 → (E1 → Bool) → Bool) (k : E2 → Bool) : Bool := E2.rec (fun b0 b1 b2 b3 b4 b5 b6 b7 b8 b9 b10 b11 b12 b13 b14 b15 => w b10 fun v => k (.mk b0 b1 b2 b3 b4 b5 b6 b7 b8 b9 v b11 b12 b13 b14 b15)) e
noncomputable def E2.s11 (e : E2) (w : E1 → (E1 → Bool) → Bool) (k : E2 → Bool) : Bool := E2.rec (fun b0 b1 b2 b3 b4 b5 b6 b7 b8 b9 b10 b11 b12 b13 b14 b15 => w b11 fun v => k (.mk b0 b1 b2 b3 b4 b5 b6 b7 b8 b9 b10 v b12 b13 b14 b15)) e
noncomputable def E2.s12 (e : E2) (w : E1 → (E1 → Bool) → Bool) (k : E2 → Bool) : Bool := E2.rec (fun b0 b1 b2 b3 b4 b5 b6 b7 b8 b9 b10 b11 b12 b13 b14 b15 => w b12 fun v => k (.mk b0 b1 b2 b3 b4 b5 b6 b7 b8 b9 b10 b11 v b13 b14 b15)) e
noncomputable def E2.s13 (e : E2) (w : E1 → (E1 → Bool) → Bool) (k : E2 → Bool) : Bool := E2.rec (fun b0 b1 b2 b3 b4 b5 b6 b7 b8 b9 b10 b11 b12 b13 b14 b15 => w b13 fun v => k (.mk b0 b1 b2 b3 b4 b5 b6 b7 b8 b9 b10 b11 b12 v b14 b15)) e
noncomputable def E2.s14 (e : E2) (w : E1 → (E1 → Bool) → Bool) (k : E2 → Bool) : Bool := E2.rec (fun b0 b1 b2 b3 b4 b5 b6 b7 b8 b9 b10 b11 b12 b13 b14 b15 => w b14 fun v => k (.mk b0 b1 b2 b3 b4 b5 b6 b7 b8 b9 b10 b11 b12 b13 v b15)) e
noncomputable def E2.s15 (e : E2) (w : E1 → (E1 → Bool) → Bool) (k : E2 → Bool) : Bool := E2.rec (fun b0 b1 b2 b3 b4 b5 b6 b7 b8 b9 b10 b11 b12 b13 b14 b15 => w b15 fun v => k (.mk b0 b1 b2 b3 b4 b5 b6 b7 b8 b9 b10 b11 b12 b13 b14 v)) e
noncomputable def E1.gs : List (E1 → (AV → Bool) → Bool) := [E1.g0, E1.g1, E1.g2, E1.g3, E1.g4, E1.g5, E1.g6, E1.g7, E1.g8, E1.g9, E1.g10, E1.g11, E1.g12, E1.g13, E1.g14, E1.g15]
noncomputable def E2.gs : List (E2 → (E1 → Bool) → Bool) := [E2.g0, E2.g1, E2.g2, E2.g3, E2.g4, E2.g5, E2.g6, E2.g7, E2.g8, E2.g9, E2.g10, E2.g11, E2.g12, E2.g13, E2.g14, E2.g15]
noncomputable def E1.ss : List (E1 → AV → (E1 → Bool) → Bool) := [E1.s0, E1.s1, E1.s2, E1.s3, E1.s4, E1.s5, E1.s6, E1.s7, E1.s8, E1.s9, E1.s10, E1.s11, E1.s12, E1.s13, E1.s14, E1.s15]
noncomputable def E2.ss : List (E2 → (E1 → (E1 → Bool) → Bool) → (E2 → Bool) → Bool) := [E2.s0, E2.s1, E2.s2, E2.s3, E2.s4, E2.s5, E2.s6, E2.s7, E2.s8, E2.s9, E2.s10, E2.s11, E2.s12, E2.s13, E2.s14, E2.s15]
def E1.none : E1 := .mk AV.undef AV.undef AV.undef AV.undef AV.undef AV.undef AV.undef AV.undef AV.undef AV.undef AV.undef AV.undef AV.undef AV.undef AV.undef AV.undef
def E2.none : E2 := .mk E1.none E1.none E1.none E1.none E1.none E1.none E1.none E1.none E1.none E1.none E1.none E1.none E1.none E1.none E1.none E1.none
def E2.put (e : E2) (i : Nat) (v : E1) : E2 :=
  match e with
  | .mk b0 b1 b2 b3 b4 b5 b6 b7 b8 b9 b10 b11 b12 b13 b14 b15 => match i with
    | 0 => .mk v b1 b2 b3 b4 b5 b6 b7 b8 b9 b10 b11 b12 b13 b14 b15
    | 1 => .mk b0 v b2 b3 b4 b5 b6 b7 b8 b9 b10 b11 b12 b13 b14 b15
    | 2 => .mk b0 b1 v b3 b4 b5 b6 b7 b8 b9 b10 b11 b12 b13 b14 b15
    | 3 => .mk b0 b1 b2 v b4 b5 b6 b7 b8 b9 b10 b11 b12 b13 b14 b15
    | 4 => .mk b0 b1 b2 b3 v b5 b6 b7 b8 b9 b10 b11 b12 b13 b14 b15
    | 5 => .mk b0 b1 b2 b3 b4 v b6 b7 b8 b9 b10 b11 b12 b13 b14 b15
    | 6 => .mk b0 b1 b2 b3 b4 b5 v b7 b8 b9 b10 b11 b12 b13 b14 b15
    | 7 => .mk b0 b1 b2 b3 b4 b5 b6 v b8 b9 b10 b11 b12 b13 b14 b15
    | 8 => .mk b0 b1 b2 b3 b4 b5 b6 b7 v b9 b10 b11 b12 b13 b14 b15
    | 9 => .mk b0 b1 b2 b3 b4 b5 b6 b7 b8 v b10 b11 b12 b13 b14 b15
    | 10 => .mk b0 b1 b2 b3 b4 b5 b6 b7 b8 b9 v b11 b12 b13 b14 b15
    | 11 => .mk b0 b1 b2 b3 b4 b5 b6 b7 b8 b9 b10 v b12 b13 b14 b15
    | 12 => .mk b0 b1 b2 b3 b4 b5 b6 b7 b8 b9 b10 b11 v b13 b14 b15
    | 13 => .mk b0 b1 b2 b3 b4 b5 b6 b7 b8 b9 b10 b11 b12 v b14 b15
    | 14 => .mk b0 b1 b2 b3 b4 b5 b6 b7 b8 b9 b10 b11 b12 b13 v b15
    | 15 => .mk b0 b1 b2 b3 b4 b5 b6 b7 b8 b9 b10 b11 b12 b13 b14 v
    | _ => .mk b0 b1 b2 b3 b4 b5 b6 b7 b8 b9 b10 b11 b12 b13 b14 b15
theorem E1.gs_ok {i : Nat} {g} (h : E1.gs[i]? = some g) (e : E1) (k : AV → Bool) : g e k = k (e.l.getD i AV.undef) := by
  rcases i with _ | _ | _ | _ | _ | _ | _ | _ | _ | _ | _ | _ | _ | _ | _ | _ | i
  · simp only [E1.gs, List.getElem?_cons_zero, List.getElem?_cons_succ, Option.some.injEq] at h; subst h; cases e; rfl
  · simp only [E1.gs, List.getElem?_cons_zero, List.getElem?_cons_succ, Option.some.injEq] at h; subst h; cases e; rfl
  · simp only [E1.gs, List.getElem?_cons_zero, List.getElem?_cons_succ, Option.some.injEq] at h; subst h; cases e; rfl
  · simp only [E1.gs, List.getElem?_cons_zero, List.getElem?_cons_succ, Option.some.injEq] at h; subst h; cases e; rfl
  · simp only [E1.gs, List.getElem?_cons_zero, List.getElem?_cons_succ, Option.some.injEq] at h; subst h; cases e; rfl
  · simp only [E1.gs, List.getElem?_cons_zero, List.getElem?_cons_succ, Option.some.injEq] at h; subst h; cases e; rfl
  · simp only [E1.gs, List.getElem?_cons_zero, List.getElem?_cons_succ, Option.some.injEq] at h; subst h; cases e; rfl
  · simp only [E1.gs, List.getElem?_cons_zero, List.getElem?_cons_succ, Option.some.injEq] at h; subst h; cases e; rfl
  · simp only [E1.gs, List.getElem?_cons_zero, List.getElem?_cons_succ, Option.some.injEq] at h; subst h; cases e; rfl
  · simp only [E1.gs, List.getElem?_cons_zero, List.getElem?_cons_succ, Option.some.injEq] at h; subst h; cases e; rfl
  · simp only [E1.gs, List.getElem?_cons_zero, List.getElem?_cons_succ, Option.some.injEq] at h; subst h; cases e; rfl
  · simp only [E1.gs, List.getElem?_cons_zero, List.getElem?_cons_succ, Option.some.injEq] at h; subst h; cases e; rfl
  · simp only [E1.gs, List.getElem?_cons_zero, List.getElem?_cons_succ, Option.some.injEq] at h; subst h; cases e; rfl
  · simp only [E1.gs, List.getElem?_cons_zero, List.getElem?_cons_succ, Option.some.injEq] at h; subst h; cases e; rfl
  · simp only [E1.gs, List.getElem?_cons_zero, List.getElem?_cons_succ, Option.some.injEq] at h; subst h; cases e; rfl
  · simp only [E1.gs, List.getElem?_cons_zero, List.getElem?_cons_succ, Option.some.injEq] at h; subst h; cases e; rfl
  · simp [E1.gs] at h
theorem E2.gs_ok {i : Nat} {g} (h : E2.gs[i]? = some g) (e : E2) (k : E1 → Bool) : g e k = k (e.r.getD i E1.none) := by
  rcases i with _ | _ | _ | _ | _ | _ | _ | _ | _ | _ | _ | _ | _ | _ | _ | _ | i
  · simp only [E2.gs, List.getElem?_cons_zero, List.getElem?_cons_succ, Option.some.injEq] at h; subst h; cases e; rfl
  · simp only [E2.gs, List.getElem?_cons_zero, List.getElem?_cons_succ, Option.some.injEq] at h; subst h; cases e; rfl
  · simp only [E2.gs, List.getElem?_cons_zero, List.getElem?_cons_succ, Option.some.injEq] at h; subst h; cases e; rfl
  · simp only [E2.gs, List.getElem?_cons_zero, List.getElem?_cons_succ, Option.some.injEq] at h; subst h; cases e; rfl
  · simp only [E2.gs, List.getElem?_cons_zero, List.getElem?_cons_succ, Option.some.injEq] at h; subst h; cases e; rfl
  · simp only [E2.gs, List.getElem?_cons_zero, List.getElem?_cons_succ, Option.some.injEq] at h; subst h; cases e; rfl
  · simp only [E2.gs, List.getElem?_cons_zero, List.getElem?_cons_succ, Option.some.injEq] at h; subst h; cases e; rfl
  · simp only [E2.gs, List.getElem?_cons_zero, List.getElem?_cons_succ, Option.some.injEq] at h; subst h; cases e; rfl
  · simp only [E2.gs, List.getElem?_cons_zero, List.getElem?_cons_succ, Option.some.injEq] at h; subst h; cases e; rfl
  · simp only [E2.gs, List.getElem?_cons_zero, List.getElem?_cons_succ, Option.some.injEq] at h; subst h; cases e; rfl
  · simp only [E2.gs, List.getElem?_cons_zero, List.getElem?_cons_succ, Option.some.injEq] at h; subst h; cases e; rfl
  · simp only [E2.gs, List.getElem?_cons_zero, List.getElem?_cons_succ, Option.some.injEq] at h; subst h; cases e; rfl
  · simp only [E2.gs, List.getElem?_cons_zero, List.getElem?_cons_succ, Option.some.injEq] at h; subst h; cases e; rfl
  · simp only [E2.gs, List.getElem?_cons_zero, List.getElem?_cons_succ, Option.some.injEq] at h; subst h; cases e; rfl
  · simp only [E2.gs, List.getElem?_cons_zero, List.getElem?_cons_succ, Option.some.injEq] at h; subst h; cases e; rfl
  · simp only [E2.gs, List.getElem?_cons_zero, List.getElem?_cons_succ, Option.some.injEq] at h; subst h; cases e; rfl
  · simp [E2.gs] at h
theorem E1.ss_ok {i : Nat} {g} (h : E1.ss[i]? = some g) (e : E1) (v : AV) (k : E1 → Bool) : ∃ e', g e v k = k e' ∧ e'.l = e.l.set i v ∧ i < 16 := by
  rcases i with _ | _ | _ | _ | _ | _ | _ | _ | _ | _ | _ | _ | _ | _ | _ | _ | i
  · simp only [E1.ss, List.getElem?_cons_zero, List.getElem?_cons_succ, Option.some.injEq] at h; subst h; cases e; exact ⟨_, rfl, rfl, by omega⟩
  · simp only [E1.ss, List.getElem?_cons_zero, List.getElem?_cons_succ, Option.some.injEq] at h; subst h; cases e; exact ⟨_, rfl, rfl, by omega⟩
  · simp only [E1.ss, List.getElem?_cons_zero, List.getElem?_cons_succ, Option.some.injEq] at h; subst h; cases e; exact ⟨_, rfl, rfl, by omega⟩
  · simp only [E1.ss, List.getElem?_cons_zero, List.getElem?_cons_succ, Option.some.injEq] at h; subst h; cases e; exact ⟨_, rfl, rfl, by omega⟩
  · simp only [E1.ss, List.getElem?_cons_zero, List.getElem?_cons_succ, Option.some.injEq] at h; subst h; cases e; exact ⟨_, rfl, rfl, by omega⟩
  · simp only [E1.ss, List.getElem?_cons_zero, List.getElem?_cons_succ, Option.some.injEq] at h; subst h; cases e; exact ⟨_, rfl, rfl, by omega⟩
  · simp only [E1.ss, List.getElem?_cons_zero, List.getElem?_cons_succ, Option.some.injEq] at h; subst h; cases e; exact ⟨_, rfl, rfl, by omega⟩
  · simp only [E1.ss, List.getElem?_cons_zero, List.getElem?_cons_succ, Option.some.injEq] at h; subst h; cases e; exact ⟨_, rfl, rfl, by omega⟩
  · simp only [E1.ss, List.getElem?_cons_zero, List.getElem?_cons_succ, Option.some.injEq] at h; subst h; cases e; exact ⟨_, rfl, rfl, by omega⟩
  · simp only [E1.ss, List.getElem?_cons_zero, List.getElem?_cons_succ, Option.some.injEq] at h; subst h; cases e; exact ⟨_, rfl, rfl, by omega⟩
  · simp only [E1.ss, List.getElem?_cons_zero, List.getElem?_cons_succ, Option.some.injEq] at h; subst h; cases e; exact ⟨_, rfl, rfl, by omega⟩
  · simp only [E1.ss, List.getElem?_cons_zero, List.getElem?_cons_succ, Option.some.injEq] at h; subst h; cases e; exact ⟨_, rfl, rfl, by omega⟩
  · simp only [E1.ss, List.getElem?_cons_zero, List.getElem?_cons_succ, Option.some.injEq] at h; subst h; cases e; exact ⟨_, rfl, rfl, by omega⟩
  · simp only [E1.ss, List.getElem?_cons_zero, List.getElem?_cons_succ, Option.some.injEq] at h; subst h; cases e; exact ⟨_, rfl, rfl, by omega⟩
  · simp only [E1.ss, List.getElem?_cons_zero, List.getElem?_cons_succ, Option.some.injEq] at h; subst h; cases e; exact ⟨_, rfl, rfl, by omega⟩
  · simp only [E1.ss, List.getElem?_cons_zero, List.getElem?_cons_succ, Option.some.injEq] at h; subst h; cases e; exact ⟨_, rfl, rfl, by omega⟩
  · simp [E1.ss] at h
theorem E2.ss_ok {i : Nat} {g} (h : E2.ss[i]? = some g) (e : E2) (w : E1 → (E1 → Bool) → Bool) (k : E2 → Bool) : g e w k = w (e.r.getD i E1.none) (fun r => k ((E2.put e i r))) ∧ i < 16 := by
  rcases i with _ | _ | _ | _ | _ | _ | _ | _ | _ | _ | _ | _ | _ | _ | _ | _ | i
  · simp only [E2.ss, List.getElem?_cons_zero, List.getElem?_cons_succ, Option.some.injEq] at h; subst h; cases e; exact ⟨rfl, by omega⟩
  · simp only [E2.ss, List.getElem?_cons_zero, List.getElem?_cons_succ, Option.some.injEq] at h; subst h; cases e; exact ⟨rfl, by omega⟩
  · simp only [E2.ss, List.getElem?_cons_zero, List.getElem?_cons_succ, Option.some.injEq] at h; subst h; cases e; exact ⟨rfl, by omega⟩
  · simp only [E2.ss, List.getElem?_cons_zero, List.getElem?_cons_succ, Option.some.injEq] at h; subst h; cases e; exact ⟨rfl, by omega⟩
  · simp only [E2.ss, List.getElem?_cons_zero, List.getElem?_cons_succ, Option.some.injEq] at h; subst h; cases e; exact ⟨rfl, by omega⟩
  · simp only [E2.ss, List.getElem?_cons_zero, List.getElem?_cons_succ, Option.some.injEq] at h; subst h; cases e; exact ⟨rfl, by omega⟩
  · simp only [E2.ss, List.getElem?_cons_zero, List.getElem?_cons_succ, Option.some.injEq] at h; subst h; cases e; exact ⟨rfl, by omega⟩
  · simp only [E2.ss, List.getElem?_cons_zero, List.getElem?_cons_succ, Option.some.injEq] at h; subst h; cases e; exact ⟨rfl, by omega⟩
  · simp only [E2.ss, List.getElem?_cons_zero, List.getElem?_cons_succ, Option.some.injEq] at h; subst h; cases e; exact ⟨rfl, by omega⟩
  · simp only [E2.ss, List.getElem?_cons_zero, List.getElem?_cons_succ, Option.some.injEq] at h; subst h; cases e; exact ⟨rfl, by omega⟩
  · simp only [E2.ss, List.getElem?_cons_zero, List.getElem?_cons_succ, Option.some.injEq] at h; subst h; cases e; exact ⟨rfl, by omega⟩
  · simp only [E2.ss, List.getElem?_cons_zero, List.getElem?_cons_succ, Option.some.injEq] at h; subst h; cases e; exact ⟨rfl, by omega⟩
  · simp only [E2.ss, List.getElem?_cons_zero, List.getElem?_cons_succ, Option.some.injEq] at h; subst h; cases e; exact ⟨rfl, by omega⟩
  · simp only [E2.ss, List.getElem?_cons_zero, List.getElem?_cons_succ, Option.some.injEq] at h; subst h; cases e; exact ⟨rfl, by omega⟩
  · simp only [E2.ss, List.getElem?_cons_zero, List.getElem?_cons_succ, Option.some.injEq] at h; subst h; cases e; exact ⟨rfl, by omega⟩
  · simp only [E2.ss, List.getElem?_cons_zero, List.getElem?_cons_succ, Option.some.injEq] at h; subst h; cases e; exact ⟨rfl, by omega⟩
  · simp [E2.ss] at h
theorem E2.put_r (e : E2) (i : Nat) (v : E1) : (e.put i v).r = e.r.set i v := by
  cases e
  rcases i with _ | _ | _ | _ | _ | _ | _ | _ | _ | _ | _ | _ | _ | _ | _ | _ | i
  · rfl
  · rfl
  · rfl
  · rfl
  · rfl
  · rfl
  · rfl
  · rfl
  · rfl
  · rfl
  · rfl
  · rfl
  · rfl
  · rfl
  · rfl
  · rfl
  · rfl
theorem E1.l_length (e : E1) : e.l.length = 16 := by cases e; rfl
theorem E2.r_length (e : E2) : e.r.length = 16 := by cases e; rfl

end Go.Ev
