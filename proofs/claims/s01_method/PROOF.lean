import PyProof.Rows.All
import Wide.All
import OpenK.AllK
import Wide.FinOn
import Open.SpecLaws
import KE.OsGo
import PyProof.NeKinds
import HandS.ForMost
import HandS.Walk
import HandS.ForSpec
import HandS.ExcInit
import HandS.ExcField
import HandS.NoneIn
import PyYqacda
import PySem.Challenge.RW_abacusways_s01_method
set_option Elab.async false
set_option linter.all false
set_option maxRecDepth 100000
set_option maxHeartbeats 4000000
/-! # The parser's mirror: each def of texts.py and lines.py as a total function over plain data -/
namespace Ab
/-- how a piece of the parser ends: out of fuel; at a fault's place; with a value -/
inductive R (A : Type) where
  | lost
  | bad (k : Nat)
  | ok (a : A)
abbrev Items := List (Int × Int)
abbrev Tests := List (Items × (Bool × Bool × Bool) × Items)
def digitsL : List Int := [48, 49, 50, 51, 52, 53, 54, 55, 56, 57]
def headsL : List Int := [97, 98, 99, 100, 101, 102, 103, 104]
def marksL : List Int := [65, 66, 67, 68, 69, 70, 71, 72]
def openersL : List Int := [40, 91]
def opsL : List Int := [42, 43, 45]
def closer (o : Int) : Int := if o = 40 then 41 else 93
/-- the next byte is one of some -/
def sees : List Int → List Int → Bool
  | [], _ => false
  | c :: _, l => l.contains c
def nx : List Int → Nat → List Int → R (Int × List Int × Nat)
  | [], p, _ => .bad p
  | c :: b, p, l => if l.contains c = true then .ok (c, b, p + 1) else .bad p
def word : List Int → List Int → Nat → R (List Int × Nat)
  | [], b, p => .ok (b, p)
  | c :: w, b, p => match nx b p [c] with
    | .lost => .lost
    | .bad k => .bad k
    | .ok (_, b1, p1) => word w b1 p1
/-- more digits, so many at most -/
def num : Nat → Int → List Int → Nat → Int × List Int × Nat
  | 0, n, b, p => (n, b, p)
  | f + 1, n, b, p => if 0 < n then (match b with
      | [] => (n, [], p)
      | c :: b1 => if digitsL.contains c = true then num f (n * 10 + c - 48) b1 (p + 1) else (n, c :: b1, p))
    else (n, b, p)
def operand (c : Int) (b : List Int) (p : Nat) : (Int × Int) × List Int × Nat :=
  if digitsL.contains c = true then (let r := num 3 (c - 48) b p; ((0, r.1), r.2))
  else if headsL.contains c = true then ((1, c - 97), b, p) else ((2, c - 65), b, p)
def opens (w : List Int) : List Int := w.filter fun c => openersL.contains c
def canBegin (w : List Int) : List Int := digitsL ++ headsL ++ marksL ++ (if (opens w).length < 16 then openersL else [])
/-- brackets opened, an operand; w: what waits, the last first -/
def rdOp : List Int → List Int → Nat → R ((Int × Int) × List Int × List Int × Nat)
  | [], _, p => .bad p
  | c :: b, w, p => if (canBegin w).contains c = true then
      (if openersL.contains c = true then rdOp b (c :: w) (p + 1) else (let r := operand c b (p + 1); .ok (r.1, w, r.2)))
    else .bad p
/-- the innermost bracket closed -/
def clos : Items → List Int → Items × List Int
  | fd, [] => (fd, [])
  | fd, c :: w => if openersL.contains c = true then (if c = 91 then fd ++ [(3, 0)] else fd, w) else clos (fd ++ [(c, 0)]) w
def rdCl : List Int → Items → List Int → Nat → Items × List Int × List Int × Nat
  | [], fd, w, p => (fd, w, [], p)
  | c :: b, fd, w, p => match (opens w).head? with
    | none => (fd, w, c :: b, p)
    | some o => if c = closer o then rdCl b (clos fd w).1 (clos fd w).2 (p + 1) else (fd, w, c :: b, p)
def binds (c : Int) : Int := if c = 42 then 2 else if c = 43 then 1 else if c = 45 then 1 else 0
def unw (y : Int) : Items → List Int → Items × List Int
  | fd, [] => (fd, [])
  | fd, c :: w => if binds y ≤ binds c then unw y (fd ++ [(c, 0)]) w else (fd, c :: w)
def rdOr (b : List Int) (fd : Items) (w : List Int) (p : Nat) : R (Items × List Int × List Int × Nat) := match nx b p opsL with
  | .lost => .lost
  | .bad k => .bad k
  | .ok (c, b1, p1) => .ok ((unw c fd w).1, c :: (unw c fd w).2, b1, p1)
def rest (w : List Int) : Items := w.map fun c => (c, 0)
def exL (ends : List Int) : Nat → Items → List Int → List Int → Nat → R (Items × List Int × Nat)
  | 0, _, _, _, _ => .lost
  | f + 1, fd, w, b, p => match rdOp b w p with
    | .lost => .lost
    | .bad k => .bad k
    | .ok (it, w1, b1, p1) => match rdCl b1 (fd ++ [it]) w1 p1 with
      | (fd2, w2, b2, p2) => if ((opens w2).isEmpty && sees b2 ends) = true then .ok (fd2 ++ rest w2, b2, p2) else match rdOr b2 fd2 w2 p2 with
        | .lost => .lost
        | .bad k => .bad k
        | .ok (fd3, w3, b3, p3) => exL ends f fd3 w3 b3 p3
def expr (ends : List Int) (b : List Int) (p : Nat) : R (Items × List Int × Nat) := exL ends (b.length + 1) [] [] b p
def cmp : List Int → Nat → R ((Bool × Bool × Bool) × List Int × Nat)
  | [], p => .bad p
  | c :: b, p => if c = 61 then .ok ((false, true, false), b, p + 1)
    else if c = 62 then (match b with
      | [] => .ok ((false, false, true), [], p + 1)
      | d :: b1 => if d = 61 then .ok ((false, true, true), b1, p + 2) else .ok ((false, false, true), d :: b1, p + 1))
    else if c = 60 then (match b with
      | [] => .ok ((true, false, false), [], p + 1)
      | d :: b1 => if d = 61 then .ok ((true, true, false), b1, p + 2) else if d = 62 then .ok ((true, false, true), b1, p + 2) else .ok ((true, false, false), d :: b1, p + 1))
    else .bad p
def andL : List Int := [32, 97, 110, 100, 32]
def cdL : Nat → Tests → List Int → Nat → R (Tests × List Int × Nat)
  | 0, _, _, _ => .lost
  | f + 1, ts, b, p => match expr [60, 61, 62] b p with
    | .lost => .lost
    | .bad k => .bad k
    | .ok (l, b1, p1) => match cmp b1 p1 with
      | .lost => .lost
      | .bad k => .bad k
      | .ok (y, b2, p2) => match expr [32, 10] b2 p2 with
        | .lost => .lost
        | .bad k => .bad k
        | .ok (r, b3, p3) => if sees b3 [32] = true then (match word andL b3 p3 with
            | .lost => .lost
            | .bad k => .bad k
            | .ok (b4, p4) => cdL f (ts ++ [(l, y, r)]) b4 p4)
          else .ok (ts ++ [(l, y, r)], b3, p3)
def cond (b : List Int) (p : Nat) : R (Tests × List Int × Nat) := cdL (b.length + 1) [] b p
/-! lines -/
inductive Part where
  | two (a b : Items)
  | set (k : Int) (a : Items)
  | tests (ts : Tests)
  | nil
structure LS where
  ws : List Nat
  ps : List Part
  gs : List Nat
  os : List (Nat × Option Nat)
def LS.empty : LS := ⟨[], [], [], []⟩
def LS.put (s : LS) (w : Nat) (x : Part) : LS := ⟨s.ws ++ [w], s.ps ++ [x], s.gs ++ [s.ws.length + 1], s.os⟩
def LS.opened (s : LS) (w : Nat) (x : Part) : LS := { s.put w x with os := (s.ws.length, none) :: s.os }
def LS.may (s : LS) : Bool := match s.os with
  | (b, none) :: _ => s.ws[b]? == some 3
  | _ => false
def LS.putElse (s : LS) : LS := match s.os with
  | (b, _) :: r => let z := s.put 4 .nil
    { z with gs := z.gs.set b z.ws.length, os := (b, some s.ws.length) :: r }
  | [] => s
def LS.putEnd (s : LS) : LS := match s.os with
  | (b, m) :: r => let z := s.put 5 .nil
    let g := if z.ws[b]? == some 6 then z.gs.set s.gs.length b else z.gs
    { z with gs := g.set (m.getD b) z.ws.length, os := r }
  | [] => s
def LS.first (s : LS) : List Int := [97, 116, 115, 102] ++ (if s.os.length < 16 then [105, 119] else []) ++ (if s.os.isEmpty = true then [] else [101])
abbrev RL := R (LS × List Int × Nat)
def rdChange (s : LS) (w : Nat) (rest : List Int) (b : List Int) (p : Nat) : RL := match word rest b p with
  | .lost => .lost
  | .bad k => .bad k
  | .ok (b1, p1) => match expr [32] b1 p1 with
    | .lost => .lost
    | .bad k => .bad k
    | .ok (x, b2, p2) => match word [32, 97, 116, 32] b2 p2 with
      | .lost => .lost
      | .bad k => .bad k
      | .ok (b3, p3) => match expr [10] b3 p3 with
        | .lost => .lost
        | .bad k => .bad k
        | .ok (y, b4, p4) => .ok (s.put w (.two x y), b4, p4)
def rdSet (s : LS) (b : List Int) (p : Nat) : RL := match nx b p [101, 116] with
  | .lost => .lost
  | .bad k => .bad k
  | .ok (c, b1, p1) => if c = 116 then (match word [111, 112] b1 p1 with
      | .lost => .lost
      | .bad k => .bad k
      | .ok (b2, p2) => .ok (s.put 7 .nil, b2, p2))
    else match word [116, 32] b1 p1 with
      | .lost => .lost
      | .bad k => .bad k
      | .ok (b2, p2) => match nx b2 p2 headsL with
        | .lost => .lost
        | .bad k => .bad k
        | .ok (h, b3, p3) => match word [32] b3 p3 with
          | .lost => .lost
          | .bad k => .bad k
          | .ok (b4, p4) => match expr [10] b4 p4 with
            | .lost => .lost
            | .bad k => .bad k
            | .ok (x, b5, p5) => .ok (s.put 2 (.set (h - 97) x), b5, p5)
def rdElse (s : LS) (b : List Int) (p : Nat) : RL := match nx b p (if s.may = true then [110, 108] else [110]) with
  | .lost => .lost
  | .bad k => .bad k
  | .ok (c, b1, p1) => if c = 110 then (match word [100] b1 p1 with
      | .lost => .lost
      | .bad k => .bad k
      | .ok (b2, p2) => .ok (s.putEnd, b2, p2))
    else match word [115, 101] b1 p1 with
      | .lost => .lost
      | .bad k => .bad k
      | .ok (b2, p2) => .ok (s.putElse, b2, p2)
def rdTests (s : LS) (w : Nat) (rest : List Int) (b : List Int) (p : Nat) : RL := match word rest b p with
  | .lost => .lost
  | .bad k => .bad k
  | .ok (b1, p1) => match cond b1 p1 with
    | .lost => .lost
    | .bad k => .bad k
    | .ok (ts, b2, p2) => .ok (s.opened w (.tests ts), b2, p2)
def rdBody (s : LS) (c : Int) (b : List Int) (p : Nat) : RL :=
  if c = 97 then rdChange s 0 [100, 100, 32] b p
  else if c = 116 then rdChange s 1 [97, 107, 101, 32] b p
  else if c = 115 then rdSet s b p
  else if c = 102 then (match word [97, 105, 108] b p with
    | .lost => .lost
    | .bad k => .bad k
    | .ok (b1, p1) => .ok (s.put 8 .nil, b1, p1))
  else if c = 105 then rdTests s 3 [102, 32] b p
  else if c = 119 then rdTests s 6 [104, 105, 108, 101, 32] b p
  else rdElse s b p
def rdLine (s : LS) (b : List Int) (p : Nat) : RL := match nx b p s.first with
  | .lost => .lost
  | .bad k => .bad k
  | .ok (c, b1, p1) => match rdBody s c b1 p1 with
    | .lost => .lost
    | .bad k => .bad k
    | .ok (s2, b2, p2) => match word [10] b2 p2 with
      | .lost => .lost
      | .bad k => .bad k
      | .ok (b3, p3) => .ok (s2, b3, p3)
def lnL : Nat → LS → List Int → Nat → R LS
  | 0, _, _, _ => .lost
  | f + 1, s, b, p => if b.isEmpty = true then (if s.os.isEmpty = true then .ok s else .bad p) else match rdLine s b p with
    | .lost => .lost
    | .bad k => .bad k
    | .ok (s2, b2, p2) => lnL f s2 b2 p2
def linesOf (t : List Int) : R LS := lnL (t.length + 1) .empty t 0
def method (t : List Int) : List Int := if 4096 < t.length then [-6] else match linesOf t with
  | .ok s => [(s.ws.length : Int)]
  | .bad k => [-5, 11, (k : Int)]
  | .lost => []
end Ab
namespace Ab
open Na
def u (c : Int) : UInt8 := UInt8.ofNat c.toNat
def by8 (b : List Int) : Bytes := b.map u
def Good (b : List Int) : Prop := ∀ c ∈ b, 0 ≤ c ∧ c ≤ 255
theorem Good.tail {c : Int} {b : List Int} (h : Good (c :: b)) : Good b := fun x hx => h x (List.mem_cons_of_mem _ hx)
theorem Good.head {c : Int} {b : List Int} (h : Good (c :: b)) : 0 ≤ c ∧ c ≤ 255 := h c (List.mem_cons_self ..)
theorem u_nat {c : Int} (h : 0 ≤ c ∧ c ≤ 255) : (u c).toNat = c.toNat := by
  unfold u
  rw [UInt8.toNat_ofNat']
  omega
theorem u_eq {c : Int} (h : 0 ≤ c ∧ c ≤ 255) {k : Nat} (hk : k ≤ 255) : u c = UInt8.ofNat k ↔ c = (k : Int) := by
  constructor
  · intro e
    have e2 := congrArg UInt8.toNat e
    rw [u_nat h, UInt8.toNat_ofNat'] at e2
    omega
  · intro e
    subst e
    rfl
/-- postfix -/
def post : Ex → Items
  | .num n => [(0, (n : Int))]
  | .head k => [(1, (k : Int))]
  | .mark k => [(2, (k : Int))]
  | .rod e => post e ++ [(3, 0)]
  | .par e => post e
  | .times a b => post a ++ post b ++ [(42, 0)]
  | .plus a b => post a ++ post b ++ [(43, 0)]
  | .minus a b => post a ++ post b ++ [(45, 0)]

/-! ### the loops' measure -/
theorem num_len : ∀ (f : Nat) (n : Int) (b : List Int) (p : Nat), (num f n b p).2.1.length ≤ b.length
  | 0, n, b, p => Nat.le_refl _
  | f + 1, n, b, p => by
    unfold num
    split
    · cases b with
      | nil => exact Nat.le_refl _
      | cons c b =>
        dsimp only
        split
        · exact Nat.le_succ_of_le (num_len f _ b _)
        · exact Nat.le_refl _
    · exact Nat.le_refl _
theorem operand_len (c : Int) (b : List Int) (p : Nat) : (operand c b p).2.1.length ≤ b.length := by
  unfold operand
  split
  · exact num_len 3 _ b p
  · split <;> exact Nat.le_refl _
theorem rdOp_len : ∀ {b w : List Int} {p : Nat} {it : Int × Int} {w1 b1 : List Int} {p1 : Nat}, rdOp b w p = .ok (it, w1, b1, p1) → b1.length < b.length
  | [], w, p, it, w1, b1, p1, h => by
    unfold rdOp at h
    cases h
  | c :: b, w, p, it, w1, b1, p1, h => by
    unfold rdOp at h
    split at h
    · split at h
      · have q := rdOp_len h
        show b1.length < b.length + 1
        omega
      · have e := R.ok.inj h
        have e2 : (operand c b (p + 1)).2.1 = b1 := by
          have := congrArg (fun z => z.2.2.1) e
          exact this
        have q := operand_len c b (p + 1)
        rw [e2] at q
        show b1.length < b.length + 1
        omega
    · cases h
theorem rdOp_lost : ∀ {b w : List Int} {p : Nat}, rdOp b w p ≠ .lost
  | [], w, p => by
    unfold rdOp
    intro h
    cases h
  | c :: b, w, p => by
    unfold rdOp
    split
    · split
      · exact rdOp_lost
      · intro h; cases h
    · intro h; cases h
theorem rdCl_len : ∀ (b : List Int) (fd : Items) (w : List Int) (p : Nat), (rdCl b fd w p).2.2.1.length ≤ b.length
  | [], fd, w, p => by unfold rdCl; exact Nat.le_refl _
  | c :: b, fd, w, p => by
    unfold rdCl
    split
    · exact Nat.le_refl _
    · split
      · exact Nat.le_succ_of_le (rdCl_len b _ _ _)
      · exact Nat.le_refl _
theorem nx_cons (c : Int) (b : List Int) (p : Nat) (l : List Int) : nx (c :: b) p l = if l.contains c = true then .ok (c, b, p + 1) else .bad p := rfl
theorem sees_cons (c : Int) (b l : List Int) : sees (c :: b) l = l.contains c := rfl
theorem nx_ok {b : List Int} {p : Nat} {l : List Int} {c : Int} {b1 : List Int} {p1 : Nat} (h : nx b p l = .ok (c, b1, p1)) : b = c :: b1 ∧ p1 = p + 1 ∧ l.contains c = true := by
  cases b with
  | nil => unfold nx at h; cases h
  | cons d b =>
    rw [nx_cons] at h
    split at h
    · have e := R.ok.inj h
      cases e
      exact ⟨rfl, rfl, by assumption⟩
    · cases h
theorem nx_lost {b : List Int} {p : Nat} {l : List Int} : nx b p l ≠ .lost := by
  cases b with
  | nil => unfold nx; intro h; cases h
  | cons d b =>
    rw [nx_cons]
    split <;> (intro h; cases h)
theorem rdOr_ok {b : List Int} {fd : Items} {w : List Int} {p : Nat} {fd1 : Items} {w1 b1 : List Int} {p1 : Nat} (h : rdOr b fd w p = .ok (fd1, w1, b1, p1)) :
    ∃ c, nx b p opsL = .ok (c, b1, p1) ∧ fd1 = (unw c fd w).1 ∧ w1 = c :: (unw c fd w).2 := by
  unfold rdOr at h
  cases e : nx b p opsL with
  | lost => exact absurd e nx_lost
  | bad k => rw [e] at h; cases h
  | ok z =>
    obtain ⟨c, b2, p2⟩ := z
    rw [e] at h
    have q := R.ok.inj h
    cases q
    exact ⟨c, rfl, rfl, rfl⟩
theorem rdOr_lost {b : List Int} {fd : Items} {w : List Int} {p : Nat} : rdOr b fd w p ≠ .lost := by
  unfold rdOr
  cases e : nx b p opsL with
  | lost => exact absurd e nx_lost
  | bad k => intro h; cases h
  | ok z => intro h; cases h
theorem rdOr_len {b : List Int} {fd : Items} {w : List Int} {p : Nat} {fd1 : Items} {w1 b1 : List Int} {p1 : Nat} (h : rdOr b fd w p = .ok (fd1, w1, b1, p1)) : b1.length < b.length := by
  obtain ⟨c, e, _, _⟩ := rdOr_ok h
  have q := (nx_ok e).1
  rw [q]
  exact Nat.lt_succ_self _
/-- behind an operand -/
def m2 (ends : List Int) (f : Nat) (fd : Items) (w b : List Int) (p : Nat) : R (Items × List Int × Nat) :=
  match rdCl b fd w p with
  | (fd2, w2, b2, p2) => if ((opens w2).isEmpty && sees b2 ends) = true then .ok (fd2 ++ rest w2, b2, p2) else match rdOr b2 fd2 w2 p2 with
    | .lost => .lost
    | .bad k => .bad k
    | .ok (fd3, w3, b3, p3) => exL ends f fd3 w3 b3 p3
theorem exL_succ (ends : List Int) (f : Nat) (fd : Items) (w b : List Int) (p : Nat) : exL ends (f + 1) fd w b p = match rdOp b w p with
    | .lost => .lost
    | .bad k => .bad k
    | .ok (it, w1, b1, p1) => m2 ends f (fd ++ [it]) w1 b1 p1 := rfl
theorem exL_fuel (ends : List Int) : ∀ (f : Nat) (fd : Items) (w b : List Int) (p : Nat), b.length < f → exL ends f fd w b p ≠ .lost
  | 0, _, _, _, _, h => absurd h (Nat.not_lt_zero _)
  | f + 1, fd, w, b, p, h => by
    rw [exL_succ]
    cases e : rdOp b w p with
    | lost => exact absurd e rdOp_lost
    | bad k => intro q; cases q
    | ok z =>
      obtain ⟨it, w1, b1, p1⟩ := z
      have l1 := rdOp_len e
      show m2 ends f (fd ++ [it]) w1 b1 p1 ≠ .lost
      unfold m2
      have l2 := rdCl_len b1 (fd ++ [it]) w1 p1
      generalize rdCl b1 (fd ++ [it]) w1 p1 = z at l2
      obtain ⟨fd2, w2, b2, p2⟩ := z
      dsimp only at l2 ⊢
      split
      · intro q; cases q
      · cases e3 : rdOr b2 fd2 w2 p2 with
        | lost => exact absurd e3 rdOr_lost
        | bad k => intro q; cases q
        | ok z =>
          obtain ⟨fd3, w3, b3, p3⟩ := z
          have l3 := rdOr_len e3
          exact exL_fuel ends f fd3 w3 b3 p3 (by omega)
theorem exL_mono (ends : List Int) : ∀ (f : Nat) (fd : Items) (w b : List Int) (p : Nat) (r), exL ends f fd w b p = r → r ≠ .lost → exL ends (f + 1) fd w b p = r
  | 0, _, _, _, _, r, h, n => absurd h.symm n
  | f + 1, fd, w, b, p, r, h, n => by
    rw [exL_succ] at h ⊢
    cases e : rdOp b w p with
    | lost => exact absurd e rdOp_lost
    | bad k => rw [e] at h; exact h
    | ok z =>
      obtain ⟨it, w1, b1, p1⟩ := z
      rw [e] at h
      dsimp only at h ⊢
      unfold m2 at h ⊢
      generalize rdCl b1 (fd ++ [it]) w1 p1 = z at h
      obtain ⟨fd2, w2, b2, p2⟩ := z
      dsimp only at h ⊢
      split at h
      · rename_i c
        rw [if_pos c]
        exact h
      · rename_i c
        rw [if_neg c]
        cases e3 : rdOr b2 fd2 w2 p2 with
        | lost => exact absurd e3 rdOr_lost
        | bad k => rw [e3] at h; exact h
        | ok z =>
          obtain ⟨fd3, w3, b3, p3⟩ := z
          rw [e3] at h
          exact exL_mono ends f fd3 w3 b3 p3 r h n
theorem exL_more (ends : List Int) (f : Nat) (fd : Items) (w b : List Int) (p : Nat) (r) (h : exL ends f fd w b p = r) (n : r ≠ .lost) : ∀ k, exL ends (f + k) fd w b p = r
  | 0 => h
  | k + 1 => exL_mono ends (f + k) fd w b p r (exL_more ends f fd w b p r h n k) n
/-- some fuel is enough -/
def M1 (ends : List Int) (fd : Items) (w b : List Int) (p : Nat) (r : R (Items × List Int × Nat)) : Prop := r ≠ .lost ∧ ∃ f, exL ends f fd w b p = r
def M2 (ends : List Int) (fd : Items) (w b : List Int) (p : Nat) (r : R (Items × List Int × Nat)) : Prop := r ≠ .lost ∧ ∃ f, m2 ends f fd w b p = r
theorem M1.expr {ends b : List Int} {p : Nat} {r} (h : M1 ends [] [] b p r) : expr ends b p = r := by
  obtain ⟨n, f, e⟩ := h
  unfold Ab.expr
  have a := exL_more ends f [] [] b p r e n (b.length + 1)
  have c := exL_more ends (b.length + 1) [] [] b p _ rfl (exL_fuel ends (b.length + 1) [] [] b p (Nat.lt_succ_self _)) f
  rw [← c, ← a, Nat.add_comm]

/-! ### the steps -/
theorem M1.opener {ends : List Int} {fd : Items} {w b : List Int} {p : Nat} {c : Int} {r} (ho : openersL.contains c = true) (hd : (opens w).length < 16) (h : M1 ends fd (c :: w) b (p + 1) r) : M1 ends fd w (c :: b) p r := by
  obtain ⟨n, f, e⟩ := h
  refine ⟨n, f, ?_⟩
  cases f with
  | zero => exact absurd e.symm n
  | succ f =>
    rw [exL_succ] at e ⊢
    have q : rdOp (c :: b) w p = rdOp b (c :: w) (p + 1) := by
      rw [rdOp]
      have cb : (canBegin w).contains c = true := by
        unfold canBegin
        rw [if_pos hd]
        have hc : c ∈ openersL := by simpa using ho
        simp [hc]
      rw [if_pos cb, if_pos ho]
    rw [q]
    exact e
theorem M1.operand {ends : List Int} {fd : Items} {w b : List Int} {p : Nat} {c : Int} {r} (hc : (digitsL ++ headsL ++ marksL).contains c = true) (hn : openersL.contains c = false)
    (h : M2 ends (fd ++ [(Ab.operand c b (p + 1)).1]) w (Ab.operand c b (p + 1)).2.1 (Ab.operand c b (p + 1)).2.2 r) : M1 ends fd w (c :: b) p r := by
  obtain ⟨n, f, e⟩ := h
  refine ⟨n, f + 1, ?_⟩
  rw [exL_succ]
  have q : rdOp (c :: b) w p = .ok ((Ab.operand c b (p + 1)).1, w, (Ab.operand c b (p + 1)).2) := by
    rw [rdOp]
    have cb : (canBegin w).contains c = true := by
      unfold canBegin
      have h2 : c ∈ digitsL ++ headsL ++ marksL := by simpa using hc
      have h3 : c ∈ digitsL ++ headsL ++ marksL ++ (if (opens w).length < 16 then openersL else []) := List.mem_append_left _ h2
      simpa using h3
    rw [if_pos cb, if_neg (by rw [hn]; exact Bool.false_ne_true)]
  rw [q]
  exact e
theorem M1.bad {ends : List Int} {fd : Items} {w b : List Int} {p : Nat} (h : rdOp b w p = .bad p) : M1 ends fd w b p (.bad p) := by
  refine ⟨fun q => (by cases q), 1, ?_⟩
  rw [exL_succ, h]
theorem rdCl_pend {b : List Int} {fd : Items} {w : List Int} {p : Nat} {o : Int} (hn : openersL.contains o = false) :
    (∃ fd2 w2 b2 p2, rdCl b fd (o :: w) p = (fd2, w2, b2, p2) ∧ rdCl b (fd ++ [(o, 0)]) w p = (fd2, w2, b2, p2)) ∨
    (rdCl b fd (o :: w) p = (fd, o :: w, b, p) ∧ rdCl b (fd ++ [(o, 0)]) w p = (fd ++ [(o, 0)], w, b, p)) := by
  have ho : opens (o :: w) = opens w := by
    unfold opens
    rw [List.filter_cons, if_neg (by rw [hn]; exact Bool.false_ne_true)]
  cases b with
  | nil => right; constructor <;> rfl
  | cons c b =>
    rw [rdCl, rdCl, ho]
    cases e : (opens w).head? with
    | none => right; constructor <;> rfl
    | some x =>
      dsimp only
      by_cases hc : c = closer x
      · rw [if_pos hc, if_pos hc]
        left
        have q : clos fd (o :: w) = clos (fd ++ [(o, 0)]) w := by
          rw [clos, if_neg (by rw [hn]; exact Bool.false_ne_true)]
        rw [q]
        exact ⟨_, _, _, _, rfl, rfl⟩
      · rw [if_neg hc, if_neg hc]
        right
        constructor <;> rfl
/-- an operator that waits may as well be worked out -/
theorem M2.pend {ends : List Int} {fd : Items} {w b : List Int} {p : Nat} {o : Int} {r} (hn : openersL.contains o = false) (hb : ∀ c, b.head? = some c → opsL.contains c = true → binds c ≤ binds o)
    (h : M2 ends (fd ++ [(o, 0)]) w b p r) : M2 ends fd (o :: w) b p r := by
  obtain ⟨n, f, e⟩ := h
  refine ⟨n, f, ?_⟩
  rw [← e]
  have ho : opens (o :: w) = opens w := by
    unfold opens
    rw [List.filter_cons, if_neg (by rw [hn]; exact Bool.false_ne_true)]
  unfold m2
  rcases rdCl_pend (b := b) (fd := fd) (w := w) (p := p) hn with ⟨fd2, w2, b2, p2, h1, h2⟩ | ⟨h1, h2⟩
  · rw [h1, h2]
  · rw [h1, h2]
    dsimp only
    rw [ho]
    have er : fd ++ rest (o :: w) = fd ++ [(o, 0)] ++ rest w := by
      unfold rest
      rw [List.map_cons, List.append_assoc]
      rfl
    rw [er]
    split
    · rfl
    · have eq : rdOr b fd (o :: w) p = rdOr b (fd ++ [(o, 0)]) w p := by
        unfold rdOr
        cases e3 : nx b p opsL with
        | lost => rfl
        | bad k => rfl
        | ok z =>
          obtain ⟨c, b3, p3⟩ := z
          obtain ⟨hb1, _, hc⟩ := nx_ok e3
          have hle : binds c ≤ binds o := hb c (by rw [hb1]; rfl) hc
          dsimp only
          have q : unw c fd (o :: w) = unw c (fd ++ [(o, 0)]) w := by
            rw [unw, if_pos hle]
          rw [q]
      rw [eq]
/-- no operator, no end, no closer: a fault -/
theorem M2.bad {ends : List Int} {fd : Items} {w b : List Int} {p : Nat} (h1 : rdCl b fd w p = (fd, w, b, p)) (h2 : ((opens w).isEmpty && sees b ends) = false) (h3 : ∀ c, b.head? = some c → opsL.contains c = false) : M2 ends fd w b p (.bad p) := by
  refine ⟨fun q => (by cases q), 0, ?_⟩
  unfold m2
  rw [h1]
  dsimp only
  rw [if_neg (by rw [h2]; exact Bool.false_ne_true)]
  have q : rdOr b fd w p = .bad p := by
    unfold rdOr
    cases b with
    | nil => rfl
    | cons c b =>
      rw [nx_cons, if_neg (by rw [h3 c rfl]; exact Bool.false_ne_true)]
  rw [q]
/-- an operator read -/
theorem M2.op {ends : List Int} {fd : Items} {w b : List Int} {p : Nat} {c : Int} {r} (hc : opsL.contains c = true) (hcl : rdCl (c :: b) fd w p = (fd, w, c :: b, p)) (he : ends.contains c = false) (hu : unw c fd w = (fd, w)) (h : M1 ends fd (c :: w) b (p + 1) r) :
    M2 ends fd w (c :: b) p r := by
  obtain ⟨n, f, e⟩ := h
  refine ⟨n, f, ?_⟩
  unfold m2
  rw [hcl]
  dsimp only
  have q : ((opens w).isEmpty && sees (c :: b) ends) = false := by
    rw [sees_cons, he, Bool.and_false]
  rw [if_neg (by rw [q]; exact Bool.false_ne_true)]
  have q2 : rdOr (c :: b) fd w p = .ok (fd, c :: w, b, p + 1) := by
    unfold rdOr
    rw [nx_cons, if_pos hc]
    dsimp only
    rw [hu]
  rw [q2]
  exact e
end Ab
namespace Ab
theorem exL_len (ends : List Int) : ∀ (f : Nat) (fd : Items) (w b : List Int) (p : Nat) {its b1 p1}, exL ends f fd w b p = .ok (its, b1, p1) → b1.length < b.length
  | 0, _, _, _, _, _, _, _, h => by cases h
  | f + 1, fd, w, b, p, its, b1, p1, h => by
    rw [exL_succ] at h
    cases e : rdOp b w p with
    | lost => exact absurd e rdOp_lost
    | bad k => rw [e] at h; cases h
    | ok z =>
      obtain ⟨it, w1, b2, p2⟩ := z
      have l1 := rdOp_len e
      rw [e] at h
      dsimp only at h
      unfold m2 at h
      have l2 := rdCl_len b2 (fd ++ [it]) w1 p2
      revert h l2
      generalize rdCl b2 (fd ++ [it]) w1 p2 = z
      obtain ⟨fd3, w3, b3, p3⟩ := z
      intro h l2
      dsimp only at h l2
      split at h
      · have e2 : b3 = b1 := congrArg (fun z => z.2.1) (R.ok.inj h)
        rw [← e2]
        omega
      · cases e3 : rdOr b3 fd3 w3 p3 with
        | lost => exact absurd e3 rdOr_lost
        | bad k => rw [e3] at h; cases h
        | ok z =>
          obtain ⟨fd4, w4, b4, p4⟩ := z
          have l3 := rdOr_len e3
          rw [e3] at h
          have := exL_len ends f fd4 w4 b4 p4 h
          omega
theorem expr_len {ends b : List Int} {p : Nat} {its b1 p1} (h : expr ends b p = .ok (its, b1, p1)) : b1.length < b.length := exL_len ends _ _ _ _ _ h
theorem cmp_consM (c : Int) (b : List Int) (p : Nat) : cmp (c :: b) p = if c = 61 then .ok ((false, true, false), b, p + 1)
    else if c = 62 then (match b with
      | [] => .ok ((false, false, true), [], p + 1)
      | d :: b1 => if d = 61 then .ok ((false, true, true), b1, p + 2) else .ok ((false, false, true), d :: b1, p + 1))
    else if c = 60 then (match b with
      | [] => .ok ((true, false, false), [], p + 1)
      | d :: b1 => if d = 61 then .ok ((true, true, false), b1, p + 2) else if d = 62 then .ok ((true, false, true), b1, p + 2) else .ok ((true, false, false), d :: b1, p + 1))
    else .bad p := rfl
theorem cmp_len {b : List Int} {p : Nat} {y b1 p1} (h : cmp b p = .ok (y, b1, p1)) : b1.length < b.length := by
  cases b with
  | nil => cases h
  | cons c b =>
    rw [cmp_consM] at h
    have k : ∀ {z : (Bool × Bool × Bool) × List Int × Nat}, R.ok z = R.ok (y, b1, p1) → z.2.1.length < (c :: b).length → b1.length < (c :: b).length := fun {z} e l => by cases R.ok.inj e; exact l
    split at h
    · exact k h (Nat.lt_succ_self _)
    · split at h
      · cases b with
        | nil => exact k h (Nat.lt_succ_self _)
        | cons d b =>
          dsimp only at h
          split at h
          · exact k h (by show b.length < b.length + 1 + 1; omega)
          · exact k h (Nat.lt_succ_self _)
      · split at h
        · cases b with
          | nil => exact k h (Nat.lt_succ_self _)
          | cons d b =>
            dsimp only at h
            split at h
            · exact k h (by show b.length < b.length + 1 + 1; omega)
            · split at h
              · exact k h (by show b.length < b.length + 1 + 1; omega)
              · exact k h (Nat.lt_succ_self _)
        · cases h
theorem word_len : ∀ {w b : List Int} {p : Nat} {b1 p1}, word w b p = .ok (b1, p1) → b1.length ≤ b.length
  | [], b, p, b1, p1, h => by cases R.ok.inj h; exact Nat.le_refl _
  | c :: w, b, p, b1, p1, h => by
    rw [word] at h
    cases e : nx b p [c] with
    | lost => exact absurd e nx_lost
    | bad k => rw [e] at h; cases h
    | ok z =>
      obtain ⟨d, b2, p2⟩ := z
      rw [e] at h
      obtain ⟨e1, _, _⟩ := nx_ok e
      have := word_len h
      rw [e1]
      exact Nat.le_succ_of_le this
theorem cdL_fuel : ∀ (f : Nat) (ts : Tests) (b : List Int) (p : Nat), b.length < f → cdL f ts b p ≠ .lost
  | 0, _, _, _, h => absurd h (Nat.not_lt_zero _)
  | f + 1, ts, b, p, h => by
    rw [cdL]
    cases e1 : expr [60, 61, 62] b p with
    | lost => exact absurd e1 (exL_fuel _ _ _ _ _ _ (Nat.lt_succ_self _))
    | bad k => intro z; cases z
    | ok z =>
      obtain ⟨l, b1, p1⟩ := z
      have l1 := expr_len e1
      dsimp only
      cases e2 : cmp b1 p1 with
      | lost =>
        exfalso
        cases b1 with
        | nil => cases e2
        | cons c b1 =>
          rw [cmp_consM] at e2
          repeat' split at e2
          all_goals cases e2
      | bad k => intro z; cases z
      | ok z =>
        obtain ⟨y, b2, p2⟩ := z
        have l2 := cmp_len e2
        dsimp only
        cases e3 : expr [32, 10] b2 p2 with
        | lost => exact absurd e3 (exL_fuel _ _ _ _ _ _ (Nat.lt_succ_self _))
        | bad k => intro z; cases z
        | ok z =>
          obtain ⟨r, b3, p3⟩ := z
          have l3 := expr_len e3
          dsimp only
          split
          · cases e4 : word andL b3 p3 with
            | lost =>
              exfalso
              have : ∀ (w b : List Int) (p : Nat), word w b p ≠ .lost := by
                intro w
                induction w with
                | nil => intro b p z; cases z
                | cons c w ih =>
                  intro b p z
                  rw [word] at z
                  cases e : nx b p [c] with
                  | lost => exact absurd e nx_lost
                  | bad k => rw [e] at z; cases z
                  | ok y => rw [e] at z; exact ih _ _ z
              exact this _ _ _ e4
            | bad k => intro z; cases z
            | ok z =>
              obtain ⟨b4, p4⟩ := z
              have l4 := word_len e4
              exact cdL_fuel f _ b4 p4 (by omega)
          · intro z; cases z
theorem cond_fuel (b : List Int) (p : Nat) : cond b p ≠ .lost := cdL_fuel _ _ _ _ (Nat.lt_succ_self _)
end Ab
namespace Ab
open Na
/-! ### the specification's readers, one turn each -/
theorem by8_cons (c : Int) (b : List Int) : by8 (c :: b) = u c :: by8 b := rfl
theorem by8_len (b : List Int) : (by8 b).length = b.length := List.length_map ..
theorem timesAt_nil (f d x p) : timesAt (f + 1) d x p [] = .ok (x, p, []) := by
  rw [timesAt]
  intro l h; cases h
theorem timesAt_cons (f d x p) (c : UInt8) (l : Bytes) : timesAt (f + 1) d x p (c :: l) = if c = 42 then (match factorAt f d (p + 1) l with
    | .error k => .error k
    | .ok (y, q, e) => timesAt f d (.times x y) q e) else .ok (x, p, c :: l) := by
  by_cases h : c = 42
  · rw [if_pos h]; subst h; rw [timesAt]; rfl
  · rw [if_neg h, timesAt]
    intro l2 e; cases e; exact absurd rfl h
theorem sumAt_nil (f d x p) : sumAt (f + 1) d x p [] = .ok (x, p, []) := by
  rw [sumAt]
  · intro l h; cases h
  · intro l h; cases h
theorem sumAt_cons (f d x p) (c : UInt8) (l : Bytes) : sumAt (f + 1) d x p (c :: l) = if c = 43 then (match termAt f d (p + 1) l with
    | .error k => .error k
    | .ok (y, q, e) => sumAt f d (.plus x y) q e) else if c = 45 then (match termAt f d (p + 1) l with
    | .error k => .error k
    | .ok (y, q, e) => sumAt f d (.minus x y) q e) else .ok (x, p, c :: l) := by
  by_cases h : c = 43
  · rw [if_pos h]; subst h; rw [sumAt]; rfl
  · rw [if_neg h]
    by_cases h2 : c = 45
    · rw [if_pos h2]; subst h2; rw [sumAt]; rfl
    · rw [if_neg h2, sumAt]
      · intro l2 e; cases e; exact absurd rfl h
      · intro l2 e; cases e; exact absurd rfl h2
theorem factorAt_nil (f d p) : factorAt (f + 1) d p [] = .error p := by rw [factorAt]
theorem factorAt_cons (f d p) (c : UInt8) (l : Bytes) : factorAt (f + 1) d p (c :: l) = if c = 48 then .ok (.num 0, p + 1, l)
      else if isDigit c = true then (let n := digitsAt 3 (c.toNat - 48) (p + 1) l
        .ok (.num n.1, n.2))
      else if 97 ≤ c.toNat ∧ c.toNat ≤ 104 then .ok (.head (c.toNat - 97), p + 1, l)
      else if 65 ≤ c.toNat ∧ c.toNat ≤ 72 then .ok (.mark (c.toNat - 65), p + 1, l)
      else if c = 91 ∨ c = 40 then (if OPEN ≤ d then .error p else match exAt f (d + 1) (p + 1) l with
        | .error k => .error k
        | .ok (x, q, r) => match expect [if c = 91 then 93 else 41] q r with
          | .error k => .error k
          | .ok (_, q, r) => .ok (if c = 91 then .rod x else .par x, q, r))
      else .error p := by
  rw [factorAt]
  rfl
theorem exAt_succ (f d p b) : exAt (f + 1) d p b = match termAt f d p b with
    | .error k => .error k
    | .ok (x, q, c) => sumAt f d x q c := by
  rw [exAt]
  rfl
theorem termAt_succ (f d p b) : termAt (f + 1) d p b = match factorAt f d p b with
    | .error k => .error k
    | .ok (x, q, c) => timesAt f d x q c := by
  rw [termAt]
  rfl
/-! ### bytes' kinds -/
theorem digits_has {c : Int} : digitsL.contains c = true ↔ 48 ≤ c ∧ c ≤ 57 := by
  simp only [digitsL, List.contains_iff_mem, List.mem_cons, List.not_mem_nil, or_false]
  omega
theorem heads_has {c : Int} : headsL.contains c = true ↔ 97 ≤ c ∧ c ≤ 104 := by
  simp only [headsL, List.contains_iff_mem, List.mem_cons, List.not_mem_nil, or_false]
  omega
theorem marks_has {c : Int} : marksL.contains c = true ↔ 65 ≤ c ∧ c ≤ 72 := by
  simp only [marksL, List.contains_iff_mem, List.mem_cons, List.not_mem_nil, or_false]
  omega
theorem openers_has {c : Int} : openersL.contains c = true ↔ c = 40 ∨ c = 91 := by
  simp only [openersL, List.contains_iff_mem, List.mem_cons, List.not_mem_nil, or_false]
theorem ops_has {c : Int} : opsL.contains c = true ↔ c = 42 ∨ c = 43 ∨ c = 45 := by
  simp only [opsL, List.contains_iff_mem, List.mem_cons, List.not_mem_nil, or_false]
theorem bfalse {b : Bool} {P : Prop} (h : b = true ↔ P) (n : ¬ P) : b = false := by
  cases b with
  | false => rfl
  | true => exact absurd (h.mp rfl) n
theorem isDigit_u {c : Int} (h : 0 ≤ c ∧ c ≤ 255) : isDigit (u c) = true ↔ 48 ≤ c ∧ c ≤ 57 := by
  unfold isDigit
  rw [u_nat h, Bool.and_eq_true, decide_eq_true_eq, decide_eq_true_eq]
  omega
theorem num_digits : ∀ (f : Nat) (n : Nat) (b : List Int) (p : Nat), 0 < n → Good b →
    ∃ m b1 q, digitsAt f n p (by8 b) = (m, q, by8 b1) ∧ num f (n : Int) b p = ((m : Int), b1, q) ∧ b1.length ≤ b.length ∧ Good b1
  | 0, n, b, p, _, g => ⟨n, b, p, rfl, rfl, Nat.le_refl _, g⟩
  | f + 1, n, [], p, h, g => by
    refine ⟨n, [], p, rfl, ?_, Nat.le_refl _, g⟩
    rw [num, if_pos (by omega)]
  | f + 1, n, c :: b, p, h, g => by
    have hc := g.head
    rw [num, if_pos (show (0 : Int) < (n : Int) by omega), by8_cons, digitsAt]
    by_cases hd : 48 ≤ c ∧ c ≤ 57
    · rw [if_pos ((isDigit_u hc).mpr hd), if_pos (digits_has.mpr hd)]
      have e : ((n : Int) * 10 + c - 48) = ((10 * n + ((u c).toNat - 48) : Nat) : Int) := by
        rw [u_nat hc]; omega
      rw [e]
      obtain ⟨m, b1, q, e1, e2, l, g1⟩ := num_digits f (10 * n + ((u c).toNat - 48)) b (p + 1) (by omega) g.tail
      exact ⟨m, b1, q, e1, e2, Nat.le_succ_of_le l, g1⟩
    · rw [if_neg (fun z => hd ((isDigit_u hc).mp z)), if_neg (fun z => hd (digits_has.mp z))]
      exact ⟨n, c :: b, p, rfl, rfl, Nat.le_refl _, g⟩
/-! ### the simulation -/
/-- nothing that waits on top binds as tight as a product -/
def Low2 (w : List Int) : Prop := ∀ c, w.head? = some c → binds c < 2
def Low1 (w : List Int) : Prop := ∀ c, w.head? = some c → binds c < 1
def NoTimes (b : List Int) : Prop := ∀ c, b.head? = some c → c ≠ 42
def NoOp (b : List Int) : Prop := ∀ c, b.head? = some c → opsL.contains c = false
def Ends (ends : List Int) : Prop := ∀ c, opsL.contains c = true → ends.contains c = false
theorem rdCl_op {c : Int} {b : List Int} {fd : Items} {w : List Int} {p : Nat} (hc : c = 42 ∨ c = 43 ∨ c = 45) : rdCl (c :: b) fd w p = (fd, w, c :: b, p) := by
  rw [rdCl]
  split
  · rfl
  · rename_i o e
    rw [if_neg]
    intro z
    unfold closer at z
    split at z <;> omega
section
variable {ends : List Int} (he : Ends ends)
include he
def Sim (r : Except Nat (Ex × (Nat × Bytes))) (fd : Items) (w b : List Int) (p : Nat) (T : List Int → Prop) (M : (R (Items × List Int × Nat)) → Prop) : Prop := match r with
  | .error k => M (.bad k)
  | .ok (x, q, c) => ∃ b1, c = by8 b1 ∧ Good b1 ∧ b1.length ≤ b.length ∧ T b1 ∧ ∀ R, M2 ends (fd ++ post x) w b1 q R → M R
theorem sim : ∀ (f : Nat),
    (∀ d p b fd w, Good b → (opens w).length = d → 6 * b.length + 1 ≤ f → Sim (ends := ends) (factorAt f d p (by8 b)) fd w b p (fun b1 => b1.length < b.length) (M1 ends fd w b p)) ∧
    (∀ d p b fd w x, Good b → (opens w).length = d → Low2 w → 6 * b.length + 1 ≤ f → Sim (ends := ends) (timesAt f d x p (by8 b)) fd w b p NoTimes (M2 ends (fd ++ post x) w b p)) ∧
    (∀ d p b fd w, Good b → (opens w).length = d → Low2 w → 6 * b.length + 2 ≤ f → Sim (ends := ends) (termAt f d p (by8 b)) fd w b p (fun b1 => b1.length < b.length ∧ NoTimes b1) (M1 ends fd w b p)) ∧
    (∀ d p b fd w x, Good b → (opens w).length = d → Low1 w → NoTimes b → 6 * b.length + 1 ≤ f → Sim (ends := ends) (sumAt f d x p (by8 b)) fd w b p NoOp (M2 ends (fd ++ post x) w b p)) ∧
    (∀ d p b fd w, Good b → (opens w).length = d → Low1 w → 6 * b.length + 3 ≤ f → Sim (ends := ends) (exAt f d p (by8 b)) fd w b p (fun b1 => b1.length < b.length ∧ NoOp b1) (M1 ends fd w b p)) := by
  intro f
  induction f with
  | zero =>
    refine ⟨fun d p b fd w g hd hf => absurd hf (by omega), fun d p b fd w x g hd lw hf => absurd hf (by omega), fun d p b fd w g hd lw hf => absurd hf (by omega), fun d p b fd w x g hd lw nt hf => absurd hf (by omega), fun d p b fd w g hd lw hf => absurd hf (by omega)⟩
  | succ f ih =>
    obtain ⟨iF, iX, iT, iS, iE⟩ := ih
    refine ⟨?_, ?_, ?_, ?_, ?_⟩
    · -- a factor
      intro d p b fd w g hd hf
      cases b with
      | nil =>
        show Sim (ends := ends) (factorAt (f + 1) d p []) fd w [] p _ _
        rw [factorAt_nil]
        exact M1.bad (by rw [rdOp])
      | cons c b =>
        have hc := g.head
        rw [by8_cons, factorAt_cons]
        have hno : ∀ k : Nat, k ≤ 255 → (u c = UInt8.ofNat k ↔ c = (k : Int)) := fun k hk => u_eq hc hk
        have h48 : (u c = 48) ↔ c = 48 := hno 48 (by decide)
        have h91 : (u c = 91) ↔ c = 91 := hno 91 (by decide)
        have h40 : (u c = 40) ↔ c = 40 := hno 40 (by decide)
        have un := u_nat hc
        by_cases k1 : c = 48
        · rw [if_pos (h48.mpr k1)]
          have hn : openersL.contains c = false := bfalse openers_has (by omega)
          refine ⟨b, rfl, g.tail, Nat.le_succ _, Nat.lt_succ_self _, fun R h => ?_⟩
          have e : operand c b (p + 1) = ((0, 0), b, p + 1) := by
            subst k1
            unfold operand
            rw [if_pos (show digitsL.contains 48 = true by decide)]
            have : num 3 (48 - 48) b (p + 1) = (0, b, p + 1) := by
              rfl
            rw [this]
          refine M1.operand (by
            have : digitsL.contains c = true := digits_has.mpr (by omega)
            have m : c ∈ digitsL := by simpa using this
            simp [m]) hn ?_
          rw [e]
          exact h
        · rw [if_neg (fun z => k1 (h48.mp z))]
          by_cases k2 : 48 ≤ c ∧ c ≤ 57
          · rw [if_pos ((isDigit_u hc).mpr k2)]
            obtain ⟨m, b1, q, e1, e2, l1, g1⟩ := num_digits 3 ((u c).toNat - 48) b (p + 1) (by rw [un]; omega) g.tail
            rw [e1]
            have hn : openersL.contains c = false := bfalse openers_has (by omega)
            refine ⟨b1, rfl, g1, Nat.le_succ_of_le l1, Nat.lt_succ_of_le l1, fun R h => ?_⟩
            have e : operand c b (p + 1) = ((0, (m : Int)), b1, q) := by
              unfold operand
              rw [if_pos (digits_has.mpr k2)]
              have e3 : c - 48 = (((u c).toNat - 48 : Nat) : Int) := by rw [un]; omega
              rw [e3, e2]
            refine M1.operand (by
              have : digitsL.contains c = true := digits_has.mpr k2
              have m : c ∈ digitsL := by simpa using this
              simp [m]) hn ?_
            rw [e]
            exact h
          · rw [if_neg (fun z => k2 ((isDigit_u hc).mp z))]
            have nd : digitsL.contains c = false := bfalse digits_has k2
            by_cases k3 : 97 ≤ c ∧ c ≤ 104
            · rw [if_pos (by rw [un]; omega)]
              have hn : openersL.contains c = false := bfalse openers_has (by omega)
              refine ⟨b, rfl, g.tail, Nat.le_succ _, Nat.lt_succ_self _, fun R h => ?_⟩
              have e : operand c b (p + 1) = ((1, (((u c).toNat - 97 : Nat) : Int)), b, p + 1) := by
                unfold operand
                rw [if_neg (by rw [nd]; exact Bool.false_ne_true), if_pos (heads_has.mpr k3)]
                have e3 : c - 97 = (((u c).toNat - 97 : Nat) : Int) := by rw [un]; omega
                rw [e3]
              refine M1.operand (by
                have : headsL.contains c = true := heads_has.mpr k3
                have m : c ∈ headsL := by simpa using this
                simp [m]) hn ?_
              rw [e]
              exact h
            · rw [if_neg (by rw [un]; omega)]
              have nh : headsL.contains c = false := bfalse heads_has k3
              by_cases k4 : 65 ≤ c ∧ c ≤ 72
              · rw [if_pos (by rw [un]; omega)]
                have hn : openersL.contains c = false := bfalse openers_has (by omega)
                refine ⟨b, rfl, g.tail, Nat.le_succ _, Nat.lt_succ_self _, fun R h => ?_⟩
                have e : operand c b (p + 1) = ((2, (((u c).toNat - 65 : Nat) : Int)), b, p + 1) := by
                  unfold operand
                  rw [if_neg (by rw [nd]; exact Bool.false_ne_true), if_neg (by rw [nh]; exact Bool.false_ne_true)]
                  have e3 : c - 65 = (((u c).toNat - 65 : Nat) : Int) := by rw [un]; omega
                  rw [e3]
                refine M1.operand (by
                  have : marksL.contains c = true := marks_has.mpr k4
                  have m : c ∈ marksL := by simpa using this
                  simp [m]) hn ?_
                rw [e]
                exact h
              · rw [if_neg (by rw [un]; omega)]
                have nm : marksL.contains c = false := bfalse marks_has k4
                have nb : ∀ s : Nat, (canBegin w).contains c = true → s = s → (openersL.contains c = true ∧ (opens w).length < 16) := by
                  intro s h _
                  have m : c ∈ canBegin w := by simpa using h
                  unfold canBegin at m
                  rcases List.mem_append.mp m with m | m
                  · rcases List.mem_append.mp m with m | m
                    · rcases List.mem_append.mp m with m | m
                      · exact absurd (show digitsL.contains c = true by simpa using m) (by rw [nd]; exact Bool.false_ne_true)
                      · exact absurd (show headsL.contains c = true by simpa using m) (by rw [nh]; exact Bool.false_ne_true)
                    · exact absurd (show marksL.contains c = true by simpa using m) (by rw [nm]; exact Bool.false_ne_true)
                  · split at m
                    · exact ⟨by simpa using m, by assumption⟩
                    · cases m
                by_cases k5 : c = 40 ∨ c = 91
                · rw [if_pos (by rcases k5 with k | k; exact .inr (h40.mpr k); exact .inl (h91.mpr k))]
                  have ho : openersL.contains c = true := openers_has.mpr k5
                  by_cases k6 : OPEN ≤ d
                  · rw [if_pos k6]
                    have k6 : 16 ≤ d := k6
                    refine M1.bad ?_
                    rw [rdOp, if_neg]
                    intro h
                    have := (nb 0 h rfl).2
                    omega
                  · rw [if_neg k6]
                    have k6 : ¬ 16 ≤ d := k6
                    have hd2 : (opens (c :: w)).length = d + 1 := by
                      unfold opens
                      rw [List.filter_cons, if_pos ho]
                      show (opens w).length + 1 = d + 1
                      rw [hd]
                    have lw : Low1 (c :: w) := by
                      intro x hx
                      cases hx
                      unfold binds
                      rw [if_neg (by omega), if_neg (by omega), if_neg (by omega)]
                      decide
                    have hE := iE (d + 1) (p + 1) b fd (c :: w) g.tail hd2 lw (by
                      have : (c :: b).length = b.length + 1 := rfl
                      omega)
                    have lift : ∀ R, M1 ends fd (c :: w) b (p + 1) R → M1 ends fd w (c :: b) p R := fun R h => M1.opener ho (by omega) h
                    cases e1 : exAt f (d + 1) (p + 1) (by8 b) with
                    | error k =>
                      rw [e1] at hE
                      exact lift _ hE
                    | ok z =>
                      obtain ⟨x, q, r⟩ := z
                      rw [e1] at hE
                      obtain ⟨b1, rfl, g1, l1, ⟨l2, no⟩, hM⟩ := hE
                      dsimp only
                      have hopen : (opens (c :: w)).head? = some c := by
                        unfold opens
                        rw [List.filter_cons, if_pos ho]
                        rfl
                      have hne : (opens (c :: w)).isEmpty = false := by
                        unfold opens
                        rw [List.filter_cons, if_pos ho]
                        rfl
                      have hclN : (if u c = 91 then (93 : UInt8) else 41) = u (closer c) := by
                        unfold closer
                        by_cases k7 : c = 40
                        · rw [if_neg (fun z => by have := h91.mp z; omega), if_pos k7]; rfl
                        · have k8 : c = 91 := by omega
                          rw [if_pos (h91.mpr k8), if_neg k7]; rfl
                      have hclR : 0 ≤ closer c ∧ closer c ≤ 255 := by unfold closer; split <;> decide
                      rw [hclN]
                      cases b1 with
                      | nil =>
                        show Sim (ends := ends) (.error q) fd w (c :: b) p _ _
                        refine lift _ (hM _ (M2.bad (by rw [rdCl]) (by rw [hne, Bool.false_and]) (fun y hy => by cases hy)))
                      | cons y b1 =>
                        have gy := g1.head
                        rw [by8_cons]
                        have hexp : expect [u (closer c)] q (u y :: by8 b1) = if u (closer c) = u y then .ok ((), q + 1, by8 b1) else .error q := rfl
                        rw [hexp]
                        have heq : (u (closer c) = u y) ↔ y = closer c := by
                          constructor
                          · intro z
                            have := congrArg UInt8.toNat z
                            rw [u_nat hclR, u_nat gy] at this
                            omega
                          · intro z; rw [z]
                        by_cases k9 : y = closer c
                        · rw [if_pos (heq.mpr k9)]
                          dsimp only
                          refine ⟨b1, rfl, g1.tail, Nat.le_succ_of_le (Nat.le_of_lt (Nat.lt_of_succ_lt l2)), ?_, fun R h => ?_⟩
                          · show b1.length < b.length + 1
                            have : (y :: b1).length = b1.length + 1 := rfl
                            omega
                          · refine lift _ (hM R ?_)
                            obtain ⟨n, f2, e2⟩ := h
                            refine ⟨n, f2, ?_⟩
                            rw [← e2]
                            unfold m2
                            have q1 : rdCl (y :: b1) (fd ++ post x) (c :: w) q = rdCl b1 (fd ++ post (if u c = 91 then Ex.rod x else Ex.par x)) w (q + 1) := by
                              rw [rdCl, hopen]
                              dsimp only
                              rw [if_pos k9]
                              have q2 : clos (fd ++ post x) (c :: w) = (fd ++ post (if u c = 91 then Ex.rod x else Ex.par x), w) := by
                                rw [clos, if_pos ho]
                                by_cases k7 : c = 91
                                · rw [if_pos k7, if_pos (h91.mpr k7), post, List.append_assoc]
                                · rw [if_neg k7, if_neg (fun z => k7 (h91.mp z)), post]
                              rw [q2]
                            rw [q1]
                        · rw [if_neg (fun z => k9 (heq.mp z))]
                          dsimp only
                          refine lift _ (hM _ (M2.bad ?_ (by rw [hne, Bool.false_and]) no))
                          rw [rdCl, hopen]
                          dsimp only
                          rw [if_neg k9]
                · rw [if_neg (by
                    intro z
                    rcases z with z | z
                    · exact k5 (.inr (h91.mp z))
                    · exact k5 (.inl (h40.mp z)))]
                  refine M1.bad ?_
                  rw [rdOp, if_neg]
                  intro h
                  have := openers_has.mp (nb 0 h rfl).1
                  exact k5 this
    · -- what is multiplied
      intro d p b fd w x g hd lw hf
      cases b with
      | nil =>
        show Sim (ends := ends) (timesAt (f + 1) d x p []) fd w [] p _ _
        rw [timesAt_nil]
        exact ⟨[], rfl, g, Nat.le_refl _, (fun c hc => by cases hc), fun R h => h⟩
      | cons c b =>
        have hc := g.head
        rw [by8_cons, timesAt_cons]
        have h42 : (u c = 42) ↔ c = 42 := u_eq hc (by decide : 42 ≤ 255)
        by_cases k1 : c = 42
        · rw [if_pos (h42.mpr k1)]
          have ho : opens (42 :: w) = opens w := by
            unfold opens
            rw [List.filter_cons, if_neg (by decide)]
          have hu : unw 42 (fd ++ post x) w = (fd ++ post x, w) := by
            cases w with
            | nil => rw [unw]
            | cons y w =>
              have := lw y rfl
              rw [unw, if_neg]
              show ¬ (2 : Int) ≤ binds y
              omega
          have up : ∀ R, M1 ends (fd ++ post x) (42 :: w) b (p + 1) R → M2 ends (fd ++ post x) w (c :: b) p R := fun R h => by
            subst k1
            exact M2.op (by decide) (rdCl_op (.inl rfl)) (he 42 (by decide)) hu h
          have lb : (c :: b).length = b.length + 1 := rfl
          have hF := iF d (p + 1) b (fd ++ post x) (42 :: w) g.tail (by rw [ho]; exact hd) (by omega)
          cases e1 : factorAt f d (p + 1) (by8 b) with
          | error k =>
            rw [e1] at hF
            exact up _ hF
          | ok z =>
            obtain ⟨y, q, r⟩ := z
            rw [e1] at hF
            obtain ⟨b1, rfl, g1, l1, l2, hM⟩ := hF
            dsimp only
            have hX := iX d q b1 fd w (.times x y) g1 hd lw (by omega)
            have turn : ∀ R, M2 ends (fd ++ post (.times x y)) w b1 q R → M2 ends (fd ++ post x) w (c :: b) p R := fun R h => by
              refine up R (hM R (M2.pend (by decide) (fun z _ hz => ?_) ?_))
              · rcases ops_has.mp hz with k | k | k <;> subst k <;> decide
              · rw [post, ← List.append_assoc, ← List.append_assoc] at h
                exact h
            revert hX
            generalize timesAt f d (.times x y) q (by8 b1) = res
            intro hX
            cases res with
            | error k => exact turn _ hX
            | ok z =>
              obtain ⟨x2, q2, r2⟩ := z
              obtain ⟨b2, rfl, g2, l3, nt, hM2⟩ := hX
              exact ⟨b2, rfl, g2, by omega, nt, fun R h => turn R (hM2 R h)⟩
        · rw [if_neg (fun z => k1 (h42.mp z))]
          exact ⟨c :: b, rfl, g, Nat.le_refl _, (fun y hy => by cases hy; exact k1), fun R h => h⟩
    · -- a term
      intro d p b fd w g hd lw hf
      rw [termAt_succ]
      have hF := iF d p b fd w g hd (by omega)
      cases e1 : factorAt f d p (by8 b) with
      | error k => rw [e1] at hF; exact hF
      | ok z =>
        obtain ⟨y, q, r⟩ := z
        rw [e1] at hF
        obtain ⟨b1, rfl, g1, l1, l2, hM⟩ := hF
        dsimp only
        have hX := iX d q b1 fd w y g1 hd lw (by omega)
        revert hX
        generalize timesAt f d y q (by8 b1) = res
        intro hX
        cases res with
        | error k => exact hM _ hX
        | ok z =>
          obtain ⟨x2, q2, r2⟩ := z
          obtain ⟨b2, rfl, g2, l3, nt, hM2⟩ := hX
          exact ⟨b2, rfl, g2, by omega, ⟨by omega, nt⟩, fun R h => hM R (hM2 R h)⟩
    · -- what is added
      intro d p b fd w x g hd lw nt0 hf
      cases b with
      | nil =>
        show Sim (ends := ends) (sumAt (f + 1) d x p []) fd w [] p _ _
        rw [sumAt_nil]
        exact ⟨[], rfl, g, Nat.le_refl _, (fun c hc => by cases hc), fun R h => h⟩
      | cons c b =>
        have hc := g.head
        rw [by8_cons, sumAt_cons]
        have h43 : (u c = 43) ↔ c = 43 := u_eq hc (by decide : 43 ≤ 255)
        have h45 : (u c = 45) ↔ c = 45 := u_eq hc (by decide : 45 ≤ 255)
        have lb : (c :: b).length = b.length + 1 := rfl
        have go : ∀ (o : Int) (mk : Ex → Ex), (o = 43 ∨ o = 45) → (∀ y, post (mk y) = post x ++ post y ++ [(o, 0)]) → c = o →
            Sim (ends := ends) (match termAt f d (p + 1) (by8 b) with
              | .error k => .error k
              | .ok (y, q, e) => sumAt f d (mk y) q e) fd w (c :: b) p NoOp (M2 ends (fd ++ post x) w (c :: b) p) := by
          intro o mk hov hpost hco
          have bo : binds o = 1 := by rcases hov with k | k <;> subst k <;> decide
          have hno : openersL.contains o = false := by rcases hov with k | k <;> subst k <;> decide
          have ho : opens (o :: w) = opens w := by
            unfold opens
            rw [List.filter_cons, if_neg (by rw [hno]; exact Bool.false_ne_true)]
          have hu : unw o (fd ++ post x) w = (fd ++ post x, w) := by
            cases w with
            | nil => rw [unw]
            | cons y w =>
              have := lw y rfl
              rw [unw, if_neg]
              omega
          have up : ∀ R, M1 ends (fd ++ post x) (o :: w) b (p + 1) R → M2 ends (fd ++ post x) w (c :: b) p R := fun R h => by
            subst hco
            have hops : opsL.contains c = true := ops_has.mpr (by omega)
            exact M2.op hops (rdCl_op (by omega)) (he c hops) hu h
          have hT := iT d (p + 1) b (fd ++ post x) (o :: w) g.tail (by rw [ho]; exact hd) (by intro z hz; cases hz; rw [bo]; decide) (by omega)
          cases e1 : termAt f d (p + 1) (by8 b) with
          | error k =>
            rw [e1] at hT
            exact up _ hT
          | ok z =>
            obtain ⟨y, q, r⟩ := z
            rw [e1] at hT
            obtain ⟨b1, rfl, g1, l1, ⟨l2, nt1⟩, hM⟩ := hT
            dsimp only
            have hS := iS d q b1 fd w (mk y) g1 hd lw nt1 (by omega)
            have turn : ∀ R, M2 ends (fd ++ post (mk y)) w b1 q R → M2 ends (fd ++ post x) w (c :: b) p R := fun R h => by
              refine up R (hM R (M2.pend hno (fun z hz1 hz => ?_) ?_))
              · have n42 := nt1 z hz1
                rw [bo]
                rcases ops_has.mp hz with k | k | k
                · exact absurd k n42
                · subst k; decide
                · subst k; decide
              · rw [hpost, ← List.append_assoc, ← List.append_assoc] at h
                exact h
            revert hS
            generalize sumAt f d (mk y) q (by8 b1) = res
            intro hS
            cases res with
            | error k => exact turn _ hS
            | ok z =>
              obtain ⟨x2, q2, r2⟩ := z
              obtain ⟨b2, rfl, g2, l3, nt, hM2⟩ := hS
              exact ⟨b2, rfl, g2, by omega, nt, fun R h => turn R (hM2 R h)⟩
        by_cases k1 : c = 43
        · rw [if_pos (h43.mpr k1)]
          exact go 43 (fun y => .plus x y) (.inl rfl) (fun y => rfl) k1
        · rw [if_neg (fun z => k1 (h43.mp z))]
          by_cases k2 : c = 45
          · rw [if_pos (h45.mpr k2)]
            exact go 45 (fun y => .minus x y) (.inr rfl) (fun y => rfl) k2
          · rw [if_neg (fun z => k2 (h45.mp z))]
            refine ⟨c :: b, rfl, g, Nat.le_refl _, (fun y hy => ?_), fun R h => h⟩
            cases hy
            have k0 := nt0 c rfl
            exact bfalse ops_has (by omega)
    · -- an E
      intro d p b fd w g hd lw hf
      rw [exAt_succ]
      have hT := iT d p b fd w g hd (fun c hc => by have := lw c hc; omega) (by omega)
      cases e1 : termAt f d p (by8 b) with
      | error k => rw [e1] at hT; exact hT
      | ok z =>
        obtain ⟨y, q, r⟩ := z
        rw [e1] at hT
        obtain ⟨b1, rfl, g1, l1, ⟨l2, nt1⟩, hM⟩ := hT
        dsimp only
        have hS := iS d q b1 fd w y g1 hd lw nt1 (by omega)
        revert hS
        generalize sumAt f d y q (by8 b1) = res
        intro hS
        cases res with
        | error k => exact hM _ hS
        | ok z =>
          obtain ⟨x2, q2, r2⟩ := z
          obtain ⟨b2, rfl, g2, l3, nt, hM2⟩ := hS
          exact ⟨b2, rfl, g2, by omega, ⟨by omega, nt⟩, fun R h => hM R (hM2 R h)⟩
/-- **An E read**: as the specification reads it -/
theorem expr_is (b : List Int) (p : Nat) (g : Good b) : match exHere p (by8 b) with
    | .error k => expr ends b p = .bad k
    | .ok (x, q, c) => ∃ b1, c = by8 b1 ∧ Good b1 ∧ b1.length < b.length ∧ expr ends b p = if sees b1 ends = true then .ok (post x, b1, q) else .bad q := by
  have h := (sim he (6 * b.length + 8)).2.2.2.2 0 p b [] [] g rfl (fun c hc => by cases hc) (by omega)
  unfold exHere
  rw [by8_len]
  revert h
  generalize exAt (6 * b.length + 8) 0 p (by8 b) = res
  intro h
  cases res with
  | error k => exact M1.expr h
  | ok z =>
    obtain ⟨x, q, c⟩ := z
    obtain ⟨b1, rfl, g1, _, ⟨l2, no⟩, hM⟩ := h
    refine ⟨b1, rfl, g1, l2, ?_⟩
    have hcl : rdCl b1 ([] ++ post x) [] q = ([] ++ post x, [], b1, q) := by
      cases b1 with
      | nil => rw [rdCl]
      | cons c b1 => rw [rdCl]; rfl
    by_cases hs : sees b1 ends = true
    · rw [if_pos hs]
      refine M1.expr (hM _ ⟨fun z => (by cases z), 0, ?_⟩)
      unfold m2
      rw [hcl]
      dsimp only
      rw [if_pos (by rw [hs]; rfl)]
      unfold rest
      rw [List.map_nil, List.append_nil, List.nil_append]
    · rw [if_neg hs]
      refine M1.expr (hM _ (M2.bad hcl (by rw [Bool.eq_false_iff.mpr hs, Bool.and_false]) no))
end
end Ab
namespace Ab
open Na
theorem word_cons (c : Int) (w b : List Int) (p : Nat) : word (c :: w) b p = match b with
    | [] => .bad p
    | d :: b1 => if c = d then word w b1 (p + 1) else .bad p := by
  rw [word]
  cases b with
  | nil => rfl
  | cons d b1 =>
    rw [nx_cons]
    dsimp only
    by_cases h : c = d
    · rw [if_pos h, if_pos (by simp [h])]
    · rw [if_neg h, if_neg (by simp; omega)]
theorem word_is : ∀ (w b : List Int) (p : Nat), Good w → Good b → match expect (by8 w) p (by8 b) with
    | .error k => word w b p = .bad k
    | .ok (_, q, c) => ∃ b1, c = by8 b1 ∧ Good b1 ∧ b.length = w.length + b1.length ∧ word w b p = .ok (b1, q)
  | [], b, p, _, g => ⟨b, rfl, g, by simp, rfl⟩
  | c :: w, [], p, _, g => rfl
  | c :: w, d :: b, p, gw, g => by
    have ih := word_is w b (p + 1) gw.tail g.tail
    rw [word_cons]
    show match (if u c = u d then expect (by8 w) (p + 1) (by8 b) else .error p) with
      | .error k => _
      | .ok (_, q, e) => _
    have heq : (u c = u d) ↔ c = d := by
      constructor
      · intro z
        have := congrArg UInt8.toNat z
        rw [u_nat gw.head, u_nat g.head] at this
        have h1 := gw.head
        have h2 := g.head
        omega
      · intro z; rw [z]
    dsimp only
    by_cases h : c = d
    · rw [if_pos h, if_pos (heq.mpr h)]
      revert ih
      generalize expect (by8 w) (p + 1) (by8 b) = res
      intro ih
      cases res with
      | error k => exact ih
      | ok z =>
        obtain ⟨b1, h1, h2, h3, h4⟩ := ih
        refine ⟨b1, h1, h2, ?_, h4⟩
        show b.length + 1 = w.length + 1 + b1.length
        omega
    · rw [if_neg h, if_neg (fun z => h (heq.mp z))]
def tri : Cmp → Bool × Bool × Bool
  | .eq => (false, true, false)
  | .lt => (true, false, false)
  | .gt => (false, false, true)
  | .le => (true, true, false)
  | .ge => (false, true, true)
  | .ne => (true, false, true)
theorem cmpAt_nil (p) : cmpAt p [] = .error p := by
  rw [cmpAt] <;> (intro l h; cases h)
theorem cmpAt_eq (p l) : cmpAt p (61 :: l) = .ok (.eq, p + 1, l) := by rw [cmpAt]
theorem cmpAt_other (p) (c : UInt8) (l : Bytes) (h1 : c ≠ 61) (h2 : c ≠ 60) (h3 : c ≠ 62) : cmpAt p (c :: l) = .error p := by
  rw [cmpAt]
  · intro l h; cases h; exact h1 rfl
  · intro l h; cases h; exact h2 rfl
  · intro l h; cases h; exact h2 rfl
  · intro l h; cases h; exact h2 rfl
  · intro l h; cases h; exact h3 rfl
  · intro l h; cases h; exact h3 rfl
theorem cmpAt_lt (p) (l : Bytes) : cmpAt p (60 :: l) = match l with
    | [] => .ok (.lt, p + 1, [])
    | d :: m => if d = 61 then .ok (.le, p + 2, m) else if d = 62 then .ok (.ne, p + 2, m) else .ok (.lt, p + 1, d :: m) := by
  cases l with
  | nil => rw [cmpAt] <;> (intro l h; cases h)
  | cons d m =>
    dsimp only
    by_cases h : d = 61
    · rw [if_pos h]; subst h; rw [cmpAt]
    · rw [if_neg h]
      by_cases h2 : d = 62
      · rw [if_pos h2]; subst h2; rw [cmpAt]
      · rw [if_neg h2, cmpAt]
        · intro l e; cases e; exact h rfl
        · intro l e; cases e; exact h2 rfl
theorem cmpAt_gt (p) (l : Bytes) : cmpAt p (62 :: l) = match l with
    | [] => .ok (.gt, p + 1, [])
    | d :: m => if d = 61 then .ok (.ge, p + 2, m) else .ok (.gt, p + 1, d :: m) := by
  cases l with
  | nil => rw [cmpAt] <;> (intro l h; cases h)
  | cons d m =>
    dsimp only
    by_cases h : d = 61
    · rw [if_pos h]; subst h; rw [cmpAt]
    · rw [if_neg h, cmpAt]
      intro l e; cases e; exact h rfl
theorem cmp_cons (c : Int) (b : List Int) (p : Nat) : cmp (c :: b) p = if c = 61 then .ok ((false, true, false), b, p + 1)
    else if c = 62 then (match b with
      | [] => .ok ((false, false, true), [], p + 1)
      | d :: b1 => if d = 61 then .ok ((false, true, true), b1, p + 2) else .ok ((false, false, true), d :: b1, p + 1))
    else if c = 60 then (match b with
      | [] => .ok ((true, false, false), [], p + 1)
      | d :: b1 => if d = 61 then .ok ((true, true, false), b1, p + 2) else if d = 62 then .ok ((true, false, true), b1, p + 2) else .ok ((true, false, false), d :: b1, p + 1))
    else .bad p := rfl
theorem cmp_is (b : List Int) (p : Nat) (g : Good b) : match cmpAt p (by8 b) with
    | .error k => cmp b p = .bad k
    | .ok (y, q, c) => ∃ b1, c = by8 b1 ∧ Good b1 ∧ b1.length < b.length ∧ cmp b p = .ok (tri y, b1, q) := by
  cases b with
  | nil =>
    have e : cmpAt p (by8 []) = .error p := cmpAt_nil p
    rw [e]
    rfl
  | cons c b =>
    have hc := g.head
    have h61 : (u c = 61) ↔ c = 61 := u_eq hc (by decide : 61 ≤ 255)
    have h60 : (u c = 60) ↔ c = 60 := u_eq hc (by decide : 60 ≤ 255)
    have h62 : (u c = 62) ↔ c = 62 := u_eq hc (by decide : 62 ≤ 255)
    rw [by8_cons, cmp_cons]
    by_cases k1 : c = 61
    · rw [h61.mpr k1, cmpAt_eq, if_pos k1]
      exact ⟨b, rfl, g.tail, Nat.lt_succ_self _, rfl⟩
    · rw [if_neg k1]
      by_cases k2 : c = 62
      · rw [h62.mpr k2, cmpAt_gt, if_pos k2]
        cases b with
        | nil => exact ⟨[], rfl, g.tail, Nat.lt_succ_self _, rfl⟩
        | cons d m =>
          rw [by8_cons]
          dsimp only
          have g2 := g.tail
          have d61 : (u d = 61) ↔ d = 61 := u_eq g2.head (by decide : 61 ≤ 255)
          by_cases k3 : d = 61
          · rw [if_pos (d61.mpr k3), if_pos k3]
            exact ⟨m, rfl, g2.tail, by show m.length < m.length + 1 + 1; omega, rfl⟩
          · rw [if_neg (fun z => k3 (d61.mp z)), if_neg k3]
            exact ⟨d :: m, rfl, g2, Nat.lt_succ_self _, rfl⟩
      · rw [if_neg k2]
        by_cases k3 : c = 60
        · rw [h60.mpr k3, cmpAt_lt, if_pos k3]
          cases b with
          | nil => exact ⟨[], rfl, g.tail, Nat.lt_succ_self _, rfl⟩
          | cons d m =>
            rw [by8_cons]
            dsimp only
            have g2 := g.tail
            have d61 : (u d = 61) ↔ d = 61 := u_eq g2.head (by decide : 61 ≤ 255)
            have d62 : (u d = 62) ↔ d = 62 := u_eq g2.head (by decide : 62 ≤ 255)
            by_cases k4 : d = 61
            · rw [if_pos (d61.mpr k4), if_pos k4]
              exact ⟨m, rfl, g2.tail, by show m.length < m.length + 1 + 1; omega, rfl⟩
            · rw [if_neg (fun z => k4 (d61.mp z)), if_neg k4]
              by_cases k5 : d = 62
              · rw [if_pos (d62.mpr k5), if_pos k5]
                exact ⟨m, rfl, g2.tail, by show m.length < m.length + 1 + 1; omega, rfl⟩
              · rw [if_neg (fun z => k5 (d62.mp z)), if_neg k5]
                exact ⟨d :: m, rfl, g2, Nat.lt_succ_self _, rfl⟩
        · rw [if_neg k3, cmpAt_other p (u c) (by8 b) (fun z => k1 (h61.mp z)) (fun z => k3 (h60.mp z)) (fun z => k2 (h62.mp z))]
theorem cmp_not (b : List Int) (p : Nat) (h : sees b [60, 61, 62] = false) : cmp b p = .bad p := by
  cases b with
  | nil => rfl
  | cons c b =>
    have h1 : ¬ (c = 60 ∨ c = 61 ∨ c = 62) := by
      intro z
      have : ([60, 61, 62] : List Int).contains c = true := by simpa using z
      rw [sees_cons, this] at h
      cases h
    rw [cmp_cons, if_neg (by omega), if_neg (by omega), if_neg (by omega)]
def ttest (t : Test) : Items × (Bool × Bool × Bool) × Items := (post t.a, tri t.cmp, post t.b)
theorem ends1 : Ends [60, 61, 62] := by
  intro c h
  rcases ops_has.mp h with k | k | k <;> subst k <;> decide
theorem ends2 : Ends [32, 10] := by
  intro c h
  rcases ops_has.mp h with k | k | k <;> subst k <;> decide
theorem ends3 : Ends [32] := by
  intro c h
  rcases ops_has.mp h with k | k | k <;> subst k <;> decide
theorem ends4 : Ends [10] := by
  intro c h
  rcases ops_has.mp h with k | k | k <;> subst k <;> decide
theorem testAt_eq (p : Nat) (b : Bytes) : testAt p b = match exHere p b with
    | .error k => .error k
    | .ok (x, q, c) => match cmpAt q c with
      | .error k => .error k
      | .ok (y, q, c) => match exHere q c with
        | .error k => .error k
        | .ok (z, q, c) => .ok (⟨x, y, z⟩, q, c) := by
  unfold testAt
  cases exHere p b with
  | error k => rfl
  | ok z =>
    obtain ⟨x, q, c⟩ := z
    show (do let c ← cmpAt q c; let y ← exHere c.2.1 c.2.2; return ((⟨x, c.1, y.1⟩ : Test), y.2)) = _
    cases h : cmpAt q c with
    | error k => dsimp only; rw [h]; rfl
    | ok z =>
      obtain ⟨y, q, c⟩ := z
      dsimp only
      rw [h]
      show (do let y_1 ← exHere q c; return ((⟨x, y, y_1.1⟩ : Test), y_1.2)) = _
      cases h2 : exHere q c with
      | error k => dsimp only; rw [h2]; rfl
      | ok z => dsimp only; rw [h2]; rfl
theorem testsAt_eq (f p : Nat) (b : Bytes) : testsAt (f + 1) p b = match testAt p b with
    | .error k => .error k
    | .ok (t, q, c) => if c.head? = some 32 then (match expect (ascii " and ") q c with
      | .error k => .error k
      | .ok (_, q, c) => match testsAt f q c with
        | .error k => .error k
        | .ok (l, q, c) => .ok (t :: l, q, c)) else .ok ([t], q, c) := by
  rw [testsAt]
  cases testAt p b with
  | error k => rfl
  | ok z =>
    obtain ⟨t, q, c⟩ := z
    dsimp only
    show (if c.head? = some 32 then (do let w ← expect (ascii " and ") q c; let r ← testsAt f w.2.1 w.2.2; return (t :: r.1, r.2)) else return ([t], q, c)) = _
    by_cases h : c.head? = some 32
    · rw [if_pos h, if_pos h]
      cases h2 : expect (ascii " and ") q c with
      | error k => rfl
      | ok z =>
        obtain ⟨_, q, c⟩ := z
        dsimp only
        show (do let r ← testsAt f q c; return (t :: r.1, r.2)) = _
        cases h3 : testsAt f q c with
        | error k => rfl
        | ok z => rfl
    · rw [if_neg h, if_neg h]
      rfl
theorem and_ascii : ascii " and " = by8 andL := by decide
theorem goodL {l : List Int} (h : l.all (fun c => decide (0 ≤ c) && decide (c ≤ 255)) = true) : Good l := fun c hc => by
  have := List.all_eq_true.mp h c hc
  rw [Bool.and_eq_true, decide_eq_true_eq, decide_eq_true_eq] at this
  exact this
theorem sees_one {b : List Int} {k : Nat} (g : Good b) (hk : k ≤ 255) : sees b [(k : Int)] = true ↔ (by8 b).head? = some (UInt8.ofNat k) := by
  cases b with
  | nil => exact ⟨fun h => (by cases h), fun h => (by cases h)⟩
  | cons c b =>
    rw [sees_cons, by8_cons]
    have q := u_eq g.head hk
    simp only [List.head?_cons, Option.some.injEq, q, List.contains_iff_mem, List.mem_cons, List.not_mem_nil, or_false]
theorem cond_is : ∀ (f : Nat) (b : List Int) (p : Nat) (ts : Tests), Good b → b.length < f → match testsAt f p (by8 b) with
    | .error k => cdL f ts b p = .bad k
    | .ok (l, q, c) => ∃ b1, c = by8 b1 ∧ Good b1 ∧ b1.length < b.length ∧ cdL f ts b p = if sees b1 [10] = true then .ok (ts ++ l.map ttest, b1, q) else .bad q
  | 0, b, p, ts, _, h => absurd h (Nat.not_lt_zero _)
  | f + 1, b, p, ts, g, hf => by
    rw [testsAt_eq, testAt_eq, cdL]
    have e1 := expr_is ends1 b p g
    revert e1
    generalize exHere p (by8 b) = r1
    intro e1
    cases r1 with
    | error k => dsimp only at e1 ⊢; rw [e1]
    | ok z =>
      obtain ⟨x, q1, c1⟩ := z
      obtain ⟨b1, rfl, g1, l1, e1⟩ := e1
      dsimp only
      rw [e1]
      have e2 := cmp_is b1 q1 g1
      by_cases hs : sees b1 [60, 61, 62] = true
      · rw [if_pos hs]
        dsimp only
        revert e2
        generalize cmpAt q1 (by8 b1) = r2
        intro e2
        cases r2 with
        | error k => dsimp only at e2 ⊢; rw [e2]
        | ok z =>
          obtain ⟨y, q2, c2⟩ := z
          obtain ⟨b2, rfl, g2, l2, e2⟩ := e2
          dsimp only
          rw [e2]
          dsimp only
          have e3 := expr_is ends2 b2 q2 g2
          revert e3
          generalize exHere q2 (by8 b2) = r3
          intro e3
          cases r3 with
          | error k => dsimp only at e3 ⊢; rw [e3]
          | ok z =>
            obtain ⟨z, q3, c3⟩ := z
            obtain ⟨b3, rfl, g3, l3, e3⟩ := e3
            dsimp only
            rw [e3]
            have hd32 : (by8 b3).head? = some 32 ↔ sees b3 [32] = true := (sees_one (k := 32) g3 (by decide)).symm
            by_cases h32 : sees b3 [32] = true
            · have hs2 : sees b3 [32, 10] = true := by
                cases b3 with
                | nil => cases h32
                | cons c b3 =>
                  rw [sees_cons] at h32 ⊢
                  simp only [List.contains_iff_mem, List.mem_cons, List.not_mem_nil, or_false] at h32 ⊢
                  exact .inl h32
              rw [if_pos hs2, if_pos (hd32.mpr h32)]
              dsimp only
              rw [if_pos h32, and_ascii]
              have e4 := word_is andL b3 q3 (goodL (by decide)) g3
              revert e4
              generalize expect (by8 andL) q3 (by8 b3) = r4
              intro e4
              cases r4 with
              | error k => dsimp only at e4 ⊢; rw [e4]
              | ok z =>
                obtain ⟨_, q4, c4⟩ := z
                obtain ⟨b4, rfl, g4, l4, e4⟩ := e4
                dsimp only
                rw [e4]
                dsimp only
                have l5 : andL.length = 5 := rfl
                have ih := cond_is f b4 q4 (ts ++ [(post x, tri y, post z)]) g4 (by omega)
                revert ih
                generalize testsAt f q4 (by8 b4) = r5
                intro ih
                cases r5 with
                | error k => exact ih
                | ok w =>
                  obtain ⟨l, q5, c5⟩ := w
                  obtain ⟨b5, rfl, g5, l6, ih⟩ := ih
                  refine ⟨b5, rfl, g5, by omega, ?_⟩
                  rw [ih]
                  simp [ttest, List.append_assoc]
            · rw [if_neg (fun z => h32 (hd32.mp z))]
              refine ⟨b3, rfl, g3, by omega, ?_⟩
              by_cases h10 : sees b3 [10] = true
              · have hs2 : sees b3 [32, 10] = true := by
                  cases b3 with
                  | nil => cases h10
                  | cons c b3 =>
                    rw [sees_cons] at h10 ⊢
                    simp only [List.contains_iff_mem, List.mem_cons, List.not_mem_nil, or_false] at h10 ⊢
                    exact .inr h10
                rw [if_pos hs2, if_pos h10]
                dsimp only
                rw [if_neg h32]
                rfl
              · have hs2 : ¬ sees b3 [32, 10] = true := by
                  intro z
                  cases b3 with
                  | nil => cases z
                  | cons c b3 =>
                    rw [sees_cons] at h10 h32 z
                    simp only [List.contains_iff_mem, List.mem_cons, List.not_mem_nil, or_false] at h10 h32 z
                    rcases z with z | z
                    · exact h32 z
                    · exact h10 z
                rw [if_neg hs2, if_neg h10]
      · rw [if_neg hs]
        have e3 := cmp_not b1 q1 (Bool.eq_false_iff.mpr hs)
        revert e2
        generalize cmpAt q1 (by8 b1) = r2
        intro e2
        cases r2 with
        | error k =>
          dsimp only at e2 ⊢
          rw [e3] at e2
          cases e2
          rfl
        | ok z =>
          obtain ⟨y, q2, c2⟩ := z
          obtain ⟨b2, _, _, _, e2⟩ := e2
          rw [e3] at e2
          cases e2
end Ab
namespace Ab
open Na
/-! ### words -/
theorem oneOf_single {A : Type} (k : A) : ∀ (w : Bytes) (f p : Nat) (b : Bytes), w.length < f → oneOf f [(w, k)] p b = match expect w p b with
    | .error e => .error e
    | .ok (_, q, c) => .ok (k, q, c)
  | [], f + 1, p, b, _ => rfl
  | c :: w, 0, p, b, h => absurd h (Nat.not_lt_zero _)
  | c :: w, f + 1, p, [], _ => rfl
  | c :: w, f + 1, p, d :: b, h => by
    rw [oneOf]
    show (if (List.filterMap (fun x : Bytes × A => match x.1 with
          | e :: r => if d = e then some (r, x.2) else none
          | [] => none) [(c :: w, k)]).isEmpty = true then Except.error p else oneOf f (List.filterMap (fun x : Bytes × A => match x.1 with
          | e :: r => if d = e then some (r, x.2) else none
          | [] => none) [(c :: w, k)]) (p + 1) b) = _
    show _ = match (if c = d then expect w (p + 1) b else Except.error p) with
      | .error e => Except.error e
      | .ok (_, q, c) => Except.ok (k, q, c)
    by_cases e : d = c
    · have e2 : (List.filterMap (fun x : Bytes × A => match x.1 with
          | e :: r => if d = e then some (r, x.2) else none
          | [] => none) [(c :: w, k)]) = [(w, k)] := by simp [e]
      rw [e2, if_pos e.symm]
      exact oneOf_single k w f (p + 1) b (Nat.lt_of_succ_lt_succ h)
    · have e2 : (List.filterMap (fun x : Bytes × A => match x.1 with
          | e :: r => if d = e then some (r, x.2) else none
          | [] => none) [(c :: w, k)]) = [] := by simp [e]
      rw [e2, if_pos (show ([] : List (Bytes × A)).isEmpty = true from rfl), if_neg (fun z => e z.symm)]
/-- the words, by the three things that are asked of what's open -/
def wordsB (a i e : Bool) : List (Bytes × Kw) := [(ascii "add ", .add), (ascii "take ", .take), (ascii "set ", .set), (ascii "stop", .halt_), (ascii "fail", .fail)] ++ ((if a = true then [(ascii "if ", .if_), (ascii "while ", .while_)] else []) ++ ((if i = true then [(ascii "else", .else_)] else []) ++ if e = true then [] else [(ascii "end", .end_)]))
theorem words_is (o : List Nat) : words_ o = wordsB (decide (o.length < OPEN)) (decide (o.head? = some 1)) o.isEmpty := by
  unfold words_ wordsB
  simp only [decide_eq_true_eq]
def firstB (a e : Bool) : List Int := [97, 116, 115, 102] ++ (if a = true then [105, 119] else []) ++ (if e = true then [] else [101])
/-- what is left to be read of the word behind its first byte -/
def kwRest : Kw → List Int
  | .add => [100, 100, 32]
  | .take => [97, 107, 101, 32]
  | .set => [116, 32]
  | .halt_ => [111, 112]
  | .fail => [97, 105, 108]
  | .if_ => [102, 32]
  | .while_ => [104, 105, 108, 101, 32]
  | .else_ => [115, 101]
  | .end_ => [100]
abbrev RK := Except Nat (Kw × (Nat × Bytes))
def kwThen (k : Kw) (p : Nat) (b : Bytes) : RK := match expect (by8 (kwRest k)) p b with
    | .error e => .error e
    | .ok (_, q, c) => .ok (k, q, c)
theorem oneOf_nil (f : Nat) (W : List (Bytes × Kw)) (p : Nat) (h : (W.find? fun x => x.1.isEmpty) = none) : oneOf (f + 1) W p [] = .error p := by
  rw [oneOf, h]
def step1 (W : List (Bytes × Kw)) (c : UInt8) : List (Bytes × Kw) := W.filterMap fun (x : Bytes × Kw) => match x.1 with
          | d :: r => if c = d then some (r, x.2) else none
          | [] => none
theorem oneOf_cons (f : Nat) (W : List (Bytes × Kw)) (p : Nat) (c : UInt8) (l : Bytes) (h : (W.find? fun x => x.1.isEmpty) = none) : oneOf (f + 1) W p (c :: l) = if (step1 W c).isEmpty = true then .error p else oneOf f (step1 W c) (p + 1) l := by
  rw [oneOf, h]
  rfl
theorem wordsB_full (a i e : Bool) : ((wordsB a i e).find? fun x => x.1.isEmpty) = none := by revert a i e; decide
theorem st_a (a i e : Bool) : step1 (wordsB a i e) 97 = [(by8 (kwRest .add), .add)] := by revert a i e; decide
theorem st_t (a i e : Bool) : step1 (wordsB a i e) 116 = [(by8 (kwRest .take), .take)] := by revert a i e; decide
theorem st_f (a i e : Bool) : step1 (wordsB a i e) 102 = [(by8 (kwRest .fail), .fail)] := by revert a i e; decide
theorem st_s (a i e : Bool) : step1 (wordsB a i e) 115 = [(101 :: by8 (kwRest .set), .set), (116 :: by8 (kwRest .halt_), .halt_)] := by revert a i e; decide
theorem st_i (i e : Bool) : step1 (wordsB true i e) 105 = [(by8 (kwRest .if_), .if_)] := by revert i e; decide
theorem st_w (i e : Bool) : step1 (wordsB true i e) 119 = [(by8 (kwRest .while_), .while_)] := by revert i e; decide
theorem st_i0 (i e : Bool) : step1 (wordsB false i e) 105 = [] := by revert i e; decide
theorem st_w0 (i e : Bool) : step1 (wordsB false i e) 119 = [] := by revert i e; decide
theorem st_e0 (a : Bool) : step1 (wordsB a false true) 101 = [] := by revert a; decide
theorem st_e1 (a : Bool) : step1 (wordsB a false false) 101 = [(110 :: by8 (kwRest .end_), .end_)] := by revert a; decide
theorem st_e2 (a : Bool) : step1 (wordsB a true false) 101 = [(108 :: by8 (kwRest .else_), .else_), (110 :: by8 (kwRest .end_), .end_)] := by revert a; decide
theorem st_other (a i e : Bool) (c : UInt8) (h : c ≠ 97 ∧ c ≠ 116 ∧ c ≠ 115 ∧ c ≠ 102 ∧ c ≠ 105 ∧ c ≠ 119 ∧ c ≠ 101) : step1 (wordsB a i e) c = [] := by
  obtain ⟨h1, h2, h3, h4, h5, h6, h7⟩ := h
  have e1 : ascii "add " = 97 :: [100, 100, 32] := by decide
  have e2 : ascii "take " = 116 :: [97, 107, 101, 32] := by decide
  have e3 : ascii "set " = 115 :: [101, 116, 32] := by decide
  have e4 : ascii "stop" = 115 :: [116, 111, 112] := by decide
  have e5 : ascii "fail" = 102 :: [97, 105, 108] := by decide
  have e6 : ascii "if " = 105 :: [102, 32] := by decide
  have e7 : ascii "while " = 119 :: [104, 105, 108, 101, 32] := by decide
  have e8 : ascii "else" = 101 :: [108, 115, 101] := by decide
  have e9 : ascii "end" = 101 :: [110, 100] := by decide
  unfold step1 wordsB
  rw [e1, e2, e3, e4, e5, e6, e7, e8, e9]
  cases a <;> cases i <;> cases e <;> simp [h1, h2, h3, h4, h5, h6, h7]
/-! ### a line -/
def partOf : Line → Part
  | .add e r => .two (post e) (post r)
  | .take e r => .two (post e) (post r)
  | .set k e => .set (k : Int) (post e)
  | .if_ c => .tests (c.map ttest)
  | .while_ c => .tests (c.map ttest)
  | _ => .nil
def codeOf : Line → Nat
  | .add _ _ => 0
  | .take _ _ => 1
  | .set _ _ => 2
  | .if_ _ => 3
  | .else_ => 4
  | .end_ => 5
  | .while_ _ => 6
  | .halt_ => 7
  | .fail => 8
def stepL (s : LS) (l : Line) : LS := match l with
  | .if_ _ => s.opened 3 (partOf l)
  | .while_ _ => s.opened 6 (partOf l)
  | .else_ => s.putElse
  | .end_ => s.putEnd
  | _ => s.put (codeOf l) (partOf l)
def flag (ws : List Nat) (x : Nat × Option Nat) : Nat := match x.2 with
  | some _ => 2
  | none => if ws[x.1]? = some 3 then 1 else 0
def openOf (s : LS) : List Nat := s.os.map (flag s.ws)
/-- what stands open stands there -/
def Wf (s : LS) : Prop := ∀ x ∈ s.os, x.1 < s.ws.length ∧ (s.ws[x.1]? = some 3 ∨ s.ws[x.1]? = some 6)
abbrev RLine := Except Nat (Line × (Nat × Bytes))
/-- the line behind its keyword -/
def tailAt (k : Kw) (p : Nat) (b : Bytes) : RLine := match k with
  | .add => (match exHere p b with
    | .error k => .error k
    | .ok (x, q, c) => match expect (ascii " at ") q c with
      | .error k => .error k
      | .ok (_, q, c) => match exHere q c with
        | .error k => .error k
        | .ok (y, q, c) => .ok (.add x y, q, c))
  | .take => (match exHere p b with
    | .error k => .error k
    | .ok (x, q, c) => match expect (ascii " at ") q c with
      | .error k => .error k
      | .ok (_, q, c) => match exHere q c with
        | .error k => .error k
        | .ok (y, q, c) => .ok (.take x y, q, c))
  | .set => (match headAt p b with
    | .error k => .error k
    | .ok (h, q, c) => match expect [32] q c with
      | .error k => .error k
      | .ok (_, q, c) => match exHere q c with
        | .error k => .error k
        | .ok (y, q, c) => .ok (.set h y, q, c))
  | .if_ => (match testsAt (b.length + 1) p b with
    | .error k => .error k
    | .ok (t, q, c) => .ok (.if_ t, q, c))
  | .while_ => (match testsAt (b.length + 1) p b with
    | .error k => .error k
    | .ok (t, q, c) => .ok (.while_ t, q, c))
  | .else_ => .ok (.else_, p, b)
  | .end_ => .ok (.end_, p, b)
  | .halt_ => .ok (.halt_, p, b)
  | .fail => .ok (.fail, p, b)
theorem lineAt_eq (o : List Nat) (p : Nat) (b : Bytes) : lineAt o p b = match oneOf 8 (words_ o) p b with
    | .error k => .error k
    | .ok (k, q, c) => tailAt k q c := by
  unfold lineAt
  cases oneOf 8 (words_ o) p b with
  | error k => rfl
  | ok z =>
    obtain ⟨k, q, c⟩ := z
    cases k with
    | add =>
      show (do let e ← exHere q c; let w ← expect (ascii " at ") e.2.1 e.2.2; let r ← exHere w.2.1 w.2.2; return (Line.add e.1 r.1, r.2)) = tailAt .add q c
      unfold tailAt
      cases exHere q c with
      | error k => rfl
      | ok z =>
        obtain ⟨x, q, c⟩ := z
        show (do let w ← expect (ascii " at ") q c; let r ← exHere w.2.1 w.2.2; return (Line.add x r.1, r.2)) = _
        dsimp only
        cases expect (ascii " at ") q c with
        | error k => rfl
        | ok z =>
          obtain ⟨_, q, c⟩ := z
          show (do let r ← exHere q c; return (Line.add x r.1, r.2)) = _
          dsimp only
          cases exHere q c <;> rfl
    | take =>
      show (do let e ← exHere q c; let w ← expect (ascii " at ") e.2.1 e.2.2; let r ← exHere w.2.1 w.2.2; return (Line.take e.1 r.1, r.2)) = tailAt .take q c
      unfold tailAt
      cases exHere q c with
      | error k => rfl
      | ok z =>
        obtain ⟨x, q, c⟩ := z
        show (do let w ← expect (ascii " at ") q c; let r ← exHere w.2.1 w.2.2; return (Line.take x r.1, r.2)) = _
        dsimp only
        cases expect (ascii " at ") q c with
        | error k => rfl
        | ok z =>
          obtain ⟨_, q, c⟩ := z
          show (do let r ← exHere q c; return (Line.take x r.1, r.2)) = _
          dsimp only
          cases exHere q c <;> rfl
    | set =>
      show (do let h ← headAt q c; let w ← expect [32] h.2.1 h.2.2; let e ← exHere w.2.1 w.2.2; return (Line.set h.1 e.1, e.2)) = tailAt .set q c
      unfold tailAt
      cases headAt q c with
      | error k => rfl
      | ok z =>
        obtain ⟨x, q, c⟩ := z
        show (do let w ← expect [32] q c; let r ← exHere w.2.1 w.2.2; return (Line.set x r.1, r.2)) = _
        dsimp only
        cases expect [32] q c with
        | error k => rfl
        | ok z =>
          obtain ⟨_, q, c⟩ := z
          show (do let r ← exHere q c; return (Line.set x r.1, r.2)) = _
          dsimp only
          cases exHere q c <;> rfl
    | if_ =>
      show (do let t ← testsAt (c.length + 1) q c; return (Line.if_ t.1, t.2)) = tailAt .if_ q c
      unfold tailAt
      dsimp only
      cases testsAt (c.length + 1) q c <;> rfl
    | while_ =>
      show (do let t ← testsAt (c.length + 1) q c; return (Line.while_ t.1, t.2)) = tailAt .while_ q c
      unfold tailAt
      dsimp only
      cases testsAt (c.length + 1) q c <;> rfl
    | else_ => rfl
    | end_ => rfl
    | halt_ => rfl
    | fail => rfl
/-- a line and its line feed -/
def lineLf (r : RLine) : RLine := match r with
  | .error k => .error k
  | .ok (l, q, c) => match expect [10] q c with
    | .error k => .error k
    | .ok (_, q, c) => .ok (l, q, c)
/-- the mirror's line, with its line feed -/
def lf (r : RL) : RL := match r with
  | .lost => .lost
  | .bad k => .bad k
  | .ok (s2, b2, p2) => match word [10] b2 p2 with
      | .lost => .lost
      | .bad k => .bad k
      | .ok (b3, p3) => .ok (s2, b3, p3)
def SimL (r : RLine) (m : RL) (n : Nat) (s : LS) : Prop := match r with
  | .error k => m = .bad k
  | .ok (l, q, c) => ∃ b1, c = by8 b1 ∧ Good b1 ∧ b1.length < n ∧ m = .ok (stepL s l, b1, q)
theorem lf_is {l : Line} {q : Nat} {b : List Int} {s : LS} {n : Nat} (g : Good b) (hn : b.length ≤ n) : SimL (lineLf (.ok (l, q, by8 b))) (lf (.ok (stepL s l, b, q))) n s := by
  unfold lineLf lf
  dsimp only
  have h := word_is [10] b q (goodL (by decide)) g
  have e : by8 [10] = [10] := by decide
  rw [e] at h
  revert h
  generalize expect [10] q (by8 b) = r
  intro h
  cases r with
  | error k => dsimp only at h; rw [h]; rfl
  | ok z =>
    obtain ⟨_, q2, c⟩ := z
    obtain ⟨b1, rfl, g1, l1, h⟩ := h
    rw [h]
    have : ([10] : List Int).length = 1 := rfl
    exact ⟨b1, rfl, g1, by omega, rfl⟩
theorem lf_bad {l : Line} {q : Nat} {b : List Int} {s : LS} {n : Nat} (g : Good b) (h : sees b [10] = false) : SimL (lineLf (.ok (l, q, by8 b))) (lf (.bad q)) n s := by
  unfold lineLf lf
  dsimp only
  cases b with
  | nil => rfl
  | cons c b =>
    have h10 : (10 = u c) ↔ c = 10 := by
      constructor
      · intro z; exact (u_eq g.head (by decide : 10 ≤ 255)).mp z.symm
      · intro z; exact ((u_eq g.head (by decide : 10 ≤ 255)).mpr z).symm
    have hc : c ≠ 10 := by
      intro z
      rw [sees_cons] at h
      subst z
      exact absurd h (by decide)
    show SimL (match (if (10 : UInt8) = u c then expect [] (q + 1) (by8 b) else .error q) with
      | .error k => .error k
      | .ok (_, q, c) => .ok (l, q, c)) _ _ _
    rw [if_neg (fun z => hc (h10.mp z))]
    rfl
theorem at_ascii : ascii " at " = by8 [32, 97, 116, 32] := by decide
theorem sees_at {b : List Int} {p : Nat} (g : Good b) (h : sees b [32] = false) : expect (ascii " at ") p (by8 b) = .error p := by
  rw [at_ascii]
  cases b with
  | nil => rfl
  | cons c b =>
    have h32 : (32 = u c) ↔ c = 32 := by
      constructor
      · intro z; exact (u_eq g.head (by decide : 32 ≤ 255)).mp z.symm
      · intro z; exact ((u_eq g.head (by decide : 32 ≤ 255)).mpr z).symm
    have hc : c ≠ 32 := by
      intro z
      rw [sees_cons] at h
      subst z
      exact absurd h (by decide)
    show (if (32 : UInt8) = u c then expect (by8 [97, 116, 32]) (p + 1) (by8 b) else .error p) = _
    rw [if_neg (fun z => hc (h32.mp z))]
/-- add and take -/
theorem change_tail (k : Kw) (mk : Ex → Ex → Line) (hk : k = .add ∧ mk = .add ∨ k = .take ∧ mk = .take) (s : LS) (b : List Int) (p : Nat) (n w : Nat) (g : Good b) (hn : b.length ≤ n) (hs : ∀ x y, stepL s (mk x y) = s.put w (.two (post x) (post y))) :
    SimL (lineLf (tailAt k p (by8 b))) (lf (match expr [32] b p with
    | .lost => .lost
    | .bad k => .bad k
    | .ok (x, b2, p2) => match word [32, 97, 116, 32] b2 p2 with
      | .lost => .lost
      | .bad k => .bad k
      | .ok (b3, p3) => match expr [10] b3 p3 with
        | .lost => .lost
        | .bad k => .bad k
        | .ok (y, b4, p4) => .ok (s.put w (.two x y), b4, p4))) n s := by
  have ht : tailAt k p (by8 b) = match exHere p (by8 b) with
    | .error k => .error k
    | .ok (x, q, c) => match expect (ascii " at ") q c with
      | .error k => .error k
      | .ok (_, q, c) => match exHere q c with
        | .error k => .error k
        | .ok (y, q, c) => .ok (mk x y, q, c) := by
    rcases hk with ⟨rfl, rfl⟩ | ⟨rfl, rfl⟩ <;> rfl
  rw [ht]
  have e1 := expr_is ends3 b p g
  revert e1
  generalize exHere p (by8 b) = r1
  intro e1
  cases r1 with
  | error k => dsimp only at e1 ⊢; rw [e1]; rfl
  | ok z =>
    obtain ⟨x, q1, c1⟩ := z
    obtain ⟨b1, rfl, g1, l1, e1⟩ := e1
    dsimp only
    rw [e1]
    by_cases hs1 : sees b1 [32] = true
    · rw [if_pos hs1, at_ascii]
      dsimp only
      have e2 := word_is [32, 97, 116, 32] b1 q1 (goodL (by decide)) g1
      revert e2
      generalize expect (by8 [32, 97, 116, 32]) q1 (by8 b1) = r2
      intro e2
      cases r2 with
      | error k => dsimp only at e2 ⊢; rw [e2]; rfl
      | ok z =>
        obtain ⟨_, q2, c2⟩ := z
        obtain ⟨b2, rfl, g2, l2, e2⟩ := e2
        have lw : ([32, 97, 116, 32] : List Int).length = 4 := rfl
        dsimp only
        rw [e2]
        dsimp only
        have e3 := expr_is ends4 b2 q2 g2
        revert e3
        generalize exHere q2 (by8 b2) = r3
        intro e3
        cases r3 with
        | error k => dsimp only at e3 ⊢; rw [e3]; rfl
        | ok z =>
          obtain ⟨y, q3, c3⟩ := z
          obtain ⟨b3, rfl, g3, l3, e3⟩ := e3
          dsimp only
          rw [e3]
          by_cases hs3 : sees b3 [10] = true
          · rw [if_pos hs3]
            dsimp only
            rw [← hs x y]
            exact lf_is g3 (by omega)
          · rw [if_neg hs3]
            exact lf_bad g3 (Bool.eq_false_iff.mpr hs3)
    · rw [if_neg hs1, sees_at g1 (Bool.eq_false_iff.mpr hs1)]
      rfl
theorem tests_tail (k : Kw) (mk : List Test → Line) (hk : k = .if_ ∧ mk = .if_ ∨ k = .while_ ∧ mk = .while_) (s : LS) (b : List Int) (p : Nat) (n w : Nat) (g : Good b) (hn : b.length ≤ n) (hs : ∀ x, stepL s (mk x) = s.opened w (.tests (x.map ttest))) :
    SimL (lineLf (tailAt k p (by8 b))) (lf (match cond b p with
    | .lost => .lost
    | .bad k => .bad k
    | .ok (ts, b2, p2) => .ok (s.opened w (.tests ts), b2, p2))) n s := by
  have ht : tailAt k p (by8 b) = match testsAt (b.length + 1) p (by8 b) with
    | .error k => .error k
    | .ok (t, q, c) => .ok (mk t, q, c) := by
    rw [← by8_len b]
    rcases hk with ⟨rfl, rfl⟩ | ⟨rfl, rfl⟩ <;> rfl
  rw [ht]
  have e1 := cond_is (b.length + 1) b p [] g (Nat.lt_succ_self _)
  unfold cond
  revert e1
  generalize testsAt (b.length + 1) p (by8 b) = r1
  intro e1
  cases r1 with
  | error k => dsimp only at e1 ⊢; rw [e1]; rfl
  | ok z =>
    obtain ⟨x, q1, c1⟩ := z
    obtain ⟨b1, rfl, g1, l1, e1⟩ := e1
    dsimp only
    rw [e1]
    by_cases hs1 : sees b1 [10] = true
    · rw [if_pos hs1]
      dsimp only
      rw [List.nil_append, ← hs x]
      exact lf_is g1 (by omega)
    · rw [if_neg hs1]
      exact lf_bad g1 (Bool.eq_false_iff.mpr hs1)
theorem set_tail (s : LS) (b : List Int) (p : Nat) (n : Nat) (g : Good b) (hn : b.length ≤ n) :
    SimL (lineLf (tailAt .set p (by8 b))) (lf (match nx b p headsL with
        | .lost => .lost
        | .bad k => .bad k
        | .ok (h, b3, p3) => match word [32] b3 p3 with
          | .lost => .lost
          | .bad k => .bad k
          | .ok (b4, p4) => match expr [10] b4 p4 with
            | .lost => .lost
            | .bad k => .bad k
            | .ok (x, b5, p5) => .ok (s.put 2 (.set (h - 97) x), b5, p5))) n s := by
  cases b with
  | nil => rfl
  | cons c b =>
    have hc := g.head
    have un := u_nat hc
    rw [nx_cons]
    have hh : headAt p (by8 (c :: b)) = if 97 ≤ c ∧ c ≤ 104 then .ok ((u c).toNat - 97, p + 1, by8 b) else .error p := by
      show (if 97 ≤ (u c).toNat ∧ (u c).toNat ≤ 104 then _ else _) = _
      by_cases k : 97 ≤ c ∧ c ≤ 104
      · rw [if_pos k, if_pos (by rw [un]; omega)]; rfl
      · rw [if_neg k, if_neg (by rw [un]; omega)]
    unfold tailAt
    dsimp only
    rw [hh]
    by_cases k : 97 ≤ c ∧ c ≤ 104
    · rw [if_pos k, if_pos (heads_has.mpr k)]
      dsimp only
      have lb : (c :: b).length = b.length + 1 := rfl
      have e2 := word_is [32] b (p + 1) (goodL (by decide)) g.tail
      have e32 : by8 [32] = [32] := by decide
      rw [e32] at e2
      revert e2
      generalize expect [32] (p + 1) (by8 b) = r2
      intro e2
      cases r2 with
      | error k => dsimp only at e2 ⊢; rw [e2]; rfl
      | ok z =>
        obtain ⟨_, q2, c2⟩ := z
        obtain ⟨b2, rfl, g2, l2, e2⟩ := e2
        have lw : ([32] : List Int).length = 1 := rfl
        dsimp only
        rw [e2]
        dsimp only
        have e3 := expr_is ends4 b2 q2 g2
        revert e3
        generalize exHere q2 (by8 b2) = r3
        intro e3
        cases r3 with
        | error k => dsimp only at e3 ⊢; rw [e3]; rfl
        | ok z =>
          obtain ⟨y, q3, c3⟩ := z
          obtain ⟨b3, rfl, g3, l3, e3⟩ := e3
          dsimp only
          rw [e3]
          by_cases hs3 : sees b3 [10] = true
          · rw [if_pos hs3]
            dsimp only
            have es : s.put 2 (.set (c - 97) (post y)) = stepL s (.set ((u c).toNat - 97) y) := by
              show _ = s.put 2 (.set ((((u c).toNat - 97 : Nat) : Int)) (post y))
              have e4 : c - 97 = (((u c).toNat - 97 : Nat) : Int) := by rw [un]; omega
              rw [e4]
            rw [es]
            exact lf_is g3 (by omega)
          · rw [if_neg hs3]
            exact lf_bad g3 (Bool.eq_false_iff.mpr hs3)
    · rw [if_neg k, if_neg (fun z => k (heads_has.mp z))]
      rfl
/-- a keyword, then its line -/
theorem kw_then (k : Kw) (s : LS) (b : List Int) (p n : Nat) (g : Good b) (hn : b.length ≤ n) (m : List Int → Nat → RL)
    (h : ∀ b1 q, Good b1 → b1.length ≤ n → SimL (lineLf (tailAt k q (by8 b1))) (lf (m b1 q)) n s) :
    SimL (lineLf (match kwThen k p (by8 b) with
      | .error e => .error e
      | .ok (k, q, c) => tailAt k q c)) (lf (match word (kwRest k) b p with
      | .lost => .lost
      | .bad e => .bad e
      | .ok (b1, p1) => m b1 p1)) n s := by
  have gk : Good (kwRest k) := goodL (by cases k <;> decide)
  have e := word_is (kwRest k) b p gk g
  unfold kwThen
  revert e
  generalize expect (by8 (kwRest k)) p (by8 b) = r
  intro e
  cases r with
  | error k => dsimp only at e ⊢; rw [e]; rfl
  | ok z =>
    obtain ⟨_, q, c⟩ := z
    obtain ⟨b1, rfl, g1, l1, e⟩ := e
    dsimp only
    rw [e]
    exact h b1 q g1 (by omega)
end Ab
namespace Ab
open Na
theorem flag_append {ws : List Nat} {k : Nat} {x : Nat × Option Nat} (h : x.1 < ws.length) : flag (ws ++ [k]) x = flag ws x := by
  unfold flag
  rw [List.getElem?_append_left h]
theorem openOf_put {s : LS} (wf : Wf s) (k : Nat) (x : Part) : openOf (s.put k x) = openOf s := by
  unfold openOf
  refine List.map_congr_left fun y hy => ?_
  exact flag_append (wf y hy).1
theorem wf_put {s : LS} (wf : Wf s) (k : Nat) (x : Part) : Wf (s.put k x) := fun y hy => by
  obtain ⟨h1, h2⟩ := wf y hy
  have : (s.put k x).ws = s.ws ++ [k] := rfl
  rw [this, List.length_append, List.getElem?_append_left h1]
  exact ⟨by omega, h2⟩
theorem may_is {s : LS} (wf : Wf s) : s.may = true ↔ (openOf s).head? = some 1 := by
  unfold LS.may openOf
  cases h : s.os with
  | nil => simp
  | cons x r =>
    obtain ⟨b, m⟩ := x
    rw [List.map_cons, List.head?_cons]
    unfold flag
    cases m with
    | none =>
      dsimp only
      by_cases k : s.ws[b]? = some 3
      · rw [if_pos k, k]; simp
      · rw [if_neg k]
        simp [k]
    | some m => simp
theorem openOf_len (s : LS) : (openOf s).length = s.os.length := List.length_map ..
theorem openOf_empty (s : LS) : (openOf s).isEmpty = s.os.isEmpty := by
  unfold openOf
  cases s.os <;> rfl
theorem first_is (s : LS) : s.first = firstB (decide ((openOf s).length < OPEN)) (openOf s).isEmpty := by
  rw [openOf_len, openOf_empty]
  unfold LS.first firstB OPEN
  simp only [decide_eq_true_eq]
theorem firstB_has (a e : Bool) (c : Int) : (firstB a e).contains c = true ↔ c = 97 ∨ c = 116 ∨ c = 115 ∨ c = 102 ∨ (a = true ∧ (c = 105 ∨ c = 119)) ∨ (e = false ∧ c = 101) := by
  unfold firstB
  cases a <;> cases e <;> simp <;> omega
/-- **a line**: as the specification reads it -/
theorem line_is (s : LS) (b : List Int) (p : Nat) (wf : Wf s) (g : Good b) (hb : b.isEmpty = false) : SimL (lineLf (lineAt (openOf s) p (by8 b))) (rdLine s b p) b.length s := by
  have hl : rdLine s b p = match nx b p s.first with
      | .lost => .lost
      | .bad k => .bad k
      | .ok (c, b1, p1) => lf (rdBody s c b1 p1) := rfl
  rw [hl, lineAt_eq, words_is, first_is]
  cases b with
  | nil => cases hb
  | cons c b =>
    have hc := g.head
    have gt := g.tail
    rw [nx_cons, by8_cons, oneOf_cons 7 _ _ _ _ (wordsB_full _ _ _)]
    have uq : ∀ k : Nat, k ≤ 255 → (u c = UInt8.ofNat k ↔ c = (k : Int)) := fun k hk => u_eq hc hk
    have lb : (c :: b).length = b.length + 1 := rfl
    have single : ∀ (k : Kw) (m : List Int → Nat → RL) (f : Nat) (b0 : List Int) (p0 : Nat), 5 < f → Good b0 → b0.length ≤ (c :: b).length → (∀ b1 q, Good b1 → b1.length ≤ (c :: b).length → SimL (lineLf (tailAt k q (by8 b1))) (lf (m b1 q)) (c :: b).length s) →
        SimL (lineLf (match oneOf f [(by8 (kwRest k), k)] p0 (by8 b0) with
          | .error k => .error k
          | .ok (k, q, c) => tailAt k q c)) (lf (match word (kwRest k) b0 p0 with
          | .lost => .lost
          | .bad e => .bad e
          | .ok (b1, p1) => m b1 p1)) (c :: b).length s := by
      intro k m f b0 p0 hf g0 l0 h
      rw [oneOf_single k (by8 (kwRest k)) f p0 (by8 b0) (by rw [by8_len]; exact Nat.lt_of_le_of_lt (show (kwRest k).length ≤ 5 by cases k <;> decide) hf)]
      exact kw_then k s b0 p0 (c :: b).length g0 l0 m h
    have one : ∀ (k : Kw) (f : Nat) (p0 : Nat) (b0 : Bytes), (if ([(by8 (kwRest k), k)] : List (Bytes × Kw)).isEmpty = true then Except.error p else oneOf f [(by8 (kwRest k), k)] p0 b0) = oneOf f [(by8 (kwRest k), k)] p0 b0 := fun k f p0 b0 => if_neg (by intro z; cases z)
    have lbb : b.length ≤ (c :: b).length := Nat.le_succ _
    have twoW : ∀ (d1 d2 : Nat) (k1 k2 : Kw) (b0 : List Int) (p0 : Nat), d1 ≤ 255 → d2 ≤ 255 → d1 ≠ d2 → Good b0 → oneOf 7 [(UInt8.ofNat d1 :: by8 (kwRest k1), k1), (UInt8.ofNat d2 :: by8 (kwRest k2), k2)] p0 (by8 b0) = match b0 with
        | [] => Except.error p0
        | d :: b1 => if d = (d1 : Int) then oneOf 6 [(by8 (kwRest k1), k1)] (p0 + 1) (by8 b1) else if d = (d2 : Int) then oneOf 6 [(by8 (kwRest k2), k2)] (p0 + 1) (by8 b1) else .error p0 := by
      intro d1 d2 k1 k2 b0 p0 h1 h2 hne g0
      cases b0 with
      | nil => rfl
      | cons d b1 =>
        rw [by8_cons, oneOf_cons 6 _ _ _ _ (by rfl)]
        have e1 := u_eq g0.head h1
        have e2 := u_eq g0.head h2
        have en : UInt8.ofNat d1 ≠ UInt8.ofNat d2 := fun z => hne (by
          have := congrArg UInt8.toNat z
          rw [UInt8.toNat_ofNat', UInt8.toNat_ofNat'] at this
          omega)
        dsimp only
        by_cases k : d = (d1 : Int)
        · rw [if_pos k]
          have : step1 [(UInt8.ofNat d1 :: by8 (kwRest k1), k1), (UInt8.ofNat d2 :: by8 (kwRest k2), k2)] (u d) = [(by8 (kwRest k1), k1)] := by
            unfold step1
            rw [e1.mpr k]
            simp [en]
          rw [this]
          exact if_neg (by intro z; cases z)
        · rw [if_neg k]
          by_cases k' : d = (d2 : Int)
          · rw [if_pos k']
            have : step1 [(UInt8.ofNat d1 :: by8 (kwRest k1), k1), (UInt8.ofNat d2 :: by8 (kwRest k2), k2)] (u d) = [(by8 (kwRest k2), k2)] := by
              unfold step1
              rw [e2.mpr k']
              simp [Ne.symm en]
            rw [this]
            exact if_neg (by intro z; cases z)
          · rw [if_neg k']
            have : step1 [(UInt8.ofNat d1 :: by8 (kwRest k1), k1), (UInt8.ofNat d2 :: by8 (kwRest k2), k2)] (u d) = [] := by
              unfold step1
              have n1 : ¬ u d = UInt8.ofNat d1 := fun z => k (e1.mp z)
              have n2 : ¬ u d = UInt8.ofNat d2 := fun z => k' (e2.mp z)
              simp [n1, n2]
            rw [this]
            rfl
    have hfc := firstB_has (decide ((openOf s).length < OPEN)) (openOf s).isEmpty c
    by_cases k1 : c = 97
    · rw [if_pos (hfc.mpr (.inl k1)), show u c = 97 from (uq 97 (by decide)).mpr k1, st_a, one]
      subst k1
      exact single .add _ 7 b (p + 1) (by decide) gt lbb (fun b1 q g1 l1 => change_tail .add .add (.inl ⟨rfl, rfl⟩) s b1 q _ 0 g1 l1 (fun x y => rfl))
    by_cases k2 : c = 116
    · rw [if_pos (hfc.mpr (.inr (.inl k2))), show u c = 116 from (uq 116 (by decide)).mpr k2, st_t, one]
      subst k2
      exact single .take _ 7 b (p + 1) (by decide) gt lbb (fun b1 q g1 l1 => change_tail .take .take (.inr ⟨rfl, rfl⟩) s b1 q _ 1 g1 l1 (fun x y => rfl))
    by_cases k3 : c = 115
    · rw [if_pos (hfc.mpr (.inr (.inr (.inl k3)))), show u c = 115 from (uq 115 (by decide)).mpr k3, st_s, if_neg (by decide)]
      subst k3
      have h2 := twoW 101 116 .set .halt_ b (p + 1) (by decide) (by decide) (by decide) gt
      rw [show (101 : UInt8) = UInt8.ofNat 101 from rfl, show (116 : UInt8) = UInt8.ofNat 116 from rfl, h2]
      show SimL _ (lf (rdSet s b (p + 1))) _ s
      unfold rdSet
      cases b with
      | nil => rfl
      | cons d b1 =>
        have g1 := gt.tail
        rw [nx_cons]
        dsimp only
        have l1 : b1.length ≤ (115 :: d :: b1).length := by show b1.length ≤ b1.length + 1 + 1; omega
        by_cases j1 : d = 101
        · rw [if_pos (show d = ((101 : Nat) : Int) from j1), if_pos (show ([101, 116] : List Int).contains d = true by subst j1; decide)]
          dsimp only
          rw [if_neg (by omega)]
          exact single .set _ 6 b1 (p + 1 + 1) (by decide) g1 l1 (fun b2 q g2 l2 => set_tail s b2 q _ g2 l2)
        · rw [if_neg (show ¬ d = ((101 : Nat) : Int) from j1)]
          by_cases j2 : d = 116
          · rw [if_pos (show d = ((116 : Nat) : Int) from j2), if_pos (show ([101, 116] : List Int).contains d = true by subst j2; decide)]
            dsimp only
            rw [if_pos j2]
            exact single .halt_ (fun b2 p2 => .ok (s.put 7 .nil, b2, p2)) 6 b1 (p + 1 + 1) (by decide) g1 l1 (fun b2 q g2 l2 => lf_is (l := .halt_) g2 l2)
          · rw [if_neg (show ¬ d = ((116 : Nat) : Int) from j2), if_neg (show ¬ ([101, 116] : List Int).contains d = true by simp; omega)]
            rfl
    by_cases k4 : c = 102
    · rw [if_pos (hfc.mpr (.inr (.inr (.inr (.inl k4))))), show u c = 102 from (uq 102 (by decide)).mpr k4, st_f, one]
      subst k4
      exact single .fail (fun b2 p2 => .ok (s.put 8 .nil, b2, p2)) 7 b (p + 1) (by decide) gt lbb (fun b1 q g1 l1 => lf_is (l := .fail) g1 l1)
    by_cases k5 : c = 105
    · rw [show u c = 105 from (uq 105 (by decide)).mpr k5]
      cases ha : decide ((openOf s).length < OPEN) with
      | false =>
        rw [ha] at hfc
        rw [st_i0, if_pos (show ([] : List (Bytes × Kw)).isEmpty = true from rfl), if_neg (fun z => by have := hfc.mp z; simp [k5] at this)]
        rfl
      | true =>
        rw [ha] at hfc
        rw [if_pos (hfc.mpr (.inr (.inr (.inr (.inr (.inl ⟨rfl, .inl k5⟩)))))), st_i, one]
        subst k5
        exact single .if_ _ 7 b (p + 1) (by decide) gt lbb (fun b1 q g1 l1 => tests_tail .if_ .if_ (.inl ⟨rfl, rfl⟩) s b1 q _ 3 g1 l1 (fun x => rfl))
    by_cases k6 : c = 119
    · rw [show u c = 119 from (uq 119 (by decide)).mpr k6]
      cases ha : decide ((openOf s).length < OPEN) with
      | false =>
        rw [ha] at hfc
        rw [st_w0, if_pos (show ([] : List (Bytes × Kw)).isEmpty = true from rfl), if_neg (fun z => by have := hfc.mp z; simp [k6] at this)]
        rfl
      | true =>
        rw [ha] at hfc
        rw [if_pos (hfc.mpr (.inr (.inr (.inr (.inr (.inl ⟨rfl, .inr k6⟩)))))), st_w, one]
        subst k6
        exact single .while_ _ 7 b (p + 1) (by decide) gt lbb (fun b1 q g1 l1 => tests_tail .while_ .while_ (.inr ⟨rfl, rfl⟩) s b1 q _ 6 g1 l1 (fun x => rfl))
    by_cases k7 : c = 101
    · rw [show u c = 101 from (uq 101 (by decide)).mpr k7]
      have hmay := may_is wf
      cases he : (openOf s).isEmpty with
      | true =>
        rw [he] at hfc
        have h1 : decide ((openOf s).head? = some 1) = false := by
          refine decide_eq_false ?_
          intro z
          cases ho : openOf s with
          | nil => rw [ho] at z; cases z
          | cons x r => rw [ho] at he; cases he
        rw [h1, st_e0, if_pos (show ([] : List (Bytes × Kw)).isEmpty = true from rfl), if_neg (fun z => by have := hfc.mp z; simp [k7] at this)]
        rfl
      | false =>
        rw [he] at hfc
        rw [if_pos (hfc.mpr (.inr (.inr (.inr (.inr (.inr ⟨rfl, k7⟩))))))]
        subst k7
        show SimL _ (lf (rdElse s b (p + 1))) _ s
        unfold rdElse
        by_cases hm : s.may = true
        · rw [if_pos hm, show decide ((openOf s).head? = some 1) = true from decide_eq_true (hmay.mp hm), st_e2, if_neg (by decide)]
          have h2 := twoW 108 110 .else_ .end_ b (p + 1) (by decide) (by decide) (by decide) gt
          rw [show (108 : UInt8) = UInt8.ofNat 108 from rfl, show (110 : UInt8) = UInt8.ofNat 110 from rfl, h2]
          cases b with
          | nil => rfl
          | cons d b1 =>
            have g1 := gt.tail
            rw [nx_cons]
            dsimp only
            have l1 : b1.length ≤ (101 :: d :: b1).length := by show b1.length ≤ b1.length + 1 + 1; omega
            by_cases j1 : d = 108
            · rw [if_pos (show d = ((108 : Nat) : Int) from j1), if_pos (show ([110, 108] : List Int).contains d = true by subst j1; decide)]
              dsimp only
              rw [if_neg (by omega)]
              exact single .else_ (fun b2 p2 => .ok (s.putElse, b2, p2)) 6 b1 (p + 1 + 1) (by decide) g1 l1 (fun b2 q g2 l2 => lf_is (l := .else_) g2 l2)
            · rw [if_neg (show ¬ d = ((108 : Nat) : Int) from j1)]
              by_cases j2 : d = 110
              · rw [if_pos (show d = ((110 : Nat) : Int) from j2), if_pos (show ([110, 108] : List Int).contains d = true by subst j2; decide)]
                dsimp only
                rw [if_pos j2]
                exact single .end_ (fun b2 p2 => .ok (s.putEnd, b2, p2)) 6 b1 (p + 1 + 1) (by decide) g1 l1 (fun b2 q g2 l2 => lf_is (l := .end_) g2 l2)
              · rw [if_neg (show ¬ d = ((110 : Nat) : Int) from j2), if_neg (show ¬ ([110, 108] : List Int).contains d = true by simp; omega)]
                rfl
        · rw [if_neg hm, show decide ((openOf s).head? = some 1) = false from decide_eq_false (fun z => hm (hmay.mpr z)), st_e1, if_neg (by decide)]
          cases b with
          | nil => rfl
          | cons d b1 =>
            have g1 := gt.tail
            rw [nx_cons, by8_cons, oneOf_cons 6 _ _ _ _ (by rfl)]
            have l1 : b1.length ≤ (101 :: d :: b1).length := by show b1.length ≤ b1.length + 1 + 1; omega
            have e1 : (u d = 110) ↔ d = 110 := u_eq gt.head (by decide : 110 ≤ 255)
            by_cases j2 : d = 110
            · have : step1 [(110 :: by8 (kwRest .end_), .end_)] (u d) = [(by8 (kwRest .end_), .end_)] := by
                unfold step1
                rw [e1.mpr j2]
                simp
              rw [this, if_neg (by intro z; cases z), if_pos (show ([110] : List Int).contains d = true by subst j2; decide)]
              dsimp only
              rw [if_pos j2]
              exact single .end_ (fun b2 p2 => .ok (s.putEnd, b2, p2)) 6 b1 (p + 1 + 1) (by decide) g1 l1 (fun b2 q g2 l2 => lf_is (l := .end_) g2 l2)
            · have : step1 [(110 :: by8 (kwRest .end_), .end_)] (u d) = [] := by
                unfold step1
                have n1 : ¬ u d = 110 := fun z => j2 (e1.mp z)
                simp [n1]
              rw [this, if_pos (show ([] : List (Bytes × Kw)).isEmpty = true from rfl), if_neg (show ¬ ([110] : List Int).contains d = true by simp; omega)]
              rfl
    have hn : ∀ k : Nat, k ≤ 255 → c ≠ (k : Int) → u c ≠ UInt8.ofNat k := fun k hk h z => h ((uq k hk).mp z)
    rw [st_other _ _ _ (u c) ⟨hn 97 (by decide) k1, hn 116 (by decide) k2, hn 115 (by decide) k3, hn 102 (by decide) k4, hn 105 (by decide) k5, hn 119 (by decide) k6, hn 101 (by decide) k7⟩,
      if_pos (show ([] : List (Bytes × Kw)).isEmpty = true from rfl), if_neg (fun z => by have := hfc.mp z; omega)]
    rfl
theorem linesAt_eq (f : Nat) (o : List Nat) (p : Nat) (b : Bytes) : linesAt (f + 1) o p b = if b.isEmpty = true then (if o.isEmpty = true then .ok [] else .error p) else match lineLf (lineAt o p b) with
    | .error k => .error k
    | .ok (l, q, c) => match linesAt f (openBehind o l) q c with
      | .error k => .error k
      | .ok r => .ok (l :: r) := by
  rw [linesAt]
  by_cases h : b.isEmpty = true
  · rw [if_pos h, if_pos h]
  · rw [if_neg h, if_neg h]
    unfold lineLf
    cases lineAt o p b with
    | error k => rfl
    | ok z =>
      obtain ⟨l, q, c⟩ := z
      show (do let e ← expect [10] q c; let r ← linesAt f (openBehind o l) e.2.1 e.2.2; return l :: r) = _
      dsimp only
      cases expect [10] q c with
      | error k => rfl
      | ok z =>
        obtain ⟨_, q, c⟩ := z
        show (do let r ← linesAt f (openBehind o l) q c; return l :: r) = _
        dsimp only
        cases linesAt f (openBehind o l) q c <;> rfl
/-- what a line leaves open -/
theorem open_step {s : LS} {l : Line} (wf : Wf s) (h : (l = .else_ ∨ l = .end_) → s.os ≠ []) : Wf (stepL s l) ∧ openOf (stepL s l) = openBehind (openOf s) l := by
  have put : ∀ k x, Wf (s.put k x) ∧ openOf (s.put k x) = openOf s := fun k x => ⟨wf_put wf k x, openOf_put wf k x⟩
  have opd : ∀ k x, (k = 3 ∨ k = 6) → Wf (s.opened k x) ∧ openOf (s.opened k x) = (if k = 3 then 1 else 0) :: openOf s := by
    intro k x hk
    have e1 : (s.opened k x).os = (s.ws.length, none) :: s.os := rfl
    have e2 : (s.opened k x).ws = s.ws ++ [k] := rfl
    have at0 : (s.ws ++ [k])[s.ws.length]? = some k := by simp
    refine ⟨fun y hy => ?_, ?_⟩
    · rw [e1] at hy
      rw [e2]
      rcases List.mem_cons.mp hy with e | hy
      · subst e
        refine ⟨by simp, ?_⟩
        rw [at0]
        rcases hk with e | e <;> subst e <;> simp
      · obtain ⟨h1, h2⟩ := wf y hy
        rw [List.length_append, List.getElem?_append_left h1]
        exact ⟨by omega, h2⟩
    · unfold openOf
      rw [e1, e2, List.map_cons]
      congr 1
      · unfold flag
        dsimp only
        rw [at0]
        rcases hk with e | e <;> subst e <;> rfl
      · exact List.map_congr_left fun y hy => flag_append (wf y hy).1
  cases l with
  | add x y => exact put _ _
  | take x y => exact put _ _
  | set k x => exact put _ _
  | if_ c => exact opd 3 _ (.inl rfl)
  | while_ c => exact opd 6 _ (.inr rfl)
  | halt_ => exact put _ _
  | fail => exact put _ _
  | else_ =>
    have hne := h (.inl rfl)
    show Wf s.putElse ∧ openOf s.putElse = 2 :: (openOf s).drop 1
    unfold LS.putElse openOf
    cases e : s.os with
    | nil => exact absurd e hne
    | cons x r =>
      obtain ⟨b, m⟩ := x
      have wr : ∀ y ∈ s.os, y.1 < (s.ws ++ [4]).length ∧ ((s.ws ++ [4])[y.1]? = some 3 ∨ (s.ws ++ [4])[y.1]? = some 6) := fun y hy => by
        obtain ⟨h1, h2⟩ := wf y hy
        rw [List.length_append, List.getElem?_append_left h1]
        exact ⟨by omega, h2⟩
      refine ⟨fun y hy => ?_, ?_⟩
      · rcases List.mem_cons.mp hy with e2 | hy
        · subst e2
          exact wr (b, m) (by rw [e]; exact List.mem_cons_self ..)
        · exact wr y (by rw [e]; exact List.mem_cons_of_mem _ hy)
      · show List.map (flag (s.ws ++ [4])) ((b, some s.ws.length) :: r) = 2 :: (List.map (flag s.ws) ((b, m) :: r)).drop 1
        rw [List.map_cons, List.map_cons]
        congr 1
        exact List.map_congr_left fun y hy => flag_append (wf y (by rw [e]; exact List.mem_cons_of_mem _ hy)).1
  | end_ =>
    have hne := h (.inr rfl)
    show Wf s.putEnd ∧ openOf s.putEnd = (openOf s).drop 1
    unfold LS.putEnd openOf
    cases e : s.os with
    | nil => exact absurd e hne
    | cons x r =>
      obtain ⟨b, m⟩ := x
      refine ⟨fun y hy => ?_, ?_⟩
      · have hy : y ∈ r := hy
        obtain ⟨h1, h2⟩ := wf y (by rw [e]; exact List.mem_cons_of_mem _ hy)
        show y.1 < (s.ws ++ [5]).length ∧ ((s.ws ++ [5])[y.1]? = some 3 ∨ (s.ws ++ [5])[y.1]? = some 6)
        rw [List.length_append, List.getElem?_append_left h1]
        exact ⟨by omega, h2⟩
      · show List.map (flag (s.ws ++ [5])) r = (List.map (flag s.ws) ((b, m) :: r)).drop 1
        rw [List.map_cons]
        exact List.map_congr_left fun y hy => flag_append (wf y (by rw [e]; exact List.mem_cons_of_mem _ hy)).1
/-- an else, an end, is read where something is open -/
theorem line_open {s : LS} {b : List Int} {p : Nat} {l : Line} {q : Nat} {c : Bytes} (hl : lineAt (openOf s) p (by8 b) = .ok (l, q, c)) (h : l = .else_ ∨ l = .end_) : s.os ≠ [] := by
  intro z
  rw [lineAt_eq, words_is] at hl
  have e0 : openOf s = [] := by unfold openOf; rw [z]; rfl
  rw [e0] at hl
  cases b with
  | nil =>
    rw [show oneOf 8 (wordsB (decide (([] : List Nat).length < OPEN)) (decide (([] : List Nat).head? = some 1)) ([] : List Nat).isEmpty) p (by8 []) = .error p from oneOf_nil 7 _ p (wordsB_full _ _ _)] at hl
    cases hl
  | cons d b =>
    have key : ∀ (f : Nat) (W : List (Bytes × Kw)) (p : Nat) (b : Bytes) (k : Kw) (q : Nat) (c : Bytes), oneOf f W p b = .ok (k, q, c) → ∃ x ∈ W, x.2 = k := by
      intro f
      induction f with
      | zero => intro W p b k q c e; cases e
      | succ f ih =>
        intro W p b k q c e
        unfold oneOf at e
        cases hf : W.find? fun x => x.1.isEmpty with
        | some x =>
          rw [hf] at e
          have e := Except.ok.inj e
          exact ⟨x, List.mem_of_find?_eq_some hf, congrArg (·.1) e⟩
        | none =>
          rw [hf] at e
          cases b with
          | nil => cases e
          | cons d b =>
            dsimp only at e
            split at e
            · cases e
            · obtain ⟨x, hx, hk⟩ := ih _ _ _ _ _ _ e
              obtain ⟨y, hy, hxy⟩ := List.mem_filterMap.mp hx
              refine ⟨y, hy, ?_⟩
              rw [← hk]
              split at hxy
              · split at hxy
                · have := Option.some.inj hxy
                  rw [← this]
                · cases hxy
              · cases hxy
    cases ho : oneOf 8 (wordsB (decide (([] : List Nat).length < OPEN)) (decide (([] : List Nat).head? = some 1)) ([] : List Nat).isEmpty) p (by8 (d :: b)) with
    | error k => rw [ho] at hl; cases hl
    | ok w =>
      obtain ⟨k, q1, c1⟩ := w
      rw [ho] at hl
      obtain ⟨x, hx, hk⟩ := key _ _ _ _ _ _ _ ho
      have hall : ∀ x ∈ wordsB (decide (([] : List Nat).length < OPEN)) (decide (([] : List Nat).head? = some 1)) ([] : List Nat).isEmpty, x.2 ≠ .else_ ∧ x.2 ≠ .end_ := by decide
      have hn := hall x hx
      rw [hk] at hn
      dsimp only at hl
      unfold tailAt at hl
      rcases h with e | e
      · subst e
        split at hl <;> (repeat' split at hl) <;> first | (cases hl; done) | (exact hn.1 rfl) | (exact hn.2 rfl) | (have := Except.ok.inj hl; cases this)
      · subst e
        split at hl <;> (repeat' split at hl) <;> first | (cases hl; done) | (exact hn.1 rfl) | (exact hn.2 rfl) | (have := Except.ok.inj hl; cases this)
/-- an else, an end, has what it belongs to -/
def Fit : LS → Method → Prop
  | _, [] => True
  | s, l :: r => ((l = .else_ ∨ l = .end_) → s.os ≠ []) ∧ Fit (stepL s l) r
/-- **a text read** -/
theorem lines_is : ∀ (f : Nat) (s : LS) (b : List Int) (p : Nat), Wf s → Good b → b.length < f → match linesAt f (openOf s) p (by8 b) with
    | .error k => lnL f s b p = .bad k
    | .ok m => lnL f s b p = .ok (m.foldl stepL s) ∧ (m.foldl stepL s).os = [] ∧ Fit s m
  | 0, s, b, p, _, _, h => absurd h (Nat.not_lt_zero _)
  | f + 1, s, b, p, wf, g, hf => by
    rw [linesAt_eq, lnL]
    have e0 : (by8 b).isEmpty = b.isEmpty := by cases b <;> rfl
    rw [e0]
    by_cases hb : b.isEmpty = true
    · rw [if_pos hb, if_pos hb, openOf_empty]
      by_cases ho : s.os.isEmpty = true
      · rw [if_pos ho, if_pos ho]
        exact ⟨rfl, List.isEmpty_iff.mp ho, trivial⟩
      · rw [if_neg ho, if_neg ho]
    · rw [if_neg hb, if_neg hb]
      have h := line_is s b p wf g (Bool.eq_false_iff.mpr hb)
      have hop : ∀ l q c, lineLf (lineAt (openOf s) p (by8 b)) = .ok (l, q, c) → (l = .else_ ∨ l = .end_) → s.os ≠ [] := by
        intro l q c e hl
        unfold lineLf at e
        cases h1 : lineAt (openOf s) p (by8 b) with
        | error k => rw [h1] at e; cases e
        | ok z =>
          obtain ⟨l1, q1, c1⟩ := z
          rw [h1] at e
          dsimp only at e
          cases h2 : expect [10] q1 c1 with
          | error k => rw [h2] at e; cases e
          | ok z =>
            rw [h2] at e
            have e := Except.ok.inj e
            have : l1 = l := congrArg (·.1) e
            subst this
            exact line_open h1 hl
      revert h hop
      generalize lineLf (lineAt (openOf s) p (by8 b)) = r
      intro h hop
      cases r with
      | error k => dsimp only; rw [show rdLine s b p = .bad k from h]
      | ok z =>
        obtain ⟨l, q, c⟩ := z
        obtain ⟨b1, rfl, g1, l1, h⟩ := h
        rw [h]
        dsimp only
        obtain ⟨wf2, ho2⟩ := open_step (l := l) wf (fun hl => hop l q _ rfl hl)
        rw [← ho2]
        have ih := lines_is f (stepL s l) b1 q wf2 g1 (by omega)
        revert ih
        generalize linesAt f (openOf (stepL s l)) q (by8 b1) = r
        intro ih
        cases r with
        | error k => exact ih
        | ok m => exact ⟨ih.1, ih.2.1, fun hl => hop l q _ rfl hl, ih.2.2⟩
/-- **the parser is the specification's** -/
theorem read_is (t : List Int) (g : Good t) : match readMethod (by8 t) with
    | .error k => linesOf t = .bad k
    | .ok m => linesOf t = .ok (m.foldl stepL .empty) ∧ (m.foldl stepL .empty).os = [] ∧ Fit .empty m := by
  unfold readMethod linesOf
  rw [by8_len]
  exact lines_is (t.length + 1) .empty t 0 (fun x hx => by cases hx) g (Nat.lt_succ_self _)
theorem step_len (s : LS) (l : Line) (h : (l = .else_ ∨ l = .end_) → s.os ≠ []) : (stepL s l).ws.length = s.ws.length + 1 := by
  cases l with
  | else_ =>
    show s.putElse.ws.length = _
    unfold LS.putElse
    cases e : s.os with
    | nil => exact absurd e (h (.inl rfl))
    | cons x r => simp [LS.put]
  | end_ =>
    show s.putEnd.ws.length = _
    unfold LS.putEnd
    cases e : s.os with
    | nil => exact absurd e (h (.inr rfl))
    | cons x r => simp [LS.put]
  | _ => simp [stepL, LS.put, LS.opened]
theorem fold_len : ∀ (m : Method) (s : LS), Fit s m → (m.foldl stepL s).ws.length = s.ws.length + m.length
  | [], s, _ => rfl
  | l :: r, s, h => by
    rw [List.foldl_cons, fold_len r _ h.2, step_len s l h.1, List.length_cons]
    omega
theorem good_bytes {t : List Int} (g : Good t) : MvNeutral.bytesOf t = some (by8 t) := by
  unfold MvNeutral.bytesOf
  have h : NeutralIO.bytes t = true := List.all_eq_true.mpr fun c hc => by
    have := g c hc
    simp [this.1, this.2]
  rw [if_pos h]
  rfl
/-- **the law of method** -/
theorem method_is (t : List Int) (g : Good t) : PyYqacda.method t = method t := by
  have e : PyYqacda.method t = MvNeutral.told (Mv.answer (.method (by8 t))) := by
    show (MvNeutral.step MvNeutral.start [[1], t]).2 = _
    unfold MvNeutral.step
    show (match ((MvNeutral.bytesOf t).map fun (t : List UInt8) => Mv.Call.method t) with | some x => _ | none => _ : MvNeutral.S × List Int).2 = _
    rw [good_bytes g]
    rfl
  rw [e]
  unfold Mv.answer method
  dsimp only
  rw [by8_len]
  by_cases h : 4096 < t.length
  · rw [if_pos (show Mv.LONGEST < t.length from h), if_pos h]
    rfl
  · rw [if_neg (show ¬ Mv.LONGEST < t.length from h), if_neg h]
    unfold Mv.withMethod
    have hr := read_is t g
    revert hr
    generalize readMethod (by8 t) = r
    intro hr
    cases r with
    | error k => rw [show linesOf t = .bad k from hr]; rfl
    | ok m =>
      rw [hr.1]
      show [((m.length : Nat) : Int)] = _
      dsimp only
      rw [fold_len m .empty hr.2.2]
      simp [LS.empty]
end Ab
namespace Ab
open Na
/-- the open ones lie among the lines -/
def Ob (s : LS) : Prop := ∀ x ∈ s.os, x.1 < s.ws.length ∧ ∀ m, x.2 = some m → m < s.ws.length
theorem ob_put {s : LS} (h : Ob s) (k : Nat) (x : Part) : Ob (s.put k x) := fun y hy => by
  obtain ⟨h1, h2⟩ := h y hy
  show y.1 < (s.ws ++ [k]).length ∧ ∀ m, y.2 = some m → m < (s.ws ++ [k]).length
  rw [List.length_append, List.length_singleton]
  exact ⟨by omega, fun m e => by have := h2 m e; omega⟩
theorem ob_step {s : LS} {l : Line} (h : Ob s) : Ob (stepL s l) := by
  have opd : ∀ k x, Ob (s.opened k x) := fun k x y hy => by
    show y.1 < (s.ws ++ [k]).length ∧ ∀ m, y.2 = some m → m < (s.ws ++ [k]).length
    rcases List.mem_cons.mp hy with e | hy
    · subst e
      exact ⟨by simp, fun m e => by cases e⟩
    · exact ob_put h k x y hy
  cases l with
  | if_ _ => exact opd _ _
  | while_ _ => exact opd _ _
  | else_ =>
    show Ob s.putElse
    obtain ⟨ws, ps, gs, os⟩ := s
    cases os with
    | nil => exact h
    | cons x r =>
      obtain ⟨b, m⟩ := x
      intro y hy
      show y.1 < (ws ++ [4]).length ∧ ∀ m, y.2 = some m → m < (ws ++ [4]).length
      rcases List.mem_cons.mp hy with e | hy
      · subst e
        have := (h (b, m) (List.mem_cons_self ..)).1
        exact ⟨by simp at this ⊢; omega, fun m e => by cases e; simp⟩
      · exact ob_put h 4 .nil y (List.mem_cons_of_mem _ hy)
  | end_ =>
    show Ob s.putEnd
    obtain ⟨ws, ps, gs, os⟩ := s
    cases os with
    | nil => exact h
    | cons x r =>
      obtain ⟨b, m⟩ := x
      intro y hy
      exact ob_put h 5 .nil y (List.mem_cons_of_mem _ hy)
  | _ => exact ob_put h _ _
/-- what holds between two lines -/
structure Mid (s : LS) (b : List Int) : Prop where
  ob : Ob s
  wf : Wf s
  g : Good b
theorem rdLine_step {s : LS} {b : List Int} {p : Nat} (h : Mid s b) (hb : b.isEmpty = false) : rdLine s b p ≠ .lost ∧
    ∀ s2 b2 p2, rdLine s b p = .ok (s2, b2, p2) → Mid s2 b2 ∧ b2.length < b.length ∧ s2.ws.length = s.ws.length + 1 := by
  have q := line_is s b p h.wf h.g hb
  have hop : ∀ l q c, lineLf (lineAt (openOf s) p (by8 b)) = .ok (l, q, c) → (l = .else_ ∨ l = .end_) → s.os ≠ [] := by
    intro l q c e hl
    unfold lineLf at e
    cases h1 : lineAt (openOf s) p (by8 b) with
    | error k => rw [h1] at e; cases e
    | ok z =>
      obtain ⟨l1, q1, c1⟩ := z
      rw [h1] at e
      dsimp only at e
      cases h2 : expect [10] q1 c1 with
      | error k => rw [h2] at e; cases e
      | ok z =>
        rw [h2] at e
        have e := Except.ok.inj e
        have : l1 = l := congrArg (·.1) e
        subst this
        exact line_open h1 hl
  revert q hop
  generalize lineLf (lineAt (openOf s) p (by8 b)) = r
  intro q hop
  cases r with
  | error k =>
    have q : rdLine s b p = .bad k := q
    rw [q]
    exact ⟨fun z => (by cases z), fun _ _ _ z => (by cases z)⟩
  | ok z =>
    obtain ⟨l, q1, c⟩ := z
    obtain ⟨b1, rfl, g1, l1, h1⟩ := q
    rw [h1]
    refine ⟨fun z => (by cases z), fun s2 b2 p2 z => ?_⟩
    cases z
    have ho := fun hl => hop l q1 _ rfl hl
    exact ⟨⟨ob_step h.ob, (open_step h.wf ho).1, g1⟩, l1, step_len s l ho⟩
theorem mid_start {t : List Int} (g : Good t) : Mid .empty t := ⟨fun x hx => (by cases hx), fun x hx => (by cases hx), g⟩
end Ab
namespace Ab
open PySem PySem.Spec PyProof.Rows L2
open PySem.W (Codec)
/-! ## Rules of my own over the layer -/
/-! ### a module's names -/
def GI (mg : Str → Option Value) (x : Str) (n : Int) : Prop := ∃ t, mg x = some (.int n t)
theorem pe_gi {X : Cx} {x : Str} {n : Int} {pos : Pos} (h : GI X.mg x n) (hg : Gl X x := by rfl) (hd : (x == ("__debug__" : Str)) = false := by decide) : PE X (.Name x pos) (tC (.int n)) := by
  obtain ⟨t, e⟩ := h
  exact pe_glob (v := .int n) hg e ⟨t, rfl⟩ hd
theorem pe_gr {X : Cx} {x : Str} {a : Addr} {pos : Pos} (h : X.mg x = some (.ref a)) (hg : Gl X x := by rfl) (hd : (x == ("__debug__" : Str)) = false := by decide) : PE X (.Name x pos) (tC (.ref a)) :=
  pe_glob (v := .ref a) hg h rfl hd
/-- a module's tuple -/
def GT (K : PySem.W.Frag) (mg : Str → Option Value) (x : Str) (xs : List V) : Prop := ∃ a, mg x = some (.ref a) ∧ ∀ H, SqT K H a xs
def tGT (K : PySem.W.Frag) (xs : List V) : TE := fun _ H Q => ∀ a, (∀ H, SqT K H a xs) → Q (.ref a) H
theorem pe_gt {X : Cx} {x : Str} {xs : List V} {pos : Pos} (h : GT X.K X.mg x xs) (hg : Gl X x := by rfl) (hd : (x == ("__debug__" : Str)) = false := by decide) : PE X (.Name x pos) (tGT X.K xs) := by
  obtain ⟨a, e, hs⟩ := h
  exact ⟨fun pins s σ H Q I q => (pe_gr (a := a) e hg hd).run pins s σ H Q I (q a hs)⟩
/-! ### fields -/
/-- the object at a has v in its field f -/
def Fld (K : PySem.W.Frag) (H : Hp) (a : Addr) (f : Str) (v : V) : Prop := ∃ C dx fs, H a = some (.ins C dx fs) ∧ Cls K C ∧ NoAttr K C f ∧ fs.lookup f = some v
def tGet (K : PySem.W.Frag) (ta : TE) (f : Str) : TE := fun σ H Q => ta σ H fun x H1 => ∃ a v, x = .ref a ∧ Fld K H1 a f v ∧ Q v H1
theorem pe_get {X : Cx} {e : Expr} {f : Str} {ta : TE} {pos : Pos} (he : PE X e ta) (hb : attributeBase e f X.env (eval e X.env) = eval e X.env := by rfl) : PE X (.Attribute e f pos) (tGet X.K ta f) := by
  refine ⟨fun pins s σ H Q I h => ?_⟩
  refine attr_of hb (thn (he.run pins s σ H _ I h) fun u s1 ⟨x, H1, I1, rx, a, v, ex, ⟨C, dx, fs, ea, c, n, l⟩, q⟩ => ?_)
  subst ex
  obtain rfl : u = Value.ref a := rx
  exact getattr_ok I1 ea c n l fun u s' I2 r => ⟨v, H1, I2, r, q⟩
/-- f may be stored in the object at a -/
def Sto (K : PySem.W.Frag) (H : Hp) (a : Addr) (f : Str) (C dx : Addr) (fs : List (Str × V)) : Prop := H a = some (.ins C dx fs) ∧ Cls K C ∧ NoAttr K C f ∧ fs.length < 1000
/-- a target o.f -/
def gFld (K : PySem.W.Frag) (ta : TE) (f : Str) : TG := fun v σ H Q => ta σ H fun x H1 => ∃ a C dx fs, x = .ref a ∧ Sto K H1 a f C dx fs ∧ Q σ (upd H1 a (.ins C dx (putF f v fs)))
theorem ps_put {X : Cx} {o e : Expr} {f : Str} {ta te : TE} {pos pos' : Pos} (ho : PE X o ta) (he : PE X e te) (hs : swapsWith e (some (.Attribute o f pos')) pos.line X.env = pure false := by rfl) :
    PS X (.Assign [.Attribute o f pos'] e pos) (tAsg te (gFld X.K ta f)) := by
  refine ⟨fun pins s σ H D I h => ?_⟩
  refine plainObj_wpAny_Assign_Attribute (thn (he.run pins s σ H _ I h) fun u s1 ⟨y, H1, I1, ry, q⟩ => thn (ho.run pins s1 σ H1 _ I1 q) fun ov s2 ⟨x, H2, I2, rx, a, C, dx, fs, ex, ⟨ea, c, n, l⟩, q2⟩ => ?_) hs
  subst ex
  obtain rfl : ov = Value.ref a := rx
  exact setattr_ok I2 ea c n l ry fun s' J => ⟨σ, _, J, q2⟩
/-- o.f += e, of ints -/
def tAugF (K : PySem.W.Frag) (ta te : TE) (f : Str) (g : Int → Int → Int) : TS := fun D σ H => ta σ H fun x H1 => ∃ a i, x = .ref a ∧ Fld K H1 a f (.int i) ∧ te σ H1 fun y H2 => ∃ j C dx fs, y = .int j ∧ Sto K H2 a f C dx fs ∧ D.nx σ (upd H2 a (.ins C dx (putF f (.int (g i j)) fs)))
theorem ps_augF {X : Cx} {o e : Expr} {f : Str} {ta te : TE} {pos tpos : Pos} (ho : PE X o ta) (he : PE X e te) : PS X (.AugAssign (.Attribute o f tpos) .Add e pos) (tAugF X.K ta te f fun i j => i + j) := by
  refine ⟨fun pins s σ H D I h => ?_⟩
  refine wpAny_AugAssign_AttributeAny (thn (ho.run pins s σ H _ I h) fun ov s1 ⟨x, H1, I1, rx, a, i, ex, ⟨C, dx, fs, ea, c, n, l⟩, q⟩ => ?_)
  subst ex
  obtain rfl : ov = Value.ref a := rx
  refine getattr_ok I1 ea c n l fun u s' I2 r => ?_
  refine thn (he.run pins s' σ H1 _ I2 q) fun w s2 ⟨y, H2, I3, ry, j, C2, dx2, fs2, ey, ⟨ea2, c2, n2, l2⟩, q2⟩ => ?_
  subst ey
  refine thn (in_add pins s2 σ H2 (.int i) (.int j) u w (fun z H3 => z = .int (i + j) ∧ H3 = H2) I3 r ry ⟨i, j, rfl, rfl, rfl, rfl⟩) fun z s3 ⟨zv, H3, I4, rz, ez, eH⟩ => ?_
  subst ez eH
  exact setattr_ok I4 ea2 c2 n2 l2 rz fun s4 J => ⟨σ, _, J, q2⟩
/-! ### xs != [] -/
def rNeE (K : PySem.W.Frag) : R2 := fun x y H Q => ∃ p q xs, x = .ref p ∧ y = .ref q ∧ SqL K H p xs ∧ SqL K H q [] ∧ Q (.bl (!xs.isEmpty)) H
theorem op_neE {X : Cx} (hu : X.A.units < cLine) : OpR X (compareOp .NotEq) (rNeE X.K) := by
  intro pins s σ H x y v u Q I rx ry h
  obtain ⟨p, q, xs, rfl, rfl, hp, hq, k⟩ := h
  obtain rfl : v = Value.ref p := rx
  obtain rfl : u = Value.ref q := ry
  obtain ⟨its, rv, pl, hz⟩ := I.list hp
  obtain ⟨its2, rv2, pl2, hz2⟩ := I.list hq
  cases rv2
  cases xs with
  | nil =>
    cases rv
    exact SeqAt.RcNeAt.lists (e := fun _ => true) pl.isList pl2.isList rfl hu (fun j h1 h2 => absurd h1 (by simp)) X.prog X.w X.xe _ ⟨.bl false, H, I, rfl, k⟩
  | cons a xs =>
    cases rv with
    | cons r0 rr =>
      exact SeqAt.RcNeAt.lists_lengths pl.isList pl2.isList (by simp) hu X.prog X.w X.xe _ ⟨.bl true, H, I, rfl, k⟩
/-! ### a module's own dict with whole-number keys -/
def KInt (K : PySem.W.Frag) (a : Addr) (l : List (Int × Int)) : Prop := ∃ es n, K.lookup a = some ⟨.type "dict", none, .dict es n, #[]⟩ ∧ Paired (fun (p : Int × Int) (e : DictEntry) => e.hash = hashInt p.1 ∧ (∃ t, e.key = .int p.1 t) ∧ ∃ t, e.val = .int p.2 t) l es.toList
theorem find_ints : ∀ {l : List (Int × Int)} {es : List DictEntry}, Paired (fun (p : Int × Int) (e : DictEntry) => e.hash = hashInt p.1 ∧ (∃ t, e.key = .int p.1 t) ∧ ∃ t, e.val = .int p.2 t) l es → ∀ {k v : Int}, l.lookup k = some v →
    ∃ t, (es.find? fun e => Value.isInt k e.key).map (·.val) = some (.int v t) := by
  intro l es r
  induction r with
  | nil => intro k v h; cases h
  | @cons p e ps es h t ih =>
    intro k v hl
    obtain ⟨h1, ⟨t1, h2⟩, t2, h3⟩ := h
    obtain ⟨a, b⟩ := p
    rw [List.find?_cons, h2]
    rw [List.lookup_cons] at hl
    by_cases e : k = a
    · subst e
      have q : Value.isInt k (.int k t1) = true := by simp [Value.isInt]
      rw [q]
      simp only [beq_self_eq_true] at hl
      cases hl
      exact ⟨t2, by rw [Option.map_some, h3]⟩
    · have q : Value.isInt k (.int a t1) = false := by
        simp only [Value.isInt, beq_eq_false_iff_ne]
        exact fun z => e z.symm
      rw [q]
      have q2 : (k == a) = false := beq_eq_false_iff_ne.mpr e
      rw [q2] at hl
      exact ih hl
def rIxK (K : PySem.W.Frag) : R2 := fun x y H Q => ∃ p l k v, x = .ref p ∧ y = .int k ∧ KInt K p l ∧ l.lookup k = some v ∧ Q (.int v) H
theorem ix_kint {X : Cx} : IxR X (rIxK X.K) := by
  intro value slice pins s σ H x y v u Q I rx ry h hs
  obtain ⟨p, l, k, r, rfl, rfl, ⟨es, n, hl, hp⟩, hv, q⟩ := h
  obtain rfl : v = Value.ref p := rx
  obtain ⟨t, rfl⟩ := ry
  have hm : s.heap.MapOf (intKind X.prog X.w) p (fun k => findBy (intKind X.prog X.w).is es k) :=
    ⟨_, es, n, I.kIn _ _ hl, ⟨rfl, rfl, rfl⟩, rfl, fun e he => by
      have he' : e ∈ es.toList := Array.mem_toList_iff.mpr he
      have key : ∀ {l : List (Int × Int)} {es : List DictEntry}, Paired (fun (p : Int × Int) (e : DictEntry) => e.hash = hashInt p.1 ∧ (∃ t, e.key = .int p.1 t) ∧ ∃ t, e.val = .int p.2 t) l es → ∀ e ∈ es, ∃ k t, e.key = .int k t ∧ e.hash = hashInt k := by
        intro l es r
        induction r with
        | nil => intro e he; cases he
        | @cons p e0 ps es h t ih =>
          intro e he
          obtain ⟨h1, ⟨t1, h2⟩, _⟩ := h
          rcases List.mem_cons.mp he with z | z
          · subst z; exact ⟨_, t1, h2, h1⟩
          · exact ih e z
      obtain ⟨k, t, e1, e2⟩ := key hp e he'
      exact ⟨k, by rw [e1]; simp [intKind, Value.isInt], e2⟩, fun _ => rfl⟩
  obtain ⟨t2, hf⟩ := find_ints hp hv
  have hf2 : findBy (intKind X.prog X.w).is es k = some (.int r t2) := by
    obtain ⟨l⟩ := es
    unfold findBy
    rw [List.find?_toArray]
    exact hf
  exact tail_any hm.typeIs slot_dict_getitem.lookup (wpAny_getItem_of (by simp [intKind, Value.isInt]) hm hf2 ⟨.int r, H, I.tok _, ⟨_, rfl⟩, q⟩) hs
/-- a module's dict with whole-number keys -/
def GK (K : PySem.W.Frag) (mg : Str → Option Value) (x : Str) (l : List (Int × Int)) : Prop := ∃ a, mg x = some (.ref a) ∧ KInt K a l
def tGK (K : PySem.W.Frag) (l : List (Int × Int)) : TE := fun _ H Q => ∀ a, KInt K a l → Q (.ref a) H
theorem pe_gk {X : Cx} {x : Str} {l : List (Int × Int)} {pos : Pos} (h : GK X.K X.mg x l) (hg : Gl X x := by rfl) (hd : (x == ("__debug__" : Str)) = false := by decide) : PE X (.Name x pos) (tGK X.K l) := by
  obtain ⟨a, e, hs⟩ := h
  exact ⟨fun pins s σ H Q I q => (pe_gr (a := a) e hg hd).run pins s σ H Q I (q a hs)⟩
/-! ### what the text has -/
/-- a def of the module; a method; an __init__; an own exception's -/
def DefAt (K : PySem.W.Frag) (mg : Str → Option Value) (x : Str) (st : Stmt) (ps : List Str) : Prop := ∃ f fd, Fun K x x st f fd ∧ mg x = some (.ref f) ∧ Binds K fd ps []
def MetAt (K : PySem.W.Frag) (C : Addr) (m qual : Str) (st : Stmt) (ps : List Str) : Prop := ∃ f fd, Fun K m qual st f fd ∧ Meth K C m f ∧ Binds K fd ps []
def IniAt (K : PySem.W.Frag) (C : Addr) (qual : Str) (st : Stmt) (ps : List Str) : Prop := ∃ f fd, Fun K "__init__" qual st f fd ∧ Mk K C f ∧ Binds K fd ps []
def XniAt (K : PySem.W.Frag) (C : Addr) (qual : Str) (st : Stmt) (ps : List Str) : Prop := ∃ f fd, Fun K "__init__" qual st f fd ∧ (PySem.W.findIn K (.ref C) "__init__" = some (some (.ref f)) ∧ PySem.W.typeIn K (.ref f) = some (.type "function")) ∧ Binds K fd ps []
/-! ### defs, methods, constructors as one fact each -/
section
variable (P : Program) (w : World) (K : PySem.W.Frag) (mg : Str → Option Value) (base : Heap)
/-- the module's def x keeps sp -/
structure Df (CX : CXT) (k : Nat) (x : Str) (ps : List Str) (sp : Sp) : Prop where
  ex : ∃ (f : Addr) (fd : FuncData), FnOk P w K mg base CX k f fd ps sp ∧ mg x = some (.ref f) ∧ PySem.W.keepIn K (.ref f) = true ∧ Binds K fd ps []
/-- the method m of the class at C keeps sp -/
structure Mf (CX : CXT) (k : Nat) (C : Addr) (m : Str) (ps : List Str) (sp : Sp) : Prop where
  ex : ∃ (f : Addr) (fd : FuncData), FnOk P w K mg base CX k f fd ps sp ∧ Meth K C m f ∧ Binds K fd ps []
  cl : Cls K C
/-- the class x, at C, is made by an __init__ that keeps sp -/
structure Kf (CX : CXT) (k : Nat) (x : Str) (C : Addr) (ps : List Str) (sp : Sp) : Prop where
  ex : ∃ (f : Addr) (fd : FuncData), FnOk P w K mg base CX k f fd ps sp ∧ Mk K C f ∧ Binds K fd ps []
  mg : mg x = some (.ref C)
/-- the own exception x, at C -/
structure Xf (k : Nat) (x : Str) (C : Addr) (ps : List Str) (sp : Sp) : Prop where
  ex : ∃ (f : Addr) (fd : FuncData), FnOk P w K mg base CX0 k f fd ps sp ∧ PySem.W.findIn K (.ref C) "__init__" = some (some (.ref f)) ∧ PySem.W.typeIn K (.ref f) = some (.type "function") ∧ Binds K fd ps []
  oex : OexC K C
  mg : mg x = some (.ref C)
end
section
variable {X : Cx} {CX : CXT} {k : Nat} {x m : Str} {C : Addr} {ps : List Str} {sp : Sp} {E : XK} {W : WX} {p pos apos : Pos} {e o : Expr} {es : List Expr} {ta : TE} {t : TA}
theorem pe_df (D : Df X.prog X.w X.K X.mg X.base CX k x ps sp) (hr : Room k X.A) (hx : Passes CX X E) (ha : PA X (e :: es) t) (hg : Gl X x := by rfl) (hdb : (x == ("__debug__" : Str)) = false := by decide)
    (he : starEach (e :: es) X.env = (false, eval e X.env) :: starEach es X.env := by rfl) (hpl : (backTo pos (starEach es X.env)).any (·.1) = false := by rfl) : PE X (.Call (.Name x p) (e :: es) [] pos) (tCall sp [] E t) := by
  obtain ⟨f, fd, F, hm, hk, hb⟩ := D.ex
  exact pe_call F hr hg hm hk hb .nil hx ha hdb he hpl
theorem pe_dfS {ES : L2.St → XK} (D : Df X.prog X.w X.K X.mg X.base CX k x ps sp) (hr : Room k X.A) (hx : ∀ σ, PassesAt CX X σ (ES σ)) (ha : PA X (e :: es) t) (hg : Gl X x := by rfl) (hdb : (x == ("__debug__" : Str)) = false := by decide)
    (he : starEach (e :: es) X.env = (false, eval e X.env) :: starEach es X.env := by rfl) (hpl : (backTo pos (starEach es X.env)).any (·.1) = false := by rfl) : PE X (.Call (.Name x p) (e :: es) [] pos) (tCallS sp ES t) := by
  obtain ⟨f, fd, F, hm, hk, hb⟩ := D.ex
  exact pe_callS F hr hg hm hk hb hx ha hdb he hpl
/-- an instance of the class at C, without a field m -/
def Ins (H : Hp) (a C : Addr) (m : Str) : Prop := ∃ dx fs, H a = some (.ins C dx fs) ∧ fs.lookup m = none
def tMf (C : Addr) (m : Str) (sp : Sp) (E : XK) (ta : TE) (t : TA) : TE := fun σ H Q => ta σ H fun x H1 => ∃ a, x = .ref a ∧ Ins H1 a C m ∧ t σ H1 fun vs H2 => sp (x :: vs) H2 Q E
theorem pe_mf {pl : Sem Bool} (M : Mf X.prog X.w X.K X.mg X.base CX k C m ps sp) (hr : Room k X.A) (hx : Passes CX X E) (he : PE X o ta) (ha : PA X (e :: es) t)
    (hst : starEach (e :: es) X.env = (false, eval e X.env) :: starEach es X.env := by rfl) (hpl : (backTo pos (starEach es X.env)).any (·.1) = false := by rfl)
    (ht : eval (.Call (.Attribute o m apos) (e :: es) [] pos) X.env = (do
      let ov ← eval o X.env
      standAt apos.atName
      let (f, first) ← holding [ov] (getMethod ov m pl)
      callWith pos f first (backTo pos (starEach (e :: es) X.env)) (backToKw pos (keywordEach [] X.env))) := by rfl) : PE X (.Call (.Attribute o m apos) (e :: es) [] pos) (tMf C m sp E ta t) := by
  obtain ⟨f, fd, F, hm, hb⟩ := M.ex
  refine ⟨fun pins s σ H Q I h => ?_⟩
  refine PySem.W.methodCall_KW (pl := pl) (thn (he.run pins s σ H _ I h) fun u s1 ⟨x, H1, I1, rx, a, ex, ⟨dx, fs, ea, l⟩, q⟩ => ?_) ht
  subst ex
  obtain rfl : u = Value.ref a := rx
  refine getmeth_ok I1 ea M.cl hm l ?_
  refine PySem.W.callWith_K (first := [.ref a]) (h₀ := X.base) I.ok.mod.kin hm.kp (thn (ha.run pos pins s1 σ H1 _ I1 q) fun us s2 ⟨vs, H2, I2, r, q2⟩ => ⟨I2.kIn, ?_⟩) hst hpl
  exact run_fn (us := .ref a :: us) (vs := .ref a :: vs) F hr hb .nil hx I2 (.cons rfl r) (by rw [List.append_nil]; exact q2)
theorem pe_mf0 {pl : Sem Bool} (M : Mf X.prog X.w X.K X.mg X.base CX k C m ps sp) (hr : Room k X.A) (hx : Passes CX X E) (he : PE X o ta)
    (ht : eval (.Call (.Attribute o m apos) [] [] pos) X.env = (do
      let ov ← eval o X.env
      standAt apos.atName
      let (f, first) ← holding [ov] (getMethod ov m pl)
      callWith pos f first (backTo pos (starEach [] X.env)) (backToKw pos (keywordEach [] X.env))) := by rfl) : PE X (.Call (.Attribute o m apos) [] [] pos) (tMf C m sp E ta tNil) := by
  obtain ⟨f, fd, F, hm, hb⟩ := M.ex
  refine ⟨fun pins s σ H Q I h => ?_⟩
  refine PySem.W.methodCall_KW (pl := pl) (thn (he.run pins s σ H _ I h) fun u s1 ⟨x, H1, I1, rx, a, ex, ⟨dx, fs, ea, l⟩, q⟩ => ?_) ht
  subst ex
  obtain rfl : u = Value.ref a := rx
  refine getmeth_ok I1 ea M.cl hm l ?_
  exact PySem.W.callWith_K0 (first := [.ref a]) I1.kIn hm.kp (run_fn (us := [.ref a]) (vs := [.ref a]) F hr hb .nil hx I1 (.cons rfl .nil) (by rw [List.append_nil]; exact q))
def tKf (C : Addr) (sp : Sp) (E : XK) (t : TA) : TE := fun σ H Q => t σ H fun vs H1 => ∀ x dx, H1 x = none → H1 dx = none → dx ≠ x →
  sp (.ref x :: (vs ++ [])) (upd (upd H1 dx (.own x)) x (.ins C dx [])) (fun v H2 => v = .non ∧ Q (.ref x) H2) E
theorem pe_kf (M : Kf X.prog X.w X.K X.mg X.base CX k x C ps sp) (hr : Room (k + 1) X.A) (hx : Passes CX X E) (ha : PA X (e :: es) t) (hg : Gl X x := by rfl) (hdb : (x == ("__debug__" : Str)) = false := by decide)
    (he : starEach (e :: es) X.env = (false, eval e X.env) :: starEach es X.env := by rfl) (hpl : (backTo pos (starEach es X.env)).any (·.1) = false := by rfl) : PE X (.Call (.Name x p) (e :: es) [] pos) (tKf C sp E t) := by
  obtain ⟨f, fd, F, hm, hb⟩ := M.ex
  exact pe_make hm F hr hg M.mg hb .nil hx ha hdb he hpl
theorem pe_kf0 (M : Kf X.prog X.w X.K X.mg X.base CX k x C ps sp) (hr : Room (k + 1) X.A) (hx : Passes CX X E) (hg : Gl X x := by rfl) (hdb : (x == ("__debug__" : Str)) = false := by decide) : PE X (.Call (.Name x p) [] [] pos) (tKf C sp E tNil) := by
  obtain ⟨f, fd, F, hm, hb⟩ := M.ex
  exact pe_make0 hm F hr hg M.mg hb .nil hx hdb
theorem pmk_xf (M : Xf X.prog X.w X.K X.mg X.base k x C ps sp) (hr : Room (k + 1) X.A) (ha : PA X (e :: es) t) (hg : Gl X x := by rfl) (hdb : (x == ("__debug__" : Str)) = false := by decide)
    (he : starEach (e :: es) X.env = (false, eval e X.env) :: starEach es X.env := by rfl) (hpl : (backTo pos (starEach es X.env)).any (·.1) = false := by rfl) : PMk X (.Call (.Name x p) (e :: es) [] pos) (tMkO C sp [] t) := by
  obtain ⟨f, fd, F, iC, tI, hb⟩ := M.ex
  exact pmk_oex M.oex iC tI F hr hb .nil pass0 hg M.mg ha hdb he hpl
theorem df_mk {P : Program} {w : World} {K : PySem.W.Frag} {mg : Str → Option Value} {base : Heap} {st : Stmt} (S : DefAt K mg x st ps) (h : ∀ f fd, Fun K x x st f fd → FnOk P w K mg base CX k f fd ps sp) : Df P w K mg base CX k x ps sp := by
  obtain ⟨f, fd, F, hm, hb⟩ := S
  exact ⟨⟨f, fd, h f fd F, hm, F.kp, hb⟩⟩
theorem mf_mk {P : Program} {w : World} {K : PySem.W.Frag} {mg : Str → Option Value} {base : Heap} {st : Stmt} {qual : Str} (c : Cls K C) (S : MetAt K C m qual st ps) (h : ∀ f fd, Fun K m qual st f fd → FnOk P w K mg base CX k f fd ps sp) : Mf P w K mg base CX k C m ps sp := by
  obtain ⟨f, fd, F, hm, hb⟩ := S
  exact ⟨⟨f, fd, h f fd F, hm, hb⟩, c⟩
theorem kf_mk {P : Program} {w : World} {K : PySem.W.Frag} {mg : Str → Option Value} {base : Heap} {st : Stmt} {qual : Str} (c : mg x = some (.ref C)) (S : IniAt K C qual st ps) (h : ∀ f fd, Fun K "__init__" qual st f fd → FnOk P w K mg base CX k f fd ps sp) : Kf P w K mg base CX k x C ps sp := by
  obtain ⟨f, fd, F, hm, hb⟩ := S
  exact ⟨⟨f, fd, h f fd F, hm, hb⟩, c⟩
theorem xf_mk {P : Program} {w : World} {K : PySem.W.Frag} {mg : Str → Option Value} {base : Heap} {st : Stmt} {qual : Str} (c : mg x = some (.ref C)) (ox : OexC K C) (S : XniAt K C qual st ps) (h : ∀ f fd, Fun K "__init__" qual st f fd → FnOk P w K mg base CX0 k f fd ps sp) : Xf P w K mg base k x C ps sp := by
  obtain ⟨f, fd, F, hm, hb⟩ := S
  exact ⟨⟨f, fd, h f fd F, hm.1, hm.2, hb⟩, ox, c⟩
theorem passE (tk : Takes X (fun cls d _ H => E cls d H)) : Passes (L2.CX X.prog X.w) X E := passes_call tk (fun _ _ _ _ h => h)
end
/-! ### heaps -/
def Imm : HO → Prop
  | .frz _ _ => True
  | .tup _ => True
  | _ => False
/-- what may have changed stands in S; frozen things and tuples never do -/
def Chg (S : List Addr) (H H' : Hp) : Prop := (∀ b o, b ∉ S → H b = some o → H' b = some o) ∧ ∀ b o, Imm o → H b = some o → H' b = some o
theorem Chg.refl {S : List Addr} (H : Hp) : Chg S H H := ⟨fun _ _ _ h => h, fun _ _ _ h => h⟩
theorem Chg.trans {S : List Addr} {H H1 H2 : Hp} (a : Chg S H H1) (b : Chg S H1 H2) : Chg S H H2 := ⟨fun x o n h => b.1 x o n (a.1 x o n h), fun x o n h => b.2 x o n (a.2 x o n h)⟩
theorem Chg.mono {S T : List Addr} {H H' : Hp} (a : Chg S H H') (h : ∀ x ∈ S, x ∈ T) : Chg T H H' := ⟨fun x o n e => a.1 x o (fun z => n (h x z)) e, a.2⟩
theorem chgS {S : List Addr} {H H' : Hp} (a : Same H H') : Chg S H H' := ⟨fun x o _ e => a x o e, fun x o _ e => a x o e⟩
theorem Chg.same {H H' : Hp} (a : Chg [] H H') : Same H H' := fun x o e => a.1 x o (by simp) e
theorem Chg.new {S : List Addr} {H H' : Hp} {p : Addr} {o : HO} (a : Chg S H H') (h : H' p = none) : Chg S H (upd H' p o) := by
  refine ⟨fun x u n e => ?_, fun x u n e => ?_⟩
  · have q := a.1 x u n e
    rw [upd_ne (ne_of_none q h)]; exact q
  · have q := a.2 x u n e
    rw [upd_ne (ne_of_none q h)]; exact q
theorem Chg.set {S : List Addr} {H H' : Hp} {p : Addr} {o u : HO} (a : Chg S H H') (hp : p ∈ S) (h : H' p = some o) (ho : ¬ Imm o) : Chg S H (upd H' p u) := by
  refine ⟨fun x v n e => ?_, fun x v n e => ?_⟩
  · have q := a.1 x v n e
    rw [upd_ne (fun z => n (by rw [z]; exact hp))]; exact q
  · have q := a.2 x v n e
    rw [upd_ne (fun z => ho (by rw [z, h] at q; cases q; exact n))]; exact q
/-- new since H: changed without a trace -/
theorem Chg.setN {S : List Addr} {H H' : Hp} {p : Addr} {u : HO} (a : Chg S H H') (hp : H p = none) : Chg S H (upd H' p u) := by
  refine ⟨fun x v n e => ?_, fun x v n e => ?_⟩
  · rw [upd_ne (ne_of_none e hp)]; exact a.1 x v n e
  · rw [upd_ne (ne_of_none e hp)]; exact a.2 x v n e
theorem Chg.none {S : List Addr} {H H' : Hp} {p : Addr} (a : Chg S H H') (h : H' p = Option.none) (n : p ∉ S) : H p = Option.none := by
  cases q : H p with
  | none => rfl
  | some o => rw [a.1 p o n q] at h; cases h
theorem Chg.tup {S : List Addr} {H H' : Hp} {K : PySem.W.Frag} {p : Addr} {xs : List V} (a : Chg S H H') (h : SqT K H p xs) : SqT K H' p xs := by
  rcases h with (h | ⟨o, h⟩) | h
  · exact .inl (.inl (a.2 _ _ trivial h))
  · exact .inl (.inr ⟨o, a.2 _ _ trivial h⟩)
  · exact .inr h
abbrev vis (l : List Int) : List V := l.map V.int
/-- a list that never changes -/
def Fz (K : PySem.W.Frag) (H : Hp) (a : Addr) (xs : List V) : Prop := (∃ o, H a = some (.frz o (.lst xs))) ∨ ∀ H, SqL K H a xs
theorem Fz.sq {K : PySem.W.Frag} {H : Hp} {a : Addr} {xs : List V} (h : Fz K H a xs) : SqL K H a xs := by
  rcases h with ⟨o, h⟩ | h
  · exact .inl (.inr ⟨o, h⟩)
  · exact h H
theorem Fz.chg {K : PySem.W.Frag} {S : List Addr} {H H' : Hp} {a : Addr} {xs : List V} (h : Fz K H a xs) (c : Chg S H H') : Fz K H' a xs := by
  rcases h with ⟨o, h⟩ | h
  · exact .inl ⟨o, c.2 _ _ trivial h⟩
  · exact .inr h
theorem Fz.of {K : PySem.W.Frag} {H : Hp} {a : Addr} {xs : List V} (h : SqL K H a xs) (o : OnlyF H) : Fz K H a xs := by
  rcases h with (h | h) | h
  · rcases o a with z | ⟨x, u, z⟩
    · rw [z] at h; cases h
    · rw [z] at h; cases h
  · exact .inl h
  · exact .inr fun H => .inr h
theorem flat_ints (l : List Int) : (vis l).all flatV = true := by
  rw [List.all_eq_true]
  intro v hv
  obtain ⟨i, _, rfl⟩ := List.mem_map.mp hv
  rfl
theorem inV_ints (c : Int) : ∀ l : List Int, inV (.int c) (vis l) = l.contains c
  | [] => rfl
  | x :: l => by
    have ih := inV_ints c l
    unfold inV at ih ⊢
    show (eqV (.int x) (.int c) || (vis l).any fun y => eqV y (.int c)) = (x :: l).contains c
    rw [ih, List.contains_cons]
    congr 1
    show (x == c) = (c == x)
    exact BEq.comm
theorem sz {n : Nat} (h : n ≤ 100000) : n ≤ sizeLine := Nat.le_trans h (by decide)
theorem szl {n : Nat} (h : n < 100000) : n < sizeLine := Nat.lt_of_lt_of_le h (by decide)
end Ab
/-! ## The walk: the parser's defs -/
namespace Ab
open PySem PySem.Spec PyProof.Rows L2
def top (i : Nat) : Stmt := PySem.Challenge.pw_abacusways_s01_method.main.body.getD i (.Pass ⟨0, 0, 0, 0⟩)
abbrev s_Fault___init__ : Stmt := inClass (top 1) 0
theorem sc_Fault___init__ : FnScope ["self", "rule", "place"] ["self", "rule", "place"] (defScope s_Fault___init__) := ⟨rfl, rfl, rfl, by decide +kernel, rfl, by decide +kernel, by decide +kernel⟩
abbrev s_Reader___init__ : Stmt := inClass (top 27) 0
theorem sc_Reader___init__ : FnScope ["self", "text"] ["self", "text"] (defScope s_Reader___init__) := ⟨rfl, rfl, rfl, by decide +kernel, rfl, by decide +kernel, by decide +kernel⟩
abbrev s_Reader_sees : Stmt := inClass (top 27) 1
theorem sc_Reader_sees : FnScope ["self", "some"] ["self", "some"] (defScope s_Reader_sees) := ⟨rfl, rfl, rfl, by decide +kernel, rfl, by decide +kernel, by decide +kernel⟩
abbrev s_Reader_next_of : Stmt := inClass (top 27) 2
theorem sc_Reader_next_of : FnScope ["self", "some"] ["self", "some"] (defScope s_Reader_next_of) := ⟨rfl, rfl, rfl, by decide +kernel, rfl, by decide +kernel, by decide +kernel⟩
abbrev s_Reader_word : Stmt := inClass (top 27) 3
theorem sc_Reader_word : FnScope ["self", "word", "byte"] ["self", "word"] (defScope s_Reader_word) := ⟨rfl, rfl, rfl, by decide +kernel, rfl, by decide +kernel, by decide +kernel⟩
abbrev s_bytes_of : Stmt := top 28
theorem sc_bytes_of : FnScope ["word", "sign"] ["word"] (defScope s_bytes_of) := ⟨rfl, rfl, rfl, by decide +kernel, rfl, by decide +kernel, by decide +kernel⟩
abbrev s_number_from : Stmt := top 29
theorem sc_number_from : FnScope ["reader", "byte", "found", "many"] ["reader", "byte"] (defScope s_number_from) := ⟨rfl, rfl, rfl, by decide +kernel, rfl, by decide +kernel, by decide +kernel⟩
abbrev s_operand : Stmt := top 30
theorem sc_operand : FnScope ["reader", "byte"] ["reader", "byte"] (defScope s_operand) := ⟨rfl, rfl, rfl, by decide +kernel, rfl, by decide +kernel, by decide +kernel⟩
abbrev s_open_brackets : Stmt := top 31
theorem sc_open_brackets : FnScope ["waiting", "byte"] ["waiting"] (defScope s_open_brackets) := ⟨rfl, rfl, rfl, by decide +kernel, rfl, by decide +kernel, by decide +kernel⟩
abbrev s_read_operand : Stmt := top 32
theorem sc_read_operand : FnScope ["reader", "found", "waiting", "byte", "room"] ["reader", "found", "waiting"] (defScope s_read_operand) := ⟨rfl, rfl, rfl, by decide +kernel, rfl, by decide +kernel, by decide +kernel⟩
abbrev s_close : Stmt := top 33
theorem sc_close : FnScope ["found", "waiting", "byte"] ["found", "waiting"] (defScope s_close) := ⟨rfl, rfl, rfl, by decide +kernel, rfl, by decide +kernel, by decide +kernel⟩
abbrev s_binds : Stmt := top 34
theorem sc_binds : FnScope ["byte"] ["byte"] (defScope s_binds) := ⟨rfl, rfl, rfl, by decide +kernel, rfl, by decide +kernel, by decide +kernel⟩
abbrev s_read_operator : Stmt := top 35
theorem sc_read_operator : FnScope ["reader", "found", "waiting", "byte"] ["reader", "found", "waiting"] (defScope s_read_operator) := ⟨rfl, rfl, rfl, by decide +kernel, rfl, by decide +kernel, by decide +kernel⟩
abbrev s_read_closers : Stmt := top 36
theorem sc_read_closers : FnScope ["reader", "found", "waiting", "inner"] ["reader", "found", "waiting"] (defScope s_read_closers) := ⟨rfl, rfl, rfl, by decide +kernel, rfl, by decide +kernel, by decide +kernel⟩
abbrev s_expression : Stmt := top 37
theorem sc_expression : FnScope ["reader", "ends", "found", "waiting", "is_open"] ["reader", "ends"] (defScope s_expression) := ⟨rfl, rfl, rfl, by decide +kernel, rfl, by decide +kernel, by decide +kernel⟩
abbrev s_compared : Stmt := top 38
theorem sc_compared : FnScope ["reader", "byte", "is_equal"] ["reader"] (defScope s_compared) := ⟨rfl, rfl, rfl, by decide +kernel, rfl, by decide +kernel, by decide +kernel⟩
abbrev s_condition : Stmt := top 39
theorem sc_condition : FnScope ["reader", "found", "is_open", "left", "by"] ["reader"] (defScope s_condition) := ⟨rfl, rfl, rfl, by decide +kernel, rfl, by decide +kernel, by decide +kernel⟩
abbrev s_Lines___init__ : Stmt := inClass (top 51) 0
theorem sc_Lines___init__ : FnScope ["self"] ["self"] (defScope s_Lines___init__) := ⟨rfl, rfl, rfl, by decide +kernel, rfl, by decide +kernel, by decide +kernel⟩
abbrev s_Lines_put : Stmt := inClass (top 51) 1
theorem sc_Lines_put : FnScope ["self", "word", "parts"] ["self", "word", "parts"] (defScope s_Lines_put) := ⟨rfl, rfl, rfl, by decide +kernel, rfl, by decide +kernel, by decide +kernel⟩
abbrev s_Lines_may_have_else : Stmt := inClass (top 51) 2
theorem sc_Lines_may_have_else : FnScope ["self"] ["self"] (defScope s_Lines_may_have_else) := ⟨rfl, rfl, rfl, by decide +kernel, rfl, by decide +kernel, by decide +kernel⟩
abbrev s_Lines_opened : Stmt := inClass (top 51) 3
theorem sc_Lines_opened : FnScope ["self", "word", "parts"] ["self", "word", "parts"] (defScope s_Lines_opened) := ⟨rfl, rfl, rfl, by decide +kernel, rfl, by decide +kernel, by decide +kernel⟩
abbrev s_Lines_put_else : Stmt := inClass (top 51) 4
theorem sc_Lines_put_else : FnScope ["self"] ["self"] (defScope s_Lines_put_else) := ⟨rfl, rfl, rfl, by decide +kernel, rfl, by decide +kernel, by decide +kernel⟩
abbrev s_Lines_put_end : Stmt := inClass (top 51) 5
theorem sc_Lines_put_end : FnScope ["self", "begin", "middle"] ["self"] (defScope s_Lines_put_end) := ⟨rfl, rfl, rfl, by decide +kernel, rfl, by decide +kernel, by decide +kernel⟩
abbrev s_first_bytes : Stmt := top 52
theorem sc_first_bytes : FnScope ["lines", "some"] ["lines"] (defScope s_first_bytes) := ⟨rfl, rfl, rfl, by decide +kernel, rfl, by decide +kernel, by decide +kernel⟩
abbrev s_read_change : Stmt := top 53
theorem sc_read_change : FnScope ["reader", "lines", "word", "rest", "many"] ["reader", "lines", "word", "rest"] (defScope s_read_change) := ⟨rfl, rfl, rfl, by decide +kernel, rfl, by decide +kernel, by decide +kernel⟩
abbrev s_read_set_or_stop : Stmt := top 54
theorem sc_read_set_or_stop : FnScope ["reader", "lines", "head"] ["reader", "lines"] (defScope s_read_set_or_stop) := ⟨rfl, rfl, rfl, by decide +kernel, rfl, by decide +kernel, by decide +kernel⟩
abbrev s_read_else_or_end : Stmt := top 55
theorem sc_read_else_or_end : FnScope ["reader", "lines"] ["reader", "lines"] (defScope s_read_else_or_end) := ⟨rfl, rfl, rfl, by decide +kernel, rfl, by decide +kernel, by decide +kernel⟩
abbrev s_read_line : Stmt := top 56
theorem sc_read_line : FnScope ["reader", "lines", "byte"] ["reader", "lines"] (defScope s_read_line) := ⟨rfl, rfl, rfl, by decide +kernel, rfl, by decide +kernel, by decide +kernel⟩
abbrev s_lines_of : Stmt := top 57
theorem sc_lines_of : FnScope ["text", "reader", "lines"] ["text"] (defScope s_lines_of) := ⟨rfl, rfl, rfl, by decide +kernel, rfl, by decide +kernel, by decide +kernel⟩
abbrev s_method : Stmt := top 62
theorem sc_method : FnScope ["text", "found", "e"] ["text"] (defScope s_method) := ⟨rfl, rfl, rfl, by decide +kernel, rfl, by decide +kernel, by decide +kernel⟩
structure Txt (K : PySem.W.Frag) (mg : Str → Option Value) (cFault cReader cLines : Addr) : Prop where
  n_ValueError : mg "ValueError" = none
  n_len : mg "len" = none
  n_ord : mg "ord" = none
  c_RULE : GI mg "RULE" (11)
  c_MOST_BRACKETS : GI mg "MOST_BRACKETS" (16)
  c_LINE_FEED : GI mg "LINE_FEED" (10)
  c_BLANK : GI mg "BLANK" (32)
  c_DIGITS : GT K mg "DIGITS" [.int 48, .int 49, .int 50, .int 51, .int 52, .int 53, .int 54, .int 55, .int 56, .int 57]
  c_NOUGHT : GI mg "NOUGHT" (48)
  c_MOST_DIGITS : GI mg "MOST_DIGITS" (4)
  c_HEADS : GT K mg "HEADS" [.int 97, .int 98, .int 99, .int 100, .int 101, .int 102, .int 103, .int 104]
  c_MARKS : GT K mg "MARKS" [.int 65, .int 66, .int 67, .int 68, .int 69, .int 70, .int 71, .int 72]
  c_ROUND : GI mg "ROUND" (40)
  c_SQUARE : GI mg "SQUARE" (91)
  c_OPENERS : GT K mg "OPENERS" [.int 40, .int 91]
  c_CLOSERS : GK K mg "CLOSERS" [(40, 41), (91, 93)]
  c_TIMES : GI mg "TIMES" (42)
  c_PLUS : GI mg "PLUS" (43)
  c_MINUS : GI mg "MINUS" (45)
  c_OPERATORS : GT K mg "OPERATORS" [.int 42, .int 43, .int 45]
  c_LESS : GI mg "LESS" (60)
  c_EQUAL : GI mg "EQUAL" (61)
  c_GREATER : GI mg "GREATER" (62)
  c_NUMBER : GI mg "NUMBER" (0)
  c_HEAD : GI mg "HEAD" (1)
  c_MARK : GI mg "MARK" (2)
  c_DIGIT : GI mg "DIGIT" (3)
  c_ADD : GI mg "ADD" (0)
  c_TAKE : GI mg "TAKE" (1)
  c_SET : GI mg "SET" (2)
  c_IF : GI mg "IF" (3)
  c_ELSE : GI mg "ELSE" (4)
  c_END : GI mg "END" (5)
  c_WHILE : GI mg "WHILE" (6)
  c_STOP : GI mg "STOP" (7)
  c_FAIL : GI mg "FAIL" (8)
  c_MOST_OPEN : GI mg "MOST_OPEN" (16)
  c_MOST_BYTES : GI mg "MOST_BYTES" (4096)
  c_FAULTY : GI mg "FAULTY" (-5)
  c_TEXT_TOO_LONG : GI mg "TEXT_TOO_LONG" (-6)
  g_Fault : mg "Fault" = some (.ref cFault)
  ox_Fault : OexC K cFault
  xc_Fault : XfC K cFault
  na_Fault_rule : PySem.W.findIn K (.ref cFault) "rule" = some none
  na_Fault_place : PySem.W.findIn K (.ref cFault) "place" = some none
  d_Fault___init__ : XniAt K cFault "Fault.__init__" s_Fault___init__ ["self", "rule", "place"]
  g_Reader : mg "Reader" = some (.ref cReader)
  cl_Reader : Cls K cReader
  na_Reader_text : NoAttr K cReader "text"
  na_Reader_at : NoAttr K cReader "at"
  d_Reader___init__ : IniAt K cReader "Reader.__init__" s_Reader___init__ ["self", "text"]
  d_Reader_sees : MetAt K cReader "sees" "Reader.sees" s_Reader_sees ["self", "some"]
  d_Reader_next_of : MetAt K cReader "next_of" "Reader.next_of" s_Reader_next_of ["self", "some"]
  d_Reader_word : MetAt K cReader "word" "Reader.word" s_Reader_word ["self", "word"]
  g_Lines : mg "Lines" = some (.ref cLines)
  cl_Lines : Cls K cLines
  na_Lines_words : NoAttr K cLines "words"
  na_Lines_parts : NoAttr K cLines "parts"
  na_Lines_goals : NoAttr K cLines "goals"
  na_Lines_open_ones : NoAttr K cLines "open_ones"
  d_Lines___init__ : IniAt K cLines "Lines.__init__" s_Lines___init__ ["self"]
  d_Lines_put : MetAt K cLines "put" "Lines.put" s_Lines_put ["self", "word", "parts"]
  d_Lines_may_have_else : MetAt K cLines "may_have_else" "Lines.may_have_else" s_Lines_may_have_else ["self"]
  d_Lines_opened : MetAt K cLines "opened" "Lines.opened" s_Lines_opened ["self", "word", "parts"]
  d_Lines_put_else : MetAt K cLines "put_else" "Lines.put_else" s_Lines_put_else ["self"]
  d_Lines_put_end : MetAt K cLines "put_end" "Lines.put_end" s_Lines_put_end ["self"]
  d_bytes_of : DefAt K mg "bytes_of" s_bytes_of ["word"]
  d_number_from : DefAt K mg "number_from" s_number_from ["reader", "byte"]
  d_operand : DefAt K mg "operand" s_operand ["reader", "byte"]
  d_open_brackets : DefAt K mg "open_brackets" s_open_brackets ["waiting"]
  d_read_operand : DefAt K mg "read_operand" s_read_operand ["reader", "found", "waiting"]
  d_close : DefAt K mg "close" s_close ["found", "waiting"]
  d_binds : DefAt K mg "binds" s_binds ["byte"]
  d_read_operator : DefAt K mg "read_operator" s_read_operator ["reader", "found", "waiting"]
  d_read_closers : DefAt K mg "read_closers" s_read_closers ["reader", "found", "waiting"]
  d_expression : DefAt K mg "expression" s_expression ["reader", "ends"]
  d_compared : DefAt K mg "compared" s_compared ["reader"]
  d_condition : DefAt K mg "condition" s_condition ["reader"]
  d_first_bytes : DefAt K mg "first_bytes" s_first_bytes ["lines"]
  d_read_change : DefAt K mg "read_change" s_read_change ["reader", "lines", "word", "rest"]
  d_read_set_or_stop : DefAt K mg "read_set_or_stop" s_read_set_or_stop ["reader", "lines"]
  d_read_else_or_end : DefAt K mg "read_else_or_end" s_read_else_or_end ["reader", "lines"]
  d_read_line : DefAt K mg "read_line" s_read_line ["reader", "lines"]
  d_lines_of : DefAt K mg "lines_of" s_lines_of ["text"]
  d_method : DefAt K mg "method" s_method ["text"]
  veInit : PySem.W.findCls K (.type "ValueError") (.type "type") "__init__" = some (.val (.builtin "ValueError.__init__"))
  xm_Fault_Fault : PySem.W.exmOne K (.ref cFault) (.ref cFault) = some true
/-! ### objects by their fields -/
theorem lk_eq {k : Str} {v : V} {l : List (Str × V)} : ((k, v) :: l).lookup k = some v := by
  rw [List.lookup_cons, beq_self_eq_true]
theorem lk_ne {k k' : Str} {v : V} {l : List (Str × V)} (h : k ≠ k') : ((k', v) :: l).lookup k = l.lookup k := by
  rw [List.lookup_cons, beq_eq_false_iff_ne.mpr h]
theorem pf_eq {k : Str} {v x : V} {r : List (Str × V)} : putF k v ((k, x) :: r) = (k, v) :: r := by
  show (if k = k then _ else _) = _
  rw [if_pos rfl]
theorem pf_ne {k k' : Str} {v x : V} {r : List (Str × V)} (h : k' ≠ k) : putF k v ((k', x) :: r) = (k', x) :: putF k v r := by
  show (if k' = k then _ else _) = _
  rw [if_neg h]
/-- a fault's own fields -/
def fxd (r p : Int) : List (Str × V) := [("place", .int p), ("rule", .int r)]
theorem fxd_rule (r p : Int) : (fxd r p).lookup ("rule" : Str) = some (.int r) := by
  unfold fxd
  rw [lk_ne (by decide +kernel), lk_eq]
theorem fxd_place (r p : Int) : (fxd r p).lookup ("place" : Str) = some (.int p) := by
  unfold fxd
  rw [lk_eq]
def spFault (C : Addr) : Sp := fun vs H Q _ => ∃ a r p, vs = [.ref a, .int r, .int p] ∧ H a = some (exo a C none) ∧
  ∀ H' d, H' a = some (exo a C (some d)) → H' d = some (exd d (fxd r p)) → H d = none → (∀ b o, b ≠ a → H b = some o → H' b = some o) → Q .non H'
theorem fault_in {C : Addr} {r p : Int} {H1 : Hp} {Q : XK} (h : ∀ d H', Same H1 H' → H' d = some (.xd (fxd r p)) → Q (.ref C) (some d) H') :
    ([V.int r, V.int p] : List V).length ≤ 1000 ∧ ∀ a, H1 a = none → spFault C (.ref a :: ([V.int r, V.int p] ++ [])) (upd H1 a (exo a C none))
      (fun v H2 => v = .non ∧ ∃ (d : Addr) (fs : List (Str × V)), H2 a = some (exo a C (some d)) ∧ H2 d = some (exd d fs) ∧ H1 d = none ∧ Q (.ref C) (some d) (upd (del H2 a) d (.xd fs))) (fun _ _ _ => False) := by
  refine ⟨(by decide : 2 ≤ 1000), fun a ha => ⟨a, r, p, rfl, upd_same, fun H' d h1 h2 h3 h4 => ?_⟩⟩
  have hda : d ≠ a := fun z => by rw [z, upd_same] at h3; cases h3
  rw [upd_ne hda] at h3
  refine ⟨rfl, d, _, h1, h2, h3, h d _ (fun b o e => ?_) upd_same⟩
  have hba : b ≠ a := ne_of_none e ha
  rw [upd_ne (ne_of_none e h3), del_ne hba]
  exact h4 b o hba (by rw [upd_ne hba]; exact e)
/-- what a fault wishes -/
def FE (C : Addr) (E : XK) (H : Hp) (S : List Addr) (r p : Int) : Prop := ∀ d H', Chg S H H' → H' d = some (.xd (fxd r p)) → E (.ref C) (some d) H'
theorem FE.of {C : Addr} {E : XK} {H H1 : Hp} {S : List Addr} {r p : Int} (h : FE C E H S r p) (c : Chg S H H1) : ∀ d H', Same H1 H' → H' d = some (.xd (fxd r p)) → E (.ref C) (some d) H' := fun d H' s e => h d H' (c.trans (chgS s)) e
theorem FE.sub {C : Addr} {E : XK} {H H1 : Hp} {S S' : List Addr} {r p : Int} (h : FE C E H S r p) (c : Chg S H H1) (hs : ∀ x ∈ S', x ∈ S) : FE C E H1 S' r p := fun d H' s e => h d H' (c.trans (s.mono hs)) e
/-! ### Reader -/
def fR (t : Addr) (p : Int) : List (Str × V) := [("text", .ref t), ("at", .int p)]
theorem fR_text (t p) : (fR t p).lookup ("text" : Str) = some (.ref t) := lk_eq
theorem fR_at (t p) : (fR t p).lookup ("at" : Str) = some (.int p) := by
  unfold fR
  rw [lk_ne (by decide +kernel), lk_eq]
theorem fR_no (t p) {m : Str} (h1 : m ≠ "text") (h2 : m ≠ "at") : (fR t p).lookup m = none := by
  unfold fR
  rw [lk_ne h1, lk_ne h2]; rfl
theorem fR_put (t : Addr) (p q : Int) : putF "at" (.int q) (fR t p) = fR t q := by
  unfold fR
  rw [pf_ne (by decide +kernel), pf_eq]
structure Rdr where
  r : Addr
  dx : Addr
  t : Addr
  l : List Int
/-- the reader stands at p; b is what is left -/
structure RdAt (K : PySem.W.Frag) (C : Addr) (X : Rdr) (H : Hp) (b : List Int) (p : Nat) : Prop where
  obj : H X.r = some (.ins C X.dx (fR X.t (p : Int)))
  txt : Fz K H X.t (vis X.l)
  rest : X.l.drop p = b
  len : p + b.length = X.l.length
  small : X.l.length ≤ 5000
theorem RdAt.chg {K : PySem.W.Frag} {C : Addr} {X : Rdr} {H H' : Hp} {b : List Int} {p : Nat} {S : List Addr} (h : RdAt K C X H b p) (c : Chg S H H') (n : X.r ∉ S) : RdAt K C X H' b p :=
  ⟨c.1 _ _ n h.obj, h.txt.chg c, h.rest, h.len, h.small⟩
theorem RdAt.at_nil {K : PySem.W.Frag} {C : Addr} {X : Rdr} {H : Hp} {p : Nat} (h : RdAt K C X H [] p) : p = X.l.length := by
  have := h.len
  simpa using this
theorem RdAt.at_cons {K : PySem.W.Frag} {C : Addr} {X : Rdr} {H : Hp} {c : Int} {b : List Int} {p : Nat} (h : RdAt K C X H (c :: b) p) : X.l[p]? = some c ∧ X.l.drop (p + 1) = b ∧ p < X.l.length ∧ p + 1 + b.length = X.l.length := by
  have h1 := h.rest
  have h2 := h.len
  rw [List.length_cons] at h2
  have e : X.l[p]? = some c := by
    have := congrArg (fun l => l[0]?) h1
    simpa [List.getElem?_drop] using this
  refine ⟨e, ?_, by omega, by omega⟩
  rw [← List.drop_drop, h1]
  rfl
/-- one byte on -/
theorem RdAt.next {K : PySem.W.Frag} {C : Addr} {X : Rdr} {H : Hp} {c : Int} {b : List Int} {p : Nat} (h : RdAt K C X H (c :: b) p) : RdAt K C X (upd H X.r (.ins C X.dx (fR X.t ((p + 1 : Nat) : Int)))) b (p + 1) := by
  obtain ⟨_, h2, _, h4⟩ := h.at_cons
  have c : Chg [X.r] H (upd H X.r (.ins C X.dx (fR X.t ((p + 1 : Nat) : Int)))) := (Chg.refl H).set (by simp) h.obj (by intro z; exact z)
  exact ⟨upd_same, h.txt.chg c, h2, h4, h.small⟩
section
variable {P : Program} {w : World} {K : PySem.W.Frag} {mg : Str → Option Value} {base : Heap} {cFault cReader cLines : Addr}
theorem ok_Fault___init__ (T : Txt K mg cFault cReader cLines) : Xf P w K mg base 1 "Fault" cFault ["self", "rule", "place"] (spFault cFault) := by
  refine xf_mk T.g_Fault T.ox_Fault T.d_Fault___init__ fun f fd F => F.ok sc_Fault___init__ (fun vs H Q E h => ?_) (fun cdv A outer s H vs Q E hr h => ?_)
  · obtain ⟨a, r, p, rfl, _⟩ := h
    rfl
  · obtain ⟨a, r, p, rfl, ha, k⟩ := h
    refine ⟨_, (pss_cons (ps_expr (pe_veinit rfl T.n_ValueError T.veInit (pa_cons (pv 0) (pa_cons pe_str pa_nil)))) (pss_cons (ps_ost (pv 0) (pv 1)) (pss_one (ps_ost (pv 0) (pv 2))))), ?_⟩
    refine ⟨_, rfl, a, cFault, _, rfl, (by decide : 1 ≤ 1000), T.ox_Fault, ha, ?_⟩
    refine ⟨_, rfl, _, rfl, a, cFault, rfl, T.ox_Fault, T.na_Fault_rule, .inl ⟨ha, fun dx nx ne => ?_⟩⟩
    refine ⟨_, rfl, _, rfl, a, cFault, rfl, T.ox_Fault, T.na_Fault_place, .inr ⟨dx, _, upd_same, by rw [upd_ne ne, upd_same], (by show 1 ≤ 900; decide), ?_⟩⟩
    refine k _ dx ?_ upd_same nx fun b o hb e => ?_
    · rw [upd_ne (Ne.symm ne), upd_same]
    · rw [upd_ne (ne_of_none e nx), upd_ne hb, upd_ne (ne_of_none e nx)]
      exact e
def spReader (C : Addr) : Sp := fun vs H Q _ => ∃ x t dx, vs = [.ref x, .ref t] ∧ H x = some (.ins C dx []) ∧ ∀ H', (∀ b o, b ≠ x → H b = some o → H' b = some o) → H' x = some (.ins C dx (fR t 0)) → Q .non H'
theorem ok_Reader___init__ (T : Txt K mg cFault cReader cLines) : Kf P w K mg base CX0 1 "Reader" cReader ["self", "text"] (spReader cReader) := by
  refine kf_mk T.g_Reader T.d_Reader___init__ fun f fd F => F.ok sc_Reader___init__ (fun vs H Q E h => ?_) (fun cdv A outer s H vs Q E hr h => ?_)
  · obtain ⟨x, t, dx, rfl, _⟩ := h
    rfl
  · obtain ⟨x, t, dx, rfl, hx, k⟩ := h
    refine ⟨_, (pss_cons (ps_put (pv 0) (pv 1)) (pss_one (ps_put (pv 0) pe_int))), ?_⟩
    refine ⟨_, rfl, _, rfl, x, cReader, dx, [], rfl, ⟨hx, T.cl_Reader, T.na_Reader_text, (by decide : 0 < 1000)⟩, ?_⟩
    refine ⟨_, rfl, x, cReader, dx, _, rfl, ⟨upd_same, T.cl_Reader, T.na_Reader_at, (by decide : 1 < 1000)⟩, ?_⟩
    refine k _ (fun b o hb e => ?_) ?_
    · rw [upd_ne hb, upd_ne hb]; exact e
    · rw [upd_same]
      have e : putF "at" (.int 0) (putF "text" (.ref t) []) = fR t 0 := by
        show putF "at" (.int 0) [("text", .ref t)] = fR t 0
        rw [pf_ne (by decide +kernel)]; rfl
      rw [e]
def spSees (K : PySem.W.Frag) (C : Addr) : Sp := fun vs H Q _ => ∃ (X : Rdr) (a : Addr) (b : List Int) (p : Nat) (l : List Int), vs = [.ref X.r, .ref a] ∧ RdAt K C X H b p ∧ (SqL K H a (vis l) ∨ SqT K H a (vis l)) ∧ Q (.bl (sees b l)) H
theorem RdAt.fat {X : Rdr} {H : Hp} {b : List Int} {p : Nat} (T : Txt K mg cFault cReader cLines) (h : RdAt K cReader X H b p) : Fld K H X.r "at" (.int (p : Int)) := ⟨_, _, _, h.obj, T.cl_Reader, T.na_Reader_at, fR_at _ _⟩
theorem RdAt.ftext {X : Rdr} {H : Hp} {b : List Int} {p : Nat} (T : Txt K mg cFault cReader cLines) (h : RdAt K cReader X H b p) : Fld K H X.r "text" (.ref X.t) := ⟨_, _, _, h.obj, T.cl_Reader, T.na_Reader_text, fR_text _ _⟩
theorem ok_Reader_sees (T : Txt K mg cFault cReader cLines) : Mf P w K mg base CX0 1 cReader "sees" ["self", "some"] (spSees K cReader) := by
  refine mf_mk T.cl_Reader T.d_Reader_sees fun f fd F => F.ok sc_Reader_sees (fun vs H Q E h => ?_) (fun cdv A outer s H vs Q E hr h => ?_)
  · obtain ⟨X, a, b, p, l, rfl, _⟩ := h
    rfl
  · obtain ⟨X, a, b, p, l, rfl, R, hl, k⟩ := h
    refine ⟨_, (pss_one (ps_ret (pe_and (pe_cmpR op_lt (pe_get (pv 0)) (pe_callB call_len_seq (by rfl) T.n_len PySem.boot_len (pa_cons (pe_get (pv 0)) pa_nil)) (nomark _)) (pe_one (pe_cmpR op_in_seq (pe_ix ix_list (pe_get (pv 0)) (pe_get (pv 0)) (fun _ _ => rfl)) (pv 1) rfl))))), ?_⟩
    refine ⟨_, rfl, _, _, rfl, R.fat T, _, rfl, _, _, rfl, R.ftext T, X.t, _, rfl, .inl R.txt.sq, _, _, rfl, rfl, _, rfl, ?_⟩
    have hlen : (vis X.l).length = X.l.length := List.length_map ..
    cases b with
    | nil =>
      have e := R.at_nil
      refine ite2 (fun c => ?_) (fun _ => k)
      exact absurd (of_decide_eq_true c) (by omega)
    | cons c b =>
      obtain ⟨e1, _, e3, _⟩ := R.at_cons
      refine ite2 (fun _ => ?_) (fun n => absurd (decide_eq_true (by omega)) n)
      have hv : (vis X.l)[p]? = some (.int c) := by rw [List.getElem?_map, e1]; rfl
      refine ⟨_, rfl, _, _, rfl, R.ftext T, _, rfl, _, _, rfl, R.fat T, X.t, _, _, _, rfl, rfl, R.txt.sq, atI_nat hv, _, rfl, a, vis l, rfl, hl, rfl, flat_ints l, ?_⟩
      show Q (.bl (inV (.int c) (vis l))) H
      rw [inV_ints]
      exact k
def spNext (K : PySem.W.Frag) (C F : Addr) : Sp := fun vs H Q E => ∃ (X : Rdr) (a : Addr) (b : List Int) (p : Nat) (l : List Int), vs = [.ref X.r, .ref a] ∧ RdAt K C X H b p ∧ (SqL K H a (vis l) ∨ SqT K H a (vis l)) ∧
  (∀ k, nx b p l = .bad k → FE F E H [X.r] 11 k) ∧ ∀ c b1 p1, nx b p l = .ok (c, b1, p1) → ∀ H', Chg [X.r] H H' → RdAt K C X H' b1 p1 → Q (.int c) H'
theorem ok_Reader_next_of (T : Txt K mg cFault cReader cLines) : Mf P w K mg base (L2.CX P w) 3 cReader "next_of" ["self", "some"] (spNext K cReader cFault) := by
  refine mf_mk T.cl_Reader T.d_Reader_next_of fun f fd F => F.okX sc_Reader_next_of (fun vs H Q E h => ?_) (fun cdv A outer s H vs Q E hr h => ?_)
  · obtain ⟨X, a, b, p, l, rfl, _⟩ := h
    rfl
  · obtain ⟨X, a, b, p, l, rfl, R, hl, kE, k⟩ := h
    refine ⟨_, (pss_cons (ps_if (pt_not (pt_val (pe_mf (ok_Reader_sees T) (hr.mono (by decide)) pass0 (pv 0) (by exact (pa_cons (pv 1) pa_nil))))) (pss_one (ps_raise rfl (takes_of rfl rfl rfl rfl) (pmk_xf (ok_Fault___init__ T) (hr.mono (by decide)) (by exact (pa_cons (pe_gi T.c_RULE) (pa_cons (pe_get (pv 0)) pa_nil)))))) pss_nil) (pss_cons (ps_augF (pv 0) pe_int) (pss_one (ps_ret (pe_ix ix_list (pe_get (pv 0)) (pe_op op_sub (pe_get (pv 0)) pe_int) (fun _ _ => rfl)))))), ?_⟩
    refine ⟨_, rfl, _, rfl, ⟨_, _, R.obj, fR_no _ _ (by decide +kernel) (by decide +kernel)⟩, _, rfl, X, a, b, p, l, rfl, R, hl, _, rfl, ?_⟩
    have hlen : (vis X.l).length = X.l.length := List.length_map ..
    cases b with
    | nil =>
      refine ite2 (fun _ => ?_) (fun n => absurd rfl n)
      refine ⟨_, rfl, _, _, rfl, R.fat T, fault_in ((kE p rfl).of (Chg.refl H))⟩
    | cons c b =>
      obtain ⟨e1, _, e3, _⟩ := R.at_cons
      have hs : sees (c :: b) l = l.contains c := rfl
      cases hc : l.contains c with
      | false =>
        refine ite2 (fun _ => ?_) (fun n => absurd (by rw [hs, hc]; rfl) n)
        refine ⟨_, rfl, _, _, rfl, R.fat T, fault_in ((kE p ?_).of (Chg.refl H))⟩
        show (if l.contains c = true then _ else _) = _
        rw [hc]; rfl
      | true =>
        refine ite2 (fun n => absurd n (by rw [hs, hc]; decide)) (fun _ => ?_)
        refine ⟨_, rfl, _, _, rfl, R.fat T, _, _, _, _, rfl, ⟨R.obj, T.cl_Reader, T.na_Reader_at, (by decide : 2 < 1000)⟩, ?_⟩
        have ep : putF "at" (.int ((p : Int) + 1)) (fR X.t (p : Int)) = fR X.t ((p + 1 : Nat) : Int) := by rw [fR_put]; rfl
        rw [ep]
        have R1 := R.next
        have hv : (vis X.l)[p]? = some (.int c) := by rw [List.getElem?_map, e1]; rfl
        refine ⟨_, rfl, _, _, rfl, R1.ftext T, _, rfl, _, _, rfl, R1.fat T, _, _, rfl, rfl, X.t, _, _, _, rfl, rfl, R1.txt.sq, at_of (j := p) (by omega) hv, ?_⟩
        refine k c b (p + 1) ?_ _ ((Chg.refl H).set (by simp) R.obj (by intro z; exact z)) R1
        show (if l.contains c = true then _ else _) = _
        rw [hc]; rfl
end
end Ab
/-! ## The walk: E -/
namespace Ab
open PySem PySem.Spec PyProof.Rows L2
theorem sq_chg {K : PySem.W.Frag} {S : List Addr} {H H' : Hp} {a : Addr} {xs : List V} (h : SqL K H a xs) (c : Chg S H H') (n : a ∉ S) : SqL K H' a xs := by
  rcases h with (h | ⟨o, h⟩) | h
  · exact .inl (.inl (c.1 _ _ n h))
  · exact .inl (.inr ⟨o, c.2 _ _ trivial h⟩)
  · exact .inr h
/-- a list that the reader's moves leave -/
theorem RdAt.sq {K : PySem.W.Frag} {C : Addr} {X : Rdr} {H H' : Hp} {b : List Int} {p : Nat} {a : Addr} {xs : List V} (R : RdAt K C X H b p) (h : SqL K H a xs) (c : Chg [X.r] H H') : SqL K H' a xs := by
  have key : ∀ {o : HO}, H a = some o → (∀ C dx fs, o ≠ .ins C dx fs) → a ∉ [X.r] := fun {o} e n m => by
    have : a = X.r := by simpa using m
    rw [this, R.obj] at e
    cases e
    exact n _ _ _ rfl
  rcases h with (h | ⟨o, h⟩) | h
  · exact .inl (.inl (c.1 _ _ (key h (by intro _ _ _ z; cases z)) h))
  · exact .inl (.inr ⟨o, c.2 _ _ trivial h⟩)
  · exact .inr h
theorem RdAt.ne {K : PySem.W.Frag} {C : Addr} {X : Rdr} {H : Hp} {b : List Int} {p : Nat} {a : Addr} {xs : List V} (R : RdAt K C X H b p) (h : H a = some (.lst xs)) : a ≠ X.r := ne_of h R.obj (by intro z; cases z)
/-- the items of an expression, as tuples -/
def Its (K : PySem.W.Frag) (H : Hp) (vs : List V) (its : Items) : Prop := Paired (fun (v : V) (it : Int × Int) => ∃ q, v = .ref q ∧ SqT K H q [.int it.1, .int it.2]) vs its
theorem Its.chg {K : PySem.W.Frag} {S : List Addr} {H H' : Hp} {vs : List V} {its : Items} (h : Its K H vs its) (c : Chg S H H') : Its K H' vs its :=
  Paired.mapP h fun v it ⟨q, e, t⟩ => ⟨q, e, c.tup t⟩
theorem its_nil {K : PySem.W.Frag} {H : Hp} : Its K H [] [] := Paired.nil
theorem Its.len {K : PySem.W.Frag} {H : Hp} {vs : List V} {its : Items} (h : Its K H vs its) : vs.length = its.length := Paired.length h
theorem Its.app {K : PySem.W.Frag} {H : Hp} {vs ws : List V} {its jts : Items} (h : Its K H vs its) (h2 : Its K H ws jts) : Its K H (vs ++ ws) (its ++ jts) := by
  unfold Its at h ⊢
  induction h with
  | nil => exact h2
  | cons a b ih => exact .cons a ih
theorem Its.snoc {K : PySem.W.Frag} {H : Hp} {vs : List V} {its : Items} {q : Addr} {k n : Int} (h : Its K H vs its) (t : SqT K H q [.int k, .int n]) : Its K H (vs ++ [.ref q]) (its ++ [(k, n)]) :=
  h.app (.cons ⟨q, rfl, t⟩ .nil)
def codes (z : Str) : List Int := z.cps.toList.map fun c => ((c : Nat) : Int)
theorem codes_len (z : Str) : (codes z).length = z.cps.size := by unfold codes; simp
theorem codes_take {z : Str} {i c : Nat} (h : z.cps[i]? = some c) : vis ((codes z).take (i + 1)) = vis ((codes z).take i) ++ [.int (c : Int)] := by
  have e : (codes z)[i]? = some (c : Int) := by
    unfold codes
    rw [List.getElem?_map]
    have : z.cps.toList[i]? = some c := by simpa using h
    rw [this]; rfl
  rw [List.take_add_one, e]
  show List.map V.int _ = _
  rw [List.map_append]
  rfl
theorem drop_cons {A : Type} {l : List A} {i : Nat} {x : A} (h : l[i]? = some x) : l.drop i = x :: l.drop (i + 1) := by
  obtain ⟨h1, h2⟩ := List.getElem?_eq_some_iff.mp h
  rw [List.drop_eq_getElem_cons h1, h2]
theorem vis_at {l : List Int} {i : Nat} {v : V} (h : (vis l)[i]? = some v) : ∃ c, l[i]? = some c ∧ v = .int c := by
  rw [List.getElem?_map] at h
  cases e : l[i]? with
  | none => rw [e] at h; cases h
  | some c => rw [e] at h; exact ⟨c, rfl, (Option.some.inj h).symm⟩
theorem vis_snoc (l : List Int) (c : Int) : vis (l ++ [c]) = vis l ++ [.int c] := by simp
theorem vis_len (l : List Int) : (vis l).length = l.length := List.length_map ..
/-- a stack's list: the last put is the last -/
abbrev stk (w : List Int) : List V := vis w.reverse
theorem stk_cons (c : Int) (w : List Int) : stk (c :: w) = stk w ++ [.int c] := by simp
theorem stk_len (w : List Int) : (stk w).length = w.length := by simp
theorem stk_last (c : Int) (w : List Int) : (stk (c :: w))[(stk (c :: w)).length - 1]? = some (.int c) := by
  rw [stk_cons]; simp
theorem stk_drop (c : Int) (w : List Int) : (stk (c :: w)).dropLast = stk w := by
  rw [stk_cons]; simp
theorem opens_rev (w : List Int) : (w.reverse.filter fun c => openersL.contains c) = (opens w).reverse := by
  unfold opens
  rw [List.filter_reverse]
section
variable {P : Program} {w : World} {K : PySem.W.Frag} {mg : Str → Option Value} {base : Heap} {cFault cReader cLines : Addr}
theorem RdAt.ins {C : Addr} {X : Rdr} {H : Hp} {b : List Int} {p : Nat} {m : Str} (h : RdAt K C X H b p) (h1 : m ≠ "text" := by decide +kernel) (h2 : m ≠ "at" := by decide +kernel) : Ins H X.r C m := ⟨_, _, h.obj, fR_no _ _ h1 h2⟩
/-! ### word -/
def spWord (K : PySem.W.Frag) (C F : Addr) : Sp := fun vs H Q E => ∃ (X : Rdr) (a : Addr) (b : List Int) (p : Nat) (l : List Int), vs = [.ref X.r, .ref a] ∧ RdAt K C X H b p ∧ SqL K H a (vis l) ∧
  (∀ k, word l b p = .bad k → FE F E H [X.r] 11 k) ∧ ∀ b1 p1, word l b p = .ok (b1, p1) → ∀ H', Chg [X.r] H H' → RdAt K C X H' b1 p1 → Q .non H'
theorem ok_Reader_word (T : Txt K mg cFault cReader cLines) : Mf P w K mg base (L2.CX P w) 4 cReader "word" ["self", "word"] (spWord K cReader cFault) := by
  refine mf_mk T.cl_Reader T.d_Reader_word fun f fd F => F.okX sc_Reader_word (fun vs H Q E h => ?_) (fun cdv A outer s H vs Q E hr h => ?_)
  · obtain ⟨X, a, b, p, l, rfl, _⟩ := h
    rfl
  · obtain ⟨X, a, b, p, l, rfl, R, hl, kE, k⟩ := h
    refine ⟨_, (pss_one (ps_for (passes_of rfl) rfl (pi_list (pv 1)) (pg_name (i := 2) sc_Reader_word.nd rfl (Or.inl rfl)) (pss_one (ps_expr (pe_mf (ok_Reader_next_of T) (hr.mono (by decide)) (passE (takes_of rfl rfl rfl rfl)) (pv 0) (by exact (pa_cons (pe_lst (pa_cons (pv 2) pa_nil)) pa_nil))))))), ?_⟩
    refine ⟨_, rfl, a, rfl, ⟨_, hl⟩, for_list (K := K) (a := a) (xs := vis l) (fun i σ H' => ∃ v b' p', σ = [some (.ref X.r), some (.ref a), v] ∧ Chg [X.r] H H' ∧ RdAt K cReader X H' b' p' ∧ word (l.drop i) b' p' = word l b p)
      ⟨none, b, p, rfl, Chg.refl H, R, rfl⟩ (fun i σ H' _ ⟨_, _, _, _, c, _, _⟩ => R.sq hl c) ?_ ?_⟩
    · rintro i y σ H' hi ⟨v, b', p', rfl, c, R', hw⟩
      obtain ⟨z, hz, rfl⟩ := vis_at hi
      rw [drop_cons hz, word] at hw
      refine ⟨_, rfl, X.r, rfl, R'.ins, _, rfl, sz (show 1 ≤ 100000 by decide), fun q hq => ?_⟩
      have c1 : Chg [] H' (upd H' q (.lst [.int z])) := (Chg.refl H').new hq
      have c2 : Chg [X.r] H (upd H' q (.lst [.int z])) := c.trans (c1.mono (by simp))
      refine ⟨X, q, b', p', [z], rfl, R'.chg c1 (by simp), .inl (SqL.of upd_same), fun kk e => ?_, fun z1 b1 p1 e H2 c3 R2 => ?_⟩
      · rw [e] at hw
        exact (kE kk hw.symm).sub c2 (by simp)
      · rw [e] at hw
        exact ⟨_, b1, p1, rfl, c2.trans c3, R2, hw⟩
    · rintro σ H' ⟨v, b', p', rfl, c, R', hw⟩
      rw [show (vis l).length = l.length from vis_len l, List.drop_length, word] at hw
      exact k b' p' hw.symm H' c R'
/-! ### bytes_of -/
def spBytes : Sp := fun vs H Q _ => ∃ z : Str, vs = [.str z] ∧ z.cps.size ≤ 5000 ∧ ∀ H' p, Same H H' → H p = none → H' p = some (.lst (vis (codes z))) → Q (.ref p) H'
theorem ok_bytes_of (T : Txt K mg cFault cReader cLines) : Df P w K mg base CX0 1 "bytes_of" ["word"] spBytes := by
  refine df_mk T.d_bytes_of fun f fd F => F.ok sc_bytes_of (fun vs H Q E h => ?_) (fun cdv A outer s H vs Q E hr h => ?_)
  · obtain ⟨z, rfl, _⟩ := h
    rfl
  · obtain ⟨z, rfl, hz, k⟩ := h
    refine ⟨_, (pss_one (ps_ret (pe_lc (own := [("sign", 1)]) (g := gName 1) (tt := tYes) rfl sc_bytes_of.nd (pi_str (pv 0)) (blkOk_by (N := ["word", "sign"]) (sc := defScope s_bytes_of) (by decide +kernel)) (fun _ _ _ _ _ => pg_name (i := 1) sc_bytes_of.nd rfl (Or.inl rfl)) (fun _ _ _ _ _ => pts_nil) (fun _ _ _ _ _ => (pe_callB call_ord (by rfl) T.n_ord (by decide +kernel) (pa_cons (pv 1) pa_nil)))))), ?_⟩
    refine ⟨_, rfl, z, rfl, fun D hD => ?_⟩
    refine lc_it (walk_str (z := z)) (fun i H' => Same H H' ∧ H' D = some (.lst (vis ((codes z).take i)))) ⟨fun b o e => by rw [upd_ne (ne_of_none e hD)]; exact e, upd_same⟩ (fun _ _ _ _ => trivial) ?_ ?_
    · rintro i x H1 H2 hi ⟨s1, h1⟩ ⟨rfl, c, hc, rfl⟩
      refine ⟨rfl, ?_⟩
      refine ⟨_, rfl, ⟨#[c]⟩, rfl, rfl, _, h1, ?_, fun b o e => ?_, ?_⟩
      · rw [vis_len, List.length_take, codes_len]
        exact Nat.lt_of_le_of_lt (Nat.min_le_left _ _) (Nat.lt_of_lt_of_le hi (Nat.le_trans hz (by decide)))
      · rw [upd_ne (ne_of_none e hD)]
        exact s1 b o e
      · rw [upd_same, codes_take hc]
        rfl
    · rintro H1 ⟨s1, h1⟩
      refine k H1 D s1 hD ?_
      rw [h1, ← codes_len, List.take_length]
/-! ### number_from -/
def spNum (K : PySem.W.Frag) (C : Addr) : Sp := fun vs H Q E => ∃ (X : Rdr) (c : Int) (b : List Int) (p : Nat), vs = [.ref X.r, .int c] ∧ RdAt K C X H b p ∧
  ∀ H', Chg [X.r] H H' → RdAt K C X H' (num 3 (c - 48) b p).2.1 (num 3 (c - 48) b p).2.2 → Q (.int (num 3 (c - 48) b p).1) H'
theorem sees_nx {b : List Int} {p : Nat} {l : List Int} (h : sees b l = true) : ∃ c b1, b = c :: b1 ∧ nx b p l = .ok (c, b1, p + 1) ∧ l.contains c = true := by
  cases b with
  | nil => cases h
  | cons c b =>
    have h : l.contains c = true := h
    exact ⟨c, b, rfl, if_pos h, h⟩
theorem num_stop {f : Nat} {n : Int} {b : List Int} {p : Nat} (h : sees b digitsL = false) : num f n b p = (n, b, p) := by
  cases f with
  | zero => rfl
  | succ f =>
    unfold num
    split
    · cases b with
      | nil => rfl
      | cons c b =>
        have h : digitsL.contains c = false := h
        dsimp only
        rw [h]; rfl
    · rfl
theorem num_low {f : Nat} {n : Int} {b : List Int} {p : Nat} (h : ¬ 0 < n) : num f n b p = (n, b, p) := by
  cases f with
  | zero => rfl
  | succ f => unfold num; rw [if_neg h]
theorem num_go {f : Nat} {n c : Int} {b : List Int} {p : Nat} (h : 0 < n) (hc : digitsL.contains c = true) : num (f + 1) n (c :: b) p = num f (n * 10 + c - 48) b (p + 1) := by
  rw [num, if_pos h, if_pos hc]
theorem ok_number_from (T : Txt K mg cFault cReader cLines) : Df P w K mg base (L2.CX P w) 4 "number_from" ["reader", "byte"] (spNum K cReader) := by
  refine df_mk T.d_number_from fun f fd F => F.okX sc_number_from (fun vs H Q E h => ?_) (fun cdv A outer s H vs Q E hr h => ?_)
  · obtain ⟨X, c, b, p, rfl, _⟩ := h
    rfl
  · obtain ⟨X, c, b, p, rfl, R, k⟩ := h
    refine ⟨_, (pss_cons (ps_par rfl sc_number_from.nd (i := 2) (j := 3) rfl rfl (by decide) rfl rfl (pa_cons (pe_op op_sub (pv 1) (pe_gi T.c_NOUGHT)) (pa_cons pe_int pa_nil)) (by rfl)) (pss_cons (ps_while (passes_of rfl) (PW.pt (pw_and (pt_cmpR op_gt (pv 2) pe_int (nomark _)) (pw_and (pt_cmpR op_lt (pv 3) (pe_gi T.c_MOST_DIGITS) (nomark _)) (pw_and1 (pt_val (pe_mf (ok_Reader_sees T) (hr.mono (by decide)) pass0 (pv 0) (by exact (pa_cons (pe_gt T.c_DIGITS) pa_nil)))))))) (pss_cons (ps_set (i := 2) sc_number_from.nd rfl (Or.inl rfl) (pe_op op_sub (pe_op op_add (pe_op op_mul (pv 2) pe_int) (pe_mf (ok_Reader_next_of T) (hr.mono (by decide)) (passE (takes_of rfl rfl rfl rfl)) (pv 0) (by exact (pa_cons (pe_gt T.c_DIGITS) pa_nil)))) (pe_gi T.c_NOUGHT))) (pss_one (ps_aug (i := 3) sc_number_from.nd rfl (Or.inl rfl) pe_int ip_add)))) (pss_one (ps_ret (pv 2))))), ?_⟩
    refine ⟨_, rfl, _, _, rfl, rfl, _, _, rfl, ?_⟩
    refine ⟨fun m σ H' => ∃ n b' p', σ = [some (.ref X.r), some (.int c), some (.int n), some (.int (4 - (m : Int)))] ∧ m ≤ 3 ∧ Chg [X.r] H H' ∧ RdAt K cReader X H' b' p' ∧ num m n b' p' = num 3 (c - 48) b p,
      ⟨3, c - 48, b, p, rfl, Nat.le_refl _, Chg.refl H, R, rfl⟩, ?_⟩
    rintro m σ H' ⟨n, b', p', rfl, hm, ch, R', hn⟩
    have out : num m n b' p' = (n, b', p') → Q (.int n) H' := fun e => by
      rw [e] at hn
      have := k H' ch
      rw [← hn] at this
      exact this R'
    refine ⟨_, rfl, _, _, rfl, rfl, _, rfl, ?_⟩
    refine ite2 (fun h1 => ?_) (fun h1 => ?_)
    · have h1 : 0 < n := of_decide_eq_true h1
      refine ⟨_, rfl, _, _, rfl, rfl, _, rfl, ?_⟩
      refine ite2 (fun h2 => ?_) (fun h2 => ?_)
      · have h2 : 4 - (m : Int) < 4 := of_decide_eq_true h2
        refine ⟨_, rfl, X.r, rfl, R'.ins, fun dA hdA => ?_⟩
        refine ⟨X, dA, b', p', digitsL, rfl, R', .inr (hdA _), _, rfl, ?_⟩
        refine ite2 (fun h3 => ?_) (fun h3 => ?_)
        · obtain ⟨d, b1, rfl, e1, hd⟩ := sees_nx (p := p') h3
          obtain ⟨m, rfl⟩ : ∃ j, m = j + 1 := ⟨m - 1, by omega⟩
          refine ⟨fun σ' H2 => ∃ n' b2 p2, σ' = [some (.ref X.r), some (.int c), some (.int n'), some (.int (4 - (m : Int)))] ∧ Chg [X.r] H H2 ∧ RdAt K cReader X H2 b2 p2 ∧ num m n' b2 p2 = num 3 (c - 48) b p,
            fun σ' H2 ⟨n', b2, p2, e, c2, R2, e2⟩ => ⟨m, Nat.lt_succ_self _, n', b2, p2, e, by omega, c2, R2, e2⟩, ?_⟩
          refine ⟨_, rfl, _, _, rfl, rfl, .inr ⟨by decide, by decide⟩, ?_⟩
          refine ⟨_, rfl, X.r, rfl, R'.ins, fun dB hdB => ?_⟩
          refine ⟨X, dB, d :: b1, p', digitsL, rfl, R', .inr (hdB _), fun kk e => ?_, fun d2 b2 p2 e H2 c2 R2 => ?_⟩
          · rw [e1] at e; cases e
          · rw [e1] at e
            cases e
            refine ⟨_, _, rfl, rfl, _, _, rfl, rfl, ?_⟩
            refine ⟨_, rfl, _, _, rfl, rfl, ?_⟩
            refine ⟨n * 10 + d - 48, b1, p' + 1, ?_, ch.trans c2, R2, ?_⟩
            · show [some (V.ref X.r), some (.int c), some (.int (n * 10 + d - 48)), some (.int (4 - ((m + 1 : Nat) : Int) + 1))] = _
              have : 4 - ((m + 1 : Nat) : Int) + 1 = 4 - (m : Int) := by omega
              rw [this]
            · rw [← hn, num_go h1 hd]
        · exact ⟨_, rfl, out (num_stop (Bool.eq_false_iff.mpr h3))⟩
      · have h2 : ¬ 4 - (m : Int) < 4 := fun z => h2 (decide_eq_true z)
        obtain rfl : m = 0 := by omega
        exact ⟨_, rfl, out rfl⟩
    · have h1 : ¬ 0 < n := fun z => h1 (decide_eq_true z)
      exact ⟨_, rfl, out (num_low h1)⟩
/-! ### operand -/
def spOperand (K : PySem.W.Frag) (C : Addr) : Sp := fun vs H Q E => ∃ (X : Rdr) (c : Int) (b : List Int) (p : Nat), vs = [.ref X.r, .int c] ∧ RdAt K C X H b p ∧
  ∀ H' q, Chg [X.r] H H' → RdAt K C X H' (operand c b p).2.1 (operand c b p).2.2 → H q = none → H' q = some (.tup [.int (operand c b p).1.1, .int (operand c b p).1.2]) → Q (.ref q) H'
theorem ok_operand (T : Txt K mg cFault cReader cLines) : Df P w K mg base (L2.CX P w) 5 "operand" ["reader", "byte"] (spOperand K cReader) := by
  refine df_mk T.d_operand fun f fd F => F.okX sc_operand (fun vs H Q E h => ?_) (fun cdv A outer s H vs Q E hr h => ?_)
  · obtain ⟨X, c, b, p, rfl, _⟩ := h
    rfl
  · obtain ⟨X, c, b, p, rfl, R, k⟩ := h
    refine ⟨_, (pss_cons (ps_if (pt_cmpR op_in_seq (pv 1) (pe_gt T.c_DIGITS) rfl) (pss_one (ps_ret (pe_tup (pa_cons (pe_gi T.c_NUMBER) (pa_cons (pe_df (ok_number_from T) (hr.mono (by decide)) (passE (takes_of rfl rfl rfl rfl)) (by exact (pa_cons (pv 0) (pa_cons (pv 1) pa_nil)))) pa_nil))))) pss_nil) (pss_cons (ps_if (pt_cmpR op_in_seq (pv 1) (pe_gt T.c_HEADS) rfl) (pss_one (ps_ret (pe_tup (pa_cons (pe_gi T.c_HEAD) (pa_cons (pe_op op_sub (pv 1) (pe_ix ix_tup (pe_gt T.c_HEADS) pe_int (fun _ _ => rfl))) pa_nil))))) pss_nil) (pss_one (ps_ret (pe_tup (pa_cons (pe_gi T.c_MARK) (pa_cons (pe_op op_sub (pv 1) (pe_ix ix_tup (pe_gt T.c_MARKS) pe_int (fun _ _ => rfl))) pa_nil))))))), ?_⟩
    refine ⟨_, rfl, fun aD hD => ⟨aD, vis digitsL, rfl, .inr (hD _), rfl, flat_ints digitsL, _, rfl, ?_⟩⟩
    unfold operand at k
    refine ite2 (fun h1 => ?_) (fun h1 => ?_)
    · have h1 : digitsL.contains c = true := by rw [← inV_ints]; exact h1
      rw [if_pos h1] at k
      refine ⟨_, rfl, _, rfl, X, c, b, p, rfl, R, fun H' c1 R1 => ?_⟩
      refine ⟨sz (by decide : 2 ≤ 100000), fun q hq => ?_⟩
      exact k _ q (c1.new hq) (R1.chg ((Chg.refl H').new hq (S := [])) (by simp)) (c1.none hq (fun m => by
        have : q = X.r := by simpa using m
        rw [this, R1.obj] at hq; cases hq)) upd_same
    · have h1 : ¬ digitsL.contains c = true := by rw [← inV_ints]; exact h1
      rw [if_neg h1] at k
      refine ⟨_, rfl, fun aD hD => ⟨aD, vis headsL, rfl, .inr (hD _), rfl, flat_ints headsL, _, rfl, ?_⟩⟩
      refine ite2 (fun h2 => ?_) (fun h2 => ?_)
      · have h2 : headsL.contains c = true := by rw [← inV_ints]; exact h2
        rw [if_pos h2] at k
        refine ⟨_, rfl, fun aH hH => ⟨aH, vis headsL, _, _, rfl, rfl, hH _, atI_nat (j := 0) rfl, _, _, rfl, rfl, ?_⟩⟩
        refine ⟨sz (by decide : 2 ≤ 100000), fun q hq => ?_⟩
        exact k _ q ((Chg.refl H).new hq) (R.chg ((Chg.refl H).new hq (S := [])) (by simp)) hq upd_same
      · have h2 : ¬ headsL.contains c = true := by rw [← inV_ints]; exact h2
        rw [if_neg h2] at k
        refine ⟨_, rfl, fun aH hH => ⟨aH, vis marksL, _, _, rfl, rfl, hH _, atI_nat (j := 0) rfl, _, _, rfl, rfl, ?_⟩⟩
        refine ⟨sz (by decide : 2 ≤ 100000), fun q hq => ?_⟩
        exact k _ q ((Chg.refl H).new hq) (R.chg ((Chg.refl H).new hq (S := [])) (by simp)) hq upd_same
/-! ### open_brackets -/
def spOpen (K : PySem.W.Frag) : Sp := fun vs H Q _ => ∃ (a : Addr) (l : List Int), vs = [.ref a] ∧ SqL K H a (vis l) ∧ l.length ≤ 50000 ∧ ∀ H' q, Same H H' → H q = none → H' q = some (.lst (vis (l.filter fun c => openersL.contains c))) → Q (.ref q) H'
theorem ok_open_brackets (T : Txt K mg cFault cReader cLines) : Df P w K mg base CX0 1 "open_brackets" ["waiting"] (spOpen K) := by
  refine df_mk T.d_open_brackets fun f fd F => F.ok sc_open_brackets (fun vs H Q E h => ?_) (fun cdv A outer s H vs Q E hr h => ?_)
  · obtain ⟨a, l, rfl, _⟩ := h
    rfl
  · obtain ⟨a, l, rfl, hl, hz, k⟩ := h
    refine ⟨_, (pss_one (ps_ret (pe_lc (own := [("byte", 1)]) (g := gName 1) (tt := (tTest (tOp (rIn K false) (tVar 1) (tGT K (vis openersL))))) rfl sc_open_brackets.nd (pi_list (pv 0)) (blkOk_by (N := ["waiting", "byte"]) (sc := defScope s_open_brackets) (by decide +kernel)) (fun _ _ _ _ _ => pg_name (i := 1) sc_open_brackets.nd rfl (Or.inl rfl)) (fun _ _ _ _ _ => (pts_one (pt_cmpR op_in_seq (pv 1) (pe_gt T.c_OPENERS) rfl))) (fun _ _ _ _ _ => (pv 1))))), ?_⟩
    refine ⟨_, rfl, a, rfl, ⟨_, hl⟩, fun D hD => ?_⟩
    refine lc_list (K := K) (a := a) (xs := vis l) (fun i H' => Same H H' ∧ H' D = some (.lst (vis ((l.take i).filter fun c => openersL.contains c)))) ⟨fun b o e => by rw [upd_ne (ne_of_none e hD)]; exact e, upd_same⟩ (fun i H' _ h => h.1.seq hl) ?_ ?_
    · rintro i x H1 hi ⟨s1, h1⟩
      obtain ⟨c, hc, rfl⟩ := vis_at hi
      have et : l.take (i + 1) = l.take i ++ [c] := by rw [List.take_add_one, hc]; rfl
      refine ⟨rfl, ?_⟩
      refine ⟨_, rfl, fun aD hA => ⟨aD, vis openersL, rfl, .inr (hA _), rfl, flat_ints openersL, _, rfl, ?_⟩⟩
      show if inV (.int c) (vis openersL) = true then _ else _
      rw [inV_ints]
      refine ite2 (fun h2 => ?_) (fun h2 => ?_)
      · refine ⟨_, rfl, _, h1, ?_, fun b o e => ?_, ?_⟩
        · rw [vis_len]
          have h3 : ((l.take i).filter fun c => openersL.contains c).length ≤ (l.take i).length := List.length_filter_le ..
          rw [List.length_take] at h3
          exact szl (by omega)
        · rw [upd_ne (ne_of_none e hD)]
          exact s1 b o e
        · have e2 : ([c].filter fun c => openersL.contains c) = [c] := by rw [List.filter_cons, if_pos h2]; rfl
          rw [upd_same, et, List.filter_append, e2]
          exact congrArg (fun z => some (HO.lst z)) (vis_snoc _ c).symm
      · refine ⟨s1, ?_⟩
        have e2 : ([c].filter fun c => openersL.contains c) = [] := by rw [List.filter_cons, if_neg h2]; rfl
        rw [h1, et, List.filter_append, e2, List.append_nil]
    · rintro H1 ⟨s1, h1⟩
      refine k H1 D s1 hD ?_
      rw [h1, vis_len, List.take_length]
/-! ### binds -/
def spBinds : Sp := fun vs H Q _ => ∃ c : Int, vs = [.int c] ∧ ∀ H', Same H H' → Q (.int (binds c)) H'
theorem ok_binds (T : Txt K mg cFault cReader cLines) : Df P w K mg base CX0 1 "binds" ["byte"] spBinds := by
  refine df_mk T.d_binds fun f fd F => F.ok sc_binds (fun vs H Q E h => ?_) (fun cdv A outer s H vs Q E hr h => ?_)
  · obtain ⟨c, rfl, _⟩ := h
    rfl
  · obtain ⟨c, rfl, k⟩ := h
    refine ⟨_, (pss_one (ps_ret (pe_dget2 (hu_of hr) (pe_disp (pps_cons (pe_gi T.c_TIMES) pe_int (pps_cons (pe_gi T.c_PLUS) pe_int (pps_cons (pe_gi T.c_MINUS) pe_int pps_nil))) (by rfl) (by rfl) (fun z => by cases z) (by decide)) (pv 0) pe_int ⟨rfl, rfl, rfl, rfl⟩))), ?_⟩
    intro p hp
    refine ⟨upd_same, [(.inl 42, .int 2), (.inl 43, .int 1), (.inl 45, .int 1)], rfl, (by show 3 ≤ 15; decide), ?_⟩
    refine ⟨p, rfl, .inl ⟨_, .inl upd_same⟩, _, rfl, _, DGet.k (k := Sum.inl c) upd_same, ?_⟩
    have e : (valV (mergeK [] [(.inl 42, .int 2), (.inl 43, .int 1), (.inl 45, .int 1)]) (Sum.inl c : Key)).getD (.int 0) = .int (binds c) := by
      have em : mergeK [] [((.inl 42 : Key), V.int 2), (.inl 43, .int 1), (.inl 45, .int 1)] = [(.inl 42, .int 2), (.inl 43, .int 1), (.inl 45, .int 1)] := by decide +kernel
      rw [em]
      unfold valV binds
      by_cases h1 : c = 42
      · subst h1; rfl
      · by_cases h2 : c = 43
        · subst h2; rfl
        · by_cases h3 : c = 45
          · subst h3; rfl
          · simp [List.find?, h1, h2, h3, Ne.symm h1, Ne.symm h2, Ne.symm h3]
    show Q ((valV _ (Sum.inl c : Key)).getD (.int 0)) _
    rw [e]
    refine k _ fun b o hb => ?_
    rw [upd_ne (ne_of_none hb hp), upd_ne (ne_of_none hb hp)]
    exact hb
end
end Ab
/-! ## The walk: E, its loops -/
namespace Ab
open PySem PySem.Spec PyProof.Rows L2
theorem rdOp_cons (c : Int) (b w : List Int) (p : Nat) : rdOp (c :: b) w p = if (canBegin w).contains c = true then
      (if openersL.contains c = true then rdOp b (c :: w) (p + 1) else .ok ((operand c b (p + 1)).1, w, (operand c b (p + 1)).2)) else .bad p := rfl
theorem vis_app (a b : List Int) : vis (a ++ b) = vis a ++ vis b := List.map_append
theorem mem3 {r F W x : Addr} (h : x ∈ [r, F, W]) : x = r ∨ x = F ∨ x = W := by simpa using h
theorem not3 {r F W x : Addr} (h1 : x ≠ r) (h2 : x ≠ F) (h3 : x ≠ W) : x ∉ [r, F, W] := fun h => by
  rcases mem3 h with h | h | h
  · exact h1 h
  · exact h2 h
  · exact h3 h
section
variable {P : Program} {w : World} {K : PySem.W.Frag} {mg : Str → Option Value} {base : Heap} {cFault cReader cLines : Addr}
/-! ### read_operand -/
def spRdOp (K : PySem.W.Frag) (C F : Addr) : Sp := fun vs H Q E => ∃ (X : Rdr) (fa wa : Addr) (b : List Int) (p : Nat) (vf : List V) (w : List Int), vs = [.ref X.r, .ref fa, .ref wa] ∧ RdAt K C X H b p ∧ H fa = some (.lst vf) ∧ H wa = some (.lst (stk w)) ∧ fa ≠ wa ∧
  vf.length + w.length + 2 * b.length ≤ 30000 ∧ (∀ k, rdOp b w p = .bad k → FE F E H [X.r, fa, wa] 11 k) ∧
  ∀ it w1 b1 p1, rdOp b w p = .ok (it, w1, b1, p1) → ∀ H' q, Chg [X.r, fa, wa] H H' → RdAt K C X H' b1 p1 → H' q = some (.tup [.int it.1, .int it.2]) → H' fa = some (.lst (vf ++ [.ref q])) → H' wa = some (.lst (stk w1)) → Q .non H'
theorem ok_read_operand (T : Txt K mg cFault cReader cLines) : Df P w K mg base (L2.CX P w) 6 "read_operand" ["reader", "found", "waiting"] (spRdOp K cReader cFault) := by
  refine df_mk T.d_read_operand fun f fd F => F.okX sc_read_operand (fun vs H Q E h => ?_) (fun cdv A outer s H vs Q E hr h => ?_)
  · obtain ⟨X, fa, wa, b, p, vf, wl, rfl, _⟩ := h
    rfl
  · obtain ⟨X, fa, wa, b, p, vf, wl, rfl, R, hf, hw, hfw, hsz, kE, k⟩ := h
    refine ⟨_, (pss_cons (ps_set (i := 3) sc_read_operand.nd rfl (Or.inl rfl) (pe_gi T.c_ROUND)) (pss_cons (ps_while (passes_of rfl) (pt_cmpR op_in_seq (pv 3) (pe_gt T.c_OPENERS) rfl) (pss_cons (ps_set (i := 4) sc_read_operand.nd rfl (Or.inl rfl) (pe_cmpR op_lt (pe_callB call_len_seq (by rfl) T.n_len PySem.boot_len (pa_cons (pe_df (ok_open_brackets T) (hr.mono (by decide)) pass0 (by exact (pa_cons (pv 2) pa_nil))) pa_nil)) (pe_gi T.c_MOST_BRACKETS) (nomark _))) (pss_cons (ps_set (i := 3) sc_read_operand.nd rfl (Or.inl rfl) (pe_mf (ok_Reader_next_of T) (hr.mono (by decide)) (passE (takes_of rfl rfl rfl rfl)) (pv 0) (by exact (pa_cons (pe_op op_catT (pe_op op_catT (pe_op op_catT (pe_gt T.c_DIGITS) (pe_gt T.c_HEADS)) (pe_gt T.c_MARKS)) (pe_ifExp (pt_val (pv 4)) (pe_gt T.c_OPENERS) (pe_tup pa_nil))) pa_nil)))) (pss_one (ps_if (pt_cmpR op_in_seq (pv 3) (pe_gt T.c_OPENERS) rfl) (pss_one (ps_expr (pe_bm PySem.F.plainAttrs_list PySem.F.slot_list_append PySem.F.type_list_append mt_append (pv 2) (pa_cons (pv 3) pa_nil)))) pss_nil))))) (pss_one (ps_expr (pe_bm PySem.F.plainAttrs_list PySem.F.slot_list_append PySem.F.type_list_append mt_append (pv 1) (pa_cons (pe_df (ok_operand T) (hr.mono (by decide)) (passE (takes_of rfl rfl rfl rfl)) (by exact (pa_cons (pv 0) (pa_cons (pv 3) pa_nil)))) pa_nil)))))), ?_⟩
    have nfr := R.ne hf
    have nwr := R.ne hw
    refine ⟨fun m σ H' => ∃ c b' p' w' v, σ = [some (.ref X.r), some (.ref fa), some (.ref wa), some (.int c), v] ∧ Chg [X.r, fa, wa] H H' ∧ RdAt K cReader X H' b' p' ∧ H' fa = some (.lst vf) ∧ H' wa = some (.lst (stk w')) ∧
        vf.length + w'.length + 2 * b'.length ≤ 30000 ∧ (openersL.contains c = true → rdOp b' w' p' = rdOp b wl p ∧ m = b'.length + 1) ∧ (openersL.contains c = false → rdOp b wl p = .ok ((operand c b' p').1, w', (operand c b' p').2)),
      ⟨b.length + 1, 40, b, p, wl, none, rfl, Chg.refl H, R, hf, hw, hsz, fun _ => ⟨rfl, rfl⟩, fun z => absurd z (by decide)⟩, ?_⟩
    rintro m σ H' ⟨c, b', p', w', v, rfl, ch, R', hf', hw', hsz', y1, y2⟩
    refine ⟨_, rfl, fun aO hO => ⟨aO, vis openersL, rfl, .inr (hO _), rfl, flat_ints openersL, _, rfl, ?_⟩⟩
    refine ite2 (fun h1 => ?_) (fun h1 => ?_)
    · have h1 : openersL.contains c = true := by rw [← inV_ints]; exact h1
      obtain ⟨e1, rfl⟩ := y1 h1
      refine ⟨fun σ' H2 => ∃ c2 b2 p2 w2 v2, σ' = [some (.ref X.r), some (.ref fa), some (.ref wa), some (.int c2), v2] ∧ Chg [X.r, fa, wa] H H2 ∧ RdAt K cReader X H2 b2 p2 ∧ H2 fa = some (.lst vf) ∧ H2 wa = some (.lst (stk w2)) ∧
        vf.length + w2.length + 2 * b2.length ≤ 30000 ∧ b2.length < b'.length ∧ (openersL.contains c2 = true → rdOp b2 w2 p2 = rdOp b wl p) ∧ (openersL.contains c2 = false → rdOp b wl p = .ok ((operand c2 b2 p2).1, w2, (operand c2 b2 p2).2)),
        fun σ' H2 ⟨c2, b2, p2, w2, v2, e, c3, R2, hf2, hw2, hs2, hl, z1, z2⟩ => ?_, ?_⟩
      · by_cases ho : openersL.contains c2 = true
        · exact ⟨b2.length + 1, by omega, c2, b2, p2, w2, v2, e, c3, R2, hf2, hw2, hs2, fun h => ⟨z1 h, rfl⟩, z2⟩
        · exact ⟨0, by omega, c2, b2, p2, w2, v2, e, c3, R2, hf2, hw2, hs2, fun h => absurd h ho, z2⟩
      · -- the body
        refine ⟨_, rfl, wa, w'.reverse, rfl, SqL.of hw', (by rw [List.length_reverse]; omega), fun H1 q s1 n1 hq => ?_⟩
        rw [opens_rev] at hq
        refine ⟨q, _, rfl, .inl (SqL.of hq), _, _, rfl, rfl, ?_⟩
        have hlen : (((vis (opens w').reverse).length : Nat) : Int) = (((opens w').length : Nat) : Int) := by rw [vis_len, List.length_reverse]
        have R1 : RdAt K cReader X H1 b' p' := R'.chg (S := []) (chgS s1) (by simp)
        have kb : decide ((((vis (opens w').reverse).length : Nat) : Int) < 16) = decide ((opens w').length < 16) := by
          rw [hlen]; exact decide_eq_decide.mpr (by omega)
        refine ⟨_, rfl, X.r, rfl, R1.ins, fun aD hD aH hH => ?_⟩
        -- what may begin: the four tuples together; then the byte
        have fin : ∀ a H2, Same H1 H2 → SqT K H2 a (vis (canBegin w')) → spNext K cReader cFault [.ref X.r, .ref a] H2 (fun x H3 => tIfS (tTest (tOp (rIn K false) (tVar 3) (tGT K (vis openersL)))) (tDrop (tBM K "list" rAppend (tVar 2) (tCons (tVar 3) tNil))) tNext
              { nx := fun σ' H2 => ∃ c2 b2 p2 w2 v2, σ' = [some (.ref X.r), some (.ref fa), some (.ref wa), some (.int c2), v2] ∧ Chg [X.r, fa, wa] H H2 ∧ RdAt K cReader X H2 b2 p2 ∧ H2 fa = some (.lst vf) ∧ H2 wa = some (.lst (stk w2)) ∧
                  vf.length + w2.length + 2 * b2.length ≤ 30000 ∧ b2.length < b'.length ∧ (openersL.contains c2 = true → rdOp b2 w2 p2 = rdOp b wl p) ∧ (openersL.contains c2 = false → rdOp b wl p = .ok ((operand c2 b2 p2).1, w2, (operand c2 b2 p2).2)), rt := Q }
              [some (.ref X.r), some (.ref fa), some (.ref wa), some x, some (.bl (decide ((((vis (opens w').reverse).length : Nat) : Int) < 16)))] H3) E := by
          intro a H2 s2 ha
          have c2 : Chg [X.r, fa, wa] H H2 := ch.trans ((chgS s1).trans (chgS s2))
          have R2 : RdAt K cReader X H2 b' p' := R1.chg (S := []) (chgS s2) (by simp)
          refine ⟨X, a, b', p', canBegin w', rfl, R2, .inr ha, fun kk e => ?_, fun c3 b3 p3 e H3 c4 R3 => ?_⟩
          · refine (kE kk ?_).sub c2 (by simp)
            rw [← e1]
            cases b' with
            | nil => rw [nx] at e; cases e; rfl
            | cons d b' =>
              have e : (if (canBegin w').contains d = true then Ab.R.ok (d, b', p' + 1) else Ab.R.bad p') = .bad kk := e
              rw [rdOp_cons]
              split at e
              · cases e
              · rename_i n
                cases e
                rw [if_neg n]
          · cases b' with
            | nil => rw [nx] at e; cases e
            | cons d b' =>
              have e : (if (canBegin w').contains d = true then Ab.R.ok (d, b', p' + 1) else Ab.R.bad p') = .ok (c3, b3, p3) := e
              split at e
              · rename_i hcb
                cases e
                have hf3 : H3 fa = some (.lst vf) := c4.1 _ _ (by simpa using nfr) (s2 _ _ (s1 _ _ hf'))
                have hw3 : H3 wa = some (.lst (stk w')) := c4.1 _ _ (by simpa using nwr) (s2 _ _ (s1 _ _ hw'))
                have c5 : Chg [X.r, fa, wa] H H3 := c2.trans (c4.mono (by simp))
                rw [rdOp_cons, if_pos hcb] at e1
                have lb : (c3 :: b3).length = b3.length + 1 := rfl
                refine ⟨_, rfl, fun aP hP => ⟨aP, vis openersL, rfl, .inr (hP _), rfl, flat_ints openersL, _, rfl, ?_⟩⟩
                refine ite2 (fun h2 => ?_) (fun h2 => ?_)
                · have h2 : openersL.contains c3 = true := by rw [← inV_ints]; exact h2
                  rw [if_pos h2] at e1
                  refine ⟨_, rfl, .inl ⟨rfl, _, SqL.of hw3⟩, _, rfl, wa, _, _, rfl, rfl, hw3, (by rw [stk_len]; exact szl (by omega)), ?_⟩
                  refine ⟨c3, b3, p' + 1, c3 :: w', _, rfl, c5.set (by simp) hw3 (by intro z; exact z), R3.chg ((Chg.refl H3).set (S := [wa]) (by simp) hw3 (by intro z; exact z)) (by simpa using Ne.symm nwr), ?_, ?_, ?_, by omega, fun _ => e1, fun z => absurd h2 (by rw [z]; decide)⟩
                  · rw [upd_ne hfw]; exact hf3
                  · rw [upd_same, stk_cons]
                  · show vf.length + (w'.length + 1) + 2 * b3.length ≤ 30000
                    omega
                · have h2 : openersL.contains c3 = false := Bool.eq_false_iff.mpr (fun z => h2 (by rw [← inV_ints] at z; exact z))
                  rw [if_neg (by rw [h2]; decide)] at e1
                  exact ⟨c3, b3, p' + 1, w', _, rfl, c5, R3, hf3, hw3, by omega, by omega, fun z => absurd z (by rw [h2]; decide), fun _ => e1.symm⟩
              · cases e
        refine ⟨aD, aH, vis digitsL, vis headsL, rfl, rfl, hD _, hH _, (fun z => by cases z), sz (by decide), (fun z => by cases z), fun _ p1 hp1 aM hM => ?_⟩
        refine ⟨p1, aM, vis digitsL ++ vis headsL, vis marksL, rfl, rfl, SqT.of upd_same, hM _, (fun z => by cases z), sz (by decide), (fun z => by cases z), fun _ p2 hp2 => ?_⟩
        have t1 : Same H1 (upd H1 p1 (.tup (vis digitsL ++ vis headsL))) := fun b o e => by rw [upd_ne (ne_of_none e hp1)]; exact e
        have t2 : Same H1 (upd (upd H1 p1 (.tup (vis digitsL ++ vis headsL))) p2 (.tup (vis digitsL ++ vis headsL ++ vis marksL))) := fun b o e => by rw [upd_ne (ne_of_none (t1 b o e) hp2)]; exact t1 b o e
        refine ⟨_, rfl, _, rfl, ?_⟩
        refine ite2 (fun cc => ?_) (fun cc => ?_)
        · intro aO hO
          rw [kb] at cc
          refine ⟨p2, aO, vis digitsL ++ vis headsL ++ vis marksL, vis openersL, rfl, rfl, SqT.of upd_same, hO _, (fun z => by cases z), sz (by decide), (fun z => by cases z), fun _ p3 hp3 => ?_⟩
          refine fin p3 _ (fun b o e => by rw [upd_ne (ne_of_none (t2 b o e) hp3)]; exact t2 b o e) ?_
          unfold canBegin
          rw [if_pos (of_decide_eq_true cc)]
          exact SqT.of (by rw [upd_same, vis_app, vis_app, vis_app])
        · rw [kb] at cc
          refine ⟨Nat.zero_le _, fun p3 hp3 => ?_⟩
          have n23 : p2 ≠ p3 := fun z => by
            rw [← z, upd_same] at hp3
            cases hp3
          refine ⟨p2, p3, vis digitsL ++ vis headsL ++ vis marksL, [], rfl, rfl, SqT.of (by rw [upd_ne n23, upd_same]), SqT.of upd_same, (fun z => by cases z), sz (by decide), fun _ => ?_, fun z => absurd rfl z⟩
          refine fin p2 _ (fun b o e => by rw [upd_ne (ne_of_none (t2 b o e) hp3)]; exact t2 b o e) ?_
          unfold canBegin
          rw [if_neg (fun z => cc (decide_eq_true z)), List.append_nil]
          exact SqT.of (by rw [upd_ne n23, upd_same, vis_app, vis_app])
    · -- behind the loop
      have h1 : openersL.contains c = false := Bool.eq_false_iff.mpr (fun z => h1 (by rw [← inV_ints] at z; exact z))
      have e1 := y2 h1
      refine ⟨_, rfl, .inl ⟨rfl, _, SqL.of hf'⟩, _, rfl, _, rfl, X, c, b', p', rfl, R', fun H2 q c2 R2 nq hq => ?_⟩
      have hf2 : H2 fa = some (.lst vf) := c2.1 _ _ (by simpa using nfr) hf'
      have hw2 : H2 wa = some (.lst (stk w')) := c2.1 _ _ (by simpa using nwr) hw'
      have c3 : Chg [X.r, fa, wa] H H2 := ch.trans (c2.mono (by simp))
      refine ⟨fa, _, _, rfl, rfl, hf2, szl (by omega), ?_⟩
      refine k _ _ _ _ e1 _ q (c3.set (by simp) hf2 (by intro z; exact z)) (R2.chg ((Chg.refl H2).set (S := [fa]) (by simp) hf2 (by intro z; exact z)) (by simpa using Ne.symm nfr)) ?_ upd_same ?_
      · rw [upd_ne (fun z => by rw [z, hf2] at hq; cases hq)]; exact hq
      · rw [upd_ne (Ne.symm hfw)]; exact hw2
/-! ### close -/
def spClose (K : PySem.W.Frag) : Sp := fun vs H Q _ => ∃ (fa wa : Addr) (vf : List V) (fd : Items) (w : List Int), vs = [.ref fa, .ref wa] ∧ H fa = some (.lst vf) ∧ Its K H vf fd ∧ H wa = some (.lst (stk w)) ∧ fa ≠ wa ∧ vf.length + w.length ≤ 40000 ∧ opens w ≠ [] ∧
  ∀ H' vf', Chg [fa, wa] H H' → H' fa = some (.lst vf') → Its K H' vf' (clos fd w).1 → H' wa = some (.lst (stk (clos fd w).2)) → Q .non H'
theorem clos_cons (fd : Items) (c : Int) (w : List Int) : clos fd (c :: w) = if openersL.contains c = true then (if c = 91 then fd ++ [(3, 0)] else fd, w) else clos (fd ++ [(c, 0)]) w := rfl
theorem opens_cons (c : Int) (w : List Int) : opens (c :: w) = if openersL.contains c = true then c :: opens w else opens w := List.filter_cons
theorem ok_close (T : Txt K mg cFault cReader cLines) : Df P w K mg base CX0 1 "close" ["found", "waiting"] (spClose K) := by
  refine df_mk T.d_close fun f fd F => F.ok sc_close (fun vs H Q E h => ?_) (fun cdv A outer s H vs Q E hr h => ?_)
  · obtain ⟨fa, wa, vf, fd, wl, rfl, _⟩ := h
    rfl
  · obtain ⟨fa, wa, vf, fd, wl, rfl, hf, hi, hw, hfw, hsz, ho, k⟩ := h
    refine ⟨_, (pss_cons (ps_set (i := 2) sc_close.nd rfl (Or.inl rfl) (pe_bm0 PySem.F.plainAttrs_list PySem.F.slot_list_pop PySem.F.type_list_pop mt_pop (pv 1))) (pss_cons (ps_while PassesOwn.never (pt_cmpR op_notIn_seq (pv 2) (pe_gt T.c_OPENERS) rfl) (pss_cons (ps_expr (pe_bm PySem.F.plainAttrs_list PySem.F.slot_list_append PySem.F.type_list_append mt_append (pv 0) (pa_cons (pe_tup (pa_cons (pv 2) (pa_cons pe_int pa_nil))) pa_nil))) (pss_one (ps_set (i := 2) sc_close.nd rfl (Or.inl rfl) (pe_bm0 PySem.F.plainAttrs_list PySem.F.slot_list_pop PySem.F.type_list_pop mt_pop (pv 1)))))) (pss_one (ps_if (pt_cmpR op_eq (pv 2) (pe_gi T.c_SQUARE) (nomark _)) (pss_one (ps_expr (pe_bm PySem.F.plainAttrs_list PySem.F.slot_list_append PySem.F.type_list_append mt_append (pv 0) (pa_cons (pe_tup (pa_cons (pe_gi T.c_DIGIT) (pa_cons pe_int pa_nil))) pa_nil)))) pss_nil)))), ?_⟩
    cases wl with
    | nil => exact absurd rfl ho
    | cons c wl =>
      refine ⟨_, rfl, .inl ⟨rfl, _, SqL.of hw⟩, wa, _, _, rfl, rfl, hw, stk_last c wl, ?_⟩
      rw [stk_drop]
      have lw : (c :: wl).length = wl.length + 1 := rfl
      refine ⟨fun m σ H' => ∃ c' w' vf' fd', σ = [some (.ref fa), some (.ref wa), some (.int c')] ∧ Chg [fa, wa] H H' ∧ H' fa = some (.lst vf') ∧ Its K H' vf' fd' ∧ H' wa = some (.lst (stk w')) ∧ vf'.length + w'.length ≤ 40000 ∧ opens (c' :: w') ≠ [] ∧ clos fd' (c' :: w') = clos fd (c :: wl) ∧ m = w'.length,
        ⟨_, c, wl, vf, fd, rfl, (Chg.refl H).set (by simp) hw (by intro z; exact z), by rw [upd_ne hfw]; exact hf, hi.chg ((Chg.refl H).set (S := [wa]) (by simp) hw (by intro z; exact z)), upd_same, by omega, ho, rfl, rfl⟩, ?_⟩
      rintro m σ H' ⟨c', w', vf', fd', rfl, ch, hf', hi', hw', hsz', ho', e1, rfl⟩
      refine ⟨_, rfl, fun aO hO => ⟨aO, vis openersL, rfl, .inr (hO _), rfl, flat_ints openersL, _, rfl, ?_⟩⟩
      have hneg : (if true = true then !inV (.int c') (vis openersL) else inV (.int c') (vis openersL)) = !openersL.contains c' := by
        rw [if_pos rfl, inV_ints]
      show if (if true = true then !inV (.int c') (vis openersL) else inV (.int c') (vis openersL)) = true then _ else _
      rw [hneg]
      cases hc : openersL.contains c' with
      | false =>
        rw [clos_cons, if_neg (by rw [hc]; decide)] at e1
        rw [opens_cons, if_neg (by rw [hc]; decide)] at ho'
        refine ite2 (fun _ => ?_) (fun n => absurd rfl n)
        refine ⟨fun σ' H2 => ∃ c2 w2 vf2 fd2, σ' = [some (.ref fa), some (.ref wa), some (.int c2)] ∧ Chg [fa, wa] H H2 ∧ H2 fa = some (.lst vf2) ∧ Its K H2 vf2 fd2 ∧ H2 wa = some (.lst (stk w2)) ∧ vf2.length + w2.length ≤ 40000 ∧ opens (c2 :: w2) ≠ [] ∧ clos fd2 (c2 :: w2) = clos fd (c :: wl) ∧ w2.length < w'.length,
          fun σ' H2 ⟨c2, w2, vf2, fd2, a1, a2, a3, a4, a5, a6, a7, a8, a9⟩ => ⟨w2.length, a9, c2, w2, vf2, fd2, a1, a2, a3, a4, a5, a6, a7, a8, rfl⟩, ?_⟩
        refine ⟨_, rfl, .inl ⟨rfl, _, SqL.of hf'⟩, _, rfl, sz (show 2 ≤ 100000 by decide), fun q hq => ?_⟩
        have nfq : fa ≠ q := fun z => by rw [z, hq] at hf'; cases hf'
        have nwq : wa ≠ q := fun z => by rw [z, hq] at hw'; cases hw'
        refine ⟨fa, _, _, rfl, rfl, by rw [upd_ne nfq]; exact hf', szl (by omega), ?_⟩
        cases w' with
        | nil => exact absurd rfl ho'
        | cons d w' =>
          have c2 : Chg [fa, wa] H (upd (upd H' q (.tup [.int c', .int 0])) fa (.lst (vf' ++ [.ref q]))) := (ch.new hq).set (by simp) (by rw [upd_ne nfq]; exact hf') (by intro z; exact z)
          have hw2 : (upd (upd H' q (.tup [.int c', .int 0])) fa (.lst (vf' ++ [.ref q]))) wa = some (.lst (stk (d :: w'))) := by rw [upd_ne (Ne.symm hfw), upd_ne nwq]; exact hw'
          have hi2 : Its K (upd (upd H' q (.tup [.int c', .int 0])) fa (.lst (vf' ++ [.ref q]))) (vf' ++ [.ref q]) (fd' ++ [(c', 0)]) :=
            (hi'.chg (S := [fa]) (((Chg.refl H').new hq).set (by simp) (by rw [upd_ne nfq]; exact hf') (by intro z; exact z))).snoc (SqT.of (by rw [upd_ne (Ne.symm nfq), upd_same]))
          refine ⟨_, rfl, .inl ⟨rfl, _, SqL.of hw2⟩, wa, _, _, rfl, rfl, hw2, stk_last d w', ?_⟩
          rw [stk_drop]
          have l1 : (d :: w').length = w'.length + 1 := rfl
          refine ⟨d, w', _, _, rfl, c2.set (by simp) hw2 (by intro z; exact z), by rw [upd_ne hfw, upd_same], hi2.chg ((Chg.refl _).set (S := [wa]) (by simp) hw2 (by intro z; exact z)), upd_same, ?_, ho', e1, by omega⟩
          rw [List.length_append, List.length_singleton]
          omega
      | true =>
        rw [clos_cons, if_pos hc] at e1
        refine ite2 (fun n => absurd n (by decide)) (fun _ => ?_)
        refine ⟨_, rfl, rfl, _, rfl, ?_⟩
        rw [← e1] at k
        by_cases h91 : c' = 91
        · rw [if_pos h91] at k
          refine ite2 (fun _ => ?_) (fun n => absurd (decide_eq_true (by rw [h91])) n)
          refine ⟨_, rfl, .inl ⟨rfl, _, SqL.of hf'⟩, sz (show 2 ≤ 100000 by decide), fun q hq => ?_⟩
          have nfq : fa ≠ q := fun z => by rw [z, hq] at hf'; cases hf'
          have nwq : wa ≠ q := fun z => by rw [z, hq] at hw'; cases hw'
          refine ⟨fa, _, _, rfl, rfl, by rw [upd_ne nfq]; exact hf', szl (by omega), ?_⟩
          refine k _ _ ((ch.new hq).set (by simp) (by rw [upd_ne nfq]; exact hf') (by intro z; exact z)) upd_same ?_ (by rw [upd_ne (Ne.symm hfw), upd_ne nwq]; exact hw')
          exact (hi'.chg (S := [fa]) (((Chg.refl H').new hq).set (by simp) (by rw [upd_ne nfq]; exact hf') (by intro z; exact z))).snoc (SqT.of (by rw [upd_ne (Ne.symm nfq), upd_same]))
        · rw [if_neg h91] at k
          refine ite2 (fun n => absurd (V.int.inj (of_decide_eq_true n)) h91) (fun _ => ?_)
          exact k _ _ ch hf' hi' hw'
/-! ### read_operator -/
def spRdOr (K : PySem.W.Frag) (C F : Addr) : Sp := fun vs H Q E => ∃ (X : Rdr) (fa wa : Addr) (b : List Int) (p : Nat) (vf : List V) (fd : Items) (w : List Int), vs = [.ref X.r, .ref fa, .ref wa] ∧ RdAt K C X H b p ∧ H fa = some (.lst vf) ∧ Its K H vf fd ∧ H wa = some (.lst (stk w)) ∧ fa ≠ wa ∧
  vf.length + w.length ≤ 40000 ∧ (∀ k, rdOr b fd w p = .bad k → FE F E H [X.r, fa, wa] 11 k) ∧
  ∀ fd1 w1 b1 p1, rdOr b fd w p = .ok (fd1, w1, b1, p1) → ∀ H' vf', Chg [X.r, fa, wa] H H' → RdAt K C X H' b1 p1 → H' fa = some (.lst vf') → Its K H' vf' fd1 → H' wa = some (.lst (stk w1)) → Q .non H'
theorem ok_read_operator (T : Txt K mg cFault cReader cLines) : Df P w K mg base (L2.CX P w) 4 "read_operator" ["reader", "found", "waiting"] (spRdOr K cReader cFault) := by
  refine df_mk T.d_read_operator fun f fd F => F.okX sc_read_operator (fun vs H Q E h => ?_) (fun cdv A outer s H vs Q E hr h => ?_)
  · obtain ⟨X, fa, wa, b, p, vf, fd, wl, rfl, _⟩ := h
    rfl
  · obtain ⟨X, fa, wa, b, p, vf, fd, wl, rfl, R, hf, hi, hw, hfw, hsz, kE, k⟩ := h
    refine ⟨_, (pss_cons (ps_set (i := 3) sc_read_operator.nd rfl (Or.inl rfl) (pe_mf (ok_Reader_next_of T) (hr.mono (by decide)) (passE (takes_of rfl rfl rfl rfl)) (pv 0) (by exact (pa_cons (pe_gt T.c_OPERATORS) pa_nil)))) (pss_cons (ps_while (passes_of rfl) (PW.pt (pw_and (pt_cmpR (op_neE hr.units0) (pv 2) (pe_lst pa_nil) (nomark _)) (pw_and1 (pt_cmpR op_ge (pe_df (ok_binds T) (hr.mono (by decide)) pass0 (by exact (pa_cons (pe_ix ix_list (pv 2) (pe_un un_neg pe_int) (fun _ _ => rfl)) pa_nil))) (pe_df (ok_binds T) (hr.mono (by decide)) pass0 (by exact (pa_cons (pv 3) pa_nil))) (nomark _))))) (pss_one (ps_expr (pe_bm PySem.F.plainAttrs_list PySem.F.slot_list_append PySem.F.type_list_append mt_append (pv 1) (pa_cons (pe_tup (pa_cons (pe_bm0 PySem.F.plainAttrs_list PySem.F.slot_list_pop PySem.F.type_list_pop mt_pop (pv 2)) (pa_cons pe_int pa_nil))) pa_nil))))) (pss_one (ps_expr (pe_bm PySem.F.plainAttrs_list PySem.F.slot_list_append PySem.F.type_list_append mt_append (pv 2) (pa_cons (pv 3) pa_nil)))))), ?_⟩
    have nfr := R.ne hf
    have nwr := R.ne hw
    refine ⟨_, rfl, X.r, rfl, R.ins, fun aP hP => ⟨X, aP, b, p, opsL, rfl, R, .inr (hP _), fun kk e => ?_, fun y b1 p1 e H1 c1 R1 => ?_⟩⟩
    · refine (kE kk ?_).sub (Chg.refl H) (by simp)
      unfold rdOr
      rw [e]
    · have e1 : rdOr b fd wl p = .ok ((unw y fd wl).1, y :: (unw y fd wl).2, b1, p1) := by
        unfold rdOr
        rw [e]
      have k := k _ _ _ _ e1
      have ch1 : Chg [X.r, fa, wa] H H1 := c1.mono (by simp)
      refine ⟨fun m σ H' => ∃ w' vf' fd', σ = [some (.ref X.r), some (.ref fa), some (.ref wa), some (.int y)] ∧ Chg [X.r, fa, wa] H H' ∧ RdAt K cReader X H' b1 p1 ∧ H' fa = some (.lst vf') ∧ Its K H' vf' fd' ∧ H' wa = some (.lst (stk w')) ∧ vf'.length + w'.length ≤ 40000 ∧ unw y fd' w' = unw y fd wl ∧ m = w'.length,
        ⟨_, wl, vf, fd, rfl, ch1, R1, c1.1 _ _ (by simpa using nfr) hf, hi.chg c1, c1.1 _ _ (by simpa using nwr) hw, hsz, rfl, rfl⟩, ?_⟩
      rintro m σ H' ⟨w', vf', fd', rfl, ch, R', hf', hi', hw', hsz', e2, rfl⟩
      have out : ∀ H2, Same H' H2 → unw y fd' w' = (fd', w') → tDrop (tBM K "list" rAppend (tVar 2) (tCons (tVar 3) tNil)) { nx := fun _ H' => Q .non H', rt := Q } [some (.ref X.r), some (.ref fa), some (.ref wa), some (.int y)] H2 := by
        intro H2 s2 e3
        have hf2 := s2 _ _ hf'
        have hw2 := s2 _ _ hw'
        rw [← e2, e3] at k
        refine ⟨_, rfl, .inl ⟨rfl, _, SqL.of hw2⟩, _, rfl, wa, _, _, rfl, rfl, hw2, (by rw [stk_len]; exact szl (by omega)), ?_⟩
        have cW : Chg [wa] H2 (upd H2 wa (.lst (stk w' ++ [.int y]))) := (Chg.refl H2).set (by simp) hw2 (by intro z; exact z)
        refine k _ vf' ((ch.trans (chgS s2)).trans (cW.mono (by simp))) ((R'.chg (S := []) (chgS s2) (by simp)).chg cW (by simpa using Ne.symm nwr)) (by rw [upd_ne hfw]; exact hf2) ((hi'.chg (S := []) (chgS s2)).chg cW) (by rw [upd_same, stk_cons])
      refine ⟨_, rfl, Nat.zero_le _, fun q0 hq0 => ?_⟩
      have s0 : Same H' (upd H' q0 (.lst [])) := fun b o e => by rw [upd_ne (ne_of_none e hq0)]; exact e
      refine ⟨wa, q0, stk w', rfl, rfl, SqL.of (s0 _ _ hw'), SqL.of upd_same, _, rfl, ?_⟩
      cases w' with
      | nil =>
        refine ite2 (fun n => absurd n (by decide)) (fun _ => ?_)
        exact out _ s0 rfl
      | cons c w' =>
        have hemp : (!(stk (c :: w')).isEmpty) = true := by rw [stk_cons]; simp
        refine ite2 (fun _ => ?_) (fun n => absurd hemp n)
        have hat : atI (stk (c :: w')) (-1) = some (.int c) := by rw [stk_cons]; exact atI_last _ _
        refine ⟨_, rfl, _, rfl, wa, _, _, _, rfl, rfl, SqL.of (s0 _ _ hw'), hat, c, rfl, fun H1 s1 => ?_⟩
        refine ⟨_, rfl, y, rfl, fun H2 s2 => ⟨_, _, rfl, rfl, _, rfl, ?_⟩⟩
        have s3 : Same H' H2 := s0.trans (s1.trans s2)
        have hu : unw y fd' (c :: w') = if binds y ≤ binds c then unw y (fd' ++ [(c, 0)]) w' else (fd', c :: w') := rfl
        refine ite2 (fun h2 => ?_) (fun h2 => ?_)
        · have h2 : binds y ≤ binds c := of_decide_eq_true h2
          rw [hu, if_pos h2] at e2
          have lw : (c :: w').length = w'.length + 1 := rfl
          refine ⟨fun σ' H2 => ∃ w2 vf2 fd2, σ' = [some (.ref X.r), some (.ref fa), some (.ref wa), some (.int y)] ∧ Chg [X.r, fa, wa] H H2 ∧ RdAt K cReader X H2 b1 p1 ∧ H2 fa = some (.lst vf2) ∧ Its K H2 vf2 fd2 ∧ H2 wa = some (.lst (stk w2)) ∧ vf2.length + w2.length ≤ 40000 ∧ unw y fd2 w2 = unw y fd wl ∧ w2.length < (c :: w').length,
            fun σ' H2 ⟨w2, vf2, fd2, a1, a2, a3, a4, a5, a6, a7, a8, a9⟩ => ⟨w2.length, a9, w2, vf2, fd2, a1, a2, a3, a4, a5, a6, a7, a8, rfl⟩, ?_⟩
          have hf2 := s3 _ _ hf'
          have hw2 := s3 _ _ hw'
          refine ⟨_, rfl, .inl ⟨rfl, _, SqL.of hf2⟩, _, rfl, .inl ⟨rfl, _, SqL.of hw2⟩, wa, _, _, rfl, rfl, hw2, stk_last c w', ?_⟩
          rw [stk_drop]
          refine ⟨sz (show 2 ≤ 100000 by decide), fun q hq => ?_⟩
          have hf3 : (upd H2 wa (.lst (stk w'))) fa = some (.lst vf') := by rw [upd_ne hfw]; exact hf2
          have nfq : fa ≠ q := fun z => by rw [z, hq] at hf3; cases hf3
          have nwq : wa ≠ q := fun z => by
            rw [← z, upd_same] at hq
            cases hq
          have cW : Chg [wa] H2 (upd H2 wa (.lst (stk w'))) := (Chg.refl H2).set (by simp) hw2 (by intro z; exact z)
          refine ⟨fa, _, _, rfl, rfl, by rw [upd_ne nfq]; exact hf3, szl (by omega), ?_⟩
          have cF : Chg [X.r, fa, wa] H2 (upd (upd (upd H2 wa (.lst (stk w'))) q (.tup [.int c, .int 0])) fa (.lst (vf' ++ [.ref q]))) := ((cW.mono (by simp)).new hq).set (by simp) (by rw [upd_ne nfq]; exact hf3) (by intro z; exact z)
          have cF2 : Chg [fa, wa] H2 (upd (upd (upd H2 wa (.lst (stk w'))) q (.tup [.int c, .int 0])) fa (.lst (vf' ++ [.ref q]))) := ((cW.mono (by simp)).new hq).set (by simp) (by rw [upd_ne nfq]; exact hf3) (by intro z; exact z)
          refine ⟨w', _, _, rfl, ch.trans ((chgS s3).trans cF), (R'.chg (S := []) (chgS s3) (by simp)).chg cF2 (by simp; exact ⟨Ne.symm nfr, Ne.symm nwr⟩), upd_same, ((hi'.chg (S := []) (chgS s3)).chg cF2).snoc (SqT.of (by rw [upd_ne (Ne.symm nfq), upd_same])), by rw [upd_ne (Ne.symm hfw), upd_ne nwq, upd_same], ?_, e2, by omega⟩
          rw [List.length_append, List.length_singleton]
          omega
        · have h2 : ¬ binds y ≤ binds c := fun z => h2 (decide_eq_true z)
          exact out _ s3 (by rw [hu, if_neg h2])
end
end Ab
/-! ## The walk: E as a whole; tests -/
namespace Ab
open PySem PySem.Spec PyProof.Rows L2
theorem rdCl_cons (c : Int) (b : List Int) (fd : Items) (w : List Int) (p : Nat) : rdCl (c :: b) fd w p = match (opens w).head? with
    | none => (fd, w, c :: b, p)
    | some o => if c = closer o then rdCl b (clos fd w).1 (clos fd w).2 (p + 1) else (fd, w, c :: b, p) := rfl
theorem opens_op {w : List Int} {o : Int} (h : o ∈ opens w) : openersL.contains o = true := by
  have := (List.mem_filter.mp h).2
  exact this
theorem closers_at {o : Int} (h : openersL.contains o = true) : ([(40, 41), (91, 93)] : List (Int × Int)).lookup o = some (closer o) := by
  have m : o ∈ openersL := by simpa using h
  have : o = 40 ∨ o = 91 := by simpa [openersL] using m
  rcases this with e | e <;> subst e <;> decide
theorem clos_sz : ∀ (w : List Int) (fd : Items), opens w ≠ [] → (clos fd w).1.length + (clos fd w).2.length ≤ fd.length + w.length
  | [], fd, h => absurd rfl h
  | c :: w, fd, h => by
    rw [clos]
    have l1 : (c :: w).length = w.length + 1 := rfl
    by_cases ho : openersL.contains c = true
    · rw [if_pos ho]
      by_cases h9 : c = 91
      · rw [if_pos h9]
        show (fd ++ [(3, 0)]).length + w.length ≤ _
        rw [List.length_append, List.length_singleton]
        omega
      · rw [if_neg h9]
        show fd.length + w.length ≤ _
        omega
    · rw [if_neg ho]
      rw [opens_cons, if_neg ho] at h
      have ih := clos_sz w (fd ++ [(c, 0)]) h
      rw [List.length_append, List.length_singleton] at ih
      omega
theorem unw_sz (y : Int) : ∀ (w : List Int) (fd : Items), (unw y fd w).1.length + (unw y fd w).2.length = fd.length + w.length
  | [], fd => rfl
  | c :: w, fd => by
    rw [unw]
    have l1 : (c :: w).length = w.length + 1 := rfl
    split
    · have ih := unw_sz y w (fd ++ [(c, 0)])
      rw [List.length_append, List.length_singleton] at ih
      omega
    · rfl
theorem num_b : ∀ (f : Nat) (n : Int) (b : List Int) (p : Nat), (num f n b p).2.1.length ≤ b.length := num_len
theorem rdOp_sz : ∀ {b w : List Int} {p : Nat} {it : Int × Int} {w1 b1 : List Int} {p1 : Nat}, rdOp b w p = .ok (it, w1, b1, p1) → w1.length + 1 + 2 * b1.length ≤ w.length + 2 * b.length
  | [], w, p, it, w1, b1, p1, h => by cases h
  | c :: b, w, p, it, w1, b1, p1, h => by
    rw [rdOp_cons] at h
    have l1 : (c :: b).length = b.length + 1 := rfl
    have l2 : (c :: w).length = w.length + 1 := rfl
    split at h
    · split at h
      · have := rdOp_sz h
        omega
      · have hl := operand_len c b (p + 1)
        have e := R.ok.inj h
        have e1 : w = w1 := congrArg (fun z => z.2.1) e
        have e2 : (operand c b (p + 1)).2.1 = b1 := congrArg (fun z => z.2.2.1) e
        rw [e2] at hl
        subst e1
        omega
    · cases h
theorem rdCl_sz : ∀ (b : List Int) (fd : Items) (w : List Int) (p : Nat), (rdCl b fd w p).1.length + (rdCl b fd w p).2.1.length + 2 * (rdCl b fd w p).2.2.1.length ≤ fd.length + w.length + 2 * b.length
  | [], fd, w, p => Nat.le_refl _
  | c :: b, fd, w, p => by
    rw [rdCl_cons]
    have l1 : (c :: b).length = b.length + 1 := rfl
    cases ho : (opens w).head? with
    | none => exact Nat.le_refl _
    | some o =>
      dsimp only
      split
      · have ih := rdCl_sz b (clos fd w).1 (clos fd w).2 (p + 1)
        have hc := clos_sz w fd (by intro z; rw [z] at ho; cases ho)
        omega
      · exact Nat.le_refl _
theorem rdOr_sz {b : List Int} {fd : Items} {w : List Int} {p : Nat} {fd1 : Items} {w1 b1 : List Int} {p1 : Nat} (h : rdOr b fd w p = .ok (fd1, w1, b1, p1)) : fd1.length + w1.length + 2 * b1.length + 1 ≤ fd.length + w.length + 2 * b.length := by
  obtain ⟨c, e, e1, e2⟩ := rdOr_ok h
  obtain ⟨e3, _, _⟩ := nx_ok e
  have := unw_sz c w fd
  subst e1 e2 e3
  have l1 : (c :: b1).length = b1.length + 1 := rfl
  have l2 : (c :: (unw c fd w).2).length = (unw c fd w).2.length + 1 := rfl
  omega
section
variable {P : Program} {w : World} {K : PySem.W.Frag} {mg : Str → Option Value} {base : Heap} {cFault cReader cLines : Addr}
/-! ### read_closers -/
def spRdCl (K : PySem.W.Frag) (C F : Addr) : Sp := fun vs H Q E => ∃ (X : Rdr) (fa wa : Addr) (b : List Int) (p : Nat) (vf : List V) (fd : Items) (w : List Int), vs = [.ref X.r, .ref fa, .ref wa] ∧ RdAt K C X H b p ∧ H fa = some (.lst vf) ∧ Its K H vf fd ∧ H wa = some (.lst (stk w)) ∧ fa ≠ wa ∧
  fd.length + w.length + 2 * b.length ≤ 30000 ∧
  ∀ H' vf', Chg [X.r, fa, wa] H H' → RdAt K C X H' (rdCl b fd w p).2.2.1 (rdCl b fd w p).2.2.2 → H' fa = some (.lst vf') → Its K H' vf' (rdCl b fd w p).1 → H' wa = some (.lst (stk (rdCl b fd w p).2.1)) → Q .non H'
theorem ok_read_closers (T : Txt K mg cFault cReader cLines) : Df P w K mg base (L2.CX P w) 4 "read_closers" ["reader", "found", "waiting"] (spRdCl K cReader cFault) := by
  refine df_mk T.d_read_closers fun f fd F => F.okX sc_read_closers (fun vs H Q E h => ?_) (fun cdv A outer s H vs Q E hr h => ?_)
  · obtain ⟨X, fa, wa, b, p, vf, fd, wl, rfl, _⟩ := h
    rfl
  · obtain ⟨X, fa, wa, b, p, vf, fd, wl, rfl, R, hf, hi, hw, hfw, hsz, k⟩ := h
    refine ⟨_, (pss_cons (ps_set (i := 3) sc_read_closers.nd rfl (Or.inl rfl) (pe_df (ok_open_brackets T) (hr.mono (by decide)) pass0 (by exact (pa_cons (pv 2) pa_nil)))) (pss_one (ps_while (passes_of rfl) (PW.pt (pw_and (pt_cmpR (op_neE hr.units0) (pv 3) (pe_lst pa_nil) (nomark _)) (pw_and1 (pt_val (pe_mf (ok_Reader_sees T) (hr.mono (by decide)) pass0 (pv 0) (by exact (pa_cons (pe_lst (pa_cons (pe_ix ix_kint (pe_gk T.c_CLOSERS) (pe_ix ix_list (pv 3) (pe_un un_neg pe_int) (fun _ _ => rfl)) (fun _ _ => rfl)) pa_nil)) pa_nil))))))) (pss_cons (ps_expr (pe_mf (ok_Reader_next_of T) (hr.mono (by decide)) (passE (takes_of rfl rfl rfl rfl)) (pv 0) (by exact (pa_cons (pe_lst (pa_cons (pe_ix ix_kint (pe_gk T.c_CLOSERS) (pe_ix ix_list (pv 3) (pe_un un_neg pe_int) (fun _ _ => rfl)) (fun _ _ => rfl)) pa_nil)) pa_nil)))) (pss_cons (ps_expr (pe_df (ok_close T) (hr.mono (by decide)) pass0 (by exact (pa_cons (pv 1) (pa_cons (pv 2) pa_nil))))) (pss_one (ps_set (i := 3) sc_read_closers.nd rfl (Or.inl rfl) (pe_df (ok_open_brackets T) (hr.mono (by decide)) pass0 (by exact (pa_cons (pv 2) pa_nil)))))))))), ?_⟩
    have nfr := R.ne hf
    have nwr := R.ne hw
    refine ⟨_, rfl, wa, wl.reverse, rfl, SqL.of hw, (by rw [List.length_reverse]; omega), fun H0 i s0 ni hi0 => ?_⟩
    rw [opens_rev] at hi0
    refine ⟨fun m σ H' => ∃ b' p' w' vf' fd' i, σ = [some (.ref X.r), some (.ref fa), some (.ref wa), some (.ref i)] ∧ Chg [X.r, fa, wa] H H' ∧ RdAt K cReader X H' b' p' ∧ H' fa = some (.lst vf') ∧ Its K H' vf' fd' ∧ H' wa = some (.lst (stk w')) ∧ H' i = some (.lst (vis (opens w').reverse)) ∧
        fd'.length + w'.length + 2 * b'.length ≤ 30000 ∧ rdCl b' fd' w' p' = rdCl b fd wl p ∧ m = b'.length,
      ⟨_, b, p, wl, vf, fd, i, rfl, chgS s0, R.chg (S := []) (chgS s0) (by simp), s0 _ _ hf, hi.chg (S := []) (chgS s0), s0 _ _ hw, hi0, hsz, rfl, rfl⟩, ?_⟩
    rintro m σ H' ⟨b', p', w', vf', fd', j, rfl, ch, R', hf', hi', hw', hj, hsz', e1, rfl⟩
    have out : ∀ H2, Same H' H2 → rdCl b' fd' w' p' = (fd', w', b', p') → Q .non H2 := by
      intro H2 s2 e
      have k := k H2 vf'
      rw [← e1, e] at k
      exact k (ch.trans (chgS s2)) (R'.chg (S := []) (chgS s2) (by simp)) (s2 _ _ hf') (hi'.chg (S := []) (chgS s2)) (s2 _ _ hw')
    refine ⟨_, rfl, Nat.zero_le _, fun q0 hq0 => ?_⟩
    have t0 : Same H' (upd H' q0 (.lst [])) := fun b o e => by rw [upd_ne (ne_of_none e hq0)]; exact e
    refine ⟨j, q0, _, rfl, rfl, SqL.of (t0 _ _ hj), SqL.of upd_same, _, rfl, ?_⟩
    cases ho : opens w' with
    | nil =>
      refine ite2 (fun n => absurd n (by decide)) (fun _ => ?_)
      refine out _ t0 ?_
      cases b' with
      | nil => rfl
      | cons c b' => rw [rdCl_cons, ho]; rfl
    | cons o r =>
      rw [ho] at hj
      have hov : openersL.contains o = true := opens_op (w := w') (by rw [ho]; exact List.mem_cons_self ..)
      have erev : vis (o :: r).reverse = vis r.reverse ++ [.int o] := by simp
      have hat : atI (vis (o :: r).reverse) (-1) = some (.int o) := by rw [erev]; exact atI_last _ _
      refine ite2 (fun _ => ?_) (fun n => absurd (by rw [erev]; simp) n)
      have R0 := R'.chg (S := []) (chgS t0) (by simp)
      refine ⟨_, rfl, X.r, rfl, R0.ins, fun aC hC => ?_⟩
      refine ⟨_, rfl, 1, rfl, j, _, _, _, rfl, rfl, SqL.of (t0 _ _ hj), hat, aC, _, _, _, rfl, rfl, hC, closers_at hov, sz (show 1 ≤ 100000 by decide), fun q1 hq1 => ?_⟩
      have t1 : Same H' (upd (upd H' q0 (.lst [])) q1 (.lst [.int (closer o)])) := fun b o e => by rw [upd_ne (ne_of_none (t0 _ _ e) hq1)]; exact t0 _ _ e
      have R1 := R'.chg (S := []) (chgS t1) (by simp)
      refine ⟨X, q1, b', p', [closer o], rfl, R1, .inl (SqL.of upd_same), _, rfl, ?_⟩
      refine ite2 (fun h3 => ?_) (fun h3 => ?_)
      · obtain ⟨d, b1, rfl, en, hd⟩ := sees_nx (p := p') h3
        have hd : d = closer o := by simpa using hd
        subst hd
        rw [rdCl_cons, ho] at e1
        have e1 : rdCl b1 (clos fd' w').1 (clos fd' w').2 (p' + 1) = rdCl b fd wl p := by
          rw [← e1]
          show _ = if closer o = closer o then _ else _
          rw [if_pos rfl]
        have lb : (closer o :: b1).length = b1.length + 1 := rfl
        refine ⟨fun σ' H2 => ∃ b2 p2 w2 vf2 fd2 i, σ' = [some (.ref X.r), some (.ref fa), some (.ref wa), some (.ref i)] ∧ Chg [X.r, fa, wa] H H2 ∧ RdAt K cReader X H2 b2 p2 ∧ H2 fa = some (.lst vf2) ∧ Its K H2 vf2 fd2 ∧ H2 wa = some (.lst (stk w2)) ∧ H2 i = some (.lst (vis (opens w2).reverse)) ∧
            fd2.length + w2.length + 2 * b2.length ≤ 30000 ∧ rdCl b2 fd2 w2 p2 = rdCl b fd wl p ∧ b2.length < (closer o :: b1).length,
          fun σ' H2 ⟨b2, p2, w2, vf2, fd2, i, a1, a2, a3, a4, a5, a6, a7, a8, a9, a10⟩ => ⟨b2.length, a10, b2, p2, w2, vf2, fd2, i, a1, a2, a3, a4, a5, a6, a7, a8, a9, rfl⟩, ?_⟩
        refine ⟨_, rfl, X.r, rfl, R1.ins, fun aD hD => ?_⟩
        refine ⟨_, rfl, 1, rfl, j, _, _, _, rfl, rfl, SqL.of (t1 _ _ hj), hat, aD, _, _, _, rfl, rfl, hD, closers_at hov, sz (show 1 ≤ 100000 by decide), fun q2 hq2 => ?_⟩
        have t2 : Same H' (upd (upd (upd H' q0 (.lst [])) q1 (.lst [.int (closer o)])) q2 (.lst [.int (closer o)])) := fun b o e => by rw [upd_ne (ne_of_none (t1 _ _ e) hq2)]; exact t1 _ _ e
        have R2 := R'.chg (S := []) (chgS t2) (by simp)
        refine ⟨X, q2, closer o :: b1, p', [closer o], rfl, R2, .inl (SqL.of upd_same), fun kk e => (by rw [en] at e; cases e), fun c3 b3 p3 e H3 c3' R3 => ?_⟩
        rw [en] at e
        cases e
        have hf3 : H3 fa = some (.lst vf') := c3'.1 _ _ (by simpa using nfr) (t2 _ _ hf')
        have hw3 : H3 wa = some (.lst (stk w')) := c3'.1 _ _ (by simpa using nwr) (t2 _ _ hw')
        have hi3 : Its K H3 vf' fd' := (hi'.chg (S := []) (chgS t2)).chg c3'
        have lv := hi'.len
        refine ⟨_, rfl, _, rfl, fa, wa, vf', fd', w', rfl, hf3, hi3, hw3, hfw, by omega, by rw [ho]; simp, fun H4 vf4 c4 hf4 hi4 hw4 => ?_⟩
        have csz := clos_sz w' fd' (by rw [ho]; simp)
        refine ⟨_, rfl, wa, (clos fd' w').2.reverse, rfl, SqL.of hw4, (by rw [List.length_reverse]; omega), fun H5 i5 s5 n5 hi5 => ?_⟩
        rw [opens_rev] at hi5
        refine ⟨b1, p' + 1, (clos fd' w').2, vf4, (clos fd' w').1, i5, rfl, ?_, ?_, s5 _ _ hf4, hi4.chg (S := []) (chgS s5), s5 _ _ hw4, hi5, by omega, e1, by omega⟩
        · exact ((ch.trans (chgS t2)).trans (c3'.mono (by simp))).trans ((c4.mono (by simp)).trans (chgS s5))
        · exact (R3.chg c4 (by simp; exact ⟨Ne.symm nfr, Ne.symm nwr⟩)).chg (S := []) (chgS s5) (by simp)
      · refine out _ t1 ?_
        cases b' with
        | nil => rfl
        | cons c b' =>
          rw [rdCl_cons, ho]
          show (if c = closer o then _ else _) = _
          rw [if_neg]
          intro z
          refine h3 ?_
          show ([closer o] : List Int).contains c = true
          simp [z]
/-! ### expression -/
def spExpr (K : PySem.W.Frag) (C F : Addr) : Sp := fun vs H Q E => ∃ (X : Rdr) (ea : Addr) (ends b : List Int) (p : Nat), vs = [.ref X.r, .ref ea] ∧ RdAt K C X H b p ∧ SqL K H ea (vis ends) ∧
  (∀ k, expr ends b p = .bad k → FE F E H [X.r] 11 k) ∧
  ∀ its b1 p1, expr ends b p = .ok (its, b1, p1) → ∀ H' q vf, Chg [X.r] H H' → RdAt K C X H' b1 p1 → H q = none → H' q = some (.lst vf) → Its K H' vf its → its.length ≤ 30000 → Q (.ref q) H'
theorem exL_succ2 (ends : List Int) (f : Nat) (fd : Items) (w b : List Int) (p : Nat) : exL ends (f + 1) fd w b p = match rdOp b w p with
    | .lost => .lost
    | .bad k => .bad k
    | .ok (it, w1, b1, p1) => if ((opens (rdCl b1 (fd ++ [it]) w1 p1).2.1).isEmpty && sees (rdCl b1 (fd ++ [it]) w1 p1).2.2.1 ends) = true then .ok ((rdCl b1 (fd ++ [it]) w1 p1).1 ++ rest (rdCl b1 (fd ++ [it]) w1 p1).2.1, (rdCl b1 (fd ++ [it]) w1 p1).2.2.1, (rdCl b1 (fd ++ [it]) w1 p1).2.2.2)
      else match rdOr (rdCl b1 (fd ++ [it]) w1 p1).2.2.1 (rdCl b1 (fd ++ [it]) w1 p1).1 (rdCl b1 (fd ++ [it]) w1 p1).2.1 (rdCl b1 (fd ++ [it]) w1 p1).2.2.2 with
        | .lost => .lost
        | .bad k => .bad k
        | .ok (fd3, w3, b3, p3) => exL ends f fd3 w3 b3 p3 := rfl
theorem rest_cons (c : Int) (w : List Int) : rest (c :: w) = (c, 0) :: rest w := rfl
theorem ok_expression (T : Txt K mg cFault cReader cLines) : Df P w K mg base (L2.CX P w) 7 "expression" ["reader", "ends"] (spExpr K cReader cFault) := by
  refine df_mk T.d_expression fun f fd F => F.okX sc_expression (fun vs H Q E h => ?_) (fun cdv A outer s H vs Q E hr h => ?_)
  · obtain ⟨X, ea, ends, b, p, rfl, _⟩ := h
    rfl
  · obtain ⟨X, ea, ends, b, p, rfl, R, he, kE, k⟩ := h
    refine ⟨_, (pss_cons (ps_par rfl sc_expression.nd (i := 2) (j := 3) rfl rfl (by decide) rfl rfl (pa_cons (pe_lst pa_nil) (pa_cons (pe_lst pa_nil) pa_nil)) (by rfl)) (pss_cons (ps_set (i := 4) sc_expression.nd rfl (Or.inl rfl) pe_bl) (pss_cons (ps_while (passes_of rfl) (pt_val (pv 4)) (pss_cons (ps_expr (pe_df (ok_read_operand T) (hr.mono (by decide)) (passE (takes_of rfl rfl rfl rfl)) (by exact (pa_cons (pv 0) (pa_cons (pv 2) (pa_cons (pv 3) pa_nil)))))) (pss_cons (ps_expr (pe_df (ok_read_closers T) (hr.mono (by decide)) (passE (takes_of rfl rfl rfl rfl)) (by exact (pa_cons (pv 0) (pa_cons (pv 2) (pa_cons (pv 3) pa_nil)))))) (pss_cons (ps_set (i := 4) sc_expression.nd rfl (Or.inl rfl) (pe_or (pe_cmpR (op_neE hr.units0) (pe_df (ok_open_brackets T) (hr.mono (by decide)) pass0 (by exact (pa_cons (pv 3) pa_nil))) (pe_lst pa_nil) (nomark _)) (pe_one (pe_not (pe_mf (ok_Reader_sees T) (hr.mono (by decide)) pass0 (pv 0) (by exact (pa_cons (pv 1) pa_nil))))))) (pss_one (ps_if (pt_val (pv 4)) (pss_one (ps_expr (pe_df (ok_read_operator T) (hr.mono (by decide)) (passE (takes_of rfl rfl rfl rfl)) (by exact (pa_cons (pv 0) (pa_cons (pv 2) (pa_cons (pv 3) pa_nil))))))) pss_nil)))))) (pss_cons (ps_while (passes_of rfl) (pt_cmpR (op_neE hr.units0) (pv 3) (pe_lst pa_nil) (nomark _)) (pss_one (ps_expr (pe_bm PySem.F.plainAttrs_list PySem.F.slot_list_append PySem.F.type_list_append mt_append (pv 2) (pa_cons (pe_tup (pa_cons (pe_bm0 PySem.F.plainAttrs_list PySem.F.slot_list_pop PySem.F.type_list_pop mt_pop (pv 3)) (pa_cons pe_int pa_nil))) pa_nil))))) (pss_one (ps_ret (pv 2))))))), ?_⟩
    refine ⟨Nat.zero_le _, fun fa hfa => ⟨Nat.zero_le _, fun wa hwa => ⟨_, _, rfl, ?_⟩⟩⟩
    have hfw : fa ≠ wa := fun z => by rw [z, upd_same] at hwa; cases hwa
    have hwa0 : H wa = none := by rw [upd_ne (Ne.symm hfw)] at hwa; exact hwa
    have s00 : Same H (upd (upd H fa (.lst [])) wa (.lst [])) := fun b o e => by rw [upd_ne (ne_of_none e hwa0), upd_ne (ne_of_none e hfa)]; exact e
    have nrf : X.r ≠ fa := ne_of_none R.obj hfa
    have nrw : X.r ≠ wa := ne_of_none R.obj hwa0
    have hb5 := R.len
    have hb6 := R.small
    -- what is found and what waits is new: to the caller the reader alone has moved
    have cx : ∀ {H'}, Chg [X.r, fa, wa] H H' → Chg [X.r] H H' := fun {H'} c => ⟨fun x o n e => c.1 x o (not3 (by simpa using n) (ne_of_none e hfa) (ne_of_none e hwa0)) e, c.2⟩
    have hnl : expr ends b p ≠ .lost := exL_fuel ends (b.length + 1) [] [] b p (Nat.lt_succ_self _)
    refine ⟨fun m σ H' => ∃ io b' p' w' vf' fd', σ = [some (.ref X.r), some (.ref ea), some (.ref fa), some (.ref wa), some (.bl io)] ∧ Chg [X.r, fa, wa] H H' ∧ RdAt K cReader X H' b' p' ∧ H' fa = some (.lst vf') ∧ Its K H' vf' fd' ∧ H' wa = some (.lst (stk w')) ∧
        fd'.length + w'.length + 2 * b'.length ≤ 25000 ∧ (io = true → exL ends m fd' w' b' p' = expr ends b p) ∧ (io = false → expr ends b p = .ok (fd' ++ rest w', b', p')),
      ⟨b.length + 1, true, b, p, [], [], [], rfl, chgS s00, R.chg (S := []) (chgS s00) (by simp), by rw [upd_ne hfw, upd_same], its_nil, upd_same, by show 0 + 0 + 2 * b.length ≤ 25000; omega, fun _ => rfl, fun z => by cases z⟩, ?_⟩
    rintro m σ H' ⟨io, b', p', w', vf', fd', rfl, ch, R', hf', hi', hw', hsz, z1, z2⟩
    refine ⟨_, rfl, _, rfl, ?_⟩
    cases io with
    | false =>
      refine ite2 (fun n => absurd n (by decide)) (fun _ => ?_)
      have e0 := z2 rfl
      -- what waits still, the last first
      refine ⟨fun m σ H2 => ∃ vf2 fd2 w2, σ = [some (.ref X.r), some (.ref ea), some (.ref fa), some (.ref wa), some (.bl false)] ∧ Chg [X.r, fa, wa] H H2 ∧ RdAt K cReader X H2 b' p' ∧ H2 fa = some (.lst vf2) ∧ Its K H2 vf2 fd2 ∧ H2 wa = some (.lst (stk w2)) ∧ fd2 ++ rest w2 = fd' ++ rest w' ∧ fd2.length + w2.length ≤ 25000 ∧ m = w2.length,
        ⟨_, vf', fd', w', rfl, ch, R', hf', hi', hw', rfl, by omega, rfl⟩, ?_⟩
      rintro m σ H2 ⟨vf2, fd2, w2, rfl, c2, R2, hf2, hi2, hw2, e2, hz2, rfl⟩
      refine ⟨_, rfl, Nat.zero_le _, fun q0 hq0 => ?_⟩
      have t0 : Same H2 (upd H2 q0 (.lst [])) := fun b o e => by rw [upd_ne (ne_of_none e hq0)]; exact e
      refine ⟨wa, q0, _, rfl, rfl, SqL.of (t0 _ _ hw2), SqL.of upd_same, _, rfl, ?_⟩
      cases w2 with
      | nil =>
        refine ite2 (fun n => absurd n (by decide)) (fun _ => ?_)
        have e3 : fd2 = fd' ++ rest w' := by rw [← e2]; simp [rest]
        refine ⟨_, rfl, ?_⟩
        exact k _ _ _ e0 _ fa vf2 (cx (c2.trans (chgS t0))) (R2.chg (S := []) (chgS t0) (by simp)) hfa (t0 _ _ hf2) (by rw [← e3]; exact hi2.chg (S := []) (chgS t0)) (by rw [← e3]; omega)
      | cons c w2 =>
        have lw : (c :: w2).length = w2.length + 1 := rfl
        refine ite2 (fun _ => ?_) (fun n => absurd (by rw [stk_cons]; simp) n)
        refine ⟨fun σ' H3 => ∃ vf3 fd3 w3, σ' = [some (.ref X.r), some (.ref ea), some (.ref fa), some (.ref wa), some (.bl false)] ∧ Chg [X.r, fa, wa] H H3 ∧ RdAt K cReader X H3 b' p' ∧ H3 fa = some (.lst vf3) ∧ Its K H3 vf3 fd3 ∧ H3 wa = some (.lst (stk w3)) ∧ fd3 ++ rest w3 = fd' ++ rest w' ∧ fd3.length + w3.length ≤ 25000 ∧ w3.length < (c :: w2).length,
          fun σ' H3 ⟨vf3, fd3, w3, a1, a2, a3, a4, a5, a6, a7, a8, a9⟩ => ⟨w3.length, a9, vf3, fd3, w3, a1, a2, a3, a4, a5, a6, a7, a8, rfl⟩, ?_⟩
        have hf3 := t0 _ _ hf2
        have hw3 := t0 _ _ hw2
        refine ⟨_, rfl, .inl ⟨rfl, _, SqL.of hf3⟩, _, rfl, .inl ⟨rfl, _, SqL.of hw3⟩, wa, _, _, rfl, rfl, hw3, stk_last c w2, ?_⟩
        rw [stk_drop]
        refine ⟨sz (show 2 ≤ 100000 by decide), fun q hq => ?_⟩
        have hf4 : (upd (upd H2 q0 (.lst [])) wa (.lst (stk w2))) fa = some (.lst vf2) := by rw [upd_ne hfw]; exact hf3
        have nfq : fa ≠ q := fun z => by rw [z, hq] at hf4; cases hf4
        have nwq : wa ≠ q := fun z => by rw [← z, upd_same] at hq; cases hq
        have lv := hi2.len
        refine ⟨fa, _, _, rfl, rfl, by rw [upd_ne nfq]; exact hf4, szl (by omega), ?_⟩
        have cF : Chg [fa, wa] H2 (upd (upd (upd (upd H2 q0 (.lst [])) wa (.lst (stk w2))) q (.tup [.int c, .int 0])) fa (.lst (vf2 ++ [.ref q]))) :=
          (((chgS t0).set (by simp) hw3 (by intro z; exact z)).new hq).set (by simp) (by rw [upd_ne nfq]; exact hf4) (by intro z; exact z)
        refine ⟨_, fd2 ++ [(c, 0)], w2, rfl, c2.trans (cF.mono (by simp)), R2.chg cF (by simp; exact ⟨nrf, nrw⟩), upd_same, (hi2.chg cF).snoc (SqT.of (by rw [upd_ne (Ne.symm nfq), upd_same])), by rw [upd_ne (Ne.symm hfw), upd_ne nwq, upd_same], ?_, ?_, by omega⟩
        · rw [← e2, rest_cons]; simp
        · rw [List.length_append, List.length_singleton]; omega
    | true =>
      refine ite2 (fun _ => ?_) (fun n => absurd rfl n)
      have e0 := z1 rfl
      cases m with
      | zero => exact absurd e0.symm hnl
      | succ m =>
        rw [exL_succ2] at e0
        refine ⟨fun σ' H2 => ∃ io b2 p2 w2 vf2 fd2, σ' = [some (.ref X.r), some (.ref ea), some (.ref fa), some (.ref wa), some (.bl io)] ∧ Chg [X.r, fa, wa] H H2 ∧ RdAt K cReader X H2 b2 p2 ∧ H2 fa = some (.lst vf2) ∧ Its K H2 vf2 fd2 ∧ H2 wa = some (.lst (stk w2)) ∧
            fd2.length + w2.length + 2 * b2.length ≤ 25000 ∧ (io = true → exL ends m fd2 w2 b2 p2 = expr ends b p) ∧ (io = false → expr ends b p = .ok (fd2 ++ rest w2, b2, p2)),
          fun σ' H2 ⟨io, b2, p2, w2, vf2, fd2, a1, a2, a3, a4, a5, a6, a7, a8, a9⟩ => ⟨m, Nat.lt_succ_self _, io, b2, p2, w2, vf2, fd2, a1, a2, a3, a4, a5, a6, a7, a8, a9⟩, ?_⟩
        have lv := hi'.len
        refine ⟨_, rfl, _, rfl, _, rfl, X, fa, wa, b', p', vf', w', rfl, R', hf', hw', hfw, by omega, fun kk e => ?_, fun it w1 b1 p1 e H1 q1 c1 R1 hq1 hf1 hw1 => ?_⟩
        · rw [e] at e0
          exact fun d H'' c' hd => kE kk e0.symm d H'' (cx (ch.trans c')) hd
        · rw [e] at e0
          dsimp only at e0
          have ssz := rdOp_sz e
          have lf1 : (fd' ++ [it]).length = fd'.length + 1 := by rw [List.length_append, List.length_singleton]
          refine ⟨_, rfl, _, rfl, _, rfl, X, fa, wa, b1, p1, _, fd' ++ [it], w1, rfl, R1, hf1, (hi'.chg c1).snoc (SqT.of hq1), hw1, hfw, by omega, fun H2 vf2 c2 R2 hf2 hi2 hw2 => ?_⟩
          have csz := rdCl_sz b1 (fd' ++ [it]) w1 p1
          revert e0 csz R2 hi2 hw2
          generalize rdCl b1 (fd' ++ [it]) w1 p1 = z
          obtain ⟨fd2, w2, b2, p2⟩ := z
          intro e0 R2 hi2 hw2 csz
          dsimp only at R2 hi2 hw2 e0 csz
          have c3 : Chg [X.r, fa, wa] H H2 := (ch.trans c1).trans c2
          refine ⟨_, rfl, wa, w2.reverse, rfl, SqL.of hw2, (by rw [List.length_reverse]; omega), fun H3 i3 s3 n3 hi3 => ?_⟩
          rw [opens_rev] at hi3
          refine ⟨Nat.zero_le _, fun q0 hq0 => ?_⟩
          have t0 : Same H2 (upd H3 q0 (.lst [])) := fun b o e => by rw [upd_ne (ne_of_none (s3 _ _ e) hq0)]; exact s3 _ _ e
          have ni3 : i3 ≠ q0 := fun z => by rw [z, hq0] at hi3; cases hi3
          refine ⟨i3, q0, _, rfl, rfl, SqL.of (by rw [upd_ne ni3]; exact hi3), SqL.of upd_same, _, rfl, ?_⟩
          have R3 := R2.chg (S := []) (chgS t0) (by simp)
          have hf3 := t0 _ _ hf2
          have hw3 := t0 _ _ hw2
          have hi4 := hi2.chg (S := []) (chgS t0)
          have c4 : Chg [X.r, fa, wa] H (upd H3 q0 (.lst [])) := c3.trans (chgS t0)
          -- on: an operator
          have onw : ((opens w2).isEmpty && sees b2 ends) = false → ∀ H4, Same (upd H3 q0 (.lst [])) H4 → tIfS (tB (tVar 4)) (tDrop (tCall (spRdOr K cReader cFault) [] E (tCons (tVar 0) (tCons (tVar 2) (tCons (tVar 3) tNil))))) tNext
              { nx := fun σ' H2 => ∃ io b2 p2 w2 vf2 fd2, σ' = [some (.ref X.r), some (.ref ea), some (.ref fa), some (.ref wa), some (.bl io)] ∧ Chg [X.r, fa, wa] H H2 ∧ RdAt K cReader X H2 b2 p2 ∧ H2 fa = some (.lst vf2) ∧ Its K H2 vf2 fd2 ∧ H2 wa = some (.lst (stk w2)) ∧
                  fd2.length + w2.length + 2 * b2.length ≤ 25000 ∧ (io = true → exL ends m fd2 w2 b2 p2 = expr ends b p) ∧ (io = false → expr ends b p = .ok (fd2 ++ rest w2, b2, p2)), rt := Q }
              [some (.ref X.r), some (.ref ea), some (.ref fa), some (.ref wa), some (.bl true)] H4 := by
            intro hne H4 s4
            rw [hne, if_neg (by decide)] at e0
            have lv2 := hi2.len
            refine ⟨_, rfl, _, rfl, ?_⟩
            refine ite2 (fun _ => ?_) (fun n => absurd rfl n)
            refine ⟨_, rfl, _, rfl, _, rfl, X, fa, wa, b2, p2, vf2, fd2, w2, rfl, R3.chg (S := []) (chgS s4) (by simp), s4 _ _ hf3, hi4.chg (S := []) (chgS s4), s4 _ _ hw3, hfw, by omega, fun kk e => ?_, fun fd5 w5 b5 p5 e H5 vf5 c5 R5 hf5 hi5 hw5 => ?_⟩
            · rw [e] at e0
              exact fun d H'' c' hd => kE kk e0.symm d H'' (cx ((c4.trans (chgS s4)).trans c')) hd
            · rw [e] at e0
              have osz := rdOr_sz e
              exact ⟨true, b5, p5, w5, vf5, fd5, rfl, (c4.trans (chgS s4)).trans c5, R5, hf5, hi5, hw5, by omega, fun _ => e0, fun z => by cases z⟩
          cases ho : opens w2 with
          | cons o r =>
            refine ite2 (fun _ => ?_) (fun n => absurd (by simp) n)
            exact onw (by rw [ho]; rfl) _ (Same.refl _)
          | nil =>
            refine ite2 (fun n => absurd n (by decide)) (fun _ => ?_)
            have he3 : SqL K (upd H3 q0 (.lst [])) ea (vis ends) := R.sq he (cx c4)
            refine ⟨_, rfl, X.r, rfl, R3.ins, _, rfl, X, ea, b2, p2, ends, rfl, R3, .inl he3, _, rfl, ?_⟩
            cases hs : sees b2 ends with
            | false => exact onw (by rw [hs, Bool.and_false]) _ (Same.refl _)
            | true =>
              rw [ho, hs, if_pos (by decide)] at e0
              refine ⟨_, rfl, _, rfl, ?_⟩
              refine ite2 (fun n => absurd n (by decide)) (fun _ => ?_)
              exact ⟨false, b2, p2, w2, vf2, fd2, rfl, c4, R3, hf3, hi4, hw3, by omega, fun z => (by cases z), fun _ => e0.symm⟩
end
end Ab
/-! ## The walk: tests -/
namespace Ab
open PySem PySem.Spec PyProof.Rows L2
/-- at l a list of items, l being one of N -/
def ItL (K : PySem.W.Frag) (N : Addr → Prop) (H : Hp) (l : Addr) (its : Items) : Prop := N l ∧ ∃ vf, H l = some (.lst vf) ∧ Its K H vf its
theorem ItL.chg {K : PySem.W.Frag} {N : Addr → Prop} {S : List Addr} {H H' : Hp} {l : Addr} {its : Items} (h : ItL K N H l its) (c : Chg S H H') (n : l ∉ S) : ItL K N H' l its := by
  obtain ⟨h1, vf, h2, h3⟩ := h
  exact ⟨h1, vf, c.1 _ _ n h2, h3.chg c⟩
theorem ItL.imp {K : PySem.W.Frag} {N N' : Addr → Prop} {H : Hp} {l : Addr} {its : Items} (h : ItL K N H l its) (n : ∀ l, N l → N' l) : ItL K N' H l its := ⟨n _ h.1, h.2⟩
abbrev triV (y : Bool × Bool × Bool) : List V := [.bl y.1, .bl y.2.1, .bl y.2.2]
def TestAt (K : PySem.W.Frag) (N : Addr → Prop) (H : Hp) (v : V) (t : Items × (Bool × Bool × Bool) × Items) : Prop := ∃ q l y r, v = .ref q ∧ SqT K H q [.ref l, .ref y, .ref r] ∧ ItL K N H l t.1 ∧ SqT K H y (triV t.2.1) ∧ ItL K N H r t.2.2
def TestsAt (K : PySem.W.Frag) (N : Addr → Prop) (H : Hp) (vs : List V) (ts : Tests) : Prop := Paired (TestAt K N H) vs ts
theorem TestAt.chg {K : PySem.W.Frag} {N : Addr → Prop} {S : List Addr} {H H' : Hp} {v : V} {t} (h : TestAt K N H v t) (c : Chg S H H') (n : ∀ l, N l → (∃ vs, H l = some (.lst vs)) → l ∉ S) : TestAt K N H' v t := by
  obtain ⟨q, l, y, r, h1, h2, h3, h4, h5⟩ := h
  have k : ∀ {l its}, ItL K N H l its → l ∉ S := fun {l its} h => n l h.1 (by obtain ⟨_, vf, h2, _⟩ := h; exact ⟨_, h2⟩)
  exact ⟨q, l, y, r, h1, c.tup h2, h3.chg c (k h3), c.tup h4, h5.chg c (k h5)⟩
theorem TestsAt.chg {K : PySem.W.Frag} {N : Addr → Prop} {S : List Addr} {H H' : Hp} {vs : List V} {ts : Tests} (h : TestsAt K N H vs ts) (c : Chg S H H') (n : ∀ l, N l → (∃ vs, H l = some (.lst vs)) → l ∉ S) : TestsAt K N H' vs ts :=
  Paired.mapP h fun v t h => h.chg c n
theorem TestAt.imp {K : PySem.W.Frag} {N N' : Addr → Prop} {H : Hp} {v : V} {t} (h : TestAt K N H v t) (n : ∀ l, N l → N' l) : TestAt K N' H v t := by
  obtain ⟨q, l, y, r, h1, h2, h3, h4, h5⟩ := h
  exact ⟨q, l, y, r, h1, h2, h3.imp n, h4, h5.imp n⟩
theorem TestsAt.imp {K : PySem.W.Frag} {N N' : Addr → Prop} {H : Hp} {vs : List V} {ts : Tests} (h : TestsAt K N H vs ts) (n : ∀ l, N l → N' l) : TestsAt K N' H vs ts := Paired.mapP h fun v t h => h.imp n
theorem TestsAt.snoc {K : PySem.W.Frag} {N : Addr → Prop} {H : Hp} {vs : List V} {ts : Tests} {v : V} {t} (h : TestsAt K N H vs ts) (h2 : TestAt K N H v t) : TestsAt K N H (vs ++ [v]) (ts ++ [t]) := by
  unfold TestsAt at h ⊢
  induction h with
  | nil => exact .cons h2 .nil
  | cons a b ih => exact .cons a ih
theorem TestsAt.len {K : PySem.W.Frag} {N : Addr → Prop} {H : Hp} {vs : List V} {ts : Tests} (h : TestsAt K N H vs ts) : vs.length = ts.length := Paired.length h
section
variable {P : Program} {w : World} {K : PySem.W.Frag} {mg : Str → Option Value} {base : Heap} {cFault cReader cLines : Addr}
/-! ### compared -/
def spCompared (K : PySem.W.Frag) (C F : Addr) : Sp := fun vs H Q E => ∃ (X : Rdr) (b : List Int) (p : Nat), vs = [.ref X.r] ∧ RdAt K C X H b p ∧ (∀ k, cmp b p = .bad k → FE F E H [X.r] 11 k) ∧
  ∀ y b1 p1, cmp b p = .ok (y, b1, p1) → ∀ H' q, Chg [X.r] H H' → RdAt K C X H' b1 p1 → H q = none → H' q = some (.tup (triV y)) → Q (.ref q) H'
theorem cmp_cons2 (c : Int) (b : List Int) (p : Nat) : cmp (c :: b) p = if c = 61 then .ok ((false, true, false), b, p + 1)
    else if c = 62 then (match b with
      | [] => .ok ((false, false, true), [], p + 1)
      | d :: b1 => if d = 61 then .ok ((false, true, true), b1, p + 2) else .ok ((false, false, true), d :: b1, p + 1))
    else if c = 60 then (match b with
      | [] => .ok ((true, false, false), [], p + 1)
      | d :: b1 => if d = 61 then .ok ((true, true, false), b1, p + 2) else if d = 62 then .ok ((true, false, true), b1, p + 2) else .ok ((true, false, false), d :: b1, p + 1))
    else .bad p := rfl
theorem new1 {X : Rdr} {C : Addr} {H H' : Hp} {b : List Int} {p : Nat} {q : Addr} (R : RdAt K C X H' b p) (c : Chg [X.r] H H') (h : H' q = none) : H q = none := c.none h (fun m => by
  have : q = X.r := by simpa using m
  rw [this, R.obj] at h; cases h)
theorem ok_compared (T : Txt K mg cFault cReader cLines) : Df P w K mg base (L2.CX P w) 4 "compared" ["reader"] (spCompared K cReader cFault) := by
  refine df_mk T.d_compared fun f fd F => F.okX sc_compared (fun vs H Q E h => ?_) (fun cdv A outer s H vs Q E hr h => ?_)
  · obtain ⟨X, b, p, rfl, _⟩ := h
    rfl
  · obtain ⟨X, b, p, rfl, R, kE, k⟩ := h
    refine ⟨_, (pss_cons (ps_set (i := 1) sc_compared.nd rfl (Or.inl rfl) (pe_mf (ok_Reader_next_of T) (hr.mono (by decide)) (passE (takes_of rfl rfl rfl rfl)) (pv 0) (by exact (pa_cons (pe_lst (pa_cons (pe_gi T.c_LESS) (pa_cons (pe_gi T.c_EQUAL) (pa_cons (pe_gi T.c_GREATER) pa_nil)))) pa_nil)))) (pss_cons (ps_if (pt_cmpR op_eq (pv 1) (pe_gi T.c_EQUAL) (nomark _)) (pss_one (ps_ret (pe_tup (pa_cons pe_bl (pa_cons pe_bl (pa_cons pe_bl pa_nil)))))) pss_nil) (pss_cons (ps_if (pt_cmpR op_eq (pv 1) (pe_gi T.c_GREATER) (nomark _)) (pss_cons (ps_set (i := 2) sc_compared.nd rfl (Or.inl rfl) (pe_mf (ok_Reader_sees T) (hr.mono (by decide)) pass0 (pv 0) (by exact (pa_cons (pe_lst (pa_cons (pe_gi T.c_EQUAL) pa_nil)) pa_nil)))) (pss_cons (ps_if (pt_val (pv 2)) (pss_one (ps_expr (pe_mf (ok_Reader_next_of T) (hr.mono (by decide)) (passE (takes_of rfl rfl rfl rfl)) (pv 0) (by exact (pa_cons (pe_lst (pa_cons (pe_gi T.c_EQUAL) pa_nil)) pa_nil))))) pss_nil) (pss_one (ps_ret (pe_tup (pa_cons pe_bl (pa_cons (pv 2) (pa_cons pe_bl pa_nil)))))))) pss_nil) (pss_cons (ps_if (pt_val (pe_mf (ok_Reader_sees T) (hr.mono (by decide)) pass0 (pv 0) (by exact (pa_cons (pe_lst (pa_cons (pe_gi T.c_EQUAL) (pa_cons (pe_gi T.c_GREATER) pa_nil))) pa_nil)))) (pss_one (ps_ret (pe_ifExp (pt_cmpR op_eq (pe_mf (ok_Reader_next_of T) (hr.mono (by decide)) (passE (takes_of rfl rfl rfl rfl)) (pv 0) (by exact (pa_cons (pe_lst (pa_cons (pe_gi T.c_EQUAL) (pa_cons (pe_gi T.c_GREATER) pa_nil))) pa_nil))) (pe_gi T.c_EQUAL) (nomark _)) (pe_tup (pa_cons pe_bl (pa_cons pe_bl (pa_cons pe_bl pa_nil)))) (pe_tup (pa_cons pe_bl (pa_cons pe_bl (pa_cons pe_bl pa_nil))))))) pss_nil) (pss_one (ps_ret (pe_tup (pa_cons pe_bl (pa_cons pe_bl (pa_cons pe_bl pa_nil)))))))))), ?_⟩
    -- a triple is made, handed back
    have done : ∀ (y : Bool × Bool × Bool) (b1 : List Int) (p1 : Nat) (σ : L2.St) H1, cmp b p = .ok (y, b1, p1) → Chg [X.r] H H1 → RdAt K cReader X H1 b1 p1 → (triV y).length ≤ sizeLine ∧ ∀ q, H1 q = none → Q (.ref q) (upd H1 q (.tup (triV y))) :=
      fun y b1 p1 σ H1 e c R1 => ⟨sz (show 3 ≤ 100000 by decide), fun q hq => k y b1 p1 e _ q (c.new hq) (R1.chg ((Chg.refl H1).new hq (S := [])) (by simp)) (new1 R1 c hq) upd_same⟩
    refine ⟨_, rfl, X.r, rfl, R.ins, sz (show 3 ≤ 100000 by decide), fun q0 hq0 => ?_⟩
    have c0 : Chg [] H (upd H q0 (.lst [.int 60, .int 61, .int 62])) := (Chg.refl H).new hq0
    have R0 := R.chg c0 (by simp)
    refine ⟨X, q0, b, p, [60, 61, 62], rfl, R0, .inl (SqL.of upd_same), fun kk e => ?_, fun c b1 p1 e H1 c1 R1 => ?_⟩
    · refine (kE kk ?_).sub (c0.mono (by simp)) (by simp)
      cases b with
      | nil => rw [nx] at e; cases e; rfl
      | cons c b =>
        have e : (if ([60, 61, 62] : List Int).contains c = true then Ab.R.ok (c, b, p + 1) else Ab.R.bad p) = Ab.R.bad kk := e
        split at e
        · cases e
        · rename_i n
          cases e
          have n : ¬ (c = 60 ∨ c = 61 ∨ c = 62) := by simpa using n
          rw [cmp_cons2, if_neg (by omega), if_neg (by omega), if_neg (by omega)]
    · obtain ⟨rfl, rfl, hc⟩ := nx_ok e
      have hc : c = 60 ∨ c = 61 ∨ c = 62 := by simpa using hc
      have ch1 : Chg [X.r] H H1 := (c0.mono (by simp)).trans c1
      have ec := cmp_cons2 c b1 p
      refine ⟨_, rfl, rfl, _, rfl, ?_⟩
      by_cases h61 : c = 61
      · refine ite2 (fun _ => ?_) (fun n => absurd (decide_eq_true (by rw [h61])) n)
        rw [if_pos h61] at ec
        exact done (false, true, false) _ _ [] _ ec ch1 R1
      · refine ite2 (fun n => absurd (V.int.inj (of_decide_eq_true n)) h61) (fun _ => ?_)
        rw [if_neg h61] at ec
        refine ⟨_, rfl, rfl, _, rfl, ?_⟩
        by_cases h62 : c = 62
        · refine ite2 (fun _ => ?_) (fun n => absurd (decide_eq_true (by rw [h62])) n)
          rw [if_pos h62] at ec
          refine ⟨_, rfl, X.r, rfl, R1.ins, sz (show 1 ≤ 100000 by decide), fun q1 hq1 => ?_⟩
          have d1 : Chg [] H1 (upd H1 q1 (.lst [.int 61])) := (Chg.refl H1).new hq1
          have R2 := R1.chg d1 (by simp)
          have ch2 : Chg [X.r] H (upd H1 q1 (.lst [.int 61])) := ch1.trans (d1.mono (by simp))
          refine ⟨X, q1, b1, p + 1, [61], rfl, R2, .inl (SqL.of upd_same), ?_⟩
          refine ⟨_, rfl, _, rfl, ?_⟩
          cases hs : sees b1 [61] with
          | true =>
            obtain ⟨d, b2, rfl, en, hd⟩ := sees_nx (p := p + 1) hs
            have hd : d = 61 := by simpa using hd
            subst hd
            dsimp only at ec
            rw [if_pos rfl] at ec
            refine ite2 (fun _ => ?_) (fun n => absurd rfl n)
            refine ⟨_, rfl, X.r, rfl, R2.ins, sz (show 1 ≤ 100000 by decide), fun q2 hq2 => ?_⟩
            have d2 : Chg [] (upd H1 q1 (.lst [.int 61])) (upd (upd H1 q1 (.lst [.int 61])) q2 (.lst [.int 61])) := (Chg.refl _).new hq2
            have R3 := R2.chg d2 (by simp)
            refine ⟨X, q2, 61 :: b2, p + 1, [61], rfl, R3, .inl (SqL.of upd_same), fun kk e => (by rw [en] at e; cases e), fun c3 b3 p3 e H3 c3' R4 => ?_⟩
            rw [en] at e
            cases e
            refine ⟨_, rfl, ?_⟩
            exact done (false, true, true) _ _ [] _ ec ((ch2.trans (d2.mono (by simp))).trans c3') R4
          | false =>
            refine ite2 (fun n => absurd n (by decide)) (fun _ => ?_)
            refine ⟨_, rfl, ?_⟩
            refine done (false, false, true) b1 (p + 1) [] _ ?_ ch2 R2
            rw [ec]
            cases b1 with
            | nil => rfl
            | cons d b2 =>
              dsimp only
              rw [if_neg]
              intro z
              subst z
              exact absurd hs (by rw [show sees (61 :: b2) [61] = ([61] : List Int).contains 61 from rfl]; decide)
        · refine ite2 (fun n => absurd (V.int.inj (of_decide_eq_true n)) h62) (fun _ => ?_)
          have h60 : c = 60 := by omega
          rw [if_neg h62, if_pos h60] at ec
          refine ⟨_, rfl, X.r, rfl, R1.ins, sz (show 2 ≤ 100000 by decide), fun q1 hq1 => ?_⟩
          have d1 : Chg [] H1 (upd H1 q1 (.lst [.int 61, .int 62])) := (Chg.refl H1).new hq1
          have R2 := R1.chg d1 (by simp)
          have ch2 : Chg [X.r] H (upd H1 q1 (.lst [.int 61, .int 62])) := ch1.trans (d1.mono (by simp))
          refine ⟨X, q1, b1, p + 1, [61, 62], rfl, R2, .inl (SqL.of upd_same), _, rfl, ?_⟩
          cases hs : sees b1 [61, 62] with
          | true =>
            obtain ⟨d, b2, rfl, en, hd⟩ := sees_nx (p := p + 1) hs
            have hd : d = 61 ∨ d = 62 := by simpa using hd
            dsimp only at ec
            refine ite2 (fun _ => ?_) (fun n => absurd rfl n)
            refine ⟨_, rfl, X.r, rfl, R2.ins, sz (show 2 ≤ 100000 by decide), fun q2 hq2 => ?_⟩
            have d2 : Chg [] (upd H1 q1 (.lst [.int 61, .int 62])) (upd (upd H1 q1 (.lst [.int 61, .int 62])) q2 (.lst [.int 61, .int 62])) := (Chg.refl _).new hq2
            have R3 := R2.chg d2 (by simp)
            refine ⟨X, q2, d :: b2, p + 1, [61, 62], rfl, R3, .inl (SqL.of upd_same), fun kk e => (by rw [en] at e; cases e), fun c3 b3 p3 e H3 c3' R4 => ?_⟩
            rw [en] at e
            cases e
            have ch4 := (ch2.trans (d2.mono (by simp))).trans c3'
            refine ⟨rfl, _, rfl, ?_⟩
            by_cases hd1 : d = 61
            · refine ite2 (fun _ => ?_) (fun n => absurd (decide_eq_true (by rw [hd1])) n)
              rw [if_pos hd1] at ec
              exact done (true, true, false) _ _ [] _ ec ch4 R4
            · refine ite2 (fun n => absurd (V.int.inj (of_decide_eq_true n)) hd1) (fun _ => ?_)
              rw [if_neg hd1, if_pos (by omega)] at ec
              exact done (true, false, true) _ _ [] _ ec ch4 R4
          | false =>
            refine ite2 (fun n => absurd n (by decide)) (fun _ => ?_)
            refine done (true, false, false) b1 (p + 1) [] _ ?_ ch2 R2
            rw [ec]
            cases b1 with
            | nil => rfl
            | cons d b2 =>
              have hn : ¬ (d = 61 ∨ d = 62) := by
                intro z
                rw [show sees (d :: b2) [61, 62] = ([61, 62] : List Int).contains d from rfl] at hs
                have : ([61, 62] : List Int).contains d = true := by simpa using z
                rw [this] at hs
                cases hs
              dsimp only
              rw [if_neg (by omega), if_neg (by omega)]
/-! ### condition -/
def spCondition (K : PySem.W.Frag) (C F : Addr) : Sp := fun vs H Q E => ∃ (X : Rdr) (b : List Int) (p : Nat), vs = [.ref X.r] ∧ RdAt K C X H b p ∧ (∀ k, cond b p = .bad k → FE F E H [X.r] 11 k) ∧
  ∀ ts b1 p1, cond b p = .ok (ts, b1, p1) → ∀ H' q vs, Chg [X.r] H H' → RdAt K C X H' b1 p1 → H q = none → H' q = some (.lst vs) → TestsAt K (fun l => H l = none) H' vs ts → Q (.ref q) H'
theorem and_codes : codes (Str.ofString " and ") = andL := by decide +kernel
theorem cdL_succ (f : Nat) (ts : Tests) (b : List Int) (p : Nat) : cdL (f + 1) ts b p = match expr [60, 61, 62] b p with
    | .lost => .lost
    | .bad k => .bad k
    | .ok (l, b1, p1) => match cmp b1 p1 with
      | .lost => .lost
      | .bad k => .bad k
      | .ok (y, b2, p2) => match expr [32, 10] b2 p2 with
        | .lost => .lost
        | .bad k => .bad k
        | .ok (r, b3, p3) => if sees b3 [32] = true then (match word andL b3 p3 with
            | .lost => .lost
            | .bad k => .bad k
            | .ok (b4, p4) => cdL f (ts ++ [(l, y, r)]) b4 p4)
          else .ok (ts ++ [(l, y, r)], b3, p3) := rfl
theorem ok_condition (T : Txt K mg cFault cReader cLines) (hnl : ∀ b p, cond b p ≠ .lost) : Df P w K mg base (L2.CX P w) 8 "condition" ["reader"] (spCondition K cReader cFault) := by
  refine df_mk T.d_condition fun f fd F => F.okX sc_condition (fun vs H Q E h => ?_) (fun cdv A outer s H vs Q E hr h => ?_)
  · obtain ⟨X, b, p, rfl, _⟩ := h
    rfl
  · obtain ⟨X, b, p, rfl, R, kE, k⟩ := h
    refine ⟨_, (pss_cons (ps_set (i := 1) sc_condition.nd rfl (Or.inl rfl) (pe_lst pa_nil)) (pss_cons (ps_set (i := 2) sc_condition.nd rfl (Or.inl rfl) pe_bl) (pss_cons (ps_while (passes_of rfl) (pt_val (pv 2)) (pss_cons (ps_set (i := 3) sc_condition.nd rfl (Or.inl rfl) (pe_df (ok_expression T) (hr.mono (by decide)) (passE (takes_of rfl rfl rfl rfl)) (by exact (pa_cons (pv 0) (pa_cons (pe_lst (pa_cons (pe_gi T.c_LESS) (pa_cons (pe_gi T.c_EQUAL) (pa_cons (pe_gi T.c_GREATER) pa_nil)))) pa_nil))))) (pss_cons (ps_set (i := 4) sc_condition.nd rfl (Or.inl rfl) (pe_df (ok_compared T) (hr.mono (by decide)) (passE (takes_of rfl rfl rfl rfl)) (by exact (pa_cons (pv 0) pa_nil)))) (pss_cons (ps_expr (pe_bm PySem.F.plainAttrs_list PySem.F.slot_list_append PySem.F.type_list_append mt_append (pv 1) (pa_cons (pe_tup (pa_cons (pv 3) (pa_cons (pv 4) (pa_cons (pe_df (ok_expression T) (hr.mono (by decide)) (passE (takes_of rfl rfl rfl rfl)) (by exact (pa_cons (pv 0) (pa_cons (pe_lst (pa_cons (pe_gi T.c_BLANK) (pa_cons (pe_gi T.c_LINE_FEED) pa_nil))) pa_nil)))) pa_nil)))) pa_nil))) (pss_cons (ps_set (i := 2) sc_condition.nd rfl (Or.inl rfl) (pe_mf (ok_Reader_sees T) (hr.mono (by decide)) pass0 (pv 0) (by exact (pa_cons (pe_lst (pa_cons (pe_gi T.c_BLANK) pa_nil)) pa_nil)))) (pss_one (ps_if (pt_val (pv 2)) (pss_one (ps_expr (pe_mf (ok_Reader_word T) (hr.mono (by decide)) (passE (takes_of rfl rfl rfl rfl)) (pv 0) (by exact (pa_cons (pe_df (ok_bytes_of T) (hr.mono (by decide)) pass0 (by exact (pa_cons pe_str pa_nil))) pa_nil))))) pss_nil))))))) (pss_one (ps_ret (pv 1)))))), ?_⟩
    refine ⟨Nat.zero_le _, fun fa hfa => ?_⟩
    have s0 : Same H (upd H fa (.lst [])) := fun b o e => by rw [upd_ne (ne_of_none e hfa)]; exact e
    have nrf : X.r ≠ fa := ne_of_none R.obj hfa
    have hb5 := R.len
    have hb6 := R.small
    have cx : ∀ {H'}, Chg [X.r, fa] H H' → Chg [X.r] H H' := fun {H'} c => ⟨fun x o n e => c.1 x o (by simp only [List.mem_cons, List.not_mem_nil, or_false, not_or]; exact ⟨by simpa using n, ne_of_none e hfa⟩) e, c.2⟩
    refine ⟨fun m σ H' => ∃ io b' p' ts' vs' v1 v2, σ = [some (.ref X.r), some (.ref fa), some (.bl io), v1, v2] ∧ Chg [X.r, fa] H H' ∧ RdAt K cReader X H' b' p' ∧ H' fa = some (.lst vs') ∧ TestsAt K (fun l => H l = none ∧ l ≠ fa) H' vs' ts' ∧ ts'.length + b'.length ≤ 10000 ∧
        (io = true → cdL m ts' b' p' = cond b p) ∧ (io = false → cond b p = .ok (ts', b', p')),
      ⟨b.length + 1, true, b, p, [], [], none, none, rfl, chgS s0, R.chg (S := []) (chgS s0) (by simp), upd_same, Paired.nil, by show 0 + b.length ≤ 10000; omega, fun _ => rfl, fun z => by cases z⟩, ?_⟩
    rintro m σ H' ⟨io, b', p', ts', vs', v1, v2, rfl, ch, R', hf', ht', hsz, z1, z2⟩
    refine ⟨_, rfl, _, rfl, ?_⟩
    cases io with
    | false =>
      refine ite2 (fun n => absurd n (by decide)) (fun _ => ?_)
      refine ⟨_, rfl, ?_⟩
      exact k ts' b' p' (z2 rfl) H' fa vs' (cx ch) R' hfa hf' (ht'.imp fun l h => h.1)
    | true =>
      refine ite2 (fun _ => ?_) (fun n => absurd rfl n)
      have e0 := z1 rfl
      cases m with
      | zero => exact absurd e0.symm (hnl b p)
      | succ m =>
        rw [cdL_succ] at e0
        refine ⟨fun σ' H2 => ∃ io b2 p2 ts2 vs2 v1 v2, σ' = [some (.ref X.r), some (.ref fa), some (.bl io), v1, v2] ∧ Chg [X.r, fa] H H2 ∧ RdAt K cReader X H2 b2 p2 ∧ H2 fa = some (.lst vs2) ∧ TestsAt K (fun l => H l = none ∧ l ≠ fa) H2 vs2 ts2 ∧ ts2.length + b2.length ≤ 10000 ∧
            (io = true → cdL m ts2 b2 p2 = cond b p) ∧ (io = false → cond b p = .ok (ts2, b2, p2)),
          fun σ' H2 ⟨io, b2, p2, ts2, vs2, v1, v2, a1, a2, a3, a4, a5, a6, a7, a8⟩ => ⟨m, Nat.lt_succ_self _, io, b2, p2, ts2, vs2, v1, v2, a1, a2, a3, a4, a5, a6, a7, a8⟩, ?_⟩
        -- the left side
        refine ⟨_, rfl, sz (show 3 ≤ 100000 by decide), fun q0 hq0 => ?_⟩
        have t0 : Same H' (upd H' q0 (.lst [.int 60, .int 61, .int 62])) := fun b o e => by rw [upd_ne (ne_of_none e hq0)]; exact e
        have c0 : Chg [X.r, fa] H (upd H' q0 (.lst [.int 60, .int 61, .int 62])) := ch.trans (chgS t0)
        refine ⟨X, q0, [60, 61, 62], b', p', rfl, R'.chg (S := []) (chgS t0) (by simp), SqL.of upd_same, fun kk e => ?_, fun it1 b1 p1 e H1 q1 vf1 c1 R1 n1 hq1 hi1 hl1 => ?_⟩
        · rw [e] at e0
          exact fun d H'' c' hd => kE kk e0.symm d H'' (cx (c0.trans (c'.mono (by simp)))) hd
        rw [e] at e0
        dsimp only at e0
        have l1 := expr_len e
        have c1' : Chg [X.r, fa] H H1 := c0.trans (c1.mono (by simp))
        have hf1 : H1 fa = some (.lst vs') := c1.1 _ _ (by simpa using Ne.symm nrf) (t0 _ _ hf')
        have ht1 : TestsAt K (fun l => H l = none ∧ l ≠ fa) H1 vs' ts' := (ht'.chg (S := []) (chgS t0) (fun l _ _ => by simp)).chg c1 (fun l h _ m => by
          have : l = X.r := by simpa using m
          rw [this, R.obj] at h; cases h.1)
        have nq1 : H q1 = none ∧ q1 ≠ fa := ⟨c0.none n1 (fun m => by
            simp only [List.mem_cons, List.not_mem_nil, or_false] at m
            rcases m with m | m
            · rw [m] at n1; rw [t0 _ _ R'.obj] at n1; cases n1
            · rw [m, t0 _ _ hf'] at n1; cases n1), fun z => by rw [z, t0 _ _ hf'] at n1; cases n1⟩
        have I1 : ItL K (fun l => H l = none ∧ l ≠ fa) H1 q1 it1 := ⟨nq1, vf1, hq1, hi1⟩
        -- by what
        refine ⟨_, rfl, X, b1, p1, rfl, R1, fun kk e => ?_, fun y b2 p2 e H2 q2 c2 R2 n2 hq2 => ?_⟩
        · rw [e] at e0
          exact fun d H'' c' hd => kE kk e0.symm d H'' (cx (c1'.trans (c'.mono (by simp)))) hd
        rw [e] at e0
        dsimp only at e0
        have l2 := cmp_len e
        have c2' : Chg [X.r, fa] H H2 := c1'.trans (c2.mono (by simp))
        have nX : ∀ l, (H l = none ∧ l ≠ fa) → l ∉ [X.r] := fun l h m => by
          have : l = X.r := by simpa using m
          rw [this, R.obj] at h; cases h.1
        have hf2 : H2 fa = some (.lst vs') := c2.1 _ _ (by simpa using Ne.symm nrf) hf1
        have ht2 := ht1.chg c2 (fun l h _ => nX l h)
        have I2 := I1.chg c2 (nX q1 nq1)
        -- the right side
        refine ⟨_, rfl, .inl ⟨rfl, _, SqL.of hf2⟩, _, rfl, _, rfl, _, rfl, sz (show 2 ≤ 100000 by decide), fun q3 hq3 => ?_⟩
        have t3 : Same H2 (upd H2 q3 (.lst [.int 32, .int 10])) := fun b o e => by rw [upd_ne (ne_of_none e hq3)]; exact e
        have c3 : Chg [X.r, fa] H (upd H2 q3 (.lst [.int 32, .int 10])) := c2'.trans (chgS t3)
        refine ⟨X, q3, [32, 10], b2, p2, rfl, R2.chg (S := []) (chgS t3) (by simp), SqL.of upd_same, fun kk e => ?_, fun it4 b4 p4 e H4 q4 vf4 c4 R4 n4 hq4 hi4 hl4 => ?_⟩
        · rw [e] at e0
          exact fun d H'' c' hd => kE kk e0.symm d H'' (cx (c3.trans (c'.mono (by simp)))) hd
        rw [e] at e0
        dsimp only at e0
        have l4 := expr_len e
        have c4' : Chg [X.r, fa] H H4 := c3.trans (c4.mono (by simp))
        have hf4 : H4 fa = some (.lst vs') := c4.1 _ _ (by simpa using Ne.symm nrf) (t3 _ _ hf2)
        have nq4 : H q4 = none ∧ q4 ≠ fa := ⟨c3.none n4 (fun m => by
            simp only [List.mem_cons, List.not_mem_nil, or_false] at m
            rcases m with m | m
            · rw [m] at n4; rw [t3 _ _ R2.obj] at n4; cases n4
            · rw [m, t3 _ _ hf2] at n4; cases n4), fun z => by rw [z, t3 _ _ hf2] at n4; cases n4⟩
        have I4 : ItL K (fun l => H l = none ∧ l ≠ fa) H4 q4 it4 := ⟨nq4, vf4, hq4, hi4⟩
        have I24 := (I2.chg (S := []) (chgS t3) (by simp)).chg c4 (nX q1 nq1)
        have ht4 := (ht2.chg (S := []) (chgS t3) (fun l _ _ => by simp)).chg c4 (fun l h _ => nX l h)
        have hy4 : SqT K H4 q2 (triV y) := (chgS t3 |>.trans (c4.mono (by simp)) : Chg [X.r] H2 H4).tup (SqT.of hq2)
        refine ⟨sz (show 3 ≤ 100000 by decide), fun q5 hq5 => ?_⟩
        have nf5 : fa ≠ q5 := fun z => by rw [z, hq5] at hf4; cases hf4
        have lt := ht4.len
        refine ⟨fa, _, _, rfl, rfl, by rw [upd_ne nf5]; exact hf4, szl (by omega), ?_⟩
        have cF : Chg [fa] H4 (upd (upd H4 q5 (.tup [.ref q1, .ref q2, .ref q4])) fa (.lst (vs' ++ [.ref q5]))) := ((Chg.refl H4).new hq5).set (by simp) (by rw [upd_ne nf5]; exact hf4) (by intro z; exact z)
        have nF : ∀ l, (H l = none ∧ l ≠ fa) → l ∉ [fa] := fun l h => by simpa using h.2
        have ht5 : TestsAt K (fun l => H l = none ∧ l ≠ fa) (upd (upd H4 q5 (.tup [.ref q1, .ref q2, .ref q4])) fa (.lst (vs' ++ [.ref q5]))) (vs' ++ [.ref q5]) (ts' ++ [(it1, y, it4)]) :=
          (ht4.chg cF (fun l h _ => nF l h)).snoc ⟨q5, q1, q2, q4, rfl, SqT.of (by rw [upd_ne (Ne.symm nf5), upd_same]), I24.chg cF (nF q1 nq1), cF.tup hy4, I4.chg cF (nF q4 nq4)⟩
        have hf5 : (upd (upd H4 q5 (.tup [.ref q1, .ref q2, .ref q4])) fa (.lst (vs' ++ [.ref q5]))) fa = some (.lst (vs' ++ [.ref q5])) := upd_same
        have R5 := R4.chg cF (by simpa using nrf)
        have c5 := c4'.trans (cF.mono (by simp))
        have l5 : (ts' ++ [(it1, y, it4)]).length = ts'.length + 1 := by rw [List.length_append, List.length_singleton]
        revert ht5 hf5 R5 c5
        generalize (upd (upd H4 q5 (.tup [.ref q1, .ref q2, .ref q4])) fa (.lst (vs' ++ [.ref q5]))) = H5
        intro ht5 hf5 R5 c5
        -- is there more
        refine ⟨_, rfl, X.r, rfl, R5.ins, sz (show 1 ≤ 100000 by decide), fun q6 hq6 => ?_⟩
        have t6 : Same H5 (upd H5 q6 (.lst [.int 32])) := fun b o e => by rw [upd_ne (ne_of_none e hq6)]; exact e
        have R6 := R5.chg (S := []) (chgS t6) (by simp)
        have c6 : Chg [X.r, fa] H (upd H5 q6 (.lst [.int 32])) := c5.trans (chgS t6)
        refine ⟨X, q6, b4, p4, [32], rfl, R6, .inl (SqL.of upd_same), ?_⟩
        refine ⟨_, rfl, _, rfl, ?_⟩
        cases hs : sees b4 [32] with
        | false =>
          rw [hs, if_neg (by decide)] at e0
          refine ite2 (fun n => absurd n (by decide)) (fun _ => ?_)
          exact ⟨false, b4, p4, _, _, _, _, rfl, c6, R6, t6 _ _ hf5, ht5.chg (S := []) (chgS t6) (fun l _ _ => by simp), by omega, fun z => (by cases z), fun _ => e0.symm⟩
        | true =>
          rw [hs, if_pos rfl] at e0
          refine ite2 (fun _ => ?_) (fun n => absurd rfl n)
          refine ⟨_, rfl, X.r, rfl, R6.ins, Str.ofString " and ", rfl, (by decide +kernel), fun H7 q7 s7 n7 hq7 => ?_⟩
          rw [and_codes] at hq7
          have R7 := R6.chg (S := []) (chgS s7) (by simp)
          have c7 := c6.trans (chgS s7)
          refine ⟨X, q7, b4, p4, andL, rfl, R7, SqL.of hq7, fun kk e => ?_, fun b8 p8 e H8 c8 R8 => ?_⟩
          · rw [e] at e0
            exact fun d H'' c' hd => kE kk e0.symm d H'' (cx (c7.trans (c'.mono (by simp)))) hd
          · rw [e] at e0
            have l8 := word_len e
            refine ⟨true, b8, p8, _, _, _, _, rfl, c7.trans (c8.mono (by simp)), R8, c8.1 _ _ (by simpa using Ne.symm nrf) (s7 _ _ (t6 _ _ hf5)), ((ht5.chg (S := []) (chgS t6) (fun l _ _ => by simp)).chg (S := []) (chgS s7) (fun l _ _ => by simp)).chg c8 (fun l h _ => nX l h), by omega, fun _ => e0, fun z => by cases z⟩
end
end Ab
/-! ## The walk: Lines -/
namespace Ab
open PySem PySem.Spec PyProof.Rows L2
def Refs (vs : List V) : Prop := ∀ v ∈ vs, ∃ q, v = V.ref q
theorem paired_refs {A : Type} {F : V → A → Prop} (hF : ∀ v a, F v a → ∃ q, v = V.ref q) : ∀ {vs : List V} {l : List A}, Paired F vs l → Refs vs := by
  intro vs l h
  induction h with
  | nil => intro v hv; cases hv
  | cons a b ih =>
    intro v hv
    rcases List.mem_cons.mp hv with e | m
    · rw [e]; exact hF _ _ a
    · exact ih v m
theorem Its.refs {K : PySem.W.Frag} {H : Hp} {vs : List V} {its : Items} (h : Its K H vs its) : Refs vs := paired_refs (fun v a ⟨q, e, _⟩ => ⟨q, e⟩) h
theorem TestsAt.refs {K : PySem.W.Frag} {N : Addr → Prop} {H : Hp} {vs : List V} {ts : Tests} (h : TestsAt K N H vs ts) : Refs vs := paired_refs (fun v a ⟨q, _, _, _, e, _⟩ => ⟨q, e⟩) h
/-- the lists that N lets in are none of S -/
def Off (N : Addr → Prop) (H : Hp) (S : List Addr) : Prop := ∀ l vs, N l → H l = some (.lst vs) → Refs vs → l ∉ S
theorem ItL.off {K : PySem.W.Frag} {N : Addr → Prop} {H H' : Hp} {S : List Addr} {l : Addr} {its : Items} (h : ItL K N H l its) (c : Chg S H H') (o : Off N H S) : ItL K N H' l its := by
  obtain ⟨h1, vf, h2, h3⟩ := h
  exact ⟨h1, vf, c.1 _ _ (o l vf h1 h2 h3.refs) h2, h3.chg c⟩
theorem TestsAt.off {K : PySem.W.Frag} {N : Addr → Prop} {H H' : Hp} {S : List Addr} {vs : List V} {ts : Tests} (h : TestsAt K N H vs ts) (c : Chg S H H') (o : Off N H S) : TestsAt K N H' vs ts :=
  Paired.mapP h fun v t ⟨q, l, y, r, h1, h2, h3, h4, h5⟩ => ⟨q, l, y, r, h1, c.tup h2, h3.off c o, c.tup h4, h5.off c o⟩
def PartAt (K : PySem.W.Frag) (N : Addr → Prop) (H : Hp) (v : V) : Part → Prop
  | .two x y => ∃ q l r, v = .ref q ∧ SqT K H q [.ref l, .ref r] ∧ ItL K N H l x ∧ ItL K N H r y
  | .set k x => ∃ q l, v = .ref q ∧ SqT K H q [.int k, .ref l] ∧ ItL K N H l x
  | .tests ts => ∃ q l vs, v = .ref q ∧ SqT K H q [.ref l] ∧ N l ∧ H l = some (.lst vs) ∧ TestsAt K N H vs ts
  | .nil => ∃ q, v = .ref q ∧ SqT K H q []
theorem PartAt.off {K : PySem.W.Frag} {N : Addr → Prop} {H H' : Hp} {S : List Addr} {v : V} {x : Part} (h : PartAt K N H v x) (c : Chg S H H') (o : Off N H S) : PartAt K N H' v x := by
  cases x with
  | two x y =>
    obtain ⟨q, l, r, h1, h2, h3, h4⟩ := h
    exact ⟨q, l, r, h1, c.tup h2, h3.off c o, h4.off c o⟩
  | set k x =>
    obtain ⟨q, l, h1, h2, h3⟩ := h
    exact ⟨q, l, h1, c.tup h2, h3.off c o⟩
  | tests ts =>
    obtain ⟨q, l, vs, h1, h2, h3, h4, h5⟩ := h
    exact ⟨q, l, vs, h1, c.tup h2, h3, c.1 _ _ (o l vs h3 h4 h5.refs) h4, h5.off c o⟩
  | nil =>
    obtain ⟨q, h1, h2⟩ := h
    exact ⟨q, h1, c.tup h2⟩
theorem PartAt.imp {K : PySem.W.Frag} {N N' : Addr → Prop} {H : Hp} {v : V} {x : Part} (h : PartAt K N H v x) (n : ∀ l, N l → N' l) : PartAt K N' H v x := by
  cases x with
  | two x y =>
    obtain ⟨q, l, r, h1, h2, h3, h4⟩ := h
    exact ⟨q, l, r, h1, h2, h3.imp n, h4.imp n⟩
  | set k x =>
    obtain ⟨q, l, h1, h2, h3⟩ := h
    exact ⟨q, l, h1, h2, h3.imp n⟩
  | tests ts =>
    obtain ⟨q, l, vs, h1, h2, h3, h4, h5⟩ := h
    exact ⟨q, l, vs, h1, h2, n _ h3, h4, h5.imp n⟩
  | nil => exact h
def nvs (l : List Nat) : List V := l.map fun (n : Nat) => V.int (n : Int)
theorem paired_snoc {A : Type} {F : V → A → Prop} {v : V} {x : A} (hx : F v x) : ∀ {vs : List V} {l : List A}, Paired F vs l → Paired F (vs ++ [v]) (l ++ [x]) := by
  intro vs l h
  induction h with
  | nil => exact .cons hx .nil
  | cons a b ih => exact .cons a ih
theorem nvs_len (l : List Nat) : (nvs l).length = l.length := List.length_map ..
theorem nvs_snoc (l : List Nat) (n : Nat) : nvs (l ++ [n]) = nvs l ++ [.int (n : Int)] := by simp [nvs]
theorem nvs_set (l : List Nat) (i n : Nat) : nvs (l.set i n) = (nvs l).set i (.int (n : Int)) := by simp [nvs]
theorem nvs_at {l : List Nat} {i n : Nat} (h : l[i]? = some n) : (nvs l)[i]? = some (.int (n : Int)) := by
  unfold nvs
  rw [List.getElem?_map, h]; rfl
def optV : Option Nat → V
  | none => .non
  | some m => .int (m : Int)
def OpAt (H : Hp) (v : V) (x : Nat × Option Nat) : Prop := ∃ a, v = .ref a ∧ H a = some (.lst [.int (x.1 : Int), optV x.2])
structure Lno where
  a : Addr
  dx : Addr
  w : Addr
  p : Addr
  g : Addr
  o : Addr
def fL (L : Lno) : List (Str × V) := [("words", .ref L.w), ("parts", .ref L.p), ("goals", .ref L.g), ("open_ones", .ref L.o)]
theorem fL_words (L) : (fL L).lookup ("words" : Str) = some (.ref L.w) := lk_eq
theorem fL_parts (L) : (fL L).lookup ("parts" : Str) = some (.ref L.p) := by
  unfold fL
  rw [lk_ne (by decide +kernel), lk_eq]
theorem fL_goals (L) : (fL L).lookup ("goals" : Str) = some (.ref L.g) := by
  unfold fL
  rw [lk_ne (by decide +kernel), lk_ne (by decide +kernel), lk_eq]
theorem fL_open (L) : (fL L).lookup ("open_ones" : Str) = some (.ref L.o) := by
  unfold fL
  rw [lk_ne (by decide +kernel), lk_ne (by decide +kernel), lk_ne (by decide +kernel), lk_eq]
theorem fL_no (L) {m : Str} (h1 : m ≠ "words") (h2 : m ≠ "parts") (h3 : m ≠ "goals") (h4 : m ≠ "open_ones") : (fL L).lookup m = none := by
  unfold fL
  rw [lk_ne h1, lk_ne h2, lk_ne h3, lk_ne h4]; rfl
/-- the four lists and the reader: what no part's list is -/
def N5 (r : Addr) (L : Lno) : Addr → Prop := fun l => l ∉ [r, L.w, L.p, L.g, L.o]
/-- Lines as they stand: behind the heap H0, which stands as it was -/
structure LnAt (K : PySem.W.Frag) (C : Addr) (H0 : Hp) (r : Addr) (L : Lno) (H : Hp) (s : LS) : Prop where
  base : Same H0 H
  new : ∀ x ∈ [r, L.a, L.w, L.p, L.g, L.o], H0 x = none
  obj : H L.a = some (.ins C L.dx (fL L))
  ra : r ≠ L.a
  rdr : ∃ C dx fs, H r = some (.ins C dx fs)
  nd : L.w ≠ L.p ∧ L.w ≠ L.g ∧ L.w ≠ L.o ∧ L.p ≠ L.g ∧ L.p ≠ L.o ∧ L.g ≠ L.o
  ws : H L.w = some (.lst (nvs s.ws))
  gs : H L.g = some (.lst (nvs s.gs))
  ps : ∃ vp, H L.p = some (.lst vp) ∧ Paired (PartAt K (N5 r L) H) vp s.ps
  os : ∃ vo, H L.o = some (.lst vo.reverse) ∧ Paired (OpAt H) vo s.os ∧ vo.Nodup ∧ ∀ a, V.ref a ∈ vo → a ∉ [L.w, L.p, L.g, L.o] ∧ H0 a = none
  gl : s.gs.length = s.ws.length
  pl : s.ps.length = s.ws.length
  sm : s.os.length ≤ 5000
theorem op_chg {S : List Addr} {H H' : Hp} (c : Chg S H H') : ∀ {vo : List V} {os : List (Nat × Option Nat)}, Paired (OpAt H) vo os → (∀ a, V.ref a ∈ vo → a ∉ S) → Paired (OpAt H') vo os := by
  intro vo os h
  induction h with
  | nil => intro _; exact .nil
  | @cons v x vs xs a b ih =>
    intro n
    obtain ⟨q, rfl, hq⟩ := a
    exact .cons ⟨q, rfl, c.1 _ _ (n q (List.mem_cons_self ..)) hq⟩ (ih fun a ha => n a (List.mem_cons_of_mem _ ha))
theorem op_lst {H : Hp} : ∀ {vo : List V} {os : List (Nat × Option Nat)}, Paired (OpAt H) vo os → ∀ a, V.ref a ∈ vo → ∃ i m, H a = some (.lst [.int i, m]) := by
  intro vo os h
  induction h with
  | nil => intro a ha; cases ha
  | @cons v x vs xs p b ih =>
    intro a ha
    obtain ⟨q, rfl, hq⟩ := p
    rcases List.mem_cons.mp ha with e | m
    · cases e; exact ⟨_, _, hq⟩
    · exact ih a m
section
variable {K : PySem.W.Frag} {C : Addr} {H0 H H' : Hp} {r : Addr} {L : Lno} {s : LS}
theorem LnAt.off {S : List Addr} (h : ∀ x ∈ S, x ∈ [r, L.w, L.p, L.g, L.o]) : Off (N5 r L) H S := fun l vs n _ _ m => n (h l m)
/-- what moves the reader alone leaves the lines -/
theorem LnAt.chg (h : LnAt K C H0 r L H s) (c : Chg [r] H H') (hr : ∃ C dx fs, H' r = some (.ins C dx fs)) : LnAt K C H0 r L H' s := by
  obtain ⟨C0, d0, f0, er⟩ := h.rdr
  have k : ∀ {a xs}, H a = some (.lst xs) → a ∉ [r] := fun {a xs} e m => by
    have : a = r := by simpa using m
    rw [this, er] at e; cases e
  obtain ⟨vp, p1, p2⟩ := h.ps
  obtain ⟨vo, o1, o2, o3, o4⟩ := h.os
  exact {
    base := fun b o e => c.1 b o (fun m => by
      have : b = r := by simpa using m
      rw [this, h.new r (by simp)] at e; cases e) (h.base b o e)
    new := h.new
    obj := c.1 _ _ (by simpa using Ne.symm h.ra) h.obj
    ra := h.ra
    rdr := hr
    nd := h.nd
    ws := c.1 _ _ (k h.ws) h.ws
    gs := c.1 _ _ (k h.gs) h.gs
    ps := ⟨vp, c.1 _ _ (k p1) p1, Paired.mapP p2 fun v x hx => hx.off c (LnAt.off (by simp))⟩
    os := ⟨vo, c.1 _ _ (k o1) o1, op_chg c o2 (fun a ha => by
      obtain ⟨i, m, e⟩ := op_lst o2 a ha
      exact k e), o3, o4⟩
    gl := h.gl
    pl := h.pl
    sm := h.sm }
theorem LnAt.same (h : LnAt K C H0 r L H s) (c : Same H H') : LnAt K C H0 r L H' s := by
  obtain ⟨C0, d0, f0, er⟩ := h.rdr
  exact h.chg (chgS c) ⟨C0, d0, f0, c _ _ er⟩
/-- the goals alone change -/
theorem LnAt.goals (h : LnAt K C H0 r L H s) (g : List Nat) (hg : g.length = s.gs.length) : LnAt K C H0 r L (upd H L.g (.lst (nvs g))) { s with gs := g } := by
  have c : Chg [L.g] H (upd H L.g (.lst (nvs g))) := (Chg.refl H).set (by simp) h.gs (by intro z; exact z)
  obtain ⟨C0, d0, f0, er⟩ := h.rdr
  obtain ⟨n1, n2, n3, n4, n5, n6⟩ := h.nd
  obtain ⟨vp, p1, p2⟩ := h.ps
  obtain ⟨vo, o1, o2, o3, o4⟩ := h.os
  exact {
    base := fun b o e => by rw [upd_ne (ne_of_none e (h.new L.g (by simp)))]; exact h.base b o e
    new := h.new
    obj := by rw [upd_ne (ne_of h.obj h.gs (by intro z; cases z))]; exact h.obj
    ra := h.ra
    rdr := ⟨C0, d0, f0, by rw [upd_ne (ne_of er h.gs (by intro z; cases z))]; exact er⟩
    nd := h.nd
    ws := by rw [upd_ne n2]; exact h.ws
    gs := upd_same
    ps := ⟨vp, by rw [upd_ne n4]; exact p1, Paired.mapP p2 fun v x hx => hx.off c (LnAt.off (by simp))⟩
    os := ⟨vo, by rw [upd_ne (Ne.symm n6)]; exact o1, op_chg c o2 (fun a ha m => (o4 a ha).1 (by have : a = L.g := by simpa using m
                                                                                                 simp [this])), o3, o4⟩
    gl := hg.trans h.gl
    pl := h.pl
    sm := h.sm }
/-- a line more: words, parts, goals -/
theorem LnAt.put3 (h : LnAt K C H0 r L H s) {k : Nat} {v : V} {x : Part} {vp : List V} (hp : H L.p = some (.lst vp)) (hv : PartAt K (N5 r L) H v x) :
    LnAt K C H0 r L (upd (upd (upd H L.w (.lst (nvs s.ws ++ [.int (k : Int)]))) L.p (.lst (vp ++ [v]))) L.g (.lst (nvs s.gs ++ [.int ((s.ws.length + 1 : Nat) : Int)]))) (s.put k x) := by
  obtain ⟨C0, d0, f0, er⟩ := h.rdr
  obtain ⟨n1, n2, n3, n4, n5, n6⟩ := h.nd
  obtain ⟨vp', p1, p2⟩ := h.ps
  obtain ⟨vo, o1, o2, o3, o4⟩ := h.os
  have e := p1.symm.trans hp
  cases e
  have c : Chg [L.w, L.p, L.g] H (upd (upd (upd H L.w (.lst (nvs s.ws ++ [.int (k : Int)]))) L.p (.lst (vp ++ [v]))) L.g (.lst (nvs s.gs ++ [.int ((s.ws.length + 1 : Nat) : Int)]))) :=
    (((Chg.refl H).set (by simp) h.ws (by intro z; exact z)).set (by simp) (by rw [upd_ne (Ne.symm n1)]; exact p1) (by intro z; exact z)).set (by simp) (by rw [upd_ne (Ne.symm n4), upd_ne (Ne.symm n2)]; exact h.gs) (by intro z; exact z)
  have nl : ∀ {a C dx fs}, H a = some (.ins C dx fs) → a ∉ [L.w, L.p, L.g] := fun {a C dx fs} e m => by
    rcases mem3 m with z | z | z
    · rw [z, h.ws] at e; cases e
    · rw [z, p1] at e; cases e
    · rw [z, h.gs] at e; cases e
  exact {
    base := fun b o e => c.1 b o (fun m => by
      rcases mem3 m with z | z | z
      · rw [z, h.new L.w (by simp)] at e; cases e
      · rw [z, h.new L.p (by simp)] at e; cases e
      · rw [z, h.new L.g (by simp)] at e; cases e) (h.base b o e)
    new := h.new
    obj := c.1 _ _ (nl h.obj) h.obj
    ra := h.ra
    rdr := ⟨C0, d0, f0, c.1 _ _ (nl er) er⟩
    nd := h.nd
    ws := by
      rw [upd_ne n2, upd_ne n1, upd_same]
      exact congrArg (fun z => some (HO.lst z)) (nvs_snoc s.ws k).symm
    gs := by
      rw [upd_same]
      exact congrArg (fun z => some (HO.lst z)) (nvs_snoc s.gs _).symm
    ps := ⟨vp ++ [v], by rw [upd_ne n4, upd_same], by
      have o := LnAt.off (r := r) (L := L) (H := H) (S := [L.w, L.p, L.g]) (by simp)
      have q := Paired.mapP p2 (G := PartAt K (N5 r L) (upd (upd (upd H L.w (.lst (nvs s.ws ++ [.int (k : Int)]))) L.p (.lst (vp ++ [v]))) L.g (.lst (nvs s.gs ++ [.int ((s.ws.length + 1 : Nat) : Int)])))) fun v x hx => hx.off c o
      have q2 := hv.off c o
      exact paired_snoc q2 q⟩
    os := ⟨vo, c.1 _ _ (not3 (Ne.symm n3) (Ne.symm n5) (Ne.symm n6)) o1, op_chg c o2 (fun a ha m => (o4 a ha).1 (by
      rcases mem3 m with z | z | z <;> simp [z])), o3, o4⟩
    gl := by
      show (s.gs ++ [_]).length = (s.ws ++ [_]).length
      rw [List.length_append, List.length_append, h.gl]; rfl
    pl := by
      show (s.ps ++ [_]).length = (s.ws ++ [_]).length
      rw [List.length_append, List.length_append, h.pl]; rfl
    sm := h.sm }
/-- an open one more -/
theorem LnAt.push (h : LnAt K C H0 r L H s) {vo : List V} {n : Addr} (ho : H L.o = some (.lst vo)) (hn : H n = none) (hs : s.os.length < 5000) (i : Nat) :
    LnAt K C H0 r L (upd (upd H n (.lst [.int (i : Int), .non])) L.o (.lst (vo ++ [.ref n]))) { s with os := (i, none) :: s.os } := by
  obtain ⟨C0, d0, f0, er⟩ := h.rdr
  obtain ⟨n1, n2, n3, n4, n5, n6⟩ := h.nd
  obtain ⟨vp, p1, p2⟩ := h.ps
  obtain ⟨vo', o1, o2, o3, o4⟩ := h.os
  have e := o1.symm.trans ho
  have e := HO.lst.inj (Option.some.inj e)
  subst e
  have no : n ≠ L.o := fun z => by rw [z, o1] at hn; cases hn
  have c : Chg [L.o] H (upd (upd H n (.lst [.int (i : Int), .non])) L.o (.lst (vo'.reverse ++ [.ref n]))) := ((Chg.refl H).new hn).set (by simp) (by rw [upd_ne (Ne.symm no)]; exact o1) (by intro z; exact z)
  have hn0 : H0 n = none := by
    cases q : H0 n with
    | none => rfl
    | some o => rw [h.base n o q] at hn; cases hn
  have nl : ∀ {a C dx fs}, H a = some (.ins C dx fs) → a ∉ [L.o] := fun {a C dx fs} e m => by
    have z : a = L.o := by simpa using m
    rw [z, o1] at e; cases e
  exact {
    base := fun b o e => c.1 b o (fun m => by
      have z : b = L.o := by simpa using m
      rw [z, h.new L.o (by simp)] at e; cases e) (h.base b o e)
    new := h.new
    obj := c.1 _ _ (nl h.obj) h.obj
    ra := h.ra
    rdr := ⟨C0, d0, f0, c.1 _ _ (nl er) er⟩
    nd := h.nd
    ws := c.1 _ _ (by simpa using n3) h.ws
    gs := c.1 _ _ (by simpa using n6) h.gs
    ps := ⟨vp, c.1 _ _ (by simpa using n5) p1, Paired.mapP p2 fun v x hx => hx.off c (LnAt.off (by simp))⟩
    os := ⟨.ref n :: vo', by rw [upd_same, List.reverse_cons], .cons ⟨n, rfl, by rw [upd_ne no, upd_same]; rfl⟩ (op_chg c o2 (fun a ha m => (o4 a ha).1 (by
        have : a = L.o := by simpa using m
        simp [this]))), List.nodup_cons.mpr ⟨fun m => (by
          obtain ⟨j, m2, e⟩ := op_lst o2 n m
          rw [hn] at e; cases e), o3⟩, fun a ha => by
        rcases List.mem_cons.mp ha with e | m
        · cases e
          refine ⟨fun m => ?_, hn0⟩
          simp only [List.mem_cons, List.not_mem_nil, or_false] at m
          rcases m with z | z | z | z
          · rw [z, h.ws] at hn; cases hn
          · rw [z, p1] at hn; cases hn
          · rw [z, h.gs] at hn; cases hn
          · exact no z
        · exact o4 a m⟩
    gl := h.gl
    pl := h.pl
    sm := hs }
/-- the last open one goes -/
theorem LnAt.pop (h : LnAt K C H0 r L H s) {x : Nat × Option Nat} {rs : List (Nat × Option Nat)} (hx : s.os = x :: rs) : ∃ a vo, H L.o = some (.lst (vo ++ [.ref a])) ∧ H a = some (.lst [.int (x.1 : Int), optV x.2]) ∧
    LnAt K C H0 r L (upd H L.o (.lst vo)) { s with os := rs } ∧ a ≠ L.o := by
  obtain ⟨C0, d0, f0, er⟩ := h.rdr
  obtain ⟨n1, n2, n3, n4, n5, n6⟩ := h.nd
  obtain ⟨vp, p1, p2⟩ := h.ps
  obtain ⟨vo', o1, o2, o3, o4⟩ := h.os
  have hsm := h.sm
  rw [hx] at o2 hsm
  cases o2 with
  | @cons v _ vs _ pa pb =>
    obtain ⟨a, rfl, ha⟩ := pa
    have c : Chg [L.o] H (upd H L.o (.lst vs.reverse)) := (Chg.refl H).set (by simp) o1 (by intro z; exact z)
    have nl : ∀ {a C dx fs}, H a = some (.ins C dx fs) → a ∉ [L.o] := fun {a C dx fs} e m => by
      have z : a = L.o := by simpa using m
      rw [z, o1] at e; cases e
    refine ⟨a, vs.reverse, by rw [o1, List.reverse_cons], ha, ?_, fun z => (o4 a (List.mem_cons_self ..)).1 (by simp [z])⟩
    exact {
      base := fun b o e => c.1 b o (fun m => by
        have z : b = L.o := by simpa using m
        rw [z, h.new L.o (by simp)] at e; cases e) (h.base b o e)
      new := h.new
      obj := c.1 _ _ (nl h.obj) h.obj
      ra := h.ra
      rdr := ⟨C0, d0, f0, c.1 _ _ (nl er) er⟩
      nd := h.nd
      ws := c.1 _ _ (by simpa using n3) h.ws
      gs := c.1 _ _ (by simpa using n6) h.gs
      ps := ⟨vp, c.1 _ _ (by simpa using n5) p1, Paired.mapP p2 fun v x hx => hx.off c (LnAt.off (by simp))⟩
      os := ⟨vs, upd_same, op_chg c pb (fun b hb m => (o4 b (List.mem_cons_of_mem _ hb)).1 (by
          have : b = L.o := by simpa using m
          simp [this])), (List.nodup_cons.mp o3).2, fun b hb => o4 b (List.mem_cons_of_mem _ hb)⟩
      gl := h.gl
      pl := h.pl
      sm := by
        have : (x :: rs).length = rs.length + 1 := rfl
        show rs.length ≤ 5000
        omega }
/-- the last open one has its else -/
theorem LnAt.mid (h : LnAt K C H0 r L H s) {b : Nat} {mm : Option Nat} {rs : List (Nat × Option Nat)} (hx : s.os = (b, mm) :: rs) (k : Nat) : ∃ a vo, H L.o = some (.lst (vo ++ [.ref a])) ∧ H a = some (.lst [.int (b : Int), optV mm]) ∧
    LnAt K C H0 r L (upd H a (.lst [.int (b : Int), .int (k : Int)])) { s with os := (b, some k) :: rs } := by
  obtain ⟨C0, d0, f0, er⟩ := h.rdr
  obtain ⟨n1, n2, n3, n4, n5, n6⟩ := h.nd
  obtain ⟨vp, p1, p2⟩ := h.ps
  obtain ⟨vo', o1, o2, o3, o4⟩ := h.os
  have hsm := h.sm
  rw [hx] at o2 hsm
  cases o2 with
  | @cons v _ vs _ pa pb =>
    obtain ⟨a, rfl, ha⟩ := pa
    obtain ⟨na, na0⟩ := o4 a (List.mem_cons_self ..)
    have c : Chg [a] H (upd H a (.lst [.int (b : Int), .int (k : Int)])) := (Chg.refl H).set (by simp) ha (by intro z; exact z)
    have na : a ≠ L.w ∧ a ≠ L.p ∧ a ≠ L.g ∧ a ≠ L.o := by simpa using na
    have nl : ∀ {d C dx fs}, H d = some (.ins C dx fs) → d ∉ [a] := fun {d C dx fs} e m => by
      have z : d = a := by simpa using m
      rw [z, ha] at e; cases e
    refine ⟨a, vs.reverse, by rw [o1, List.reverse_cons], ha, ?_⟩
    exact {
      base := fun d o e => c.1 d o (fun m => by
        have z : d = a := by simpa using m
        rw [z, na0] at e; cases e) (h.base d o e)
      new := h.new
      obj := c.1 _ _ (nl h.obj) h.obj
      ra := h.ra
      rdr := ⟨C0, d0, f0, c.1 _ _ (nl er) er⟩
      nd := h.nd
      ws := c.1 _ _ (by simpa using Ne.symm na.1) h.ws
      gs := c.1 _ _ (by simpa using Ne.symm na.2.2.1) h.gs
      ps := ⟨vp, c.1 _ _ (by simpa using Ne.symm na.2.1) p1, Paired.mapP p2 fun v x hx => hx.off c (fun l vs' _ e rf m => by
        have z : l = a := by simpa using m
        rw [z, ha] at e
        cases e
        obtain ⟨q, e⟩ := rf (.int (b : Int)) (List.mem_cons_self ..)
        cases e)⟩
      os := ⟨.ref a :: vs, by rw [upd_ne (Ne.symm na.2.2.2), o1], .cons ⟨a, rfl, upd_same⟩ (op_chg c pb (fun d hd m => by
          have z : d = a := by simpa using m
          rw [z] at hd
          exact (List.nodup_cons.mp o3).1 hd)), o3, o4⟩
      gl := h.gl
      pl := h.pl
      sm := hsm }
end
end Ab
/-! ## The walk: Lines' methods -/
namespace Ab
open PySem PySem.Spec PyProof.Rows L2
/-- all but plain lists stands as it was -/
def KL (H H' : Hp) : Prop := ∀ b o, (∀ xs, o ≠ .lst xs) → H b = some o → H' b = some o
theorem KL.refl (H : Hp) : KL H H := fun _ _ _ h => h
theorem KL.trans {H H1 H2 : Hp} (a : KL H H1) (b : KL H1 H2) : KL H H2 := fun x o n h => b x o n (a x o n h)
theorem Same.kl {H H' : Hp} (a : Same H H') : KL H H' := fun x o _ h => a x o h
theorem KL.set {H H' : Hp} {p : Addr} {xs : List V} {u : HO} (a : KL H H') (h : H' p = some (.lst xs)) : KL H (upd H' p u) := fun b o n e => by
  have q := a b o n e
  rw [upd_ne (fun z => by rw [z, h] at q; cases q; exact n xs rfl)]; exact q
theorem KL.new {H H' : Hp} {p : Addr} {u : HO} (a : KL H H') (h : H' p = none) : KL H (upd H' p u) := fun b o n e => by
  have q := a b o n e
  rw [upd_ne (ne_of_none q h)]; exact q
theorem RdAt.kl {K : PySem.W.Frag} {C : Addr} {X : Rdr} {H H' : Hp} {b : List Int} {p : Nat} (h : RdAt K C X H b p) (c : KL H H') : RdAt K C X H' b p :=
  ⟨c _ _ (by intro _ z; cases z) h.obj, by
    rcases h.txt with ⟨o, e⟩ | e
    · exact .inl ⟨o, c _ _ (by intro _ z; cases z) e⟩
    · exact .inr e, h.rest, h.len, h.small⟩
theorem upd_none {H : Hp} {a b : Addr} {o : HO} (h : upd H a o b = none) : b ≠ a ∧ H b = none := by
  by_cases e : b = a
  · rw [e, upd_same] at h; cases h
  · rw [upd_ne e] at h; exact ⟨e, h⟩
theorem mem4 {x a b c d : Addr} (h : x ∈ [a, b, c, d]) : x = a ∨ x = b ∨ x = c ∨ x = d := by simpa using h
theorem ixn_nat {n j : Nat} (h : j < n) : ixN n (j : Int) = some j := by
  unfold ixN
  rw [if_pos (by omega), if_pos (by omega)]; rfl
theorem ixn_last (n : Nat) : ixN (n + 1) (-1) = some n := by
  unfold ixN
  rw [if_neg (by omega), if_pos (by omega)]
  congr 1
  omega
section
variable {P : Program} {w : World} {K : PySem.W.Frag} {mg : Str → Option Value} {base : Heap} {cFault cReader cLines : Addr}
def spLines (C : Addr) : Sp := fun vs H Q _ => ∃ x dx, vs = [.ref x] ∧ H x = some (.ins C dx []) ∧ ∀ H' L, L.a = x → L.dx = dx → (∀ b o, b ≠ x → H b = some o → H' b = some o) → H' x = some (.ins C dx (fL L)) →
  (∀ y ∈ [L.w, L.p, L.g, L.o], H y = none) → (∀ y ∈ [L.w, L.p, L.g, L.o], H' y = some (.lst [])) → (L.w ≠ L.p ∧ L.w ≠ L.g ∧ L.w ≠ L.o ∧ L.p ≠ L.g ∧ L.p ≠ L.o ∧ L.g ≠ L.o) → Q .non H'
theorem ok_Lines___init__ (T : Txt K mg cFault cReader cLines) : Kf P w K mg base CX0 1 "Lines" cLines ["self"] (spLines cLines) := by
  refine kf_mk T.g_Lines T.d_Lines___init__ fun f fd F => F.ok sc_Lines___init__ (fun vs H Q E h => ?_) (fun cdv A outer s H vs Q E hr h => ?_)
  · obtain ⟨x, dx, rfl, _⟩ := h
    rfl
  · obtain ⟨x, dx, rfl, hx, k⟩ := h
    refine ⟨_, (pss_cons (ps_put (pv 0) (pe_lst pa_nil)) (pss_cons (ps_put (pv 0) (pe_lst pa_nil)) (pss_cons (ps_put (pv 0) (pe_lst pa_nil)) (pss_one (ps_put (pv 0) (pe_lst pa_nil)))))), ?_⟩
    refine ⟨Nat.zero_le _, fun w hw => ?_⟩
    have xw : x ≠ w := ne_of_none hx hw
    refine ⟨_, rfl, x, cLines, dx, [], rfl, ⟨by rw [upd_ne xw]; exact hx, T.cl_Lines, T.na_Lines_words, (by decide : 0 < 1000)⟩, ?_⟩
    refine ⟨Nat.zero_le _, fun p hp => ?_⟩
    obtain ⟨px, hp⟩ := upd_none hp
    obtain ⟨pw, hp⟩ := upd_none hp
    refine ⟨_, rfl, x, cLines, dx, _, rfl, ⟨(upd_ne (Ne.symm px)).trans upd_same, T.cl_Lines, T.na_Lines_parts, (by decide : 1 < 1000)⟩, ?_⟩
    refine ⟨Nat.zero_le _, fun g hg => ?_⟩
    obtain ⟨gx, hg⟩ := upd_none hg
    obtain ⟨gp, hg⟩ := upd_none hg
    obtain ⟨_, hg⟩ := upd_none hg
    obtain ⟨gw, hg⟩ := upd_none hg
    refine ⟨_, rfl, x, cLines, dx, _, rfl, ⟨(upd_ne (Ne.symm gx)).trans upd_same, T.cl_Lines, T.na_Lines_goals, (by decide : 2 < 1000)⟩, ?_⟩
    refine ⟨Nat.zero_le _, fun o ho => ?_⟩
    obtain ⟨ox, ho⟩ := upd_none ho
    obtain ⟨og, ho⟩ := upd_none ho
    obtain ⟨_, ho⟩ := upd_none ho
    obtain ⟨op, ho⟩ := upd_none ho
    obtain ⟨_, ho⟩ := upd_none ho
    obtain ⟨ow, ho⟩ := upd_none ho
    refine ⟨_, rfl, x, cLines, dx, _, rfl, ⟨(upd_ne (Ne.symm ox)).trans upd_same, T.cl_Lines, T.na_Lines_open_ones, (by decide : 3 < 1000)⟩, ?_⟩
    refine k _ ⟨x, dx, w, p, g, o⟩ rfl rfl (fun b u hb e => ?_) ?_ (fun y hy => ?_) (fun y hy => ?_) ⟨Ne.symm pw, Ne.symm gw, Ne.symm ow, Ne.symm gp, Ne.symm op, Ne.symm og⟩
    · rw [upd_ne hb, upd_ne (ne_of_none e ho), upd_ne hb, upd_ne (ne_of_none e hg), upd_ne hb, upd_ne (ne_of_none e hp), upd_ne hb, upd_ne (ne_of_none e hw)]; exact e
    · rw [upd_same]
      have e : putF "open_ones" (.ref o) (putF "goals" (.ref g) (putF "parts" (.ref p) (putF "words" (.ref w) []))) = fL ⟨x, dx, w, p, g, o⟩ := by
        show putF "open_ones" (.ref o) (putF "goals" (.ref g) (putF "parts" (.ref p) [("words", .ref w)])) = _
        rw [pf_ne (by decide +kernel)]
        show putF "open_ones" (.ref o) (putF "goals" (.ref g) [("words", .ref w), ("parts", .ref p)]) = _
        rw [pf_ne (by decide +kernel), pf_ne (by decide +kernel)]
        show putF "open_ones" (.ref o) [("words", .ref w), ("parts", .ref p), ("goals", .ref g)] = _
        rw [pf_ne (by decide +kernel), pf_ne (by decide +kernel), pf_ne (by decide +kernel)]
        rfl
      rw [e]
    · rcases mem4 hy with z | z | z | z <;> rw [z] <;> assumption
    · rcases mem4 hy with z | z | z | z
      · rw [z]; simp only [upd_ne (Ne.symm xw), upd_ne (Ne.symm ow), upd_ne (Ne.symm gw), upd_ne (Ne.symm pw), upd_same]
      · rw [z]; simp only [upd_ne px, upd_ne (Ne.symm op), upd_ne (Ne.symm gp), upd_same]
      · rw [z]; simp only [upd_ne gx, upd_ne (Ne.symm og), upd_same]
      · rw [z]; simp only [upd_ne ox, upd_same]
theorem LnAt.fw (T : Txt K mg cFault cReader cLines) {H0 : Hp} {r : Addr} {L : Lno} {H : Hp} {s : LS} (h : LnAt K cLines H0 r L H s) : Fld K H L.a "words" (.ref L.w) := ⟨_, _, _, h.obj, T.cl_Lines, T.na_Lines_words, fL_words _⟩
theorem LnAt.fp (T : Txt K mg cFault cReader cLines) {H0 : Hp} {r : Addr} {L : Lno} {H : Hp} {s : LS} (h : LnAt K cLines H0 r L H s) : Fld K H L.a "parts" (.ref L.p) := ⟨_, _, _, h.obj, T.cl_Lines, T.na_Lines_parts, fL_parts _⟩
theorem LnAt.fg (T : Txt K mg cFault cReader cLines) {H0 : Hp} {r : Addr} {L : Lno} {H : Hp} {s : LS} (h : LnAt K cLines H0 r L H s) : Fld K H L.a "goals" (.ref L.g) := ⟨_, _, _, h.obj, T.cl_Lines, T.na_Lines_goals, fL_goals _⟩
theorem LnAt.fo (T : Txt K mg cFault cReader cLines) {H0 : Hp} {r : Addr} {L : Lno} {H : Hp} {s : LS} (h : LnAt K cLines H0 r L H s) : Fld K H L.a "open_ones" (.ref L.o) := ⟨_, _, _, h.obj, T.cl_Lines, T.na_Lines_open_ones, fL_open _⟩
theorem LnAt.ins {C : Addr} {H0 : Hp} {r : Addr} {L : Lno} {H : Hp} {s : LS} {m : Str} (h : LnAt K C H0 r L H s) (h1 : m ≠ "words" := by decide +kernel) (h2 : m ≠ "parts" := by decide +kernel) (h3 : m ≠ "goals" := by decide +kernel) (h4 : m ≠ "open_ones" := by decide +kernel) : Ins H L.a C m := ⟨_, _, h.obj, fL_no _ h1 h2 h3 h4⟩
def spPut (K : PySem.W.Frag) (C : Addr) : Sp := fun vs H Q _ => ∃ (H0 : Hp) (r : Addr) (L : Lno) (s : LS) (n : Nat) (v : V) (x : Part), vs = [.ref L.a, .int (n : Int), v] ∧ LnAt K C H0 r L H s ∧ PartAt K (N5 r L) H v x ∧ s.ws.length ≤ 50000 ∧
  ∀ H', KL H H' → LnAt K C H0 r L H' (s.put n x) → Q .non H'
theorem ok_Lines_put (T : Txt K mg cFault cReader cLines) : Mf P w K mg base CX0 1 cLines "put" ["self", "word", "parts"] (spPut K cLines) := by
  refine mf_mk T.cl_Lines T.d_Lines_put fun f fd F => F.ok sc_Lines_put (fun vs H Q E h => ?_) (fun cdv A outer s H vs Q E hr h => ?_)
  · obtain ⟨H0, r, L, s, n, v, x, rfl, _⟩ := h
    rfl
  · obtain ⟨H0, r, L, s, n, v, x, rfl, h, hv, hs, k⟩ := h
    refine ⟨_, (pss_cons (ps_expr (pe_bm PySem.F.plainAttrs_list PySem.F.slot_list_append PySem.F.type_list_append mt_append (pe_get (pv 0)) (pa_cons (pv 1) pa_nil))) (pss_cons (ps_expr (pe_bm PySem.F.plainAttrs_list PySem.F.slot_list_append PySem.F.type_list_append mt_append (pe_get (pv 0)) (pa_cons (pv 2) pa_nil))) (pss_one (ps_expr (pe_bm PySem.F.plainAttrs_list PySem.F.slot_list_append PySem.F.type_list_append mt_append (pe_get (pv 0)) (pa_cons (pe_callB call_len_seq (by rfl) T.n_len PySem.boot_len (pa_cons (pe_get (pv 0)) pa_nil)) pa_nil)))))), ?_⟩
    obtain ⟨vp, p1, p2⟩ := h.ps
    obtain ⟨n1, n2, n3, n4, n5, n6⟩ := h.nd
    have lw := nvs_len s.ws
    have lp := Paired.length p2
    have e1 := h.pl
    have e2 := h.gl
    refine ⟨_, rfl, _, _, rfl, h.fw T, .inl ⟨rfl, _, SqL.of h.ws⟩, _, rfl, L.w, _, _, rfl, rfl, h.ws, szl (by omega), ?_⟩
    have aw : L.a ≠ L.w := ne_of h.obj h.ws (by intro z; cases z)
    have ap : L.a ≠ L.p := ne_of h.obj p1 (by intro z; cases z)
    have f1 : Fld K (upd H L.w (.lst (nvs s.ws ++ [.int (n : Int)]))) L.a "parts" (.ref L.p) := ⟨_, _, _, (upd_ne aw).trans h.obj, T.cl_Lines, T.na_Lines_parts, fL_parts _⟩
    have g1 : (upd H L.w (.lst (nvs s.ws ++ [.int (n : Int)]))) L.p = some (.lst vp) := (upd_ne (Ne.symm n1)).trans p1
    refine ⟨_, rfl, _, _, rfl, f1, Or.inl ⟨rfl, _, SqL.of g1⟩, _, rfl, L.p, _, _, rfl, rfl, g1, szl (by omega), ?_⟩
    have o2 : (upd (upd H L.w (.lst (nvs s.ws ++ [.int (n : Int)]))) L.p (.lst (vp ++ [v]))) L.a = some (.ins cLines L.dx (fL L)) := (upd_ne ap).trans ((upd_ne aw).trans h.obj)
    have g2 : (upd (upd H L.w (.lst (nvs s.ws ++ [.int (n : Int)]))) L.p (.lst (vp ++ [v]))) L.g = some (.lst (nvs s.gs)) := (upd_ne (Ne.symm n4)).trans ((upd_ne (Ne.symm n2)).trans h.gs)
    have w2 : (upd (upd H L.w (.lst (nvs s.ws ++ [.int (n : Int)]))) L.p (.lst (vp ++ [v]))) L.w = some (.lst (nvs s.ws ++ [.int (n : Int)])) := (upd_ne n1).trans upd_same
    refine ⟨_, rfl, _, _, rfl, ⟨_, _, _, o2, T.cl_Lines, T.na_Lines_goals, fL_goals _⟩, Or.inl ⟨rfl, _, SqL.of g2⟩, _, rfl, _, _, rfl, ⟨_, _, _, o2, T.cl_Lines, T.na_Lines_words, fL_words _⟩, L.w, _, rfl, .inl (SqL.of w2), L.g, _, _, rfl, rfl, g2, szl (by rw [nvs_len]; omega), ?_⟩
    have e3 : (((nvs s.ws ++ [V.int (n : Int)]).length : Nat) : Int) = ((s.ws.length + 1 : Nat) : Int) := by rw [List.length_append, lw]; rfl
    rw [e3]
    exact k _ (((KL.refl H).set h.ws).set g1 |>.set g2) (h.put3 p1 hv)
def spMay (K : PySem.W.Frag) (C : Addr) : Sp := fun vs H Q _ => ∃ (H0 : Hp) (r : Addr) (L : Lno) (s : LS), vs = [.ref L.a] ∧ LnAt K C H0 r L H s ∧ Ob s ∧ ∀ H', Same H H' → Q (.bl s.may) H'
theorem ok_Lines_may_have_else (T : Txt K mg cFault cReader cLines) : Mf P w K mg base CX0 1 cLines "may_have_else" ["self"] (spMay K cLines) := by
  refine mf_mk T.cl_Lines T.d_Lines_may_have_else fun f fd F => F.ok sc_Lines_may_have_else (fun vs H Q E h => ?_) (fun cdv A outer s H vs Q E hr h => ?_)
  · obtain ⟨H0, r, L, s, rfl, _⟩ := h
    rfl
  · obtain ⟨H0, r, L, s, rfl, h, hob, k⟩ := h
    refine ⟨_, (pss_one (ps_ret (pe_and (pe_cmpR (op_neE hr.units0) (pe_get (pv 0)) (pe_lst pa_nil) (nomark _)) (pe_and (pe_cmpR op_eq (pe_ix ix_list (pe_get (pv 0)) (pe_ix ix_list (pe_ix ix_list (pe_get (pv 0)) (pe_un un_neg pe_int) (fun _ _ => rfl)) pe_int (fun _ _ => rfl)) (fun _ _ => rfl)) (pe_gi T.c_IF) (nomark _)) (pe_one (pe_cmpR op_isN (pe_ix ix_list (pe_ix ix_list (pe_get (pv 0)) (pe_un un_neg pe_int) (fun _ _ => rfl)) pe_int (fun _ _ => rfl)) pe_non (nomark _))))))), ?_⟩
    have s0 : ∀ {q : Addr}, H q = none → Same H (upd H q (.lst [])) := fun hq b o e => by rw [upd_ne (ne_of_none e hq)]; exact e
    cases ho : s.os with
    | nil =>
      obtain ⟨vo, o1, o2, o3, o4⟩ := h.os
      rw [ho] at o2
      cases o2
      refine ⟨_, rfl, _, _, rfl, h.fo T, Nat.zero_le _, fun q hq => ?_⟩
      refine ⟨L.o, q, [], rfl, rfl, SqL.of (s0 hq _ _ o1), SqL.of upd_same, false, rfl, ?_⟩
      refine ite2 (fun n => absurd n (by decide)) (fun _ => ?_)
      have e : s.may = false := by unfold LS.may; rw [ho]
      rw [← e]
      exact k _ (s0 hq)
    | cons y rs =>
      obtain ⟨bb, mm⟩ := y
      obtain ⟨hb, hm⟩ := hob _ (by rw [ho]; exact List.mem_cons_self ..)
      obtain ⟨a, vo, o1, ha, _, _⟩ := h.pop ho
      refine ⟨_, rfl, _, _, rfl, h.fo T, Nat.zero_le _, fun q hq => ?_⟩
      have h1 := h.same (s0 hq)
      have o1' := s0 hq _ _ o1
      have ha' := s0 hq _ _ ha
      refine ⟨L.o, q, _, rfl, rfl, SqL.of o1', SqL.of upd_same, true, by cases vo <;> rfl, ?_⟩
      refine ite2 (fun _ => ?_) (fun n => absurd rfl n)
      obtain ⟨kk, hk⟩ : ∃ kk, s.ws[bb]? = some kk := ⟨_, List.getElem?_eq_getElem hb⟩
      refine ⟨_, rfl, _, _, rfl, h1.fw T, _, rfl, _, _, rfl, h1.fo T, _, rfl, L.o, _, _, _, rfl, rfl, SqL.of o1', atI_last _ _, a, _, 0, _, rfl, rfl, SqL.of ha', rfl, L.w, _, _, _, rfl, rfl, SqL.of h1.ws, atI_nat (nvs_at hk), rfl, _, rfl, ?_⟩
      have em : s.may = (decide (kk = 3) && decide (optV mm = .non)) := by
        unfold LS.may
        rw [ho]
        cases mm with
        | some m => simp [optV]
        | none =>
          show (s.ws[bb]? == some 3) = _
          rw [hk]
          by_cases z : kk = 3 <;> simp [z, optV]
      by_cases h3 : kk = 3
      · subst h3
        refine ite2 (fun _ => ?_) (fun n => absurd rfl n)
        refine ⟨_, rfl, _, _, rfl, h1.fo T, _, rfl, L.o, _, _, _, rfl, rfl, SqL.of o1', atI_last _ _, a, _, 1, _, rfl, rfl, SqL.of ha', rfl, rfl, ?_⟩
        rw [em] at k
        exact k _ (s0 hq)
      · refine ite2 (fun n => absurd (of_decide_eq_true n) (fun z => h3 (by have := V.int.inj z; omega))) (fun _ => ?_)
        rw [em, decide_eq_false h3] at k
        exact k _ (s0 hq)
def spOpened (K : PySem.W.Frag) (C : Addr) : Sp := fun vs H Q _ => ∃ (H0 : Hp) (r : Addr) (L : Lno) (s : LS) (n : Nat) (v : V) (x : Part), vs = [.ref L.a, .int (n : Int), v] ∧ LnAt K C H0 r L H s ∧ PartAt K (N5 r L) H v x ∧ s.ws.length ≤ 50000 ∧ s.os.length < 5000 ∧
  ∀ H', KL H H' → LnAt K C H0 r L H' (s.opened n x) → Q .non H'
theorem ok_Lines_opened (T : Txt K mg cFault cReader cLines) : Mf P w K mg base CX0 2 cLines "opened" ["self", "word", "parts"] (spOpened K cLines) := by
  refine mf_mk T.cl_Lines T.d_Lines_opened fun f fd F => F.ok sc_Lines_opened (fun vs H Q E h => ?_) (fun cdv A outer s H vs Q E hr h => ?_)
  · obtain ⟨H0, r, L, s, n, v, x, rfl, _⟩ := h
    rfl
  · obtain ⟨H0, r, L, s, n, v, x, rfl, h, hv, hs, ho, k⟩ := h
    refine ⟨_, (pss_cons (ps_expr (pe_bm PySem.F.plainAttrs_list PySem.F.slot_list_append PySem.F.type_list_append mt_append (pe_get (pv 0)) (pa_cons (pe_lst (pa_cons (pe_callB call_len_seq (by rfl) T.n_len PySem.boot_len (pa_cons (pe_get (pv 0)) pa_nil)) (pa_cons pe_non pa_nil))) pa_nil))) (pss_one (ps_expr (pe_mf (ok_Lines_put T) (hr.mono (by decide)) pass0 (pv 0) (by exact (pa_cons (pv 1) (pa_cons (pv 2) pa_nil))))))), ?_⟩
    obtain ⟨vo, o1, o2, o3, o4⟩ := h.os
    have lo := Paired.length o2
    refine ⟨_, rfl, _, _, rfl, h.fo T, Or.inl ⟨rfl, _, SqL.of o1⟩, _, rfl, _, _, rfl, h.fw T, L.w, _, rfl, .inl (SqL.of h.ws), sz (show 2 ≤ 100000 by decide), fun q hq => ?_⟩
    have oq : L.o ≠ q := ne_of_none o1 hq
    rw [nvs_len]
    have ho1 : (upd H q (.lst [.int (s.ws.length : Int), .non])) L.o = some (.lst vo.reverse) := (upd_ne oq).trans o1
    refine ⟨L.o, _, _, rfl, rfl, ho1, szl (by rw [List.length_reverse, lo]; omega), ?_⟩
    have h1 := h.push o1 hq ho s.ws.length
    have hv1 : PartAt K (N5 r L) (upd (upd H q (.lst [.int (s.ws.length : Int), .non])) L.o (.lst (vo.reverse ++ [.ref q]))) v x :=
      hv.off (((Chg.refl H).new hq).set (S := [L.o]) (by simp) ho1 (by intro z; exact z)) (LnAt.off (by simp))
    refine ⟨_, rfl, L.a, rfl, h1.ins, _, rfl, _, rfl, H0, r, L, _, n, v, x, rfl, h1, hv1, hs, fun H' c h2 => ?_⟩
    exact k H' (((KL.refl H).new hq).set ho1 |>.trans c) h2
def spPutElse (K : PySem.W.Frag) (C : Addr) : Sp := fun vs H Q _ => ∃ (H0 : Hp) (r : Addr) (L : Lno) (s : LS), vs = [.ref L.a] ∧ LnAt K C H0 r L H s ∧ s.ws.length ≤ 50000 ∧ s.os ≠ [] ∧ Ob s ∧
  ∀ H', KL H H' → LnAt K C H0 r L H' s.putElse → Q .non H'
theorem ok_Lines_put_else (T : Txt K mg cFault cReader cLines) : Mf P w K mg base CX0 2 cLines "put_else" ["self"] (spPutElse K cLines) := by
  refine mf_mk T.cl_Lines T.d_Lines_put_else fun f fd F => F.ok sc_Lines_put_else (fun vs H Q E h => ?_) (fun cdv A outer s H vs Q E hr h => ?_)
  · obtain ⟨H0, r, L, s, rfl, _⟩ := h
    rfl
  · obtain ⟨H0, r, L, s, rfl, h, hs, ho, hob, k⟩ := h
    refine ⟨_, (pss_cons (ps_asg (pe_callB call_len_seq (by rfl) T.n_len PySem.boot_len (pa_cons (pe_get (pv 0)) pa_nil)) (pg_sub (pe_ix ix_list (pe_get (pv 0)) (pe_un un_neg pe_int) (fun _ _ => rfl)) pe_int set_list)) (pss_cons (ps_expr (pe_mf (ok_Lines_put T) (hr.mono (by decide)) pass0 (pv 0) (by exact (pa_cons (pe_gi T.c_ELSE) (pa_cons (pe_tup pa_nil) pa_nil))))) (pss_one (ps_asg (pe_callB call_len_seq (by rfl) T.n_len PySem.boot_len (pa_cons (pe_get (pv 0)) pa_nil)) (pg_sub (pe_get (pv 0)) (pe_ix ix_list (pe_ix ix_list (pe_get (pv 0)) (pe_un un_neg pe_int) (fun _ _ => rfl)) pe_int (fun _ _ => rfl)) set_list))))), ?_⟩
    obtain ⟨ws, ps, gs, os⟩ := s
    dsimp only at hs ho
    cases os with
    | nil => exact absurd rfl ho
    | cons y rs =>
      obtain ⟨bb, mm⟩ := y
      obtain ⟨hb, hm⟩ := hob _ (List.mem_cons_self ..)
      dsimp only at hb hm
      obtain ⟨a, vo, o1, ha, h1⟩ := h.mid rfl ws.length
      refine ⟨_, rfl, _, _, rfl, h.fw T, L.w, _, rfl, .inl (SqL.of h.ws), _, rfl, _, _, rfl, h.fo T, _, rfl, L.o, _, _, _, rfl, rfl, SqL.of o1, atI_last _ _, a, _, 1, 1, rfl, rfl, ha, rfl, ?_⟩
      rw [nvs_len]
      have kl1 : KL H (upd H a (.lst [.int (bb : Int), .int (ws.length : Int)])) := (KL.refl H).set ha
      revert h1 kl1
      show LnAt K cLines H0 r L (upd H a (.lst [.int (bb : Int), .int (ws.length : Int)])) ⟨ws, ps, gs, (bb, some ws.length) :: rs⟩ → _
      show _ → _ → (fun H3 => _) (upd H a (.lst [.int (bb : Int), .int (ws.length : Int)]))
      generalize upd H a (.lst [.int (bb : Int), .int (ws.length : Int)]) = H1
      intro h1 kl1
      refine ⟨_, rfl, L.a, rfl, h1.ins, Nat.zero_le _, fun q hq => ?_⟩
      have s2 : Same H1 (upd H1 q (.tup [])) := fun b o e => by rw [upd_ne (ne_of_none e hq)]; exact e
      refine ⟨H0, r, L, _, 4, .ref q, .nil, rfl, h1.same s2, ⟨q, rfl, SqT.of upd_same⟩, hs, fun H2 c h2 => ?_⟩
      obtain ⟨a2, vo2, o2, ha2, _⟩ := h2.pop rfl
      have lg : gs.length = ws.length := h.gl
      refine ⟨_, rfl, _, _, rfl, h2.fw T, L.w, _, rfl, .inl (SqL.of h2.ws), _, rfl, _, _, rfl, h2.fg T, _, rfl, _, _, rfl, h2.fo T, _, rfl, L.o, _, _, _, rfl, rfl, SqL.of o2, atI_last _ _, a2, _, 0, _, rfl, rfl, SqL.of ha2, rfl, L.g, _, _, bb, rfl, rfl, h2.gs, ixn_nat (j := bb) ?_, ?_⟩
      · rw [nvs_len]
        show bb < (gs ++ [_]).length
        rw [List.length_append]
        omega
      · rw [nvs_len, ← nvs_set]
        exact k _ ((kl1.trans (Same.kl s2)).trans (c.set h2.gs)) (h2.goals _ (List.length_set ..))
def spPutEnd (K : PySem.W.Frag) (C : Addr) : Sp := fun vs H Q _ => ∃ (H0 : Hp) (r : Addr) (L : Lno) (s : LS), vs = [.ref L.a] ∧ LnAt K C H0 r L H s ∧ s.ws.length ≤ 50000 ∧ s.os ≠ [] ∧ Ob s ∧
  ∀ H', KL H H' → LnAt K C H0 r L H' s.putEnd → Q .non H'
theorem ok_Lines_put_end (T : Txt K mg cFault cReader cLines) : Mf P w K mg base CX0 2 cLines "put_end" ["self"] (spPutEnd K cLines) := by
  refine mf_mk T.cl_Lines T.d_Lines_put_end fun f fd F => F.ok sc_Lines_put_end (fun vs H Q E h => ?_) (fun cdv A outer s H vs Q E hr h => ?_)
  · obtain ⟨H0, r, L, s, rfl, _⟩ := h
    rfl
  · obtain ⟨H0, r, L, s, rfl, h, hs, ho, hob, k⟩ := h
    refine ⟨_, (pss_cons (ps_asg (pe_bm0 PySem.F.plainAttrs_list PySem.F.slot_list_pop PySem.F.type_list_pop mt_pop (pe_get (pv 0))) (pg_unl rfl (pgs_cons (pg_name (i := 1) sc_Lines_put_end.nd rfl (Or.inl rfl)) (pgs_cons (pg_name (i := 2) sc_Lines_put_end.nd rfl (Or.inl rfl)) pgs_nil)))) (pss_cons (ps_expr (pe_mf (ok_Lines_put T) (hr.mono (by decide)) pass0 (pv 0) (by exact (pa_cons (pe_gi T.c_END) (pa_cons (pe_tup pa_nil) pa_nil))))) (pss_cons (ps_if (pt_cmpR op_eq (pe_ix ix_list (pe_get (pv 0)) (pv 1) (fun _ _ => rfl)) (pe_gi T.c_WHILE) (nomark _)) (pss_one (ps_asg (pv 1) (pg_sub (pe_get (pv 0)) (pe_un un_neg pe_int) set_list))) pss_nil) (pss_one (ps_if (pt_cmpR op_isN (pv 2) pe_non (nomark _)) (pss_one (ps_asg (pe_callB call_len_seq (by rfl) T.n_len PySem.boot_len (pa_cons (pe_get (pv 0)) pa_nil)) (pg_sub (pe_get (pv 0)) (pv 1) set_list))) (pss_one (ps_asg (pe_callB call_len_seq (by rfl) T.n_len PySem.boot_len (pa_cons (pe_get (pv 0)) pa_nil)) (pg_sub (pe_get (pv 0)) (pv 2) set_list)))))))), ?_⟩
    obtain ⟨ws, ps, gs, os⟩ := s
    dsimp only at hs ho
    cases os with
    | nil => exact absurd rfl ho
    | cons y rs =>
      obtain ⟨bb, mm⟩ := y
      obtain ⟨hb, hm⟩ := hob _ (List.mem_cons_self ..)
      dsimp only at hb hm
      obtain ⟨a, vo, o1, ha, h1⟩ := h.pop rfl
      refine ⟨_, rfl, _, _, rfl, h.fo T, Or.inl ⟨rfl, _, SqL.of o1⟩, L.o, _, _, rfl, rfl, o1, by simp, a, [.int (bb : Int), optV mm], rfl, SqL.of ((upd_ne h1.2).trans ha), rfl, ?_⟩
      have h1 := h1.1
      have kl1 : KL H (upd H L.o (.lst vo)) := (KL.refl H).set o1
      rw [List.dropLast_concat]
      revert h1 kl1
      generalize upd H L.o (.lst vo) = H1
      intro h1 kl1
      have lg : gs.length = ws.length := h.gl
      refine ⟨_, _, rfl, _, _, rfl, rfl, ?_⟩
      refine ⟨_, rfl, L.a, rfl, h1.ins, Nat.zero_le _, fun q hq => ?_⟩
      have s2 : Same H1 (upd H1 q (.tup [])) := fun b o e => by rw [upd_ne (ne_of_none e hq)]; exact e
      refine ⟨H0, r, L, _, 5, .ref q, .nil, rfl, h1.same s2, ⟨q, rfl, SqT.of upd_same⟩, hs, fun H2 c h2 => ?_⟩
      have kl2 : KL H H2 := (kl1.trans (Same.kl s2)).trans c
      obtain ⟨kk, hk⟩ : ∃ kk, (ws ++ [5])[bb]? = some kk := ⟨_, List.getElem?_eq_getElem (by rw [List.length_append]; omega)⟩
      refine ⟨_, rfl, _, _, rfl, h2.fw T, _, rfl, L.w, _, _, _, rfl, rfl, SqL.of h2.ws, atI_nat (nvs_at hk), rfl, _, rfl, ?_⟩
      cases mm with
      | none =>
        by_cases h6 : kk = 6
        · subst h6
          refine ite2 (fun _ => ?_) (fun n => absurd rfl n)
          have e6 : (⟨ws ++ [5], ps ++ [.nil], gs ++ [ws.length + 1], rs⟩ : LS).gs.length = gs.length + 1 := by show (gs ++ [_]).length = _; rw [List.length_append]; rfl
          refine ⟨_, rfl, _, rfl, _, _, rfl, h2.fg T, _, rfl, L.g, _, _, gs.length, rfl, rfl, h2.gs, by rw [nvs_len]; exact e6 ▸ ixn_last gs.length, ?_⟩
          rw [← nvs_set]
          have h3 := h2.goals ((gs ++ [ws.length + 1]).set gs.length bb) (List.length_set ..)
          have kl3 := kl2.set (u := .lst (nvs ((gs ++ [ws.length + 1]).set gs.length bb))) h2.gs
          have hg3 : ((gs ++ [ws.length + 1]).set gs.length bb).length = ws.length + 1 := by rw [List.length_set, List.length_append, lg]; rfl
          have eput : (⟨ws, ps, gs, (bb, none) :: rs⟩ : LS).putEnd = ⟨ws ++ [5], ps ++ [.nil], ((gs ++ [ws.length + 1]).set gs.length bb).set bb (ws.length + 1), rs⟩ := by
            unfold LS.putEnd LS.put
            dsimp only
            rw [hk]
            simp
          revert h3 kl3 hg3 eput
          show LnAt K cLines H0 r L (upd H2 L.g (.lst (nvs ((gs ++ [ws.length + 1]).set gs.length bb)))) ⟨ws ++ [5], ps ++ [.nil], (gs ++ [ws.length + 1]).set gs.length bb, rs⟩ → _
          show _ → _ → _ → _ → (fun H3 => _) (upd H2 L.g (.lst (nvs ((gs ++ [ws.length + 1]).set gs.length bb))))
          generalize upd H2 L.g (.lst (nvs ((gs ++ [ws.length + 1]).set gs.length bb))) = H3
          generalize (gs ++ [ws.length + 1]).set gs.length bb = g3
          intro h3 kl3 hg3 eput
          refine ⟨_, rfl, rfl, _, rfl, ?_⟩
          refine ite2 (fun _ => ?_) (fun n => absurd rfl n)
          refine ⟨_, rfl, _, _, rfl, h3.fw T, L.w, _, rfl, .inl (SqL.of h3.ws), _, rfl, _, _, rfl, h3.fg T, _, rfl, L.g, _, _, bb, rfl, rfl, h3.gs, ixn_nat (j := bb) ?_, ?_⟩
          · rw [nvs_len]
            show _ < g3.length
            omega
          · rw [nvs_len, ← nvs_set]
            have q := h3.goals (g3.set bb (ws.length + 1)) (List.length_set ..)
            have e : ((ws ++ [5]).length : Nat) = ws.length + 1 := by rw [List.length_append]; rfl
            show Q .non (upd H3 L.g (.lst (nvs (g3.set bb (ws ++ [5]).length))))
            rw [e]
            refine k _ (kl3.set h3.gs) ?_
            rw [eput]
            exact q
        · refine ite2 (fun n => absurd (V.int.inj (of_decide_eq_true n)) (fun z => h6 (by omega))) (fun _ => ?_)
          have h3 := h2
          have kl3 := kl2
          have hg3 : (gs ++ [ws.length + 1]).length = ws.length + 1 := by rw [List.length_append, lg]; rfl
          have eput : (⟨ws, ps, gs, (bb, none) :: rs⟩ : LS).putEnd = ⟨ws ++ [5], ps ++ [.nil], (gs ++ [ws.length + 1]).set bb (ws.length + 1), rs⟩ := by
            unfold LS.putEnd LS.put
            dsimp only
            rw [hk]
            simp [h6]
          revert h3 kl3 hg3 eput
          show LnAt K cLines H0 r L H2 ⟨ws ++ [5], ps ++ [.nil], gs ++ [ws.length + 1], rs⟩ → _
          generalize gs ++ [ws.length + 1] = g3
          generalize H2 = H3
          intro h3 kl3 hg3 eput
          refine ⟨_, rfl, rfl, _, rfl, ?_⟩
          refine ite2 (fun _ => ?_) (fun n => absurd rfl n)
          refine ⟨_, rfl, _, _, rfl, h3.fw T, L.w, _, rfl, .inl (SqL.of h3.ws), _, rfl, _, _, rfl, h3.fg T, _, rfl, L.g, _, _, bb, rfl, rfl, h3.gs, ixn_nat (j := bb) ?_, ?_⟩
          · rw [nvs_len]
            show _ < g3.length
            omega
          · rw [nvs_len, ← nvs_set]
            have q := h3.goals (g3.set bb (ws.length + 1)) (List.length_set ..)
            have e : ((ws ++ [5]).length : Nat) = ws.length + 1 := by rw [List.length_append]; rfl
            show Q .non (upd H3 L.g (.lst (nvs (g3.set bb (ws ++ [5]).length))))
            rw [e]
            refine k _ (kl3.set h3.gs) ?_
            rw [eput]
            exact q
      | some mi =>
        have hmi : mi < ws.length := hm mi rfl
        by_cases h6 : kk = 6
        · subst h6
          refine ite2 (fun _ => ?_) (fun n => absurd rfl n)
          have e6 : (⟨ws ++ [5], ps ++ [.nil], gs ++ [ws.length + 1], rs⟩ : LS).gs.length = gs.length + 1 := by show (gs ++ [_]).length = _; rw [List.length_append]; rfl
          refine ⟨_, rfl, _, rfl, _, _, rfl, h2.fg T, _, rfl, L.g, _, _, gs.length, rfl, rfl, h2.gs, by rw [nvs_len]; exact e6 ▸ ixn_last gs.length, ?_⟩
          rw [← nvs_set]
          have h3 := h2.goals ((gs ++ [ws.length + 1]).set gs.length bb) (List.length_set ..)
          have kl3 := kl2.set (u := .lst (nvs ((gs ++ [ws.length + 1]).set gs.length bb))) h2.gs
          have hg3 : ((gs ++ [ws.length + 1]).set gs.length bb).length = ws.length + 1 := by rw [List.length_set, List.length_append, lg]; rfl
          have eput : (⟨ws, ps, gs, (bb, some mi) :: rs⟩ : LS).putEnd = ⟨ws ++ [5], ps ++ [.nil], ((gs ++ [ws.length + 1]).set gs.length bb).set mi (ws.length + 1), rs⟩ := by
            unfold LS.putEnd LS.put
            dsimp only
            rw [hk]
            simp
          revert h3 kl3 hg3 eput
          show LnAt K cLines H0 r L (upd H2 L.g (.lst (nvs ((gs ++ [ws.length + 1]).set gs.length bb)))) ⟨ws ++ [5], ps ++ [.nil], (gs ++ [ws.length + 1]).set gs.length bb, rs⟩ → _
          show _ → _ → _ → _ → (fun H3 => _) (upd H2 L.g (.lst (nvs ((gs ++ [ws.length + 1]).set gs.length bb))))
          generalize upd H2 L.g (.lst (nvs ((gs ++ [ws.length + 1]).set gs.length bb))) = H3
          generalize (gs ++ [ws.length + 1]).set gs.length bb = g3
          intro h3 kl3 hg3 eput
          refine ⟨_, rfl, rfl, _, rfl, ?_⟩
          refine ite2 (fun n => absurd (of_decide_eq_true n) (by intro z; cases z)) (fun _ => ?_)
          refine ⟨_, rfl, _, _, rfl, h3.fw T, L.w, _, rfl, .inl (SqL.of h3.ws), _, rfl, _, _, rfl, h3.fg T, _, rfl, L.g, _, _, mi, rfl, rfl, h3.gs, ixn_nat (j := mi) ?_, ?_⟩
          · rw [nvs_len]
            show _ < g3.length
            omega
          · rw [nvs_len, ← nvs_set]
            have q := h3.goals (g3.set mi (ws.length + 1)) (List.length_set ..)
            have e : ((ws ++ [5]).length : Nat) = ws.length + 1 := by rw [List.length_append]; rfl
            show Q .non (upd H3 L.g (.lst (nvs (g3.set mi (ws ++ [5]).length))))
            rw [e]
            refine k _ (kl3.set h3.gs) ?_
            rw [eput]
            exact q
        · refine ite2 (fun n => absurd (V.int.inj (of_decide_eq_true n)) (fun z => h6 (by omega))) (fun _ => ?_)
          have h3 := h2
          have kl3 := kl2
          have hg3 : (gs ++ [ws.length + 1]).length = ws.length + 1 := by rw [List.length_append, lg]; rfl
          have eput : (⟨ws, ps, gs, (bb, some mi) :: rs⟩ : LS).putEnd = ⟨ws ++ [5], ps ++ [.nil], (gs ++ [ws.length + 1]).set mi (ws.length + 1), rs⟩ := by
            unfold LS.putEnd LS.put
            dsimp only
            rw [hk]
            simp [h6]
          revert h3 kl3 hg3 eput
          show LnAt K cLines H0 r L H2 ⟨ws ++ [5], ps ++ [.nil], gs ++ [ws.length + 1], rs⟩ → _
          generalize gs ++ [ws.length + 1] = g3
          generalize H2 = H3
          intro h3 kl3 hg3 eput
          refine ⟨_, rfl, rfl, _, rfl, ?_⟩
          refine ite2 (fun n => absurd (of_decide_eq_true n) (by intro z; cases z)) (fun _ => ?_)
          refine ⟨_, rfl, _, _, rfl, h3.fw T, L.w, _, rfl, .inl (SqL.of h3.ws), _, rfl, _, _, rfl, h3.fg T, _, rfl, L.g, _, _, mi, rfl, rfl, h3.gs, ixn_nat (j := mi) ?_, ?_⟩
          · rw [nvs_len]
            show _ < g3.length
            omega
          · rw [nvs_len, ← nvs_set]
            have q := h3.goals (g3.set mi (ws.length + 1)) (List.length_set ..)
            have e : ((ws ++ [5]).length : Nat) = ws.length + 1 := by rw [List.length_append]; rfl
            show Q .non (upd H3 L.g (.lst (nvs (g3.set mi (ws ++ [5]).length))))
            rw [e]
            refine k _ (kl3.set h3.gs) ?_
            rw [eput]
            exact q
end
end Ab
/-! ## The walk: a method's lines -/
namespace Ab
open PySem PySem.Spec PyProof.Rows L2
/-- a fault, wherever the heap stands -/
def FX (C : Addr) (E : XK) (r p : Int) : Prop := ∀ d H', H' d = some (.xd (fxd r p)) → E (.ref C) (some d) H'
theorem FX.fe {C : Addr} {E : XK} {H : Hp} {S : List Addr} {r p : Int} (h : FX C E r p) : FE C E H S r p := fun d H' _ e => h d H' e
theorem nx_in {b : List Int} {p : Nat} {l : List Int} {c : Int} {b1 : List Int} {p1 : Nat} (e : nx b p l = .ok (c, b1, p1)) : l.contains c = true := by
  cases b with
  | nil => cases e
  | cons c' b =>
    have e : (if l.contains c' = true then (Ab.R.ok (c', b, p + 1)) else .bad p) = .ok (c, b1, p1) := e
    by_cases z : l.contains c' = true
    · rw [if_pos z] at e; cases e; exact z
    · rw [if_neg z] at e; cases e
theorem empty_len {A B : Type} {l : List A} {m : List B} (e : l.length = m.length) : l.isEmpty = m.isEmpty := by
  cases l with
  | nil =>
    cases m with
    | nil => rfl
    | cons a m => cases e
  | cons a l =>
    cases m with
    | nil => cases e
    | cons b m => rfl
section
variable {P : Program} {w : World} {K : PySem.W.Frag} {mg : Str → Option Value} {base : Heap} {cFault cReader cLines : Addr}
theorem LnAt.n5 {C : Addr} {H0 H : Hp} {r : Addr} {L : Lno} {s : LS} {q : Addr} (h : LnAt K C H0 r L H s) (hq : H q = none) : N5 r L q := by
  obtain ⟨_, _, _, e⟩ := h.rdr
  obtain ⟨_, p1, _⟩ := h.ps
  obtain ⟨_, o1, _⟩ := h.os
  intro m
  simp only [List.mem_cons, List.not_mem_nil, or_false] at m
  rcases m with z | z | z | z | z
  · rw [z, e] at hq; cases hq
  · rw [z, h.ws] at hq; cases hq
  · rw [z, p1] at hq; cases hq
  · rw [z, h.gs] at hq; cases hq
  · rw [z, o1] at hq; cases hq
/-- expressions' lists keep -/
def IK (K : PySem.W.Frag) (N : Addr → Prop) (H H' : Hp) : Prop := ∀ l its, ItL K N H l its → ItL K N H' l its
theorem IK.of {N : Addr → Prop} {H H' : Hp} {S : List Addr} (c : Chg S H H') (o : ∀ l, N l → l ∉ S) : IK K N H H' := fun l its h => h.chg c (o l h.1)
section
variable {X : Rdr} {b : List Int} {p : Nat} {H0 : Hp} {L : Lno} {s : LS} {H : Hp} {σ : L2.St} {E : XK} {D : L2.Ends} {i : Nat} {te : TE} {z : Str} {zs : List Int}
theorem same_lst {H : Hp} {q : Addr} {o : HO} (hq : H q = none) : Same H (upd H q o) := fun b o e => by rw [upd_ne (ne_of_none e hq)]; exact e
theorem n5r {l : Addr} (n : N5 X.r L l) : l ∉ [X.r] := fun m => n (by
  have : l = X.r := by simpa using m
  simp [this])
/-- reader.word(bytes_of(..)) -/
theorem st_word (R : RdAt K cReader X H b p) (h : LnAt K cLines H0 X.r L H s) (hi : σ[i]? = some (some (.ref X.r))) (hte : ∀ Q : VK, Q (.str z) H → te σ H Q) (hz : z.cps.size ≤ 5000) (ec : codes z = zs)
    (kE : ∀ k, word zs b p = .bad k → FX cFault E 11 k)
    (k : ∀ b1 p1, word zs b p = .ok (b1, p1) → ∀ H', RdAt K cReader X H' b1 p1 → LnAt K cLines H0 X.r L H' s → IK K (N5 X.r L) H H' → D.nx σ H') :
    tDrop (tMf cReader "word" (spWord K cReader cFault) E (tVar i) (tCons (tCall spBytes [] E0 (tCons te tNil)) tNil)) D σ H := by
  refine ⟨_, hi, X.r, rfl, R.ins, hte _ ⟨z, rfl, hz, fun H1 q s1 n1 hq => ?_⟩⟩
  rw [ec] at hq
  have R1 := R.chg (S := []) (chgS s1) (by simp)
  refine ⟨X, q, b, p, zs, rfl, R1, SqL.of hq, fun kk e => (kE kk e).fe, fun b2 p2 e H2 c2 R2 => ?_⟩
  have c : Chg [X.r] H H2 := (chgS s1).trans c2
  exact k b2 p2 e H2 R2 (h.chg c ⟨_, _, _, R2.obj⟩) (IK.of c fun l => n5r)
/-- reader.word([c]) -/
theorem st_word1 {c : Int} (R : RdAt K cReader X H b p) (h : LnAt K cLines H0 X.r L H s) (hi : σ[i]? = some (some (.ref X.r)))
    (kE : ∀ k, word [c] b p = .bad k → FX cFault E 11 k)
    (k : ∀ b1 p1, word [c] b p = .ok (b1, p1) → ∀ H', RdAt K cReader X H' b1 p1 → LnAt K cLines H0 X.r L H' s → IK K (N5 X.r L) H H' → D.nx σ H') :
    tDrop (tMf cReader "word" (spWord K cReader cFault) E (tVar i) (tCons (tLst (tCons (tC (.int c)) tNil)) tNil)) D σ H := by
  refine ⟨_, hi, X.r, rfl, R.ins, sz (show 1 ≤ 100000 by decide), fun q hq => ?_⟩
  have s1 : Same H (upd H q (.lst [.int c])) := same_lst hq
  have R1 := R.chg (S := []) (chgS s1) (by simp)
  refine ⟨X, q, b, p, [c], rfl, R1, SqL.of upd_same, fun kk e => (kE kk e).fe, fun b2 p2 e H2 c2 R2 => ?_⟩
  have c : Chg [X.r] H H2 := (chgS s1).trans c2
  exact k b2 p2 e H2 R2 (h.chg c ⟨_, _, _, R2.obj⟩) (IK.of c fun l => n5r)
/-- expression(reader, [c]) -/
theorem st_expr {c : Int} {Q : VK} (R : RdAt K cReader X H b p) (h : LnAt K cLines H0 X.r L H s) (hi : σ[i]? = some (some (.ref X.r)))
    (kE : ∀ k, expr [c] b p = .bad k → FX cFault E 11 k)
    (k : ∀ its b1 p1, expr [c] b p = .ok (its, b1, p1) → ∀ H' q, RdAt K cReader X H' b1 p1 → LnAt K cLines H0 X.r L H' s → IK K (N5 X.r L) H H' → ItL K (N5 X.r L) H' q its → Q (.ref q) H') :
    tCall (spExpr K cReader cFault) [] E (tCons (tVar i) (tCons (tLst (tCons (tC (.int c)) tNil)) tNil)) σ H Q := by
  refine ⟨_, hi, sz (show 1 ≤ 100000 by decide), fun q hq => ?_⟩
  have s1 : Same H (upd H q (.lst [.int c])) := same_lst hq
  have R1 := R.chg (S := []) (chgS s1) (by simp)
  have h1 := h.same s1
  refine ⟨X, q, [c], b, p, rfl, R1, SqL.of upd_same, fun kk e => (kE kk e).fe, fun its b2 p2 e H2 q2 vf c2 R2 n2 hq2 hi2 _ => ?_⟩
  have c : Chg [X.r] H H2 := (chgS s1).trans c2
  exact k its b2 p2 e H2 q2 R2 (h.chg c ⟨_, _, _, R2.obj⟩) (IK.of c fun l => n5r) ⟨h1.n5 n2, vf, hq2, hi2⟩
/-- lines.put(w, ()) -/
theorem st_put0 {i n : Nat} (R : RdAt K cReader X H b p) (h : LnAt K cLines H0 X.r L H s) (hi : σ[i]? = some (some (.ref L.a))) (hs : s.ws.length ≤ 50000)
    (k : ∀ H', RdAt K cReader X H' b p → LnAt K cLines H0 X.r L H' (s.put n .nil) → D.nx σ H') :
    tDrop (tMf cLines "put" (spPut K cLines) E0 (tVar i) (tCons (tC (.int (n : Int))) (tCons (tTup tNil) tNil))) D σ H := by
  refine ⟨_, hi, L.a, rfl, h.ins, Nat.zero_le _, fun q hq => ?_⟩
  have s1 : Same H (upd H q (.tup [])) := same_lst hq
  refine ⟨H0, X.r, L, s, n, .ref q, .nil, rfl, h.same s1, ⟨q, rfl, SqT.of upd_same⟩, hs, fun H2 c h2 => ?_⟩
  exact k H2 ((R.chg (S := []) (chgS s1) (by simp)).kl c) h2
/-- reader.next_of(bytes_of(..)) -/
theorem st_next {Q : VK} (R : RdAt K cReader X H b p) (h : LnAt K cLines H0 X.r L H s) (hi : σ[i]? = some (some (.ref X.r))) (hte : ∀ Q : VK, (∀ H1, Same H H1 → Q (.str z) H1) → te σ H Q) (hz : z.cps.size ≤ 5000) (ec : codes z = zs)
    (kE : ∀ k, nx b p zs = .bad k → FX cFault E 11 k)
    (k : ∀ c b1 p1, nx b p zs = .ok (c, b1, p1) → ∀ H', RdAt K cReader X H' b1 p1 → LnAt K cLines H0 X.r L H' s → Q (.int c) H') :
    tMf cReader "next_of" (spNext K cReader cFault) E (tVar i) (tCons (tCall spBytes [] E0 (tCons te tNil)) tNil) σ H Q := by
  refine ⟨_, hi, X.r, rfl, R.ins, hte _ fun H1 s1 => ⟨z, rfl, hz, fun H2 q s2 n1 hq => ?_⟩⟩
  rw [ec] at hq
  have c2 : Chg [] H H2 := (chgS s1).trans (chgS s2)
  have R1 := R.chg c2 (by simp)
  refine ⟨X, q, b, p, zs, rfl, R1, .inl (SqL.of hq), fun kk e => (kE kk e).fe, fun c b2 p2 e H3 c3 R2 => ?_⟩
  exact k c b2 p2 e H3 R2 (h.chg ((c2.mono (by simp)).trans c3) ⟨_, _, _, R2.obj⟩)
end
def spFirst (K : PySem.W.Frag) (C : Addr) : Sp := fun vs H Q _ => ∃ (H0 : Hp) (r : Addr) (L : Lno) (s : LS), vs = [.ref L.a] ∧ LnAt K C H0 r L H s ∧ ∀ H' p, Same H H' → H p = none → H' p = some (.lst (vis s.first)) → Q (.ref p) H'
theorem ok_first_bytes (T : Txt K mg cFault cReader cLines) : Df P w K mg base CX0 2 "first_bytes" ["lines"] (spFirst K cLines) := by
  refine df_mk T.d_first_bytes fun f fd F => F.ok sc_first_bytes (fun vs H Q E h => ?_) (fun cdv A outer s H vs Q E hr h => ?_)
  · obtain ⟨H0, r, L, s, rfl, _⟩ := h
    rfl
  · obtain ⟨H0, r, L, s, rfl, h, k⟩ := h
    refine ⟨_, (pss_cons (ps_set (i := 1) sc_first_bytes.nd rfl (Or.inl rfl) pe_str) (pss_cons (ps_if (pt_cmpR op_lt (pe_callB call_len_seq (by rfl) T.n_len PySem.boot_len (pa_cons (pe_get (pv 0)) pa_nil)) (pe_gi T.c_MOST_OPEN) (nomark _)) (pss_one (ps_set (i := 1) sc_first_bytes.nd rfl (Or.inl rfl) (pe_op op_add_str (pv 1) pe_str))) pss_nil) (pss_cons (ps_if (pt_cmpR (op_neE hr.units0) (pe_get (pv 0)) (pe_lst pa_nil) (nomark _)) (pss_one (ps_set (i := 1) sc_first_bytes.nd rfl (Or.inl rfl) (pe_op op_add_str (pv 1) pe_str))) pss_nil) (pss_one (ps_ret (pe_df (ok_bytes_of T) (hr.mono (by decide)) pass0 (by exact (pa_cons (pv 1) pa_nil)))))))), ?_⟩
    obtain ⟨vo, o1, o2, o3, o4⟩ := h.os
    have lo : vo.reverse.length = s.os.length := by rw [List.length_reverse]; exact Paired.length o2
    have ev : vo.reverse.isEmpty = s.os.isEmpty := empty_len lo
    refine ⟨_, rfl, _, _, rfl, h.fo T, L.o, _, rfl, .inl (SqL.of o1), _, _, rfl, rfl, _, rfl, ?_⟩
    rw [lo]
    have e1 : ∀ z zs, codes z = zs → zs = s.first → z.cps.size ≤ 5000 → ∀ q, H q = none → spBytes ([.str z] ++ []) (upd H q (.lst [])) Q E0 := fun z zs ez ef hz q hq => ⟨z, rfl, hz, fun H' a s1 n1 hq1 => by
      rw [ez, ef] at hq1
      exact k H' a (fun b o e => s1 b o (same_lst hq b o e)) (by
        by_cases z : a = q
        · rw [z]; exact hq
        · rw [upd_ne z] at n1; exact n1) hq1⟩
    by_cases h16 : s.os.length < 16
    · refine ite2 (fun _ => ?_) (fun n => absurd (decide_eq_true (by omega)) n)
      refine ⟨_, rfl, _, _, rfl, rfl, by decide, ?_⟩
      refine ⟨_, rfl, _, _, rfl, h.fo T, Nat.zero_le _, fun q hq => ⟨L.o, q, _, rfl, rfl, SqL.of (same_lst hq _ _ o1), SqL.of upd_same, _, rfl, ?_⟩⟩
      rw [ev]
      cases he : s.os.isEmpty with
      | true =>
        refine ite2 (fun n => absurd n (by decide)) (fun _ => ?_)
        exact ⟨_, rfl, e1 _ [97, 116, 115, 102, 105, 119] (by decide +kernel) (by unfold LS.first; rw [if_pos h16, he]; rfl) (by decide +kernel) q hq⟩
      | false =>
        refine ite2 (fun _ => ?_) (fun n => absurd rfl n)
        refine ⟨_, rfl, _, _, rfl, rfl, by decide, ?_⟩
        exact ⟨_, rfl, e1 _ [97, 116, 115, 102, 105, 119, 101] (by decide +kernel) (by unfold LS.first; rw [if_pos h16, he]; rfl) (by decide +kernel) q hq⟩
    · refine ite2 (fun n => absurd (of_decide_eq_true n) (by omega)) (fun _ => ?_)
      refine ⟨_, rfl, _, _, rfl, h.fo T, Nat.zero_le _, fun q hq => ⟨L.o, q, _, rfl, rfl, SqL.of (same_lst hq _ _ o1), SqL.of upd_same, _, rfl, ?_⟩⟩
      rw [ev]
      cases he : s.os.isEmpty with
      | true =>
        refine ite2 (fun n => absurd n (by decide)) (fun _ => ?_)
        exact ⟨_, rfl, e1 _ [97, 116, 115, 102] (by decide +kernel) (by unfold LS.first; rw [if_neg h16, he]; rfl) (by decide +kernel) q hq⟩
      | false =>
        refine ite2 (fun _ => ?_) (fun n => absurd rfl n)
        refine ⟨_, rfl, _, _, rfl, rfl, by decide, ?_⟩
        exact ⟨_, rfl, e1 _ [97, 116, 115, 102, 101] (by decide +kernel) (by unfold LS.first; rw [if_neg h16, he]; rfl) (by decide +kernel) q hq⟩
/-- what a reading of a line's rest owes -/
def LQ (K : PySem.W.Frag) (C D F : Addr) (H0 : Hp) (X : Rdr) (L : Lno) (E : XK) (x : RL) (Q : VK) : Prop :=
  (∀ k, x = .bad k → FX F E 11 k) ∧ ∀ s2 b1 p1, x = .ok (s2, b1, p1) → ∀ H', RdAt K C X H' b1 p1 → LnAt K D H0 X.r L H' s2 → Q .non H'
theorem at_codes : codes (Str.ofString " at ") = [32, 97, 116, 32] := by decide +kernel
def spChange (K : PySem.W.Frag) (C D F : Addr) : Sp := fun vs H Q E => ∃ (X : Rdr) (b : List Int) (p : Nat) (H0 : Hp) (L : Lno) (s : LS) (n : Nat) (z : Str), vs = [.ref X.r, .ref L.a, .int (n : Int), .str z] ∧ RdAt K C X H b p ∧ LnAt K D H0 X.r L H s ∧
  s.ws.length ≤ 50000 ∧ z.cps.size ≤ 5000 ∧ LQ K C D F H0 X L E (rdChange s n (codes z) b p) Q
theorem ok_read_change (T : Txt K mg cFault cReader cLines) : Df P w K mg base (L2.CX P w) 8 "read_change" ["reader", "lines", "word", "rest"] (spChange K cReader cLines cFault) := by
  refine df_mk T.d_read_change fun f fd F => F.okX sc_read_change (fun vs H Q E h => ?_) (fun cdv A outer s H vs Q E hr h => ?_)
  · obtain ⟨X, b, p, H0, L, s, n, z, rfl, _⟩ := h
    rfl
  · obtain ⟨X, b, p, H0, L, s, n, z, rfl, R, h, hs, hz, kE, k⟩ := h
    refine ⟨_, (pss_cons (ps_expr (pe_mf (ok_Reader_word T) (hr.mono (by decide)) (passE (takes_of rfl rfl rfl rfl)) (pv 0) (by exact (pa_cons (pe_df (ok_bytes_of T) (hr.mono (by decide)) pass0 (by exact (pa_cons (pv 3) pa_nil))) pa_nil)))) (pss_cons (ps_set (i := 4) sc_read_change.nd rfl (Or.inl rfl) (pe_df (ok_expression T) (hr.mono (by decide)) (passE (takes_of rfl rfl rfl rfl)) (by exact (pa_cons (pv 0) (pa_cons (pe_lst (pa_cons (pe_gi T.c_BLANK) pa_nil)) pa_nil))))) (pss_cons (ps_expr (pe_mf (ok_Reader_word T) (hr.mono (by decide)) (passE (takes_of rfl rfl rfl rfl)) (pv 0) (by exact (pa_cons (pe_df (ok_bytes_of T) (hr.mono (by decide)) pass0 (by exact (pa_cons pe_str pa_nil))) pa_nil)))) (pss_one (ps_expr (pe_mf (ok_Lines_put T) (hr.mono (by decide)) pass0 (pv 1) (by exact (pa_cons (pv 2) (pa_cons (pe_tup (pa_cons (pv 4) (pa_cons (pe_df (ok_expression T) (hr.mono (by decide)) (passE (takes_of rfl rfl rfl rfl)) (by exact (pa_cons (pv 0) (pa_cons (pe_lst (pa_cons (pe_gi T.c_LINE_FEED) pa_nil)) pa_nil)))) pa_nil))) pa_nil))))))))), ?_⟩
    unfold rdChange at kE k
    refine st_word R h rfl (fun Q q => ⟨_, rfl, q⟩) hz rfl (fun kk e => kE kk (by rw [e])) fun b1 p1 e H1 R1 h1 i1 => ?_
    rw [e] at kE k
    dsimp only at kE k
    refine st_expr R1 h1 rfl (fun kk e => kE kk (by rw [e])) fun its b2 p2 e H2 q2 R2 h2 i2 t2 => ?_
    rw [e] at kE k
    dsimp only at kE k
    refine st_word R2 h2 rfl (fun Q q => q) (by decide +kernel) at_codes (fun kk e => kE kk (by rw [e])) fun b3 p3 e H3 R3 h3 i3 => ?_
    rw [e] at kE k
    dsimp only at kE k
    refine ⟨_, rfl, L.a, rfl, h3.ins, _, rfl, _, rfl, ?_⟩
    refine st_expr R3 h3 rfl (fun kk e => kE kk (by rw [e])) fun jts b4 p4 e H4 q4 R4 h4 i4 t4 => ?_
    rw [e] at k
    dsimp only at k
    refine ⟨sz (show 2 ≤ 100000 by decide), fun q hq => ?_⟩
    have s1 : Same H4 (upd H4 q (.tup [.ref q2, .ref q4])) := same_lst hq
    have c1 := IK.of (K := K) (N := N5 X.r L) (S := []) (chgS s1) (by simp)
    refine ⟨H0, X.r, L, s, n, .ref q, .two its jts, rfl, h4.same s1, ⟨q, q2, q4, rfl, SqT.of upd_same, c1 _ _ (i4 _ _ (i3 _ _ t2)), c1 _ _ t4⟩, hs, fun H5 c h5 => ?_⟩
    exact k _ _ _ rfl H5 ((R4.chg (S := []) (chgS s1) (by simp)).kl c) h5
def spSet (K : PySem.W.Frag) (C D F : Addr) : Sp := fun vs H Q E => ∃ (X : Rdr) (b : List Int) (p : Nat) (H0 : Hp) (L : Lno) (s : LS), vs = [.ref X.r, .ref L.a] ∧ RdAt K C X H b p ∧ LnAt K D H0 X.r L H s ∧
  s.ws.length ≤ 50000 ∧ LQ K C D F H0 X L E (rdSet s b p) Q
theorem ok_read_set_or_stop (T : Txt K mg cFault cReader cLines) : Df P w K mg base (L2.CX P w) 8 "read_set_or_stop" ["reader", "lines"] (spSet K cReader cLines cFault) := by
  refine df_mk T.d_read_set_or_stop fun f fd F => F.okX sc_read_set_or_stop (fun vs H Q E h => ?_) (fun cdv A outer s H vs Q E hr h => ?_)
  · obtain ⟨X, b, p, H0, L, s, rfl, _⟩ := h
    rfl
  · obtain ⟨X, b, p, H0, L, s, rfl, R, h, hs, kE, k⟩ := h
    refine ⟨_, (pss_one (ps_if (pt_cmpR op_eq (pe_mf (ok_Reader_next_of T) (hr.mono (by decide)) (passE (takes_of rfl rfl rfl rfl)) (pv 0) (by exact (pa_cons (pe_df (ok_bytes_of T) (hr.mono (by decide)) pass0 (by exact (pa_cons pe_str pa_nil))) pa_nil))) (pe_callB call_ord (by rfl) T.n_ord (by decide +kernel) (pa_cons pe_str pa_nil)) (nomark _)) (pss_cons (ps_expr (pe_mf (ok_Reader_word T) (hr.mono (by decide)) (passE (takes_of rfl rfl rfl rfl)) (pv 0) (by exact (pa_cons (pe_df (ok_bytes_of T) (hr.mono (by decide)) pass0 (by exact (pa_cons pe_str pa_nil))) pa_nil)))) (pss_one (ps_expr (pe_mf (ok_Lines_put T) (hr.mono (by decide)) pass0 (pv 1) (by exact (pa_cons (pe_gi T.c_STOP) (pa_cons (pe_tup pa_nil) pa_nil))))))) (pss_cons (ps_expr (pe_mf (ok_Reader_word T) (hr.mono (by decide)) (passE (takes_of rfl rfl rfl rfl)) (pv 0) (by exact (pa_cons (pe_df (ok_bytes_of T) (hr.mono (by decide)) pass0 (by exact (pa_cons pe_str pa_nil))) pa_nil)))) (pss_cons (ps_set (i := 2) sc_read_set_or_stop.nd rfl (Or.inl rfl) (pe_op op_sub (pe_mf (ok_Reader_next_of T) (hr.mono (by decide)) (passE (takes_of rfl rfl rfl rfl)) (pv 0) (by exact (pa_cons (pe_gt T.c_HEADS) pa_nil))) (pe_ix ix_tup (pe_gt T.c_HEADS) pe_int (fun _ _ => rfl)))) (pss_cons (ps_expr (pe_mf (ok_Reader_word T) (hr.mono (by decide)) (passE (takes_of rfl rfl rfl rfl)) (pv 0) (by exact (pa_cons (pe_lst (pa_cons (pe_gi T.c_BLANK) pa_nil)) pa_nil)))) (pss_one (ps_expr (pe_mf (ok_Lines_put T) (hr.mono (by decide)) pass0 (pv 1) (by exact (pa_cons (pe_gi T.c_SET) (pa_cons (pe_tup (pa_cons (pv 2) (pa_cons (pe_df (ok_expression T) (hr.mono (by decide)) (passE (takes_of rfl rfl rfl rfl)) (by exact (pa_cons (pv 0) (pa_cons (pe_lst (pa_cons (pe_gi T.c_LINE_FEED) pa_nil)) pa_nil)))) pa_nil))) pa_nil))))))))))), ?_⟩
    unfold rdSet at kE k
    refine st_next R h rfl (fun Q q => q H fun _ _ e => e) (by decide +kernel) (show codes (Str.ofString "et") = [101, 116] by decide +kernel) (fun kk e => kE kk (by rw [e])) fun c b1 p1 e H1 R1 h1 => ?_
    rw [e] at kE k
    dsimp only at kE k
    refine ⟨_, rfl, (by decide +kernel), rfl, _, rfl, ?_⟩
    by_cases hc : c = 116
    · subst hc
      rw [if_pos rfl] at kE k
      refine ite2 (fun _ => ?_) (fun n => absurd (by decide +kernel) n)
      refine st_word R1 h1 rfl (fun Q q => q) (by decide +kernel) (show codes (Str.ofString "op") = [111, 112] by decide +kernel) (fun kk e => kE kk (by rw [e])) fun b2 p2 e H2 R2 h2 i2 => ?_
      rw [e] at k
      dsimp only at k
      exact st_put0 (n := 7) R2 h2 rfl hs fun H3 R3 h3 => k _ _ _ rfl H3 R3 h3
    · rw [if_neg hc] at kE k
      refine ite2 (fun n => absurd (V.int.inj (of_decide_eq_true n)) hc) (fun _ => ?_)
      refine st_word R1 h1 rfl (fun Q q => q) (by decide +kernel) (show codes (Str.ofString "t ") = [116, 32] by decide +kernel) (fun kk e => kE kk (by rw [e])) fun b2 p2 e H2 R2 h2 i2 => ?_
      rw [e] at kE k
      dsimp only at kE k
      refine ⟨_, rfl, X.r, rfl, R2.ins, fun ta hta => ?_⟩
      refine ⟨X, ta, b2, p2, headsL, rfl, R2, .inr (hta _), fun kk e => (kE kk (by rw [e])).fe, fun hd b3 p3 e H3 c3 R3 => ?_⟩
      rw [e] at kE k
      dsimp only at kE k
      have h3 := h2.chg c3 ⟨_, _, _, R3.obj⟩
      refine fun tb htb => ⟨tb, _, 0, .int 97, rfl, rfl, htb _, rfl, ?_⟩
      refine ⟨hd, 97, rfl, rfl, ?_⟩
      refine st_word1 R3 h3 rfl (fun kk e => kE kk (by rw [e])) fun b4 p4 e H4 R4 h4 i4 => ?_
      rw [e] at kE k
      dsimp only at kE k
      refine ⟨_, rfl, L.a, rfl, h4.ins, _, rfl, ?_⟩
      refine st_expr R4 h4 rfl (fun kk e => kE kk (by rw [e])) fun its b5 p5 e H5 q5 R5 h5 i5 t5 => ?_
      rw [e] at k
      dsimp only at k
      refine ⟨sz (show 2 ≤ 100000 by decide), fun q hq => ?_⟩
      have s1 : Same H5 (upd H5 q (.tup [.int (hd - 97), .ref q5])) := same_lst hq
      have c1 := IK.of (K := K) (N := N5 X.r L) (S := []) (chgS s1) (by simp)
      refine ⟨H0, X.r, L, s, 2, .ref q, .set (hd - 97) its, rfl, h5.same s1, ⟨q, q5, rfl, SqT.of upd_same, c1 _ _ t5⟩, hs, fun H6 c h6 => ?_⟩
      exact k _ _ _ rfl H6 ((R5.chg (S := []) (chgS s1) (by simp)).kl c) h6
def spElse (K : PySem.W.Frag) (C D F : Addr) : Sp := fun vs H Q E => ∃ (X : Rdr) (b : List Int) (p : Nat) (H0 : Hp) (L : Lno) (s : LS), vs = [.ref X.r, .ref L.a] ∧ RdAt K C X H b p ∧ LnAt K D H0 X.r L H s ∧
  s.ws.length ≤ 50000 ∧ Ob s ∧ s.os ≠ [] ∧ LQ K C D F H0 X L E (rdElse s b p) Q
theorem ok_read_else_or_end (T : Txt K mg cFault cReader cLines) : Df P w K mg base (L2.CX P w) 5 "read_else_or_end" ["reader", "lines"] (spElse K cReader cLines cFault) := by
  refine df_mk T.d_read_else_or_end fun f fd F => F.okX sc_read_else_or_end (fun vs H Q E h => ?_) (fun cdv A outer s H vs Q E hr h => ?_)
  · obtain ⟨X, b, p, H0, L, s, rfl, _⟩ := h
    rfl
  · obtain ⟨X, b, p, H0, L, s, rfl, R, h, hs, hob, ho, kE, k⟩ := h
    refine ⟨_, (pss_one (ps_if (pt_cmpR op_eq (pe_mf (ok_Reader_next_of T) (hr.mono (by decide)) (passE (takes_of rfl rfl rfl rfl)) (pv 0) (by exact (pa_cons (pe_df (ok_bytes_of T) (hr.mono (by decide)) pass0 (by exact (pa_cons (pe_ifExp (pt_val (pe_mf0 (ok_Lines_may_have_else T) (hr.mono (by decide)) pass0 (pv 1))) pe_str pe_str) pa_nil))) pa_nil))) (pe_callB call_ord (by rfl) T.n_ord (by decide +kernel) (pa_cons pe_str pa_nil)) (nomark _)) (pss_cons (ps_expr (pe_mf (ok_Reader_word T) (hr.mono (by decide)) (passE (takes_of rfl rfl rfl rfl)) (pv 0) (by exact (pa_cons (pe_df (ok_bytes_of T) (hr.mono (by decide)) pass0 (by exact (pa_cons pe_str pa_nil))) pa_nil)))) (pss_one (ps_expr (pe_mf0 (ok_Lines_put_end T) (hr.mono (by decide)) pass0 (pv 1))))) (pss_cons (ps_expr (pe_mf (ok_Reader_word T) (hr.mono (by decide)) (passE (takes_of rfl rfl rfl rfl)) (pv 0) (by exact (pa_cons (pe_df (ok_bytes_of T) (hr.mono (by decide)) pass0 (by exact (pa_cons pe_str pa_nil))) pa_nil)))) (pss_one (ps_expr (pe_mf0 (ok_Lines_put_else T) (hr.mono (by decide)) pass0 (pv 1))))))), ?_⟩
    unfold rdElse at kE k
    have en : ∃ z : Str, (if s.may = true then z = "nl" else z = "n") ∧ z.cps.size ≤ 5000 ∧ codes z = (if s.may = true then [110, 108] else [110]) := by
      by_cases hm : s.may = true
      · exact ⟨"nl", by rw [if_pos hm], by decide +kernel, by rw [if_pos hm]; decide +kernel⟩
      · exact ⟨"n", by rw [if_neg hm], by decide +kernel, by rw [if_neg hm]; decide +kernel⟩
    obtain ⟨z, ez, lz, cz⟩ := en
    refine st_next (z := z) R h rfl (fun Q q => ?_) lz cz (fun kk e => kE kk (by rw [e])) fun c b1 p1 e H1 R1 h1 => ?_
    · refine ⟨_, rfl, L.a, rfl, h.ins, H0, X.r, L, s, rfl, h, hob, fun H' s1 => ⟨_, rfl, ?_⟩⟩
      refine ite2 (fun c => ?_) (fun c => ?_)
      · rw [if_pos c] at ez
        subst ez
        exact q _ s1
      · rw [if_neg c] at ez
        subst ez
        exact q _ s1
    rw [e] at kE k
    dsimp only at kE k
    refine ⟨_, rfl, (by decide +kernel), rfl, _, rfl, ?_⟩
    by_cases hc : c = 110
    · subst hc
      rw [if_pos rfl] at kE k
      refine ite2 (fun _ => ?_) (fun n => absurd (by decide +kernel) n)
      refine st_word R1 h1 rfl (fun Q q => q) (by decide +kernel) (show codes (Str.ofString "d") = [100] by decide +kernel) (fun kk e => kE kk (by rw [e])) fun b2 p2 e H2 R2 h2 i2 => ?_
      rw [e] at k
      dsimp only at k
      refine ⟨_, rfl, L.a, rfl, h2.ins, H0, X.r, L, s, rfl, h2, hs, ho, hob, fun H3 c h3 => ?_⟩
      exact k _ _ _ rfl H3 (R2.kl c) h3
    · rw [if_neg hc] at kE k
      refine ite2 (fun n => absurd (V.int.inj (of_decide_eq_true n)) hc) (fun _ => ?_)
      refine st_word R1 h1 rfl (fun Q q => q) (by decide +kernel) (show codes (Str.ofString "se") = [115, 101] by decide +kernel) (fun kk e => kE kk (by rw [e])) fun b2 p2 e H2 R2 h2 i2 => ?_
      rw [e] at k
      dsimp only at k
      refine ⟨_, rfl, L.a, rfl, h2.ins, H0, X.r, L, s, rfl, h2, hs, ho, hob, fun H3 c h3 => ?_⟩
      exact k _ _ _ rfl H3 (R2.kl c) h3
theorem st_tests {X : Rdr} {b : List Int} {p : Nat} {H0 : Hp} {L : Lno} {s : LS} {H : Hp} {σ : L2.St} {E : XK} {D : L2.Ends} {i j n : Nat}
    (R : RdAt K cReader X H b p) (h : LnAt K cLines H0 X.r L H s) (hi : σ[i]? = some (some (.ref L.a))) (hj : σ[j]? = some (some (.ref X.r))) (hs : s.ws.length ≤ 50000) (ho : s.os.length < 5000)
    (kE : ∀ k, cond b p = .bad k → FX cFault E 11 k)
    (k : ∀ ts b1 p1, cond b p = .ok (ts, b1, p1) → ∀ H', RdAt K cReader X H' b1 p1 → LnAt K cLines H0 X.r L H' (s.opened n (.tests ts)) → D.nx σ H') :
    tDrop (tMf cLines "opened" (spOpened K cLines) E0 (tVar i) (tCons (tC (.int (n : Int))) (tCons (tTup (tCons (tCall (spCondition K cReader cFault) [] E (tCons (tVar j) tNil)) tNil)) tNil))) D σ H := by
  refine ⟨_, hi, L.a, rfl, h.ins, _, hj, X, b, p, rfl, R, fun kk e => (kE kk e).fe, fun ts b1 p1 e H1 q1 vs c1 R1 n1 hq1 ht => ?_⟩
  have h1 := h.chg c1 ⟨_, _, _, R1.obj⟩
  have t1 := ht.imp fun l hl => h.n5 hl
  refine ⟨sz (show 1 ≤ 100000 by decide), fun q hq => ?_⟩
  have s1 : Same H1 (upd H1 q (.tup [.ref q1])) := same_lst hq
  refine ⟨H0, X.r, L, s, n, .ref q, .tests ts, rfl, h1.same s1, ⟨q, q1, vs, rfl, SqT.of upd_same, h.n5 n1, s1 _ _ hq1, t1.chg (S := []) (chgS s1) (by simp)⟩, hs, ho, fun H2 c h2 => ?_⟩
  exact k ts b1 p1 e H2 ((R1.chg (S := []) (chgS s1) (by simp)).kl c) h2
def spLine (K : PySem.W.Frag) (C D F : Addr) : Sp := fun vs H Q E => ∃ (X : Rdr) (b : List Int) (p : Nat) (H0 : Hp) (L : Lno) (s : LS), vs = [.ref X.r, .ref L.a] ∧ RdAt K C X H b p ∧ LnAt K D H0 X.r L H s ∧
  s.ws.length ≤ 50000 ∧ Ob s ∧ LQ K C D F H0 X L E (rdLine s b p) Q
theorem ok_read_line (T : Txt K mg cFault cReader cLines) (hnl : ∀ b p, cond b p ≠ .lost) : Df P w K mg base (L2.CX P w) 9 "read_line" ["reader", "lines"] (spLine K cReader cLines cFault) := by
  refine df_mk T.d_read_line fun f fd F => F.okX sc_read_line (fun vs H Q E h => ?_) (fun cdv A outer s H vs Q E hr h => ?_)
  · obtain ⟨X, b, p, H0, L, s, rfl, _⟩ := h
    rfl
  · obtain ⟨X, b, p, H0, L, s, rfl, R, h, hs, hob, kE, k⟩ := h
    have ok_condition := fun T => ok_condition (P := P) (w := w) (K := K) (mg := mg) (base := base) (cFault := cFault) (cReader := cReader) (cLines := cLines) T hnl
    refine ⟨_, (pss_cons (ps_set (i := 2) sc_read_line.nd rfl (Or.inl rfl) (pe_mf (ok_Reader_next_of T) (hr.mono (by decide)) (passE (takes_of rfl rfl rfl rfl)) (pv 0) (by exact (pa_cons (pe_df (ok_first_bytes T) (hr.mono (by decide)) pass0 (by exact (pa_cons (pv 1) pa_nil))) pa_nil)))) (pss_cons (ps_if (pt_cmpR op_eq (pv 2) (pe_callB call_ord (by rfl) T.n_ord (by decide +kernel) (pa_cons pe_str pa_nil)) (nomark _)) (pss_one (ps_expr (pe_df (ok_read_change T) (hr.mono (by decide)) (passE (takes_of rfl rfl rfl rfl)) (by exact (pa_cons (pv 0) (pa_cons (pv 1) (pa_cons (pe_gi T.c_ADD) (pa_cons pe_str pa_nil)))))))) (pss_one (ps_if (pt_cmpR op_eq (pv 2) (pe_callB call_ord (by rfl) T.n_ord (by decide +kernel) (pa_cons pe_str pa_nil)) (nomark _)) (pss_one (ps_expr (pe_df (ok_read_change T) (hr.mono (by decide)) (passE (takes_of rfl rfl rfl rfl)) (by exact (pa_cons (pv 0) (pa_cons (pv 1) (pa_cons (pe_gi T.c_TAKE) (pa_cons pe_str pa_nil)))))))) (pss_one (ps_if (pt_cmpR op_eq (pv 2) (pe_callB call_ord (by rfl) T.n_ord (by decide +kernel) (pa_cons pe_str pa_nil)) (nomark _)) (pss_one (ps_expr (pe_df (ok_read_set_or_stop T) (hr.mono (by decide)) (passE (takes_of rfl rfl rfl rfl)) (by exact (pa_cons (pv 0) (pa_cons (pv 1) pa_nil)))))) (pss_one (ps_if (pt_cmpR op_eq (pv 2) (pe_callB call_ord (by rfl) T.n_ord (by decide +kernel) (pa_cons pe_str pa_nil)) (nomark _)) (pss_cons (ps_expr (pe_mf (ok_Reader_word T) (hr.mono (by decide)) (passE (takes_of rfl rfl rfl rfl)) (pv 0) (by exact (pa_cons (pe_df (ok_bytes_of T) (hr.mono (by decide)) pass0 (by exact (pa_cons pe_str pa_nil))) pa_nil)))) (pss_one (ps_expr (pe_mf (ok_Lines_put T) (hr.mono (by decide)) pass0 (pv 1) (by exact (pa_cons (pe_gi T.c_FAIL) (pa_cons (pe_tup pa_nil) pa_nil))))))) (pss_one (ps_if (pt_cmpR op_eq (pv 2) (pe_callB call_ord (by rfl) T.n_ord (by decide +kernel) (pa_cons pe_str pa_nil)) (nomark _)) (pss_cons (ps_expr (pe_mf (ok_Reader_word T) (hr.mono (by decide)) (passE (takes_of rfl rfl rfl rfl)) (pv 0) (by exact (pa_cons (pe_df (ok_bytes_of T) (hr.mono (by decide)) pass0 (by exact (pa_cons pe_str pa_nil))) pa_nil)))) (pss_one (ps_expr (pe_mf (ok_Lines_opened T) (hr.mono (by decide)) pass0 (pv 1) (by exact (pa_cons (pe_gi T.c_IF) (pa_cons (pe_tup (pa_cons (pe_df (ok_condition T) (hr.mono (by decide)) (passE (takes_of rfl rfl rfl rfl)) (by exact (pa_cons (pv 0) pa_nil))) pa_nil)) pa_nil))))))) (pss_one (ps_if (pt_cmpR op_eq (pv 2) (pe_callB call_ord (by rfl) T.n_ord (by decide +kernel) (pa_cons pe_str pa_nil)) (nomark _)) (pss_cons (ps_expr (pe_mf (ok_Reader_word T) (hr.mono (by decide)) (passE (takes_of rfl rfl rfl rfl)) (pv 0) (by exact (pa_cons (pe_df (ok_bytes_of T) (hr.mono (by decide)) pass0 (by exact (pa_cons pe_str pa_nil))) pa_nil)))) (pss_one (ps_expr (pe_mf (ok_Lines_opened T) (hr.mono (by decide)) pass0 (pv 1) (by exact (pa_cons (pe_gi T.c_WHILE) (pa_cons (pe_tup (pa_cons (pe_df (ok_condition T) (hr.mono (by decide)) (passE (takes_of rfl rfl rfl rfl)) (by exact (pa_cons (pv 0) pa_nil))) pa_nil)) pa_nil))))))) (pss_one (ps_expr (pe_df (ok_read_else_or_end T) (hr.mono (by decide)) (passE (takes_of rfl rfl rfl rfl)) (by exact (pa_cons (pv 0) (pa_cons (pv 1) pa_nil))))))))))))))))) (pss_one (ps_expr (pe_mf (ok_Reader_word T) (hr.mono (by decide)) (passE (takes_of rfl rfl rfl rfl)) (pv 0) (by exact (pa_cons (pe_lst (pa_cons (pe_gi T.c_LINE_FEED) pa_nil)) pa_nil))))))), ?_⟩
    unfold rdLine at kE k
    refine ⟨_, rfl, X.r, rfl, R.ins, _, rfl, H0, X.r, L, s, rfl, h, fun H1 q1 s1 n1 hq1 => ?_⟩
    have R1 := R.chg (S := []) (chgS s1) (by simp)
    refine ⟨X, q1, b, p, s.first, rfl, R1, .inl (SqL.of hq1), fun kk e => (kE kk (by rw [e])).fe, fun c b1 p1 e H2 c2 R2 => ?_⟩
    have h2 := (h.same s1).chg c2 ⟨_, _, _, R2.obj⟩
    have hc : s.first.contains c = true := nx_in e
    rw [e] at kE k
    dsimp only at kE k
    have kB : ∀ kk, rdBody s c b1 p1 = .bad kk → FX cFault E 11 kk := fun kk e => kE kk (by rw [e])
    have kO : ∀ s2 b2 p2, rdBody s c b1 p1 = .ok (s2, b2, p2) → (∀ kk, word [10] b2 p2 = .bad kk → FX cFault E 11 kk) ∧ ∀ b3 p3, word [10] b2 p2 = .ok (b3, p3) → ∀ H', RdAt K cReader X H' b3 p3 → LnAt K cLines H0 X.r L H' s2 → Q .non H' := fun s2 b2 p2 e => by
      rw [e] at kE k
      dsimp only at kE k
      exact ⟨fun kk e => kE kk (by rw [e]), fun b3 p3 e => k _ _ _ (by rw [e])⟩
    clear kE k
    unfold rdBody at kB kO
    refine ⟨_, rfl, _, rfl, (by decide +kernel), rfl, _, rfl, ?_⟩
    by_cases h97 : c = 97
    · subst h97
      rw [if_pos rfl] at kB kO
      refine ite2 (fun _ => ?_) (fun n => absurd (by decide +kernel) n)
      refine ⟨_, rfl, _, rfl, X, b1, p1, H0, L, s, 0, "dd ", rfl, R2, h2, hs, (by decide +kernel), ?_⟩
      rw [show codes (Str.ofString "dd ") = [100, 100, 32] by decide +kernel]
      exact ⟨kB, fun s2 b2 p2 e H3 R3 h3 => st_word1 R3 h3 rfl (kO _ _ _ e).1 fun b3 p3 e3 H4 R4 h4 _ => (kO _ _ _ e).2 b3 p3 e3 H4 R4 h4⟩
    rw [if_neg h97] at kB kO
    refine ite2 (fun n => absurd (V.int.inj (of_decide_eq_true n)) h97) (fun _ => ?_)
    refine ⟨_, rfl, _, rfl, (by decide +kernel), rfl, _, rfl, ?_⟩
    by_cases h116 : c = 116
    · subst h116
      rw [if_pos rfl] at kB kO
      refine ite2 (fun _ => ?_) (fun n => absurd (by decide +kernel) n)
      refine ⟨_, rfl, _, rfl, X, b1, p1, H0, L, s, 1, "ake ", rfl, R2, h2, hs, (by decide +kernel), ?_⟩
      rw [show codes (Str.ofString "ake ") = [97, 107, 101, 32] by decide +kernel]
      exact ⟨kB, fun s2 b2 p2 e H3 R3 h3 => st_word1 R3 h3 rfl (kO _ _ _ e).1 fun b3 p3 e3 H4 R4 h4 _ => (kO _ _ _ e).2 b3 p3 e3 H4 R4 h4⟩
    rw [if_neg h116] at kB kO
    refine ite2 (fun n => absurd (V.int.inj (of_decide_eq_true n)) h116) (fun _ => ?_)
    refine ⟨_, rfl, _, rfl, (by decide +kernel), rfl, _, rfl, ?_⟩
    by_cases h115 : c = 115
    · subst h115
      rw [if_pos rfl] at kB kO
      refine ite2 (fun _ => ?_) (fun n => absurd (by decide +kernel) n)
      refine ⟨_, rfl, _, rfl, X, b1, p1, H0, L, s, rfl, R2, h2, hs, ?_⟩
      exact ⟨kB, fun s2 b2 p2 e H3 R3 h3 => st_word1 R3 h3 rfl (kO _ _ _ e).1 fun b3 p3 e3 H4 R4 h4 _ => (kO _ _ _ e).2 b3 p3 e3 H4 R4 h4⟩
    rw [if_neg h115] at kB kO
    refine ite2 (fun n => absurd (V.int.inj (of_decide_eq_true n)) h115) (fun _ => ?_)
    refine ⟨_, rfl, _, rfl, (by decide +kernel), rfl, _, rfl, ?_⟩
    by_cases h102 : c = 102
    · subst h102
      rw [if_pos rfl] at kB kO
      refine ite2 (fun _ => ?_) (fun n => absurd (by decide +kernel) n)
      refine st_word R2 h2 rfl (fun Q q => q) (by decide +kernel) (show codes (Str.ofString "ail") = [97, 105, 108] by decide +kernel) (fun kk e => kB kk (by rw [e])) fun b2 p2 e H3 R3 h3 _ => ?_
      rw [e] at kO
      have kO := kO _ _ _ rfl
      refine st_put0 (n := 8) R3 h3 rfl hs fun H4 R4 h4 => ?_
      exact st_word1 R4 h4 rfl kO.1 fun b3 p3 e3 H5 R5 h5 _ => kO.2 b3 p3 e3 H5 R5 h5
    rw [if_neg h102] at kB kO
    refine ite2 (fun n => absurd (V.int.inj (of_decide_eq_true n)) h102) (fun _ => ?_)
    refine ⟨_, rfl, _, rfl, (by decide +kernel), rfl, _, rfl, ?_⟩
    have hiw : c = 105 ∨ c = 119 → s.os.length < 5000 := fun hiw => by
      by_cases h16 : s.os.length < 16
      · omega
      · unfold LS.first at hc
        rw [if_neg h16] at hc
        exfalso
        rcases hiw with z | z
        · subst z
          cases z : s.os.isEmpty <;> rw [z] at hc <;> exact absurd hc (by decide)
        · subst z
          cases z : s.os.isEmpty <;> rw [z] at hc <;> exact absurd hc (by decide)
    by_cases h105 : c = 105
    · subst h105
      rw [if_pos rfl] at kB kO
      refine ite2 (fun _ => ?_) (fun n => absurd (by decide +kernel) n)
      unfold rdTests at kB kO
      refine st_word R2 h2 rfl (fun Q q => q) (by decide +kernel) (show codes (Str.ofString "f ") = [102, 32] by decide +kernel) (fun kk e => kB kk (by rw [e])) fun b2 p2 e H3 R3 h3 _ => ?_
      rw [e] at kB kO
      dsimp only at kB kO
      refine st_tests (n := 3) R3 h3 rfl rfl hs (hiw (.inl rfl)) (fun kk e => kB kk (by rw [e])) fun ts b3 p3 e H4 R4 h4 => ?_
      rw [e] at kO
      have kO := kO _ _ _ rfl
      exact st_word1 R4 h4 rfl kO.1 fun b3 p3 e3 H5 R5 h5 _ => kO.2 b3 p3 e3 H5 R5 h5
    rw [if_neg h105] at kB kO
    refine ite2 (fun n => absurd (V.int.inj (of_decide_eq_true n)) h105) (fun _ => ?_)
    refine ⟨_, rfl, _, rfl, (by decide +kernel), rfl, _, rfl, ?_⟩
    by_cases h119 : c = 119
    · subst h119
      rw [if_pos rfl] at kB kO
      refine ite2 (fun _ => ?_) (fun n => absurd (by decide +kernel) n)
      unfold rdTests at kB kO
      refine st_word R2 h2 rfl (fun Q q => q) (by decide +kernel) (show codes (Str.ofString "hile ") = [104, 105, 108, 101, 32] by decide +kernel) (fun kk e => kB kk (by rw [e])) fun b2 p2 e H3 R3 h3 _ => ?_
      rw [e] at kB kO
      dsimp only at kB kO
      refine st_tests (n := 6) R3 h3 rfl rfl hs (hiw (.inr rfl)) (fun kk e => kB kk (by rw [e])) fun ts b3 p3 e H4 R4 h4 => ?_
      rw [e] at kO
      have kO := kO _ _ _ rfl
      exact st_word1 R4 h4 rfl kO.1 fun b3 p3 e3 H5 R5 h5 _ => kO.2 b3 p3 e3 H5 R5 h5
    rw [if_neg h119] at kB kO
    refine ite2 (fun n => absurd (V.int.inj (of_decide_eq_true n)) h119) (fun _ => ?_)
    have ho : s.os ≠ [] := fun z => by
      unfold LS.first at hc
      rw [z] at hc
      have : c = 97 ∨ c = 116 ∨ c = 115 ∨ c = 102 ∨ c = 105 ∨ c = 119 := by simpa using hc
      omega
    refine ⟨_, rfl, _, rfl, X, b1, p1, H0, L, s, rfl, R2, h2, hs, hob, ho, ?_⟩
    exact ⟨kB, fun s2 b2 p2 e H3 R3 h3 => st_word1 R3 h3 rfl (kO _ _ _ e).1 fun b3 p3 e3 H4 R4 h4 _ => (kO _ _ _ e).2 b3 p3 e3 H4 R4 h4⟩
end
end Ab
/-! ## The walk: lines_of, method -/
namespace Ab
open PySem PySem.Spec PyProof.Rows L2
theorem lnL_succ (f : Nat) (s : LS) (b : List Int) (p : Nat) : lnL (f + 1) s b p = if b.isEmpty = true then (if s.os.isEmpty = true then .ok s else .bad p) else match rdLine s b p with
    | .lost => .lost
    | .bad k => .bad k
    | .ok (s2, b2, p2) => lnL f s2 b2 p2 := rfl
theorem lnL_fuel : ∀ (f : Nat) {s : LS} {b : List Int} {p : Nat}, Mid s b → b.length < f → lnL f s b p ≠ .lost
  | 0, s, b, p, _, h => absurd h (Nat.not_lt_zero _)
  | f + 1, s, b, p, m, h => by
    rw [lnL_succ]
    cases hb : b.isEmpty with
    | true =>
      rw [if_pos rfl]
      cases s.os.isEmpty <;> intro z <;> cases z
    | false =>
      rw [if_neg (by decide)]
      obtain ⟨n, k⟩ := rdLine_step (p := p) m hb
      cases e : rdLine s b p with
      | lost => exact absurd e n
      | bad k => intro z; cases z
      | ok x =>
        obtain ⟨s2, b2, p2⟩ := x
        obtain ⟨m2, l2, _⟩ := k s2 b2 p2 e
        exact lnL_fuel f m2 (by omega)
section
variable {P : Program} {w : World} {K : PySem.W.Frag} {mg : Str → Option Value} {base : Heap} {cFault cReader cLines : Addr}
def spLinesOf (K : PySem.W.Frag) (C D F : Addr) : Sp := fun vs H Q E => ∃ (t : Addr) (l : List Int), vs = [.ref t] ∧ Fz K H t (vis l) ∧ Good l ∧ l.length ≤ 5000 ∧
  (∀ k, linesOf l = .bad k → FX F E 11 k) ∧ ∀ s, linesOf l = .ok s → ∀ H' r L, LnAt K D H r L H' s → Q (.ref L.a) H'
theorem ok_lines_of (T : Txt K mg cFault cReader cLines) (hnl : ∀ b p, cond b p ≠ .lost) : Df P w K mg base (L2.CX P w) 10 "lines_of" ["text"] (spLinesOf K cReader cLines cFault) := by
  refine df_mk T.d_lines_of fun f fd F => F.okX sc_lines_of (fun vs H Q E h => ?_) (fun cdv A outer s H vs Q E hr h => ?_)
  · obtain ⟨t, l, rfl, _⟩ := h
    rfl
  · obtain ⟨t, l, rfl, ht, gl, hl, kE, k⟩ := h
    have ok_read_line := fun T => ok_read_line (P := P) (w := w) (K := K) (mg := mg) (base := base) (cFault := cFault) (cReader := cReader) (cLines := cLines) T hnl
    refine ⟨_, (pss_cons (ps_par rfl sc_lines_of.nd (i := 1) (j := 2) rfl rfl (by decide) rfl rfl (pa_cons (pe_kf (ok_Reader___init__ T) (hr.mono (by decide)) pass0 (by exact (pa_cons (pv 0) pa_nil))) (pa_cons (pe_kf0 (ok_Lines___init__ T) (hr.mono (by decide)) pass0) pa_nil)) (by rfl)) (pss_cons (ps_while (passes_of rfl) (pt_cmpR op_lt (pe_get (pv 1)) (pe_callB call_len_seq (by rfl) T.n_len PySem.boot_len (pa_cons (pv 0) pa_nil)) (nomark _)) (pss_one (ps_expr (pe_df (ok_read_line T) (hr.mono (by decide)) (passE (takes_of rfl rfl rfl rfl)) (by exact (pa_cons (pv 1) (pa_cons (pv 2) pa_nil))))))) (pss_cons (ps_if (pt_cmpR (op_neE hr.units0) (pe_get (pv 2)) (pe_lst pa_nil) (nomark _)) (pss_one (ps_raise rfl (takes_of rfl rfl rfl rfl) (pmk_xf (ok_Fault___init__ T) (hr.mono (by decide)) (by exact (pa_cons (pe_gi T.c_RULE) (pa_cons (pe_callB call_len_seq (by rfl) T.n_len PySem.boot_len (pa_cons (pv 0) pa_nil)) pa_nil)))))) pss_nil) (pss_one (ps_ret (pv 2)))))), ?_⟩
    refine ⟨_, rfl, fun x dx hx hdx ne => ⟨x, t, dx, rfl, upd_same, fun H1 c1 e1 => ⟨rfl, fun y dy hy hdy ne2 => ⟨y, dy, rfl, upd_same, fun H2 L ea ed c2 eo nn nl nd => ⟨rfl, ?_⟩⟩⟩⟩⟩
    have s1 : Same H H1 := fun b o e => c1 b o (ne_of_none e hx) (by rw [upd_ne (ne_of_none e hx), upd_ne (ne_of_none e hdx)]; exact e)
    have s2 : Same H1 H2 := fun b o e => c2 b o (ne_of_none e hy) (by rw [upd_ne (ne_of_none e hy), upd_ne (ne_of_none e hdy)]; exact e)
    have s12 : Same H H2 := fun b o e => s2 b o (s1 b o e)
    have nH : ∀ {a}, H1 a = none → H a = none := fun {a} h => by
      cases q : H a with
      | none => rfl
      | some o => rw [s1 a o q] at h; cases h
    have lnl := lnL_fuel (l.length + 1) (p := 0) (mid_start gl) (Nat.lt_succ_self _)
    subst ea ed
    have n1 : ∀ a ∈ [L.w, L.p, L.g, L.o], H1 a = none := fun a ha => (upd_none (upd_none (nn a ha)).2).2
    have R0 : RdAt K cReader ⟨x, dx, t, l⟩ H2 l 0 := ⟨s2 _ _ e1, ht.chg (chgS s12 : Chg [] H H2), rfl, Nat.zero_add _, hl⟩
    have h0 : LnAt K cLines H x L H2 .empty := {
      base := s12
      new := fun a ha => by
        rcases List.mem_cons.mp ha with z | ha
        · rw [z]; exact hx
        · rcases List.mem_cons.mp ha with z | ha
          · rw [z]; exact nH hy
          · exact nH (n1 a ha)
      obj := eo
      ra := ne_of_none e1 hy
      rdr := ⟨_, _, _, s2 _ _ e1⟩
      nd := nd
      ws := nl L.w (by simp)
      gs := nl L.g (by simp)
      ps := ⟨[], nl L.p (by simp), .nil⟩
      os := ⟨[], nl L.o (by simp), .nil, List.nodup_nil, fun a ha => by cases ha⟩
      gl := rfl
      pl := rfl
      sm := Nat.zero_le _ }
    refine ⟨_, _, rfl, ?_⟩
    refine ⟨fun m σ H' => ∃ b p s, σ = [some (.ref t), some (.ref x), some (.ref L.a)] ∧ RdAt K cReader ⟨x, dx, t, l⟩ H' b p ∧ LnAt K cLines H x L H' s ∧ Mid s b ∧ s.ws.length + b.length ≤ 5000 ∧ lnL m s b p = linesOf l,
      ⟨l.length + 1, l, 0, .empty, rfl, R0, h0, mid_start gl, by show 0 + l.length ≤ 5000; omega, rfl⟩, ?_⟩
    rintro m σ H' ⟨b, p, s, rfl, R, h, md, hsz, em⟩
    have elen : (vis l).length = l.length := vis_len l
    have rl : p + b.length = l.length := R.len
    refine ⟨_, rfl, _, _, rfl, R.fat T, _, rfl, t, vis l, rfl, .inl R.txt.sq, _, _, rfl, rfl, _, rfl, ?_⟩
    cases m with
    | zero => exact absurd em.symm lnl
    | succ m =>
      rw [lnL_succ] at em
      cases b with
      | cons c b =>
        have hb : (c :: b).isEmpty = false := rfl
        rw [hb, if_neg (by decide)] at em
        rw [List.length_cons] at rl
        refine ite2 (fun _ => ?_) (fun n => absurd (decide_eq_true (by omega)) n)
        refine ⟨fun σ' H' => ∃ b p s, σ' = [some (.ref t), some (.ref x), some (.ref L.a)] ∧ RdAt K cReader ⟨x, dx, t, l⟩ H' b p ∧ LnAt K cLines H x L H' s ∧ Mid s b ∧ s.ws.length + b.length ≤ 5000 ∧ lnL m s b p = linesOf l,
          fun σ' H' ⟨b, p, s, a1, a2, a3, a4, a5, a6⟩ => ⟨m, Nat.lt_succ_self _, b, p, s, a1, a2, a3, a4, a5, a6⟩, ?_⟩
        obtain ⟨_, st⟩ := rdLine_step (p := p) md hb
        refine ⟨_, rfl, _, rfl, ⟨x, dx, t, l⟩, c :: b, p, H, L, s, rfl, R, h, by omega, md.ob, fun kk e => ?_, fun s2 b2 p2 e H3 R3 h3 => ?_⟩
        · rw [e] at em
          exact kE kk em.symm
        · rw [e] at em
          obtain ⟨m2, l2, w2⟩ := st s2 b2 p2 e
          exact ⟨b2, p2, s2, rfl, R3, h3, m2, by omega, em⟩
      | nil =>
        have em : (if s.os.isEmpty = true then Ab.R.ok s else .bad p) = linesOf l := em
        have rl : p = l.length := rl
        refine ite2 (fun n => absurd (of_decide_eq_true n) (by omega)) (fun _ => ?_)
        obtain ⟨vo, o1, o2, _, _⟩ := h.os
        refine ⟨_, rfl, _, _, rfl, h.fo T, Nat.zero_le _, fun q hq => ⟨L.o, q, _, rfl, rfl, SqL.of (same_lst hq _ _ o1), SqL.of upd_same, _, rfl, ?_⟩⟩
        have ev : vo.reverse.isEmpty = s.os.isEmpty := empty_len (by rw [List.length_reverse]; exact Paired.length o2)
        rw [ev]
        cases he : s.os.isEmpty with
        | true =>
          rw [he, if_pos rfl] at em
          refine ite2 (fun n => absurd n (by decide)) (fun _ => ?_)
          exact ⟨_, rfl, k s em.symm _ x L (h.same (same_lst hq))⟩
        | false =>
          rw [he, if_neg (by decide)] at em
          refine ite2 (fun _ => ?_) (fun n => absurd rfl n)
          refine ⟨_, rfl, t, vis l, rfl, .inl (R.txt.chg (chgS (same_lst hq) : Chg [] _ _)).sq, ?_⟩
          rw [elen, ← rl]
          exact fault_in fun d H' _ e => kE p em.symm d H' e
def tLen (K : PySem.W.Frag) (t : TA) : TE := tCB (fun xs H Q => ∃ p ys, xs = [.ref p] ∧ (SqL K H p ys ∨ SqT K H p ys) ∧ Q (.int (ys.length : Int)) H) t
def tb_method (K : PySem.W.Frag) (cFault cReader cLines : Addr) : WX → TS := fun W => tAsg (tLst (tCons (tLen K (tCons (tGet K (tCallS (spLinesOf K cReader cLines cFault) (WE W) (tCons (tVar 0) tNil)) "words") tNil)) tNil)) (gName 1)
def ts_method (K : PySem.W.Frag) (cFault cReader cLines : Addr) : Addr → Value → Option Addr → TS := fun a cls d => tAsg (tLst (tCons (tC (.int (-5))) (tCons (tXf a cls d cFault "rule" (tVar 2)) (tCons (tXf a cls d cFault "place" (tVar 2)) tNil)))) (gName 1)
def spMethod (K : PySem.W.Frag) : Sp := fun vs H Q _ => ∃ (t : Addr) (l : List Int), vs = [.ref t] ∧ Fz K H t (vis l) ∧ Good l ∧ l.length ≤ 50000 ∧
  ∀ H' q, H' q = some (.lst (vis (Ab.method l))) → Q (.ref q) H'
theorem fn_method (T : Txt K mg cFault cReader cLines) (hnl : ∀ b p, cond b p ≠ .lost) {f : Addr} {fd : FuncData} (F : Fun K "method" "method" s_method f fd) : FnOk P w K mg base CX0 11 f fd ["text"] (spMethod K) := by
  refine F.ok sc_method (fun vs H Q E h => ?_) (fun cdv A outer s H vs Q E hr h => ?_)
  · obtain ⟨t, l, rfl, _⟩ := h
    rfl
  · obtain ⟨t, l, rfl, ht, gl, hl, k⟩ := h
    have ok_lines_of := fun T => ok_lines_of (P := P) (w := w) (K := K) (mg := mg) (base := base) (cFault := cFault) (cReader := cReader) (cLines := cLines) T hnl
    refine ⟨_, (pss_cons (ps_if (pt_cmpR op_gt (pe_callB call_len_seq (by rfl) T.n_len PySem.boot_len (pa_cons (pv 0) pa_nil)) (pe_gi T.c_MOST_BYTES) (nomark _)) (pss_one (ps_ret (pe_lst (pa_cons (pe_gi T.c_TEXT_TOO_LONG) pa_nil)))) pss_nil) (pss_cons (ps_try_as (i := 2) (tb := (tb_method K cFault cReader cLines)) (ts := (ts_method K cFault cReader cLines)) (Wout := fun _ _ _ _ => False) rfl rfl sc_method.nd rfl rfl ⟨rfl, by decide, Or.inl T.g_Fault⟩ takes0 (fun W pn xe tk hp => (pss_one (ps_set (i := 1) sc_method.nd rfl (Or.inl rfl) (pe_lst (pa_cons (pe_callB call_len_seq (by rfl) T.n_len PySem.boot_len (pa_cons (pe_get (by exact (pe_dfS (ok_lines_of T) (hr.mono (by decide)) (fun σ => passAt tk σ) (by exact (pa_cons (pv 0) pa_nil))))) pa_nil)) pa_nil))))) (fun a oe cls d pn hz hf => (pss_one (ps_set (i := 1) sc_method.nd rfl (Or.inl rfl) (pe_lst (pa_cons (pe_gi T.c_FAULTY) (pa_cons (pe_xf T.xc_Fault T.na_Fault_rule hz hf (pv 2)) (pa_cons (pe_xf T.xc_Fault T.na_Fault_place hz hf (pv 2)) pa_nil)))))))) (pss_one (ps_ret (pv 1))))), ?_⟩
    have elen : (vis l).length = l.length := vis_len l
    refine ⟨_, rfl, t, vis l, rfl, .inl ht.sq, _, _, rfl, rfl, _, rfl, ?_⟩
    unfold Ab.method at k
    by_cases h : 4096 < l.length
    · rw [if_pos h] at k
      refine ite2 (fun _ => ?_) (fun n => absurd (decide_eq_true (by omega)) n)
      exact ⟨sz (show 1 ≤ 100000 by decide), fun q hq => k _ q upd_same⟩
    · rw [if_neg h] at k
      refine ite2 (fun n => absurd (of_decide_eq_true n) (by omega)) (fun _ => ?_)
      refine ⟨_, rfl, t, l, rfl, ht, gl, by omega, fun kk e => ?_, fun s e H1 r L hL => ?_⟩
      · rw [e] at k
        intro d H' hd
        refine ⟨true, T.xm_Fault_Fault, fun _ a ha => ?_, fun z => by cases z⟩
        refine ⟨_, rfl, rfl, rfl, d, _, _, rfl, hd, fxd_rule _ _, _, rfl, rfl, rfl, d, _, _, rfl, hd, fxd_place _ _, sz (show 3 ≤ 100000 by decide), fun q hq => ?_⟩
        exact ⟨_, rfl, k _ q upd_same⟩
      · rw [e] at k
        refine ⟨_, _, rfl, hL.fw T, _, _, rfl, .inl (SqL.of hL.ws), sz (show 1 ≤ 100000 by decide), fun q hq => ?_⟩
        rw [nvs_len]
        exact ⟨_, rfl, k _ q upd_same⟩
end
end Ab
/-! ## The law -/
namespace Ab
open PySem PySem.Spec PyProof.Rows L2
theorem exm_of2 {K : PySem.W.Frag} {A C : Addr} {b : Bool} (h1 : PySem.W.subIn K (.ref C) (.type "BaseException") = some true) (h2 : PySem.W.isClsIn K C = true) (h3 : PySem.W.typeIn K (.ref C) = some (.type "type")) (h4 : PySem.W.subIn K (.ref A) (.ref C) = some b) :
    PySem.W.exmOne K (.ref A) (.ref C) = some b := by
  have e1 : (PySem.W.subIn K (.ref C) (.type "BaseException") == some true) = true := by rw [h1] <;> rfl
  have e2 : ((PySem.W.clsIn K C).isSome && PySem.W.typeIn K (.ref C) == some (.type "type")) = true := by
    have h2' : (PySem.W.clsIn K C).isSome = true := h2
    rw [h2', h3] <;> rfl
  show (if (PySem.W.subIn K (.ref C) (.type "BaseException") == some true) = true then (if ((PySem.W.clsIn K C).isSome && PySem.W.typeIn K (.ref C) == some (.type "type")) = true then PySem.W.subIn K (.ref A) (.ref C) else none) else none) = some b
  rw [if_pos e1, if_pos e2]
  exact h4
theorem txt_mk {K : PySem.W.Frag} {h : Heap} {mg : Str → Option Value} {cFault cReader cLines : Addr} (X : K.In h) (G : h.Ns mainGlobals mg)
    {tkRULE : Tok}
    {tkMOST_BRACKETS : Tok}
    {tkLINE_FEED : Tok}
    {tkBLANK : Tok}
    {acDIGITS : Addr} {odDIGITS : Option Addr} {nnDIGITS : Nat} {slDIGITS : Array (Option Value)} {tDIGITS0 tDIGITS1 tDIGITS2 tDIGITS3 tDIGITS4 tDIGITS5 tDIGITS6 tDIGITS7 tDIGITS8 tDIGITS9 : Tok}
    {tkNOUGHT : Tok}
    {tkMOST_DIGITS : Tok}
    {acHEADS : Addr} {odHEADS : Option Addr} {nnHEADS : Nat} {slHEADS : Array (Option Value)} {tHEADS0 tHEADS1 tHEADS2 tHEADS3 tHEADS4 tHEADS5 tHEADS6 tHEADS7 : Tok}
    {acMARKS : Addr} {odMARKS : Option Addr} {nnMARKS : Nat} {slMARKS : Array (Option Value)} {tMARKS0 tMARKS1 tMARKS2 tMARKS3 tMARKS4 tMARKS5 tMARKS6 tMARKS7 : Tok}
    {tkROUND : Tok}
    {tkSQUARE : Tok}
    {acOPENERS : Addr} {odOPENERS : Option Addr} {nnOPENERS : Nat} {slOPENERS : Array (Option Value)} {tOPENERS0 tOPENERS1 : Tok}
    {acCLOSERS : Addr} {nnCLOSERS : Nat} {tCLOSERS0 uCLOSERS0 tCLOSERS1 uCLOSERS1 : Tok}
    {tkTIMES : Tok}
    {tkPLUS : Tok}
    {tkMINUS : Tok}
    {acOPERATORS : Addr} {odOPERATORS : Option Addr} {nnOPERATORS : Nat} {slOPERATORS : Array (Option Value)} {tOPERATORS0 tOPERATORS1 tOPERATORS2 : Tok}
    {tkLESS : Tok}
    {tkEQUAL : Tok}
    {tkGREATER : Tok}
    {tkNUMBER : Tok}
    {tkHEAD : Tok}
    {tkMARK : Tok}
    {tkDIGIT : Tok}
    {tkADD : Tok}
    {tkTAKE : Tok}
    {tkSET : Tok}
    {tkIF : Tok}
    {tkELSE : Tok}
    {tkEND : Tok}
    {tkWHILE : Tok}
    {tkSTOP : Tok}
    {tkFAIL : Tok}
    {tkMOST_OPEN : Tok}
    {tkMOST_BYTES : Tok}
    {tkFAULTY : Tok}
    {tkTEXT_TOO_LONG : Tok}
    {nmFault qFault : Str} {NFault : Addr} {bsFault : List Value} {snFault : List Str} {subFault : List Value} {abFault : Bool} {colFault : Option Bool} {ddFault : Option Addr} {m0Fault m1Fault m2Fault m3Fault m5Fault : Option Value}
    {fFault___init__ : Addr} {odFault___init__ anFault___init__ : Option Addr} {slFault___init__ : Array (Option Value)} {ocFault___init__ kVFault___init__ dcFault___init__ pmFault___init__ cdFault___init__ ctFault___init__ : Value}
    {fReader___init__ : Addr} {odReader___init__ anReader___init__ : Option Addr} {slReader___init__ : Array (Option Value)} {ocReader___init__ kVReader___init__ dcReader___init__ pmReader___init__ cdReader___init__ ctReader___init__ : Value}
    {fReader_sees : Addr} {odReader_sees anReader_sees : Option Addr} {slReader_sees : Array (Option Value)} {ocReader_sees kVReader_sees dcReader_sees pmReader_sees cdReader_sees ctReader_sees : Value}
    {fReader_next_of : Addr} {odReader_next_of anReader_next_of : Option Addr} {slReader_next_of : Array (Option Value)} {ocReader_next_of kVReader_next_of dcReader_next_of pmReader_next_of cdReader_next_of ctReader_next_of : Value}
    {fReader_word : Addr} {odReader_word anReader_word : Option Addr} {slReader_word : Array (Option Value)} {ocReader_word kVReader_word dcReader_word pmReader_word cdReader_word ctReader_word : Value}
    {fLines___init__ : Addr} {odLines___init__ anLines___init__ : Option Addr} {slLines___init__ : Array (Option Value)} {ocLines___init__ kVLines___init__ dcLines___init__ pmLines___init__ cdLines___init__ ctLines___init__ : Value}
    {fLines_put : Addr} {odLines_put anLines_put : Option Addr} {slLines_put : Array (Option Value)} {ocLines_put kVLines_put dcLines_put pmLines_put cdLines_put ctLines_put : Value}
    {fLines_may_have_else : Addr} {odLines_may_have_else anLines_may_have_else : Option Addr} {slLines_may_have_else : Array (Option Value)} {ocLines_may_have_else kVLines_may_have_else dcLines_may_have_else pmLines_may_have_else cdLines_may_have_else ctLines_may_have_else : Value}
    {fLines_opened : Addr} {odLines_opened anLines_opened : Option Addr} {slLines_opened : Array (Option Value)} {ocLines_opened kVLines_opened dcLines_opened pmLines_opened cdLines_opened ctLines_opened : Value}
    {fLines_put_else : Addr} {odLines_put_else anLines_put_else : Option Addr} {slLines_put_else : Array (Option Value)} {ocLines_put_else kVLines_put_else dcLines_put_else pmLines_put_else cdLines_put_else ctLines_put_else : Value}
    {fLines_put_end : Addr} {odLines_put_end anLines_put_end : Option Addr} {slLines_put_end : Array (Option Value)} {ocLines_put_end kVLines_put_end dcLines_put_end pmLines_put_end cdLines_put_end ctLines_put_end : Value}
    {fbytes_of : Addr} {odbytes_of anbytes_of : Option Addr} {slbytes_of : Array (Option Value)} {ocbytes_of kVbytes_of dcbytes_of pmbytes_of cdbytes_of ctbytes_of : Value}
    {fnumber_from : Addr} {odnumber_from annumber_from : Option Addr} {slnumber_from : Array (Option Value)} {ocnumber_from kVnumber_from dcnumber_from pmnumber_from cdnumber_from ctnumber_from : Value}
    {foperand : Addr} {odoperand anoperand : Option Addr} {sloperand : Array (Option Value)} {ocoperand kVoperand dcoperand pmoperand cdoperand ctoperand : Value}
    {fopen_brackets : Addr} {odopen_brackets anopen_brackets : Option Addr} {slopen_brackets : Array (Option Value)} {ocopen_brackets kVopen_brackets dcopen_brackets pmopen_brackets cdopen_brackets ctopen_brackets : Value}
    {fread_operand : Addr} {odread_operand anread_operand : Option Addr} {slread_operand : Array (Option Value)} {ocread_operand kVread_operand dcread_operand pmread_operand cdread_operand ctread_operand : Value}
    {fclose : Addr} {odclose anclose : Option Addr} {slclose : Array (Option Value)} {occlose kVclose dcclose pmclose cdclose ctclose : Value}
    {fbinds : Addr} {odbinds anbinds : Option Addr} {slbinds : Array (Option Value)} {ocbinds kVbinds dcbinds pmbinds cdbinds ctbinds : Value}
    {fread_operator : Addr} {odread_operator anread_operator : Option Addr} {slread_operator : Array (Option Value)} {ocread_operator kVread_operator dcread_operator pmread_operator cdread_operator ctread_operator : Value}
    {fread_closers : Addr} {odread_closers anread_closers : Option Addr} {slread_closers : Array (Option Value)} {ocread_closers kVread_closers dcread_closers pmread_closers cdread_closers ctread_closers : Value}
    {fexpression : Addr} {odexpression anexpression : Option Addr} {slexpression : Array (Option Value)} {ocexpression kVexpression dcexpression pmexpression cdexpression ctexpression : Value}
    {fcompared : Addr} {odcompared ancompared : Option Addr} {slcompared : Array (Option Value)} {occompared kVcompared dccompared pmcompared cdcompared ctcompared : Value}
    {fcondition : Addr} {odcondition ancondition : Option Addr} {slcondition : Array (Option Value)} {occondition kVcondition dccondition pmcondition cdcondition ctcondition : Value}
    {ffirst_bytes : Addr} {odfirst_bytes anfirst_bytes : Option Addr} {slfirst_bytes : Array (Option Value)} {ocfirst_bytes kVfirst_bytes dcfirst_bytes pmfirst_bytes cdfirst_bytes ctfirst_bytes : Value}
    {fread_change : Addr} {odread_change anread_change : Option Addr} {slread_change : Array (Option Value)} {ocread_change kVread_change dcread_change pmread_change cdread_change ctread_change : Value}
    {fread_set_or_stop : Addr} {odread_set_or_stop anread_set_or_stop : Option Addr} {slread_set_or_stop : Array (Option Value)} {ocread_set_or_stop kVread_set_or_stop dcread_set_or_stop pmread_set_or_stop cdread_set_or_stop ctread_set_or_stop : Value}
    {fread_else_or_end : Addr} {odread_else_or_end anread_else_or_end : Option Addr} {slread_else_or_end : Array (Option Value)} {ocread_else_or_end kVread_else_or_end dcread_else_or_end pmread_else_or_end cdread_else_or_end ctread_else_or_end : Value}
    {fread_line : Addr} {odread_line anread_line : Option Addr} {slread_line : Array (Option Value)} {ocread_line kVread_line dcread_line pmread_line cdread_line ctread_line : Value}
    {flines_of : Addr} {odlines_of anlines_of : Option Addr} {sllines_of : Array (Option Value)} {oclines_of kVlines_of dclines_of pmlines_of cdlines_of ctlines_of : Value}
    {fmethod : Addr} {odmethod anmethod : Option Addr} {slmethod : Array (Option Value)} {ocmethod kVmethod dcmethod pmmethod cdmethod ctmethod : Value}
    (zValueError : PySem.W.nsIn K mainGlobals "ValueError" = some none)
    (zlen : PySem.W.nsIn K mainGlobals "len" = some none)
    (zord : PySem.W.nsIn K mainGlobals "ord" = some none)
    (gcRULE : PySem.W.nsIn K mainGlobals "RULE" = some (some (.int (11) tkRULE)))
    (gcMOST_BRACKETS : PySem.W.nsIn K mainGlobals "MOST_BRACKETS" = some (some (.int (16) tkMOST_BRACKETS)))
    (gcLINE_FEED : PySem.W.nsIn K mainGlobals "LINE_FEED" = some (some (.int (10) tkLINE_FEED)))
    (gcBLANK : PySem.W.nsIn K mainGlobals "BLANK" = some (some (.int (32) tkBLANK)))
    (gcDIGITS : PySem.W.nsIn K mainGlobals "DIGITS" = some (some (.ref acDIGITS)))
    (lcDIGITS : K.lookup acDIGITS = some ⟨.type "tuple", odDIGITS, .seq #[.int 48 tDIGITS0, .int 49 tDIGITS1, .int 50 tDIGITS2, .int 51 tDIGITS3, .int 52 tDIGITS4, .int 53 tDIGITS5, .int 54 tDIGITS6, .int 55 tDIGITS7, .int 56 tDIGITS8, .int 57 tDIGITS9] nnDIGITS, slDIGITS⟩)
    (gcNOUGHT : PySem.W.nsIn K mainGlobals "NOUGHT" = some (some (.int (48) tkNOUGHT)))
    (gcMOST_DIGITS : PySem.W.nsIn K mainGlobals "MOST_DIGITS" = some (some (.int (4) tkMOST_DIGITS)))
    (gcHEADS : PySem.W.nsIn K mainGlobals "HEADS" = some (some (.ref acHEADS)))
    (lcHEADS : K.lookup acHEADS = some ⟨.type "tuple", odHEADS, .seq #[.int 97 tHEADS0, .int 98 tHEADS1, .int 99 tHEADS2, .int 100 tHEADS3, .int 101 tHEADS4, .int 102 tHEADS5, .int 103 tHEADS6, .int 104 tHEADS7] nnHEADS, slHEADS⟩)
    (gcMARKS : PySem.W.nsIn K mainGlobals "MARKS" = some (some (.ref acMARKS)))
    (lcMARKS : K.lookup acMARKS = some ⟨.type "tuple", odMARKS, .seq #[.int 65 tMARKS0, .int 66 tMARKS1, .int 67 tMARKS2, .int 68 tMARKS3, .int 69 tMARKS4, .int 70 tMARKS5, .int 71 tMARKS6, .int 72 tMARKS7] nnMARKS, slMARKS⟩)
    (gcROUND : PySem.W.nsIn K mainGlobals "ROUND" = some (some (.int (40) tkROUND)))
    (gcSQUARE : PySem.W.nsIn K mainGlobals "SQUARE" = some (some (.int (91) tkSQUARE)))
    (gcOPENERS : PySem.W.nsIn K mainGlobals "OPENERS" = some (some (.ref acOPENERS)))
    (lcOPENERS : K.lookup acOPENERS = some ⟨.type "tuple", odOPENERS, .seq #[.int 40 tOPENERS0, .int 91 tOPENERS1] nnOPENERS, slOPENERS⟩)
    (gcCLOSERS : PySem.W.nsIn K mainGlobals "CLOSERS" = some (some (.ref acCLOSERS)))
    (lcCLOSERS : K.lookup acCLOSERS = some ⟨.type "dict", none, .dict #[⟨40, .int 40 tCLOSERS0, .int 41 uCLOSERS0⟩, ⟨91, .int 91 tCLOSERS1, .int 93 uCLOSERS1⟩] nnCLOSERS, #[]⟩)
    (gcTIMES : PySem.W.nsIn K mainGlobals "TIMES" = some (some (.int (42) tkTIMES)))
    (gcPLUS : PySem.W.nsIn K mainGlobals "PLUS" = some (some (.int (43) tkPLUS)))
    (gcMINUS : PySem.W.nsIn K mainGlobals "MINUS" = some (some (.int (45) tkMINUS)))
    (gcOPERATORS : PySem.W.nsIn K mainGlobals "OPERATORS" = some (some (.ref acOPERATORS)))
    (lcOPERATORS : K.lookup acOPERATORS = some ⟨.type "tuple", odOPERATORS, .seq #[.int 42 tOPERATORS0, .int 43 tOPERATORS1, .int 45 tOPERATORS2] nnOPERATORS, slOPERATORS⟩)
    (gcLESS : PySem.W.nsIn K mainGlobals "LESS" = some (some (.int (60) tkLESS)))
    (gcEQUAL : PySem.W.nsIn K mainGlobals "EQUAL" = some (some (.int (61) tkEQUAL)))
    (gcGREATER : PySem.W.nsIn K mainGlobals "GREATER" = some (some (.int (62) tkGREATER)))
    (gcNUMBER : PySem.W.nsIn K mainGlobals "NUMBER" = some (some (.int (0) tkNUMBER)))
    (gcHEAD : PySem.W.nsIn K mainGlobals "HEAD" = some (some (.int (1) tkHEAD)))
    (gcMARK : PySem.W.nsIn K mainGlobals "MARK" = some (some (.int (2) tkMARK)))
    (gcDIGIT : PySem.W.nsIn K mainGlobals "DIGIT" = some (some (.int (3) tkDIGIT)))
    (gcADD : PySem.W.nsIn K mainGlobals "ADD" = some (some (.int (0) tkADD)))
    (gcTAKE : PySem.W.nsIn K mainGlobals "TAKE" = some (some (.int (1) tkTAKE)))
    (gcSET : PySem.W.nsIn K mainGlobals "SET" = some (some (.int (2) tkSET)))
    (gcIF : PySem.W.nsIn K mainGlobals "IF" = some (some (.int (3) tkIF)))
    (gcELSE : PySem.W.nsIn K mainGlobals "ELSE" = some (some (.int (4) tkELSE)))
    (gcEND : PySem.W.nsIn K mainGlobals "END" = some (some (.int (5) tkEND)))
    (gcWHILE : PySem.W.nsIn K mainGlobals "WHILE" = some (some (.int (6) tkWHILE)))
    (gcSTOP : PySem.W.nsIn K mainGlobals "STOP" = some (some (.int (7) tkSTOP)))
    (gcFAIL : PySem.W.nsIn K mainGlobals "FAIL" = some (some (.int (8) tkFAIL)))
    (gcMOST_OPEN : PySem.W.nsIn K mainGlobals "MOST_OPEN" = some (some (.int (16) tkMOST_OPEN)))
    (gcMOST_BYTES : PySem.W.nsIn K mainGlobals "MOST_BYTES" = some (some (.int (4096) tkMOST_BYTES)))
    (gcFAULTY : PySem.W.nsIn K mainGlobals "FAULTY" = some (some (.int (-5) tkFAULTY)))
    (gcTEXT_TOO_LONG : PySem.W.nsIn K mainGlobals "TEXT_TOO_LONG" = some (some (.int (-6) tkTEXT_TOO_LONG)))
    (gFault : PySem.W.nsIn K mainGlobals "Fault" = some (some (.ref cFault)))
    (kcFault : PySem.W.keepIn K (.ref cFault) = true)
    (ecFault : PySem.W.subIn K (.ref cFault) (.type "BaseException") = some true)
    (tcFault : PySem.W.typeIn K (.ref cFault) = some (.type "type"))
    (icFault : PySem.W.isClsIn K cFault = true)
    (xlFault : K.lookup cFault = some (excClassObj nmFault qFault cFault NFault bsFault [.type "ValueError", .type "Exception", .type "BaseException", .type "object"] true snFault subFault abFault colFault ddFault m0Fault m1Fault m2Fault m3Fault m5Fault "ValueError.__new__"))
    (saFault : PySem.W.findIn K (.ref cFault) "__setattr__" = some (some (.builtin "object.__setattr__")))
    (gaFault : PySem.W.findIn K (.ref cFault) "__getattribute__" = some (some (.builtin "BaseException.__getattribute__")))
    (ggFault : PySem.W.findIn K (.ref cFault) "__getattr__" = some none)
    (hdFault : PySem.W.hasDictIn K cFault = true)
    (naFaultrule : PySem.W.findIn K (.ref cFault) "rule" = some none)
    (naFaultplace : PySem.W.findIn K (.ref cFault) "place" = some none)
    (aFault___init__ : PySem.W.findIn K (.ref cFault) "__init__" = some (some (.ref fFault___init__)))
    (tFault___init__ : PySem.W.typeIn K (.ref fFault___init__) = some (.type "function"))
    (lFault___init__ : K.lookup fFault___init__ = some ⟨ocFault___init__, odFault___init__, .func (PySem.W.fnOf "__init__" "Fault.__init__" (defArgs s_Fault___init__) (defBody s_Fault___init__) (defScope s_Fault___init__) .none kVFault___init__ dcFault___init__ pmFault___init__ anFault___init__ cdFault___init__ ctFault___init__), slFault___init__⟩)
    (cFault___init__ : PySem.W.codeIn K cdFault___init__ "Fault.__init__" = true)
    (kFault___init__ : PySem.W.keepIn K (.ref fFault___init__) = true)
    (gReader : PySem.W.nsIn K mainGlobals "Reader" = some (some (.ref cReader)))
    (pgReader : PySem.W.plainGet K cReader Str.empty = true)
    (hdReader : PySem.W.hasDictIn K cReader = true)
    (poReader : PySem.W.plainOver K cReader = true)
    (saReader : PySem.W.findIn K (.ref cReader) "__setattr__" = some (some (.builtin "object.__setattr__")))
    (mkReader : PySem.W.makesIn K cReader = true)
    (kcReader : PySem.W.keepIn K (.ref cReader) = true)
    (naReadertext : PySem.W.findIn K (.ref cReader) "text" = some none)
    (naReaderat : PySem.W.findIn K (.ref cReader) "at" = some none)
    (aReader___init__ : PySem.W.findIn K (.ref cReader) "__init__" = some (some (.ref fReader___init__)))
    (iReader___init__ : PySem.W.isFn K (.ref fReader___init__) = true)
    (lReader___init__ : K.lookup fReader___init__ = some ⟨ocReader___init__, odReader___init__, .func (PySem.W.fnOf "__init__" "Reader.__init__" (defArgs s_Reader___init__) (defBody s_Reader___init__) (defScope s_Reader___init__) .none kVReader___init__ dcReader___init__ pmReader___init__ anReader___init__ cdReader___init__ ctReader___init__), slReader___init__⟩)
    (cReader___init__ : PySem.W.codeIn K cdReader___init__ "Reader.__init__" = true)
    (kReader___init__ : PySem.W.keepIn K (.ref fReader___init__) = true)
    (aReader_sees : PySem.W.findIn K (.ref cReader) "sees" = some (some (.ref fReader_sees)))
    (iReader_sees : PySem.W.isFn K (.ref fReader_sees) = true)
    (lReader_sees : K.lookup fReader_sees = some ⟨ocReader_sees, odReader_sees, .func (PySem.W.fnOf "sees" "Reader.sees" (defArgs s_Reader_sees) (defBody s_Reader_sees) (defScope s_Reader_sees) .none kVReader_sees dcReader_sees pmReader_sees anReader_sees cdReader_sees ctReader_sees), slReader_sees⟩)
    (cReader_sees : PySem.W.codeIn K cdReader_sees "Reader.sees" = true)
    (kReader_sees : PySem.W.keepIn K (.ref fReader_sees) = true)
    (aReader_next_of : PySem.W.findIn K (.ref cReader) "next_of" = some (some (.ref fReader_next_of)))
    (iReader_next_of : PySem.W.isFn K (.ref fReader_next_of) = true)
    (lReader_next_of : K.lookup fReader_next_of = some ⟨ocReader_next_of, odReader_next_of, .func (PySem.W.fnOf "next_of" "Reader.next_of" (defArgs s_Reader_next_of) (defBody s_Reader_next_of) (defScope s_Reader_next_of) .none kVReader_next_of dcReader_next_of pmReader_next_of anReader_next_of cdReader_next_of ctReader_next_of), slReader_next_of⟩)
    (cReader_next_of : PySem.W.codeIn K cdReader_next_of "Reader.next_of" = true)
    (kReader_next_of : PySem.W.keepIn K (.ref fReader_next_of) = true)
    (aReader_word : PySem.W.findIn K (.ref cReader) "word" = some (some (.ref fReader_word)))
    (iReader_word : PySem.W.isFn K (.ref fReader_word) = true)
    (lReader_word : K.lookup fReader_word = some ⟨ocReader_word, odReader_word, .func (PySem.W.fnOf "word" "Reader.word" (defArgs s_Reader_word) (defBody s_Reader_word) (defScope s_Reader_word) .none kVReader_word dcReader_word pmReader_word anReader_word cdReader_word ctReader_word), slReader_word⟩)
    (cReader_word : PySem.W.codeIn K cdReader_word "Reader.word" = true)
    (kReader_word : PySem.W.keepIn K (.ref fReader_word) = true)
    (gLines : PySem.W.nsIn K mainGlobals "Lines" = some (some (.ref cLines)))
    (pgLines : PySem.W.plainGet K cLines Str.empty = true)
    (hdLines : PySem.W.hasDictIn K cLines = true)
    (poLines : PySem.W.plainOver K cLines = true)
    (saLines : PySem.W.findIn K (.ref cLines) "__setattr__" = some (some (.builtin "object.__setattr__")))
    (mkLines : PySem.W.makesIn K cLines = true)
    (kcLines : PySem.W.keepIn K (.ref cLines) = true)
    (naLineswords : PySem.W.findIn K (.ref cLines) "words" = some none)
    (naLinesparts : PySem.W.findIn K (.ref cLines) "parts" = some none)
    (naLinesgoals : PySem.W.findIn K (.ref cLines) "goals" = some none)
    (naLinesopen_ones : PySem.W.findIn K (.ref cLines) "open_ones" = some none)
    (aLines___init__ : PySem.W.findIn K (.ref cLines) "__init__" = some (some (.ref fLines___init__)))
    (iLines___init__ : PySem.W.isFn K (.ref fLines___init__) = true)
    (lLines___init__ : K.lookup fLines___init__ = some ⟨ocLines___init__, odLines___init__, .func (PySem.W.fnOf "__init__" "Lines.__init__" (defArgs s_Lines___init__) (defBody s_Lines___init__) (defScope s_Lines___init__) .none kVLines___init__ dcLines___init__ pmLines___init__ anLines___init__ cdLines___init__ ctLines___init__), slLines___init__⟩)
    (cLines___init__ : PySem.W.codeIn K cdLines___init__ "Lines.__init__" = true)
    (kLines___init__ : PySem.W.keepIn K (.ref fLines___init__) = true)
    (aLines_put : PySem.W.findIn K (.ref cLines) "put" = some (some (.ref fLines_put)))
    (iLines_put : PySem.W.isFn K (.ref fLines_put) = true)
    (lLines_put : K.lookup fLines_put = some ⟨ocLines_put, odLines_put, .func (PySem.W.fnOf "put" "Lines.put" (defArgs s_Lines_put) (defBody s_Lines_put) (defScope s_Lines_put) .none kVLines_put dcLines_put pmLines_put anLines_put cdLines_put ctLines_put), slLines_put⟩)
    (cLines_put : PySem.W.codeIn K cdLines_put "Lines.put" = true)
    (kLines_put : PySem.W.keepIn K (.ref fLines_put) = true)
    (aLines_may_have_else : PySem.W.findIn K (.ref cLines) "may_have_else" = some (some (.ref fLines_may_have_else)))
    (iLines_may_have_else : PySem.W.isFn K (.ref fLines_may_have_else) = true)
    (lLines_may_have_else : K.lookup fLines_may_have_else = some ⟨ocLines_may_have_else, odLines_may_have_else, .func (PySem.W.fnOf "may_have_else" "Lines.may_have_else" (defArgs s_Lines_may_have_else) (defBody s_Lines_may_have_else) (defScope s_Lines_may_have_else) .none kVLines_may_have_else dcLines_may_have_else pmLines_may_have_else anLines_may_have_else cdLines_may_have_else ctLines_may_have_else), slLines_may_have_else⟩)
    (cLines_may_have_else : PySem.W.codeIn K cdLines_may_have_else "Lines.may_have_else" = true)
    (kLines_may_have_else : PySem.W.keepIn K (.ref fLines_may_have_else) = true)
    (aLines_opened : PySem.W.findIn K (.ref cLines) "opened" = some (some (.ref fLines_opened)))
    (iLines_opened : PySem.W.isFn K (.ref fLines_opened) = true)
    (lLines_opened : K.lookup fLines_opened = some ⟨ocLines_opened, odLines_opened, .func (PySem.W.fnOf "opened" "Lines.opened" (defArgs s_Lines_opened) (defBody s_Lines_opened) (defScope s_Lines_opened) .none kVLines_opened dcLines_opened pmLines_opened anLines_opened cdLines_opened ctLines_opened), slLines_opened⟩)
    (cLines_opened : PySem.W.codeIn K cdLines_opened "Lines.opened" = true)
    (kLines_opened : PySem.W.keepIn K (.ref fLines_opened) = true)
    (aLines_put_else : PySem.W.findIn K (.ref cLines) "put_else" = some (some (.ref fLines_put_else)))
    (iLines_put_else : PySem.W.isFn K (.ref fLines_put_else) = true)
    (lLines_put_else : K.lookup fLines_put_else = some ⟨ocLines_put_else, odLines_put_else, .func (PySem.W.fnOf "put_else" "Lines.put_else" (defArgs s_Lines_put_else) (defBody s_Lines_put_else) (defScope s_Lines_put_else) .none kVLines_put_else dcLines_put_else pmLines_put_else anLines_put_else cdLines_put_else ctLines_put_else), slLines_put_else⟩)
    (cLines_put_else : PySem.W.codeIn K cdLines_put_else "Lines.put_else" = true)
    (kLines_put_else : PySem.W.keepIn K (.ref fLines_put_else) = true)
    (aLines_put_end : PySem.W.findIn K (.ref cLines) "put_end" = some (some (.ref fLines_put_end)))
    (iLines_put_end : PySem.W.isFn K (.ref fLines_put_end) = true)
    (lLines_put_end : K.lookup fLines_put_end = some ⟨ocLines_put_end, odLines_put_end, .func (PySem.W.fnOf "put_end" "Lines.put_end" (defArgs s_Lines_put_end) (defBody s_Lines_put_end) (defScope s_Lines_put_end) .none kVLines_put_end dcLines_put_end pmLines_put_end anLines_put_end cdLines_put_end ctLines_put_end), slLines_put_end⟩)
    (cLines_put_end : PySem.W.codeIn K cdLines_put_end "Lines.put_end" = true)
    (kLines_put_end : PySem.W.keepIn K (.ref fLines_put_end) = true)
    (abytes_of : PySem.W.nsIn K mainGlobals "bytes_of" = some (some (.ref fbytes_of)))
    (lbytes_of : K.lookup fbytes_of = some ⟨ocbytes_of, odbytes_of, .func (PySem.W.fnOf "bytes_of" "bytes_of" (defArgs s_bytes_of) (defBody s_bytes_of) (defScope s_bytes_of) .none kVbytes_of dcbytes_of pmbytes_of anbytes_of cdbytes_of ctbytes_of), slbytes_of⟩)
    (cbytes_of : PySem.W.codeIn K cdbytes_of "bytes_of" = true)
    (kbytes_of : PySem.W.keepIn K (.ref fbytes_of) = true)
    (anumber_from : PySem.W.nsIn K mainGlobals "number_from" = some (some (.ref fnumber_from)))
    (lnumber_from : K.lookup fnumber_from = some ⟨ocnumber_from, odnumber_from, .func (PySem.W.fnOf "number_from" "number_from" (defArgs s_number_from) (defBody s_number_from) (defScope s_number_from) .none kVnumber_from dcnumber_from pmnumber_from annumber_from cdnumber_from ctnumber_from), slnumber_from⟩)
    (cnumber_from : PySem.W.codeIn K cdnumber_from "number_from" = true)
    (knumber_from : PySem.W.keepIn K (.ref fnumber_from) = true)
    (aoperand : PySem.W.nsIn K mainGlobals "operand" = some (some (.ref foperand)))
    (loperand : K.lookup foperand = some ⟨ocoperand, odoperand, .func (PySem.W.fnOf "operand" "operand" (defArgs s_operand) (defBody s_operand) (defScope s_operand) .none kVoperand dcoperand pmoperand anoperand cdoperand ctoperand), sloperand⟩)
    (coperand : PySem.W.codeIn K cdoperand "operand" = true)
    (koperand : PySem.W.keepIn K (.ref foperand) = true)
    (aopen_brackets : PySem.W.nsIn K mainGlobals "open_brackets" = some (some (.ref fopen_brackets)))
    (lopen_brackets : K.lookup fopen_brackets = some ⟨ocopen_brackets, odopen_brackets, .func (PySem.W.fnOf "open_brackets" "open_brackets" (defArgs s_open_brackets) (defBody s_open_brackets) (defScope s_open_brackets) .none kVopen_brackets dcopen_brackets pmopen_brackets anopen_brackets cdopen_brackets ctopen_brackets), slopen_brackets⟩)
    (copen_brackets : PySem.W.codeIn K cdopen_brackets "open_brackets" = true)
    (kopen_brackets : PySem.W.keepIn K (.ref fopen_brackets) = true)
    (aread_operand : PySem.W.nsIn K mainGlobals "read_operand" = some (some (.ref fread_operand)))
    (lread_operand : K.lookup fread_operand = some ⟨ocread_operand, odread_operand, .func (PySem.W.fnOf "read_operand" "read_operand" (defArgs s_read_operand) (defBody s_read_operand) (defScope s_read_operand) .none kVread_operand dcread_operand pmread_operand anread_operand cdread_operand ctread_operand), slread_operand⟩)
    (cread_operand : PySem.W.codeIn K cdread_operand "read_operand" = true)
    (kread_operand : PySem.W.keepIn K (.ref fread_operand) = true)
    (aclose : PySem.W.nsIn K mainGlobals "close" = some (some (.ref fclose)))
    (lclose : K.lookup fclose = some ⟨occlose, odclose, .func (PySem.W.fnOf "close" "close" (defArgs s_close) (defBody s_close) (defScope s_close) .none kVclose dcclose pmclose anclose cdclose ctclose), slclose⟩)
    (cclose : PySem.W.codeIn K cdclose "close" = true)
    (kclose : PySem.W.keepIn K (.ref fclose) = true)
    (abinds : PySem.W.nsIn K mainGlobals "binds" = some (some (.ref fbinds)))
    (lbinds : K.lookup fbinds = some ⟨ocbinds, odbinds, .func (PySem.W.fnOf "binds" "binds" (defArgs s_binds) (defBody s_binds) (defScope s_binds) .none kVbinds dcbinds pmbinds anbinds cdbinds ctbinds), slbinds⟩)
    (cbinds : PySem.W.codeIn K cdbinds "binds" = true)
    (kbinds : PySem.W.keepIn K (.ref fbinds) = true)
    (aread_operator : PySem.W.nsIn K mainGlobals "read_operator" = some (some (.ref fread_operator)))
    (lread_operator : K.lookup fread_operator = some ⟨ocread_operator, odread_operator, .func (PySem.W.fnOf "read_operator" "read_operator" (defArgs s_read_operator) (defBody s_read_operator) (defScope s_read_operator) .none kVread_operator dcread_operator pmread_operator anread_operator cdread_operator ctread_operator), slread_operator⟩)
    (cread_operator : PySem.W.codeIn K cdread_operator "read_operator" = true)
    (kread_operator : PySem.W.keepIn K (.ref fread_operator) = true)
    (aread_closers : PySem.W.nsIn K mainGlobals "read_closers" = some (some (.ref fread_closers)))
    (lread_closers : K.lookup fread_closers = some ⟨ocread_closers, odread_closers, .func (PySem.W.fnOf "read_closers" "read_closers" (defArgs s_read_closers) (defBody s_read_closers) (defScope s_read_closers) .none kVread_closers dcread_closers pmread_closers anread_closers cdread_closers ctread_closers), slread_closers⟩)
    (cread_closers : PySem.W.codeIn K cdread_closers "read_closers" = true)
    (kread_closers : PySem.W.keepIn K (.ref fread_closers) = true)
    (aexpression : PySem.W.nsIn K mainGlobals "expression" = some (some (.ref fexpression)))
    (lexpression : K.lookup fexpression = some ⟨ocexpression, odexpression, .func (PySem.W.fnOf "expression" "expression" (defArgs s_expression) (defBody s_expression) (defScope s_expression) .none kVexpression dcexpression pmexpression anexpression cdexpression ctexpression), slexpression⟩)
    (cexpression : PySem.W.codeIn K cdexpression "expression" = true)
    (kexpression : PySem.W.keepIn K (.ref fexpression) = true)
    (acompared : PySem.W.nsIn K mainGlobals "compared" = some (some (.ref fcompared)))
    (lcompared : K.lookup fcompared = some ⟨occompared, odcompared, .func (PySem.W.fnOf "compared" "compared" (defArgs s_compared) (defBody s_compared) (defScope s_compared) .none kVcompared dccompared pmcompared ancompared cdcompared ctcompared), slcompared⟩)
    (ccompared : PySem.W.codeIn K cdcompared "compared" = true)
    (kcompared : PySem.W.keepIn K (.ref fcompared) = true)
    (acondition : PySem.W.nsIn K mainGlobals "condition" = some (some (.ref fcondition)))
    (lcondition : K.lookup fcondition = some ⟨occondition, odcondition, .func (PySem.W.fnOf "condition" "condition" (defArgs s_condition) (defBody s_condition) (defScope s_condition) .none kVcondition dccondition pmcondition ancondition cdcondition ctcondition), slcondition⟩)
    (ccondition : PySem.W.codeIn K cdcondition "condition" = true)
    (kcondition : PySem.W.keepIn K (.ref fcondition) = true)
    (afirst_bytes : PySem.W.nsIn K mainGlobals "first_bytes" = some (some (.ref ffirst_bytes)))
    (lfirst_bytes : K.lookup ffirst_bytes = some ⟨ocfirst_bytes, odfirst_bytes, .func (PySem.W.fnOf "first_bytes" "first_bytes" (defArgs s_first_bytes) (defBody s_first_bytes) (defScope s_first_bytes) .none kVfirst_bytes dcfirst_bytes pmfirst_bytes anfirst_bytes cdfirst_bytes ctfirst_bytes), slfirst_bytes⟩)
    (cfirst_bytes : PySem.W.codeIn K cdfirst_bytes "first_bytes" = true)
    (kfirst_bytes : PySem.W.keepIn K (.ref ffirst_bytes) = true)
    (aread_change : PySem.W.nsIn K mainGlobals "read_change" = some (some (.ref fread_change)))
    (lread_change : K.lookup fread_change = some ⟨ocread_change, odread_change, .func (PySem.W.fnOf "read_change" "read_change" (defArgs s_read_change) (defBody s_read_change) (defScope s_read_change) .none kVread_change dcread_change pmread_change anread_change cdread_change ctread_change), slread_change⟩)
    (cread_change : PySem.W.codeIn K cdread_change "read_change" = true)
    (kread_change : PySem.W.keepIn K (.ref fread_change) = true)
    (aread_set_or_stop : PySem.W.nsIn K mainGlobals "read_set_or_stop" = some (some (.ref fread_set_or_stop)))
    (lread_set_or_stop : K.lookup fread_set_or_stop = some ⟨ocread_set_or_stop, odread_set_or_stop, .func (PySem.W.fnOf "read_set_or_stop" "read_set_or_stop" (defArgs s_read_set_or_stop) (defBody s_read_set_or_stop) (defScope s_read_set_or_stop) .none kVread_set_or_stop dcread_set_or_stop pmread_set_or_stop anread_set_or_stop cdread_set_or_stop ctread_set_or_stop), slread_set_or_stop⟩)
    (cread_set_or_stop : PySem.W.codeIn K cdread_set_or_stop "read_set_or_stop" = true)
    (kread_set_or_stop : PySem.W.keepIn K (.ref fread_set_or_stop) = true)
    (aread_else_or_end : PySem.W.nsIn K mainGlobals "read_else_or_end" = some (some (.ref fread_else_or_end)))
    (lread_else_or_end : K.lookup fread_else_or_end = some ⟨ocread_else_or_end, odread_else_or_end, .func (PySem.W.fnOf "read_else_or_end" "read_else_or_end" (defArgs s_read_else_or_end) (defBody s_read_else_or_end) (defScope s_read_else_or_end) .none kVread_else_or_end dcread_else_or_end pmread_else_or_end anread_else_or_end cdread_else_or_end ctread_else_or_end), slread_else_or_end⟩)
    (cread_else_or_end : PySem.W.codeIn K cdread_else_or_end "read_else_or_end" = true)
    (kread_else_or_end : PySem.W.keepIn K (.ref fread_else_or_end) = true)
    (aread_line : PySem.W.nsIn K mainGlobals "read_line" = some (some (.ref fread_line)))
    (lread_line : K.lookup fread_line = some ⟨ocread_line, odread_line, .func (PySem.W.fnOf "read_line" "read_line" (defArgs s_read_line) (defBody s_read_line) (defScope s_read_line) .none kVread_line dcread_line pmread_line anread_line cdread_line ctread_line), slread_line⟩)
    (cread_line : PySem.W.codeIn K cdread_line "read_line" = true)
    (kread_line : PySem.W.keepIn K (.ref fread_line) = true)
    (alines_of : PySem.W.nsIn K mainGlobals "lines_of" = some (some (.ref flines_of)))
    (llines_of : K.lookup flines_of = some ⟨oclines_of, odlines_of, .func (PySem.W.fnOf "lines_of" "lines_of" (defArgs s_lines_of) (defBody s_lines_of) (defScope s_lines_of) .none kVlines_of dclines_of pmlines_of anlines_of cdlines_of ctlines_of), sllines_of⟩)
    (clines_of : PySem.W.codeIn K cdlines_of "lines_of" = true)
    (klines_of : PySem.W.keepIn K (.ref flines_of) = true)
    (amethod : PySem.W.nsIn K mainGlobals "method" = some (some (.ref fmethod)))
    (lmethod : K.lookup fmethod = some ⟨ocmethod, odmethod, .func (PySem.W.fnOf "method" "method" (defArgs s_method) (defBody s_method) (defScope s_method) .none kVmethod dcmethod pmmethod anmethod cdmethod ctmethod), slmethod⟩)
    (cmethod : PySem.W.codeIn K cdmethod "method" = true)
    (kmethod : PySem.W.keepIn K (.ref fmethod) = true)
    (zVI : PySem.W.findCls K (.type "ValueError") (.type "type") "__init__" = some (.val (.builtin "ValueError.__init__")))
    (xmFaultFault : PySem.W.subIn K (.ref cFault) (.ref cFault) = some true)
    : Txt K mg cFault cReader cLines where
  n_ValueError := PySem.W.mg_none_of X G zValueError
  n_len := PySem.W.mg_none_of X G zlen
  n_ord := PySem.W.mg_none_of X G zord
  c_RULE := ⟨_, PySem.W.mg_of X G gcRULE⟩
  c_MOST_BRACKETS := ⟨_, PySem.W.mg_of X G gcMOST_BRACKETS⟩
  c_LINE_FEED := ⟨_, PySem.W.mg_of X G gcLINE_FEED⟩
  c_BLANK := ⟨_, PySem.W.mg_of X G gcBLANK⟩
  c_DIGITS := ⟨_, PySem.W.mg_of X G gcDIGITS, fun H => .inr ⟨_, _, _, lcDIGITS, rfl, rfl, (show 10 ≤ sizeLine by decide), .cons ⟨_, rfl⟩ (.cons ⟨_, rfl⟩ (.cons ⟨_, rfl⟩ (.cons ⟨_, rfl⟩ (.cons ⟨_, rfl⟩ (.cons ⟨_, rfl⟩ (.cons ⟨_, rfl⟩ (.cons ⟨_, rfl⟩ (.cons ⟨_, rfl⟩ (.cons ⟨_, rfl⟩ .nil)))))))))⟩⟩
  c_NOUGHT := ⟨_, PySem.W.mg_of X G gcNOUGHT⟩
  c_MOST_DIGITS := ⟨_, PySem.W.mg_of X G gcMOST_DIGITS⟩
  c_HEADS := ⟨_, PySem.W.mg_of X G gcHEADS, fun H => .inr ⟨_, _, _, lcHEADS, rfl, rfl, (show 8 ≤ sizeLine by decide), .cons ⟨_, rfl⟩ (.cons ⟨_, rfl⟩ (.cons ⟨_, rfl⟩ (.cons ⟨_, rfl⟩ (.cons ⟨_, rfl⟩ (.cons ⟨_, rfl⟩ (.cons ⟨_, rfl⟩ (.cons ⟨_, rfl⟩ .nil)))))))⟩⟩
  c_MARKS := ⟨_, PySem.W.mg_of X G gcMARKS, fun H => .inr ⟨_, _, _, lcMARKS, rfl, rfl, (show 8 ≤ sizeLine by decide), .cons ⟨_, rfl⟩ (.cons ⟨_, rfl⟩ (.cons ⟨_, rfl⟩ (.cons ⟨_, rfl⟩ (.cons ⟨_, rfl⟩ (.cons ⟨_, rfl⟩ (.cons ⟨_, rfl⟩ (.cons ⟨_, rfl⟩ .nil)))))))⟩⟩
  c_ROUND := ⟨_, PySem.W.mg_of X G gcROUND⟩
  c_SQUARE := ⟨_, PySem.W.mg_of X G gcSQUARE⟩
  c_OPENERS := ⟨_, PySem.W.mg_of X G gcOPENERS, fun H => .inr ⟨_, _, _, lcOPENERS, rfl, rfl, (show 2 ≤ sizeLine by decide), .cons ⟨_, rfl⟩ (.cons ⟨_, rfl⟩ .nil)⟩⟩
  c_CLOSERS := ⟨_, PySem.W.mg_of X G gcCLOSERS, _, _, lcCLOSERS, .cons ⟨rfl, ⟨_, rfl⟩, ⟨_, rfl⟩⟩ (.cons ⟨rfl, ⟨_, rfl⟩, ⟨_, rfl⟩⟩ .nil)⟩
  c_TIMES := ⟨_, PySem.W.mg_of X G gcTIMES⟩
  c_PLUS := ⟨_, PySem.W.mg_of X G gcPLUS⟩
  c_MINUS := ⟨_, PySem.W.mg_of X G gcMINUS⟩
  c_OPERATORS := ⟨_, PySem.W.mg_of X G gcOPERATORS, fun H => .inr ⟨_, _, _, lcOPERATORS, rfl, rfl, (show 3 ≤ sizeLine by decide), .cons ⟨_, rfl⟩ (.cons ⟨_, rfl⟩ (.cons ⟨_, rfl⟩ .nil))⟩⟩
  c_LESS := ⟨_, PySem.W.mg_of X G gcLESS⟩
  c_EQUAL := ⟨_, PySem.W.mg_of X G gcEQUAL⟩
  c_GREATER := ⟨_, PySem.W.mg_of X G gcGREATER⟩
  c_NUMBER := ⟨_, PySem.W.mg_of X G gcNUMBER⟩
  c_HEAD := ⟨_, PySem.W.mg_of X G gcHEAD⟩
  c_MARK := ⟨_, PySem.W.mg_of X G gcMARK⟩
  c_DIGIT := ⟨_, PySem.W.mg_of X G gcDIGIT⟩
  c_ADD := ⟨_, PySem.W.mg_of X G gcADD⟩
  c_TAKE := ⟨_, PySem.W.mg_of X G gcTAKE⟩
  c_SET := ⟨_, PySem.W.mg_of X G gcSET⟩
  c_IF := ⟨_, PySem.W.mg_of X G gcIF⟩
  c_ELSE := ⟨_, PySem.W.mg_of X G gcELSE⟩
  c_END := ⟨_, PySem.W.mg_of X G gcEND⟩
  c_WHILE := ⟨_, PySem.W.mg_of X G gcWHILE⟩
  c_STOP := ⟨_, PySem.W.mg_of X G gcSTOP⟩
  c_FAIL := ⟨_, PySem.W.mg_of X G gcFAIL⟩
  c_MOST_OPEN := ⟨_, PySem.W.mg_of X G gcMOST_OPEN⟩
  c_MOST_BYTES := ⟨_, PySem.W.mg_of X G gcMOST_BYTES⟩
  c_FAULTY := ⟨_, PySem.W.mg_of X G gcFAULTY⟩
  c_TEXT_TOO_LONG := ⟨_, PySem.W.mg_of X G gcTEXT_TOO_LONG⟩
  g_Fault := PySem.W.mg_of X G gFault
  ox_Fault := ⟨⟨_, _, _, _, _, _, _, _, _, _, _, _, _, _, _, xlFault, by decide +kernel⟩, saFault, ecFault, tcFault, kcFault⟩
  xc_Fault := ⟨gaFault, ggFault, ecFault, hdFault⟩
  na_Fault_rule := naFaultrule
  na_Fault_place := naFaultplace
  d_Fault___init__ := ⟨_, _, fun_mk (st := s_Fault___init__) lFault___init__ cFault___init__ kFault___init__, ⟨aFault___init__, tFault___init__⟩, ((fun_mk (st := s_Fault___init__) lFault___init__ cFault___init__ kFault___init__).binds fun _ _ _ _ _ _ us hl => match us, hl with | [_, _, _], _ => rfl)⟩
  g_Reader := PySem.W.mg_of X G gReader
  cl_Reader := ⟨pgReader, hdReader, poReader, saReader⟩
  na_Reader_text := naReadertext
  na_Reader_at := naReaderat
  d_Reader___init__ := ⟨_, _, fun_mk (st := s_Reader___init__) lReader___init__ cReader___init__ kReader___init__, ⟨mkReader, aReader___init__, iReader___init__, kcReader⟩, ((fun_mk (st := s_Reader___init__) lReader___init__ cReader___init__ kReader___init__).binds fun _ _ _ _ _ _ us hl => match us, hl with | [_, _], _ => rfl)⟩
  d_Reader_sees := ⟨_, _, fun_mk (st := s_Reader_sees) lReader_sees cReader_sees kReader_sees, ⟨aReader_sees, iReader_sees, kReader_sees⟩, ((fun_mk (st := s_Reader_sees) lReader_sees cReader_sees kReader_sees).binds fun _ _ _ _ _ _ us hl => match us, hl with | [_, _], _ => rfl)⟩
  d_Reader_next_of := ⟨_, _, fun_mk (st := s_Reader_next_of) lReader_next_of cReader_next_of kReader_next_of, ⟨aReader_next_of, iReader_next_of, kReader_next_of⟩, ((fun_mk (st := s_Reader_next_of) lReader_next_of cReader_next_of kReader_next_of).binds fun _ _ _ _ _ _ us hl => match us, hl with | [_, _], _ => rfl)⟩
  d_Reader_word := ⟨_, _, fun_mk (st := s_Reader_word) lReader_word cReader_word kReader_word, ⟨aReader_word, iReader_word, kReader_word⟩, ((fun_mk (st := s_Reader_word) lReader_word cReader_word kReader_word).binds fun _ _ _ _ _ _ us hl => match us, hl with | [_, _], _ => rfl)⟩
  g_Lines := PySem.W.mg_of X G gLines
  cl_Lines := ⟨pgLines, hdLines, poLines, saLines⟩
  na_Lines_words := naLineswords
  na_Lines_parts := naLinesparts
  na_Lines_goals := naLinesgoals
  na_Lines_open_ones := naLinesopen_ones
  d_Lines___init__ := ⟨_, _, fun_mk (st := s_Lines___init__) lLines___init__ cLines___init__ kLines___init__, ⟨mkLines, aLines___init__, iLines___init__, kcLines⟩, ((fun_mk (st := s_Lines___init__) lLines___init__ cLines___init__ kLines___init__).binds fun _ _ _ _ _ _ us hl => match us, hl with | [_], _ => rfl)⟩
  d_Lines_put := ⟨_, _, fun_mk (st := s_Lines_put) lLines_put cLines_put kLines_put, ⟨aLines_put, iLines_put, kLines_put⟩, ((fun_mk (st := s_Lines_put) lLines_put cLines_put kLines_put).binds fun _ _ _ _ _ _ us hl => match us, hl with | [_, _, _], _ => rfl)⟩
  d_Lines_may_have_else := ⟨_, _, fun_mk (st := s_Lines_may_have_else) lLines_may_have_else cLines_may_have_else kLines_may_have_else, ⟨aLines_may_have_else, iLines_may_have_else, kLines_may_have_else⟩, ((fun_mk (st := s_Lines_may_have_else) lLines_may_have_else cLines_may_have_else kLines_may_have_else).binds fun _ _ _ _ _ _ us hl => match us, hl with | [_], _ => rfl)⟩
  d_Lines_opened := ⟨_, _, fun_mk (st := s_Lines_opened) lLines_opened cLines_opened kLines_opened, ⟨aLines_opened, iLines_opened, kLines_opened⟩, ((fun_mk (st := s_Lines_opened) lLines_opened cLines_opened kLines_opened).binds fun _ _ _ _ _ _ us hl => match us, hl with | [_, _, _], _ => rfl)⟩
  d_Lines_put_else := ⟨_, _, fun_mk (st := s_Lines_put_else) lLines_put_else cLines_put_else kLines_put_else, ⟨aLines_put_else, iLines_put_else, kLines_put_else⟩, ((fun_mk (st := s_Lines_put_else) lLines_put_else cLines_put_else kLines_put_else).binds fun _ _ _ _ _ _ us hl => match us, hl with | [_], _ => rfl)⟩
  d_Lines_put_end := ⟨_, _, fun_mk (st := s_Lines_put_end) lLines_put_end cLines_put_end kLines_put_end, ⟨aLines_put_end, iLines_put_end, kLines_put_end⟩, ((fun_mk (st := s_Lines_put_end) lLines_put_end cLines_put_end kLines_put_end).binds fun _ _ _ _ _ _ us hl => match us, hl with | [_], _ => rfl)⟩
  d_bytes_of := ⟨_, _, fun_mk (st := s_bytes_of) lbytes_of cbytes_of kbytes_of, PySem.W.mg_of X G abytes_of, ((fun_mk (st := s_bytes_of) lbytes_of cbytes_of kbytes_of).binds fun _ _ _ _ _ _ us hl => match us, hl with | [_], _ => rfl)⟩
  d_number_from := ⟨_, _, fun_mk (st := s_number_from) lnumber_from cnumber_from knumber_from, PySem.W.mg_of X G anumber_from, ((fun_mk (st := s_number_from) lnumber_from cnumber_from knumber_from).binds fun _ _ _ _ _ _ us hl => match us, hl with | [_, _], _ => rfl)⟩
  d_operand := ⟨_, _, fun_mk (st := s_operand) loperand coperand koperand, PySem.W.mg_of X G aoperand, ((fun_mk (st := s_operand) loperand coperand koperand).binds fun _ _ _ _ _ _ us hl => match us, hl with | [_, _], _ => rfl)⟩
  d_open_brackets := ⟨_, _, fun_mk (st := s_open_brackets) lopen_brackets copen_brackets kopen_brackets, PySem.W.mg_of X G aopen_brackets, ((fun_mk (st := s_open_brackets) lopen_brackets copen_brackets kopen_brackets).binds fun _ _ _ _ _ _ us hl => match us, hl with | [_], _ => rfl)⟩
  d_read_operand := ⟨_, _, fun_mk (st := s_read_operand) lread_operand cread_operand kread_operand, PySem.W.mg_of X G aread_operand, ((fun_mk (st := s_read_operand) lread_operand cread_operand kread_operand).binds fun _ _ _ _ _ _ us hl => match us, hl with | [_, _, _], _ => rfl)⟩
  d_close := ⟨_, _, fun_mk (st := s_close) lclose cclose kclose, PySem.W.mg_of X G aclose, ((fun_mk (st := s_close) lclose cclose kclose).binds fun _ _ _ _ _ _ us hl => match us, hl with | [_, _], _ => rfl)⟩
  d_binds := ⟨_, _, fun_mk (st := s_binds) lbinds cbinds kbinds, PySem.W.mg_of X G abinds, ((fun_mk (st := s_binds) lbinds cbinds kbinds).binds fun _ _ _ _ _ _ us hl => match us, hl with | [_], _ => rfl)⟩
  d_read_operator := ⟨_, _, fun_mk (st := s_read_operator) lread_operator cread_operator kread_operator, PySem.W.mg_of X G aread_operator, ((fun_mk (st := s_read_operator) lread_operator cread_operator kread_operator).binds fun _ _ _ _ _ _ us hl => match us, hl with | [_, _, _], _ => rfl)⟩
  d_read_closers := ⟨_, _, fun_mk (st := s_read_closers) lread_closers cread_closers kread_closers, PySem.W.mg_of X G aread_closers, ((fun_mk (st := s_read_closers) lread_closers cread_closers kread_closers).binds fun _ _ _ _ _ _ us hl => match us, hl with | [_, _, _], _ => rfl)⟩
  d_expression := ⟨_, _, fun_mk (st := s_expression) lexpression cexpression kexpression, PySem.W.mg_of X G aexpression, ((fun_mk (st := s_expression) lexpression cexpression kexpression).binds fun _ _ _ _ _ _ us hl => match us, hl with | [_, _], _ => rfl)⟩
  d_compared := ⟨_, _, fun_mk (st := s_compared) lcompared ccompared kcompared, PySem.W.mg_of X G acompared, ((fun_mk (st := s_compared) lcompared ccompared kcompared).binds fun _ _ _ _ _ _ us hl => match us, hl with | [_], _ => rfl)⟩
  d_condition := ⟨_, _, fun_mk (st := s_condition) lcondition ccondition kcondition, PySem.W.mg_of X G acondition, ((fun_mk (st := s_condition) lcondition ccondition kcondition).binds fun _ _ _ _ _ _ us hl => match us, hl with | [_], _ => rfl)⟩
  d_first_bytes := ⟨_, _, fun_mk (st := s_first_bytes) lfirst_bytes cfirst_bytes kfirst_bytes, PySem.W.mg_of X G afirst_bytes, ((fun_mk (st := s_first_bytes) lfirst_bytes cfirst_bytes kfirst_bytes).binds fun _ _ _ _ _ _ us hl => match us, hl with | [_], _ => rfl)⟩
  d_read_change := ⟨_, _, fun_mk (st := s_read_change) lread_change cread_change kread_change, PySem.W.mg_of X G aread_change, ((fun_mk (st := s_read_change) lread_change cread_change kread_change).binds fun _ _ _ _ _ _ us hl => match us, hl with | [_, _, _, _], _ => rfl)⟩
  d_read_set_or_stop := ⟨_, _, fun_mk (st := s_read_set_or_stop) lread_set_or_stop cread_set_or_stop kread_set_or_stop, PySem.W.mg_of X G aread_set_or_stop, ((fun_mk (st := s_read_set_or_stop) lread_set_or_stop cread_set_or_stop kread_set_or_stop).binds fun _ _ _ _ _ _ us hl => match us, hl with | [_, _], _ => rfl)⟩
  d_read_else_or_end := ⟨_, _, fun_mk (st := s_read_else_or_end) lread_else_or_end cread_else_or_end kread_else_or_end, PySem.W.mg_of X G aread_else_or_end, ((fun_mk (st := s_read_else_or_end) lread_else_or_end cread_else_or_end kread_else_or_end).binds fun _ _ _ _ _ _ us hl => match us, hl with | [_, _], _ => rfl)⟩
  d_read_line := ⟨_, _, fun_mk (st := s_read_line) lread_line cread_line kread_line, PySem.W.mg_of X G aread_line, ((fun_mk (st := s_read_line) lread_line cread_line kread_line).binds fun _ _ _ _ _ _ us hl => match us, hl with | [_, _], _ => rfl)⟩
  d_lines_of := ⟨_, _, fun_mk (st := s_lines_of) llines_of clines_of klines_of, PySem.W.mg_of X G alines_of, ((fun_mk (st := s_lines_of) llines_of clines_of klines_of).binds fun _ _ _ _ _ _ us hl => match us, hl with | [_], _ => rfl)⟩
  d_method := ⟨_, _, fun_mk (st := s_method) lmethod cmethod kmethod, PySem.W.mg_of X G amethod, ((fun_mk (st := s_method) lmethod cmethod kmethod).binds fun _ _ _ _ _ _ us hl => match us, hl with | [_], _ => rfl)⟩
  veInit := zVI
  xm_Fault_Fault := exm_of2 ecFault icFault tcFault xmFaultFault
theorem all_mk {P : Program} {w : World} {K : PySem.W.Frag} {mg : Str → Option Value} {fa cFault cReader cLines : Addr} (hfa : mg "method" = some (.ref fa)) (T : Txt K mg cFault cReader cLines) :
    ∃ fd : FuncData, (∀ (s : Shared) (us : List Value), us.length = (["text"] : List Str).length → BindsTo s fd ⟨us, []⟩ ((["text"] : List Str).zip us)) ∧ ∀ base : Heap, K.In base → base.Ns mainGlobals mg → FnOk P w K mg base CX0 11 fa fd ["text"] (spMethod K) := by
  obtain ⟨f, fd, F, hm, hb⟩ := T.d_method
  have e := hfa.symm.trans hm
  cases e
  have F' := F
  obtain ⟨oc, od, kV, doc, pm, an, cdv, ct, osl, rfl, lk, hcd⟩ := F.ex
  exact ⟨_, fun s us hu => match us, hu with | [_], _ => .of_eq rfl, fun base _ _ => fn_method T (fun b p => cond_fuel b p) F'⟩
end Ab
open PySem PySem.W PyProof.Rows
set_option maxRecDepth 100000 in
set_option maxHeartbeats 8000000 in
theorem PySem.Challenge.cw_abacusways_s01_method_holds : PySem.Challenge.rw_abacusways_s01_method.Holds := by
  w_on; k_headS; (case hw => exact ⟨[.list []], by decide +kernel, by decide +kernel⟩)
  k_fillS
  refine L2.walk_specK (r := PySem.Challenge.rw_abacusways_s01_method) (k := 11) (CX := L2.CX0) (ps := ["text"]) (sp := Ab.spMethod) (by decide +kernel) rfl rfl ⟨rfl, by decide, by decide⟩ (fun w h Y => PySem.W.kIn_of Y) ?F ?S (fun _ _ _ _ z => z)
  case F =>
    intro w mg fa h Y KX G hmg
    refine' Ab.all_mk hmg (Ab.txt_mk KX G ?zValueError ?zlen ?zord ?gcRULE ?gcMOST_BRACKETS ?gcLINE_FEED ?gcBLANK ?gcDIGITS ?lcDIGITS ?gcNOUGHT ?gcMOST_DIGITS ?gcHEADS ?lcHEADS ?gcMARKS ?lcMARKS ?gcROUND ?gcSQUARE ?gcOPENERS ?lcOPENERS ?gcCLOSERS ?lcCLOSERS ?gcTIMES ?gcPLUS ?gcMINUS ?gcOPERATORS ?lcOPERATORS ?gcLESS ?gcEQUAL ?gcGREATER ?gcNUMBER ?gcHEAD ?gcMARK ?gcDIGIT ?gcADD ?gcTAKE ?gcSET ?gcIF ?gcELSE ?gcEND ?gcWHILE ?gcSTOP ?gcFAIL ?gcMOST_OPEN ?gcMOST_BYTES ?gcFAULTY ?gcTEXT_TOO_LONG ?gFault ?kcFault ?ecFault ?tcFault ?icFault ?xlFault ?saFault ?gaFault ?ggFault ?hdFault ?naFaultrule ?naFaultplace ?aFault___init__ ?tFault___init__ ?lFault___init__ ?cFault___init__ ?kFault___init__ ?gReader ?pgReader ?hdReader ?poReader ?saReader ?mkReader ?kcReader ?naReadertext ?naReaderat ?aReader___init__ ?iReader___init__ ?lReader___init__ ?cReader___init__ ?kReader___init__ ?aReader_sees ?iReader_sees ?lReader_sees ?cReader_sees ?kReader_sees ?aReader_next_of ?iReader_next_of ?lReader_next_of ?cReader_next_of ?kReader_next_of ?aReader_word ?iReader_word ?lReader_word ?cReader_word ?kReader_word ?gLines ?pgLines ?hdLines ?poLines ?saLines ?mkLines ?kcLines ?naLineswords ?naLinesparts ?naLinesgoals ?naLinesopen_ones ?aLines___init__ ?iLines___init__ ?lLines___init__ ?cLines___init__ ?kLines___init__ ?aLines_put ?iLines_put ?lLines_put ?cLines_put ?kLines_put ?aLines_may_have_else ?iLines_may_have_else ?lLines_may_have_else ?cLines_may_have_else ?kLines_may_have_else ?aLines_opened ?iLines_opened ?lLines_opened ?cLines_opened ?kLines_opened ?aLines_put_else ?iLines_put_else ?lLines_put_else ?cLines_put_else ?kLines_put_else ?aLines_put_end ?iLines_put_end ?lLines_put_end ?cLines_put_end ?kLines_put_end ?abytes_of ?lbytes_of ?cbytes_of ?kbytes_of ?anumber_from ?lnumber_from ?cnumber_from ?knumber_from ?aoperand ?loperand ?coperand ?koperand ?aopen_brackets ?lopen_brackets ?copen_brackets ?kopen_brackets ?aread_operand ?lread_operand ?cread_operand ?kread_operand ?aclose ?lclose ?cclose ?kclose ?abinds ?lbinds ?cbinds ?kbinds ?aread_operator ?lread_operator ?cread_operator ?kread_operator ?aread_closers ?lread_closers ?cread_closers ?kread_closers ?aexpression ?lexpression ?cexpression ?kexpression ?acompared ?lcompared ?ccompared ?kcompared ?acondition ?lcondition ?ccondition ?kcondition ?afirst_bytes ?lfirst_bytes ?cfirst_bytes ?kfirst_bytes ?aread_change ?lread_change ?cread_change ?kread_change ?aread_set_or_stop ?lread_set_or_stop ?cread_set_or_stop ?kread_set_or_stop ?aread_else_or_end ?lread_else_or_end ?cread_else_or_end ?kread_else_or_end ?aread_line ?lread_line ?cread_line ?kread_line ?alines_of ?llines_of ?clines_of ?klines_of ?amethod ?lmethod ?cmethod ?kmethod ?zVI ?xmFaultFault)
    (case zValueError => k_is)
    (case zlen => k_is)
    (case zord => k_is)
    (case gcRULE => k_is)
    (case gcMOST_BRACKETS => k_is)
    (case gcLINE_FEED => k_is)
    (case gcBLANK => k_is)
    (case gcDIGITS => k_is)
    (case lcDIGITS => k_is)
    (case gcNOUGHT => k_is)
    (case gcMOST_DIGITS => k_is)
    (case gcHEADS => k_is)
    (case lcHEADS => k_is)
    (case gcMARKS => k_is)
    (case lcMARKS => k_is)
    (case gcROUND => k_is)
    (case gcSQUARE => k_is)
    (case gcOPENERS => k_is)
    (case lcOPENERS => k_is)
    (case gcCLOSERS => k_is)
    (case lcCLOSERS => k_is)
    (case gcTIMES => k_is)
    (case gcPLUS => k_is)
    (case gcMINUS => k_is)
    (case gcOPERATORS => k_is)
    (case lcOPERATORS => k_is)
    (case gcLESS => k_is)
    (case gcEQUAL => k_is)
    (case gcGREATER => k_is)
    (case gcNUMBER => k_is)
    (case gcHEAD => k_is)
    (case gcMARK => k_is)
    (case gcDIGIT => k_is)
    (case gcADD => k_is)
    (case gcTAKE => k_is)
    (case gcSET => k_is)
    (case gcIF => k_is)
    (case gcELSE => k_is)
    (case gcEND => k_is)
    (case gcWHILE => k_is)
    (case gcSTOP => k_is)
    (case gcFAIL => k_is)
    (case gcMOST_OPEN => k_is)
    (case gcMOST_BYTES => k_is)
    (case gcFAULTY => k_is)
    (case gcTEXT_TOO_LONG => k_is)
    (case gFault => k_is)
    (case kcFault => k_is)
    (case ecFault => k_is)
    (case tcFault => k_is)
    (case icFault => k_is)
    (case xlFault => k_is)
    (case saFault => k_is)
    (case gaFault => k_is)
    (case ggFault => k_is)
    (case hdFault => k_is)
    (case naFaultrule => k_is)
    (case naFaultplace => k_is)
    (case aFault___init__ => k_is)
    (case tFault___init__ => k_is)
    (case lFault___init__ => k_is)
    (case cFault___init__ => k_is)
    (case kFault___init__ => k_is)
    (case gReader => k_is)
    (case pgReader => k_is)
    (case hdReader => k_is)
    (case poReader => k_is)
    (case saReader => k_is)
    (case mkReader => k_is)
    (case kcReader => k_is)
    (case naReadertext => k_is)
    (case naReaderat => k_is)
    (case aReader___init__ => k_is)
    (case iReader___init__ => k_is)
    (case lReader___init__ => k_is)
    (case cReader___init__ => k_is)
    (case kReader___init__ => k_is)
    (case aReader_sees => k_is)
    (case iReader_sees => k_is)
    (case lReader_sees => k_is)
    (case cReader_sees => k_is)
    (case kReader_sees => k_is)
    (case aReader_next_of => k_is)
    (case iReader_next_of => k_is)
    (case lReader_next_of => k_is)
    (case cReader_next_of => k_is)
    (case kReader_next_of => k_is)
    (case aReader_word => k_is)
    (case iReader_word => k_is)
    (case lReader_word => k_is)
    (case cReader_word => k_is)
    (case kReader_word => k_is)
    (case gLines => k_is)
    (case pgLines => k_is)
    (case hdLines => k_is)
    (case poLines => k_is)
    (case saLines => k_is)
    (case mkLines => k_is)
    (case kcLines => k_is)
    (case naLineswords => k_is)
    (case naLinesparts => k_is)
    (case naLinesgoals => k_is)
    (case naLinesopen_ones => k_is)
    (case aLines___init__ => k_is)
    (case iLines___init__ => k_is)
    (case lLines___init__ => k_is)
    (case cLines___init__ => k_is)
    (case kLines___init__ => k_is)
    (case aLines_put => k_is)
    (case iLines_put => k_is)
    (case lLines_put => k_is)
    (case cLines_put => k_is)
    (case kLines_put => k_is)
    (case aLines_may_have_else => k_is)
    (case iLines_may_have_else => k_is)
    (case lLines_may_have_else => k_is)
    (case cLines_may_have_else => k_is)
    (case kLines_may_have_else => k_is)
    (case aLines_opened => k_is)
    (case iLines_opened => k_is)
    (case lLines_opened => k_is)
    (case cLines_opened => k_is)
    (case kLines_opened => k_is)
    (case aLines_put_else => k_is)
    (case iLines_put_else => k_is)
    (case lLines_put_else => k_is)
    (case cLines_put_else => k_is)
    (case kLines_put_else => k_is)
    (case aLines_put_end => k_is)
    (case iLines_put_end => k_is)
    (case lLines_put_end => k_is)
    (case cLines_put_end => k_is)
    (case kLines_put_end => k_is)
    (case abytes_of => k_is)
    (case lbytes_of => k_is)
    (case cbytes_of => k_is)
    (case kbytes_of => k_is)
    (case anumber_from => k_is)
    (case lnumber_from => k_is)
    (case cnumber_from => k_is)
    (case knumber_from => k_is)
    (case aoperand => k_is)
    (case loperand => k_is)
    (case coperand => k_is)
    (case koperand => k_is)
    (case aopen_brackets => k_is)
    (case lopen_brackets => k_is)
    (case copen_brackets => k_is)
    (case kopen_brackets => k_is)
    (case aread_operand => k_is)
    (case lread_operand => k_is)
    (case cread_operand => k_is)
    (case kread_operand => k_is)
    (case aclose => k_is)
    (case lclose => k_is)
    (case cclose => k_is)
    (case kclose => k_is)
    (case abinds => k_is)
    (case lbinds => k_is)
    (case cbinds => k_is)
    (case kbinds => k_is)
    (case aread_operator => k_is)
    (case lread_operator => k_is)
    (case cread_operator => k_is)
    (case kread_operator => k_is)
    (case aread_closers => k_is)
    (case lread_closers => k_is)
    (case cread_closers => k_is)
    (case kread_closers => k_is)
    (case aexpression => k_is)
    (case lexpression => k_is)
    (case cexpression => k_is)
    (case kexpression => k_is)
    (case acompared => k_is)
    (case lcompared => k_is)
    (case ccompared => k_is)
    (case kcompared => k_is)
    (case acondition => k_is)
    (case lcondition => k_is)
    (case ccondition => k_is)
    (case kcondition => k_is)
    (case afirst_bytes => k_is)
    (case lfirst_bytes => k_is)
    (case cfirst_bytes => k_is)
    (case kfirst_bytes => k_is)
    (case aread_change => k_is)
    (case lread_change => k_is)
    (case cread_change => k_is)
    (case kread_change => k_is)
    (case aread_set_or_stop => k_is)
    (case lread_set_or_stop => k_is)
    (case cread_set_or_stop => k_is)
    (case kread_set_or_stop => k_is)
    (case aread_else_or_end => k_is)
    (case lread_else_or_end => k_is)
    (case cread_else_or_end => k_is)
    (case kread_else_or_end => k_is)
    (case aread_line => k_is)
    (case lread_line => k_is)
    (case cread_line => k_is)
    (case kread_line => k_is)
    (case alines_of => k_is)
    (case llines_of => k_is)
    (case clines_of => k_is)
    (case klines_of => k_is)
    (case amethod => k_is)
    (case lmethod => k_is)
    (case cmethod => k_is)
    (case kmethod => k_is)
    (case zVI => k_is)
    (case xmFaultFault => first | k_is | rfl)
  case S =>
    intro K H xs a hO hwi hask hx
    cases hx with
    | cons h1 h2 =>
      cases h2
      cases h1 with
      | lst hs hd =>
        have e := L2.ints_dw a.1 _ hd
        subst e
        have hb : (Codec.list 0 5000 (.int 0 255)).within a.1 = true := (Bool.and_eq_true_iff.mp hwi).1
        have hb : (Codec.inLen 0 5000 a.1 && a.1.all (Codec.inInt 0 255)) = true := hb
        have hl : a.1.length ≤ 5000 := by
          have z : (decide (0 ≤ a.1.length) && decide (a.1.length ≤ 5000)) = true := (Bool.and_eq_true_iff.mp hb).1
          exact of_decide_eq_true (Bool.and_eq_true_iff.mp z).2
        have hg : Ab.Good a.1 := fun c hc => by
          have z : (decide ((0 : Int) ≤ c) && decide (c ≤ (255 : Int))) = true := List.all_eq_true.mp (Bool.and_eq_true_iff.mp hb).2 c hc
          exact ⟨of_decide_eq_true (Bool.and_eq_true_iff.mp z).1, of_decide_eq_true (Bool.and_eq_true_iff.mp z).2⟩
        refine ⟨_, a.1, rfl, Ab.Fz.of hs hO, hg, by omega, fun H' p hp => ?_⟩
        rw [← Ab.method_is a.1 hg] at hp
        exact .lst (L2.SqL.of hp) (L2.dw_ints _)
#print axioms PySem.Challenge.cw_abacusways_s01_method_holds
