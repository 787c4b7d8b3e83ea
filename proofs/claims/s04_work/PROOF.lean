import PyProof.Rows.All
import Wide.All
import OpenK.AllK
import Wide.FinOn
import Open.SpecLaws
import KE.OsGo
import PyProof.NeKinds
import HandS.ForMost
import HandS.Walk
import HandS.ForSpec
import HandS.ExcInit
import HandS.ExcField
import HandS.NoneIn
import HandS.Zip
import HandS.Wide
import HandS.TryMany
import HandS.WordsDict
import PyYqacda
import PySem.Challenge.RW_abacusways_s04_work
set_option Elab.async false
set_option linter.all false
set_option maxRecDepth 100000
set_option maxHeartbeats 4000000
/-! # The parser's mirror: each def of texts.py and lines.py as a total function over plain data -/
namespace Ab
/-- how a piece of the parser ends: out of fuel; at a fault's place; with a value -/
inductive R (A : Type) where
  | lost
  | bad (k : Nat)
  | ok (a : A)
abbrev Items := List (Int × Int)
abbrev Tests := List (Items × (Bool × Bool × Bool) × Items)
def digitsL : List Int := [48, 49, 50, 51, 52, 53, 54, 55, 56, 57]
def headsL : List Int := [97, 98, 99, 100, 101, 102, 103, 104]
def marksL : List Int := [65, 66, 67, 68, 69, 70, 71, 72]
def openersL : List Int := [40, 91]
def opsL : List Int := [42, 43, 45]
def closer (o : Int) : Int := if o = 40 then 41 else 93
/-- the next byte is one of some -/
def sees : List Int → List Int → Bool
  | [], _ => false
  | c :: _, l => l.contains c
def nx : List Int → Nat → List Int → R (Int × List Int × Nat)
  | [], p, _ => .bad p
  | c :: b, p, l => if l.contains c = true then .ok (c, b, p + 1) else .bad p
def word : List Int → List Int → Nat → R (List Int × Nat)
  | [], b, p => .ok (b, p)
  | c :: w, b, p => match nx b p [c] with
    | .lost => .lost
    | .bad k => .bad k
    | .ok (_, b1, p1) => word w b1 p1
/-- more digits, so many at most -/
def num : Nat → Int → List Int → Nat → Int × List Int × Nat
  | 0, n, b, p => (n, b, p)
  | f + 1, n, b, p => if 0 < n then (match b with
      | [] => (n, [], p)
      | c :: b1 => if digitsL.contains c = true then num f (n * 10 + c - 48) b1 (p + 1) else (n, c :: b1, p))
    else (n, b, p)
def operand (c : Int) (b : List Int) (p : Nat) : (Int × Int) × List Int × Nat :=
  if digitsL.contains c = true then (let r := num 3 (c - 48) b p; ((0, r.1), r.2))
  else if headsL.contains c = true then ((1, c - 97), b, p) else ((2, c - 65), b, p)
def opens (w : List Int) : List Int := w.filter fun c => openersL.contains c
def canBegin (w : List Int) : List Int := digitsL ++ headsL ++ marksL ++ (if (opens w).length < 16 then openersL else [])
/-- brackets opened, an operand; w: what waits, the last first -/
def rdOp : List Int → List Int → Nat → R ((Int × Int) × List Int × List Int × Nat)
  | [], _, p => .bad p
  | c :: b, w, p => if (canBegin w).contains c = true then
      (if openersL.contains c = true then rdOp b (c :: w) (p + 1) else (let r := operand c b (p + 1); .ok (r.1, w, r.2)))
    else .bad p
/-- the innermost bracket closed -/
def clos : Items → List Int → Items × List Int
  | fd, [] => (fd, [])
  | fd, c :: w => if openersL.contains c = true then (if c = 91 then fd ++ [(3, 0)] else fd, w) else clos (fd ++ [(c, 0)]) w
def rdCl : List Int → Items → List Int → Nat → Items × List Int × List Int × Nat
  | [], fd, w, p => (fd, w, [], p)
  | c :: b, fd, w, p => match (opens w).head? with
    | none => (fd, w, c :: b, p)
    | some o => if c = closer o then rdCl b (clos fd w).1 (clos fd w).2 (p + 1) else (fd, w, c :: b, p)
def binds (c : Int) : Int := if c = 42 then 2 else if c = 43 then 1 else if c = 45 then 1 else 0
def unw (y : Int) : Items → List Int → Items × List Int
  | fd, [] => (fd, [])
  | fd, c :: w => if binds y ≤ binds c then unw y (fd ++ [(c, 0)]) w else (fd, c :: w)
def rdOr (b : List Int) (fd : Items) (w : List Int) (p : Nat) : R (Items × List Int × List Int × Nat) := match nx b p opsL with
  | .lost => .lost
  | .bad k => .bad k
  | .ok (c, b1, p1) => .ok ((unw c fd w).1, c :: (unw c fd w).2, b1, p1)
def rest (w : List Int) : Items := w.map fun c => (c, 0)
def exL (ends : List Int) : Nat → Items → List Int → List Int → Nat → R (Items × List Int × Nat)
  | 0, _, _, _, _ => .lost
  | f + 1, fd, w, b, p => match rdOp b w p with
    | .lost => .lost
    | .bad k => .bad k
    | .ok (it, w1, b1, p1) => match rdCl b1 (fd ++ [it]) w1 p1 with
      | (fd2, w2, b2, p2) => if ((opens w2).isEmpty && sees b2 ends) = true then .ok (fd2 ++ rest w2, b2, p2) else match rdOr b2 fd2 w2 p2 with
        | .lost => .lost
        | .bad k => .bad k
        | .ok (fd3, w3, b3, p3) => exL ends f fd3 w3 b3 p3
def expr (ends : List Int) (b : List Int) (p : Nat) : R (Items × List Int × Nat) := exL ends (b.length + 1) [] [] b p
def cmp : List Int → Nat → R ((Bool × Bool × Bool) × List Int × Nat)
  | [], p => .bad p
  | c :: b, p => if c = 61 then .ok ((false, true, false), b, p + 1)
    else if c = 62 then (match b with
      | [] => .ok ((false, false, true), [], p + 1)
      | d :: b1 => if d = 61 then .ok ((false, true, true), b1, p + 2) else .ok ((false, false, true), d :: b1, p + 1))
    else if c = 60 then (match b with
      | [] => .ok ((true, false, false), [], p + 1)
      | d :: b1 => if d = 61 then .ok ((true, true, false), b1, p + 2) else if d = 62 then .ok ((true, false, true), b1, p + 2) else .ok ((true, false, false), d :: b1, p + 1))
    else .bad p
def andL : List Int := [32, 97, 110, 100, 32]
def cdL : Nat → Tests → List Int → Nat → R (Tests × List Int × Nat)
  | 0, _, _, _ => .lost
  | f + 1, ts, b, p => match expr [60, 61, 62] b p with
    | .lost => .lost
    | .bad k => .bad k
    | .ok (l, b1, p1) => match cmp b1 p1 with
      | .lost => .lost
      | .bad k => .bad k
      | .ok (y, b2, p2) => match expr [32, 10] b2 p2 with
        | .lost => .lost
        | .bad k => .bad k
        | .ok (r, b3, p3) => if sees b3 [32] = true then (match word andL b3 p3 with
            | .lost => .lost
            | .bad k => .bad k
            | .ok (b4, p4) => cdL f (ts ++ [(l, y, r)]) b4 p4)
          else .ok (ts ++ [(l, y, r)], b3, p3)
def cond (b : List Int) (p : Nat) : R (Tests × List Int × Nat) := cdL (b.length + 1) [] b p
/-! lines -/
inductive Part where
  | two (a b : Items)
  | set (k : Int) (a : Items)
  | tests (ts : Tests)
  | nil
structure LS where
  ws : List Nat
  ps : List Part
  gs : List Nat
  os : List (Nat × Option Nat)
def LS.empty : LS := ⟨[], [], [], []⟩
def LS.put (s : LS) (w : Nat) (x : Part) : LS := ⟨s.ws ++ [w], s.ps ++ [x], s.gs ++ [s.ws.length + 1], s.os⟩
def LS.opened (s : LS) (w : Nat) (x : Part) : LS := { s.put w x with os := (s.ws.length, none) :: s.os }
def LS.may (s : LS) : Bool := match s.os with
  | (b, none) :: _ => s.ws[b]? == some 3
  | _ => false
def LS.putElse (s : LS) : LS := match s.os with
  | (b, _) :: r => let z := s.put 4 .nil
    { z with gs := z.gs.set b z.ws.length, os := (b, some s.ws.length) :: r }
  | [] => s
def LS.putEnd (s : LS) : LS := match s.os with
  | (b, m) :: r => let z := s.put 5 .nil
    let g := if z.ws[b]? == some 6 then z.gs.set s.gs.length b else z.gs
    { z with gs := g.set (m.getD b) z.ws.length, os := r }
  | [] => s
def LS.first (s : LS) : List Int := [97, 116, 115, 102] ++ (if s.os.length < 16 then [105, 119] else []) ++ (if s.os.isEmpty = true then [] else [101])
abbrev RL := R (LS × List Int × Nat)
def rdChange (s : LS) (w : Nat) (rest : List Int) (b : List Int) (p : Nat) : RL := match word rest b p with
  | .lost => .lost
  | .bad k => .bad k
  | .ok (b1, p1) => match expr [32] b1 p1 with
    | .lost => .lost
    | .bad k => .bad k
    | .ok (x, b2, p2) => match word [32, 97, 116, 32] b2 p2 with
      | .lost => .lost
      | .bad k => .bad k
      | .ok (b3, p3) => match expr [10] b3 p3 with
        | .lost => .lost
        | .bad k => .bad k
        | .ok (y, b4, p4) => .ok (s.put w (.two x y), b4, p4)
def rdSet (s : LS) (b : List Int) (p : Nat) : RL := match nx b p [101, 116] with
  | .lost => .lost
  | .bad k => .bad k
  | .ok (c, b1, p1) => if c = 116 then (match word [111, 112] b1 p1 with
      | .lost => .lost
      | .bad k => .bad k
      | .ok (b2, p2) => .ok (s.put 7 .nil, b2, p2))
    else match word [116, 32] b1 p1 with
      | .lost => .lost
      | .bad k => .bad k
      | .ok (b2, p2) => match nx b2 p2 headsL with
        | .lost => .lost
        | .bad k => .bad k
        | .ok (h, b3, p3) => match word [32] b3 p3 with
          | .lost => .lost
          | .bad k => .bad k
          | .ok (b4, p4) => match expr [10] b4 p4 with
            | .lost => .lost
            | .bad k => .bad k
            | .ok (x, b5, p5) => .ok (s.put 2 (.set (h - 97) x), b5, p5)
def rdElse (s : LS) (b : List Int) (p : Nat) : RL := match nx b p (if s.may = true then [110, 108] else [110]) with
  | .lost => .lost
  | .bad k => .bad k
  | .ok (c, b1, p1) => if c = 110 then (match word [100] b1 p1 with
      | .lost => .lost
      | .bad k => .bad k
      | .ok (b2, p2) => .ok (s.putEnd, b2, p2))
    else match word [115, 101] b1 p1 with
      | .lost => .lost
      | .bad k => .bad k
      | .ok (b2, p2) => .ok (s.putElse, b2, p2)
def rdTests (s : LS) (w : Nat) (rest : List Int) (b : List Int) (p : Nat) : RL := match word rest b p with
  | .lost => .lost
  | .bad k => .bad k
  | .ok (b1, p1) => match cond b1 p1 with
    | .lost => .lost
    | .bad k => .bad k
    | .ok (ts, b2, p2) => .ok (s.opened w (.tests ts), b2, p2)
def rdBody (s : LS) (c : Int) (b : List Int) (p : Nat) : RL :=
  if c = 97 then rdChange s 0 [100, 100, 32] b p
  else if c = 116 then rdChange s 1 [97, 107, 101, 32] b p
  else if c = 115 then rdSet s b p
  else if c = 102 then (match word [97, 105, 108] b p with
    | .lost => .lost
    | .bad k => .bad k
    | .ok (b1, p1) => .ok (s.put 8 .nil, b1, p1))
  else if c = 105 then rdTests s 3 [102, 32] b p
  else if c = 119 then rdTests s 6 [104, 105, 108, 101, 32] b p
  else rdElse s b p
def rdLine (s : LS) (b : List Int) (p : Nat) : RL := match nx b p s.first with
  | .lost => .lost
  | .bad k => .bad k
  | .ok (c, b1, p1) => match rdBody s c b1 p1 with
    | .lost => .lost
    | .bad k => .bad k
    | .ok (s2, b2, p2) => match word [10] b2 p2 with
      | .lost => .lost
      | .bad k => .bad k
      | .ok (b3, p3) => .ok (s2, b3, p3)
def lnL : Nat → LS → List Int → Nat → R LS
  | 0, _, _, _ => .lost
  | f + 1, s, b, p => if b.isEmpty = true then (if s.os.isEmpty = true then .ok s else .bad p) else match rdLine s b p with
    | .lost => .lost
    | .bad k => .bad k
    | .ok (s2, b2, p2) => lnL f s2 b2 p2
def linesOf (t : List Int) : R LS := lnL (t.length + 1) .empty t 0
def method (t : List Int) : List Int := if 4096 < t.length then [-6] else match linesOf t with
  | .ok s => [(s.ws.length : Int)]
  | .bad k => [-5, 11, (k : Int)]
  | .lost => []
end Ab
namespace Ab
open Na
def u (c : Int) : UInt8 := UInt8.ofNat c.toNat
def by8 (b : List Int) : Bytes := b.map u
def Good (b : List Int) : Prop := ∀ c ∈ b, 0 ≤ c ∧ c ≤ 255
theorem Good.tail {c : Int} {b : List Int} (h : Good (c :: b)) : Good b := fun x hx => h x (List.mem_cons_of_mem _ hx)
theorem Good.head {c : Int} {b : List Int} (h : Good (c :: b)) : 0 ≤ c ∧ c ≤ 255 := h c (List.mem_cons_self ..)
theorem u_nat {c : Int} (h : 0 ≤ c ∧ c ≤ 255) : (u c).toNat = c.toNat := by
  unfold u
  rw [UInt8.toNat_ofNat']
  omega
theorem u_eq {c : Int} (h : 0 ≤ c ∧ c ≤ 255) {k : Nat} (hk : k ≤ 255) : u c = UInt8.ofNat k ↔ c = (k : Int) := by
  constructor
  · intro e
    have e2 := congrArg UInt8.toNat e
    rw [u_nat h, UInt8.toNat_ofNat'] at e2
    omega
  · intro e
    subst e
    rfl
/-- postfix -/
def post : Ex → Items
  | .num n => [(0, (n : Int))]
  | .head k => [(1, (k : Int))]
  | .mark k => [(2, (k : Int))]
  | .rod e => post e ++ [(3, 0)]
  | .par e => post e
  | .times a b => post a ++ post b ++ [(42, 0)]
  | .plus a b => post a ++ post b ++ [(43, 0)]
  | .minus a b => post a ++ post b ++ [(45, 0)]

/-! ### the loops' measure -/
theorem num_len : ∀ (f : Nat) (n : Int) (b : List Int) (p : Nat), (num f n b p).2.1.length ≤ b.length
  | 0, n, b, p => Nat.le_refl _
  | f + 1, n, b, p => by
    unfold num
    split
    · cases b with
      | nil => exact Nat.le_refl _
      | cons c b =>
        dsimp only
        split
        · exact Nat.le_succ_of_le (num_len f _ b _)
        · exact Nat.le_refl _
    · exact Nat.le_refl _
theorem operand_len (c : Int) (b : List Int) (p : Nat) : (operand c b p).2.1.length ≤ b.length := by
  unfold operand
  split
  · exact num_len 3 _ b p
  · split <;> exact Nat.le_refl _
theorem rdOp_len : ∀ {b w : List Int} {p : Nat} {it : Int × Int} {w1 b1 : List Int} {p1 : Nat}, rdOp b w p = .ok (it, w1, b1, p1) → b1.length < b.length
  | [], w, p, it, w1, b1, p1, h => by
    unfold rdOp at h
    cases h
  | c :: b, w, p, it, w1, b1, p1, h => by
    unfold rdOp at h
    split at h
    · split at h
      · have q := rdOp_len h
        show b1.length < b.length + 1
        omega
      · have e := R.ok.inj h
        have e2 : (operand c b (p + 1)).2.1 = b1 := by
          have := congrArg (fun z => z.2.2.1) e
          exact this
        have q := operand_len c b (p + 1)
        rw [e2] at q
        show b1.length < b.length + 1
        omega
    · cases h
theorem rdOp_lost : ∀ {b w : List Int} {p : Nat}, rdOp b w p ≠ .lost
  | [], w, p => by
    unfold rdOp
    intro h
    cases h
  | c :: b, w, p => by
    unfold rdOp
    split
    · split
      · exact rdOp_lost
      · intro h; cases h
    · intro h; cases h
theorem rdCl_len : ∀ (b : List Int) (fd : Items) (w : List Int) (p : Nat), (rdCl b fd w p).2.2.1.length ≤ b.length
  | [], fd, w, p => by unfold rdCl; exact Nat.le_refl _
  | c :: b, fd, w, p => by
    unfold rdCl
    split
    · exact Nat.le_refl _
    · split
      · exact Nat.le_succ_of_le (rdCl_len b _ _ _)
      · exact Nat.le_refl _
theorem nx_cons (c : Int) (b : List Int) (p : Nat) (l : List Int) : nx (c :: b) p l = if l.contains c = true then .ok (c, b, p + 1) else .bad p := rfl
theorem sees_cons (c : Int) (b l : List Int) : sees (c :: b) l = l.contains c := rfl
theorem nx_ok {b : List Int} {p : Nat} {l : List Int} {c : Int} {b1 : List Int} {p1 : Nat} (h : nx b p l = .ok (c, b1, p1)) : b = c :: b1 ∧ p1 = p + 1 ∧ l.contains c = true := by
  cases b with
  | nil => unfold nx at h; cases h
  | cons d b =>
    rw [nx_cons] at h
    split at h
    · have e := R.ok.inj h
      cases e
      exact ⟨rfl, rfl, by assumption⟩
    · cases h
theorem nx_lost {b : List Int} {p : Nat} {l : List Int} : nx b p l ≠ .lost := by
  cases b with
  | nil => unfold nx; intro h; cases h
  | cons d b =>
    rw [nx_cons]
    split <;> (intro h; cases h)
theorem rdOr_ok {b : List Int} {fd : Items} {w : List Int} {p : Nat} {fd1 : Items} {w1 b1 : List Int} {p1 : Nat} (h : rdOr b fd w p = .ok (fd1, w1, b1, p1)) :
    ∃ c, nx b p opsL = .ok (c, b1, p1) ∧ fd1 = (unw c fd w).1 ∧ w1 = c :: (unw c fd w).2 := by
  unfold rdOr at h
  cases e : nx b p opsL with
  | lost => exact absurd e nx_lost
  | bad k => rw [e] at h; cases h
  | ok z =>
    obtain ⟨c, b2, p2⟩ := z
    rw [e] at h
    have q := R.ok.inj h
    cases q
    exact ⟨c, rfl, rfl, rfl⟩
theorem rdOr_lost {b : List Int} {fd : Items} {w : List Int} {p : Nat} : rdOr b fd w p ≠ .lost := by
  unfold rdOr
  cases e : nx b p opsL with
  | lost => exact absurd e nx_lost
  | bad k => intro h; cases h
  | ok z => intro h; cases h
theorem rdOr_len {b : List Int} {fd : Items} {w : List Int} {p : Nat} {fd1 : Items} {w1 b1 : List Int} {p1 : Nat} (h : rdOr b fd w p = .ok (fd1, w1, b1, p1)) : b1.length < b.length := by
  obtain ⟨c, e, _, _⟩ := rdOr_ok h
  have q := (nx_ok e).1
  rw [q]
  exact Nat.lt_succ_self _
/-- behind an operand -/
def m2 (ends : List Int) (f : Nat) (fd : Items) (w b : List Int) (p : Nat) : R (Items × List Int × Nat) :=
  match rdCl b fd w p with
  | (fd2, w2, b2, p2) => if ((opens w2).isEmpty && sees b2 ends) = true then .ok (fd2 ++ rest w2, b2, p2) else match rdOr b2 fd2 w2 p2 with
    | .lost => .lost
    | .bad k => .bad k
    | .ok (fd3, w3, b3, p3) => exL ends f fd3 w3 b3 p3
theorem exL_succ (ends : List Int) (f : Nat) (fd : Items) (w b : List Int) (p : Nat) : exL ends (f + 1) fd w b p = match rdOp b w p with
    | .lost => .lost
    | .bad k => .bad k
    | .ok (it, w1, b1, p1) => m2 ends f (fd ++ [it]) w1 b1 p1 := rfl
theorem exL_fuel (ends : List Int) : ∀ (f : Nat) (fd : Items) (w b : List Int) (p : Nat), b.length < f → exL ends f fd w b p ≠ .lost
  | 0, _, _, _, _, h => absurd h (Nat.not_lt_zero _)
  | f + 1, fd, w, b, p, h => by
    rw [exL_succ]
    cases e : rdOp b w p with
    | lost => exact absurd e rdOp_lost
    | bad k => intro q; cases q
    | ok z =>
      obtain ⟨it, w1, b1, p1⟩ := z
      have l1 := rdOp_len e
      show m2 ends f (fd ++ [it]) w1 b1 p1 ≠ .lost
      unfold m2
      have l2 := rdCl_len b1 (fd ++ [it]) w1 p1
      generalize rdCl b1 (fd ++ [it]) w1 p1 = z at l2
      obtain ⟨fd2, w2, b2, p2⟩ := z
      dsimp only at l2 ⊢
      split
      · intro q; cases q
      · cases e3 : rdOr b2 fd2 w2 p2 with
        | lost => exact absurd e3 rdOr_lost
        | bad k => intro q; cases q
        | ok z =>
          obtain ⟨fd3, w3, b3, p3⟩ := z
          have l3 := rdOr_len e3
          exact exL_fuel ends f fd3 w3 b3 p3 (by omega)
theorem exL_mono (ends : List Int) : ∀ (f : Nat) (fd : Items) (w b : List Int) (p : Nat) (r), exL ends f fd w b p = r → r ≠ .lost → exL ends (f + 1) fd w b p = r
  | 0, _, _, _, _, r, h, n => absurd h.symm n
  | f + 1, fd, w, b, p, r, h, n => by
    rw [exL_succ] at h ⊢
    cases e : rdOp b w p with
    | lost => exact absurd e rdOp_lost
    | bad k => rw [e] at h; exact h
    | ok z =>
      obtain ⟨it, w1, b1, p1⟩ := z
      rw [e] at h
      dsimp only at h ⊢
      unfold m2 at h ⊢
      generalize rdCl b1 (fd ++ [it]) w1 p1 = z at h
      obtain ⟨fd2, w2, b2, p2⟩ := z
      dsimp only at h ⊢
      split at h
      · rename_i c
        rw [if_pos c]
        exact h
      · rename_i c
        rw [if_neg c]
        cases e3 : rdOr b2 fd2 w2 p2 with
        | lost => exact absurd e3 rdOr_lost
        | bad k => rw [e3] at h; exact h
        | ok z =>
          obtain ⟨fd3, w3, b3, p3⟩ := z
          rw [e3] at h
          exact exL_mono ends f fd3 w3 b3 p3 r h n
theorem exL_more (ends : List Int) (f : Nat) (fd : Items) (w b : List Int) (p : Nat) (r) (h : exL ends f fd w b p = r) (n : r ≠ .lost) : ∀ k, exL ends (f + k) fd w b p = r
  | 0 => h
  | k + 1 => exL_mono ends (f + k) fd w b p r (exL_more ends f fd w b p r h n k) n
/-- some fuel is enough -/
def M1 (ends : List Int) (fd : Items) (w b : List Int) (p : Nat) (r : R (Items × List Int × Nat)) : Prop := r ≠ .lost ∧ ∃ f, exL ends f fd w b p = r
def M2 (ends : List Int) (fd : Items) (w b : List Int) (p : Nat) (r : R (Items × List Int × Nat)) : Prop := r ≠ .lost ∧ ∃ f, m2 ends f fd w b p = r
theorem M1.expr {ends b : List Int} {p : Nat} {r} (h : M1 ends [] [] b p r) : expr ends b p = r := by
  obtain ⟨n, f, e⟩ := h
  unfold Ab.expr
  have a := exL_more ends f [] [] b p r e n (b.length + 1)
  have c := exL_more ends (b.length + 1) [] [] b p _ rfl (exL_fuel ends (b.length + 1) [] [] b p (Nat.lt_succ_self _)) f
  rw [← c, ← a, Nat.add_comm]

/-! ### the steps -/
theorem M1.opener {ends : List Int} {fd : Items} {w b : List Int} {p : Nat} {c : Int} {r} (ho : openersL.contains c = true) (hd : (opens w).length < 16) (h : M1 ends fd (c :: w) b (p + 1) r) : M1 ends fd w (c :: b) p r := by
  obtain ⟨n, f, e⟩ := h
  refine ⟨n, f, ?_⟩
  cases f with
  | zero => exact absurd e.symm n
  | succ f =>
    rw [exL_succ] at e ⊢
    have q : rdOp (c :: b) w p = rdOp b (c :: w) (p + 1) := by
      rw [rdOp]
      have cb : (canBegin w).contains c = true := by
        unfold canBegin
        rw [if_pos hd]
        have hc : c ∈ openersL := by simpa using ho
        simp [hc]
      rw [if_pos cb, if_pos ho]
    rw [q]
    exact e
theorem M1.operand {ends : List Int} {fd : Items} {w b : List Int} {p : Nat} {c : Int} {r} (hc : (digitsL ++ headsL ++ marksL).contains c = true) (hn : openersL.contains c = false)
    (h : M2 ends (fd ++ [(Ab.operand c b (p + 1)).1]) w (Ab.operand c b (p + 1)).2.1 (Ab.operand c b (p + 1)).2.2 r) : M1 ends fd w (c :: b) p r := by
  obtain ⟨n, f, e⟩ := h
  refine ⟨n, f + 1, ?_⟩
  rw [exL_succ]
  have q : rdOp (c :: b) w p = .ok ((Ab.operand c b (p + 1)).1, w, (Ab.operand c b (p + 1)).2) := by
    rw [rdOp]
    have cb : (canBegin w).contains c = true := by
      unfold canBegin
      have h2 : c ∈ digitsL ++ headsL ++ marksL := by simpa using hc
      have h3 : c ∈ digitsL ++ headsL ++ marksL ++ (if (opens w).length < 16 then openersL else []) := List.mem_append_left _ h2
      simpa using h3
    rw [if_pos cb, if_neg (by rw [hn]; exact Bool.false_ne_true)]
  rw [q]
  exact e
theorem M1.bad {ends : List Int} {fd : Items} {w b : List Int} {p : Nat} (h : rdOp b w p = .bad p) : M1 ends fd w b p (.bad p) := by
  refine ⟨fun q => (by cases q), 1, ?_⟩
  rw [exL_succ, h]
theorem rdCl_pend {b : List Int} {fd : Items} {w : List Int} {p : Nat} {o : Int} (hn : openersL.contains o = false) :
    (∃ fd2 w2 b2 p2, rdCl b fd (o :: w) p = (fd2, w2, b2, p2) ∧ rdCl b (fd ++ [(o, 0)]) w p = (fd2, w2, b2, p2)) ∨
    (rdCl b fd (o :: w) p = (fd, o :: w, b, p) ∧ rdCl b (fd ++ [(o, 0)]) w p = (fd ++ [(o, 0)], w, b, p)) := by
  have ho : opens (o :: w) = opens w := by
    unfold opens
    rw [List.filter_cons, if_neg (by rw [hn]; exact Bool.false_ne_true)]
  cases b with
  | nil => right; constructor <;> rfl
  | cons c b =>
    rw [rdCl, rdCl, ho]
    cases e : (opens w).head? with
    | none => right; constructor <;> rfl
    | some x =>
      dsimp only
      by_cases hc : c = closer x
      · rw [if_pos hc, if_pos hc]
        left
        have q : clos fd (o :: w) = clos (fd ++ [(o, 0)]) w := by
          rw [clos, if_neg (by rw [hn]; exact Bool.false_ne_true)]
        rw [q]
        exact ⟨_, _, _, _, rfl, rfl⟩
      · rw [if_neg hc, if_neg hc]
        right
        constructor <;> rfl
/-- an operator that waits may as well be worked out -/
theorem M2.pend {ends : List Int} {fd : Items} {w b : List Int} {p : Nat} {o : Int} {r} (hn : openersL.contains o = false) (hb : ∀ c, b.head? = some c → opsL.contains c = true → binds c ≤ binds o)
    (h : M2 ends (fd ++ [(o, 0)]) w b p r) : M2 ends fd (o :: w) b p r := by
  obtain ⟨n, f, e⟩ := h
  refine ⟨n, f, ?_⟩
  rw [← e]
  have ho : opens (o :: w) = opens w := by
    unfold opens
    rw [List.filter_cons, if_neg (by rw [hn]; exact Bool.false_ne_true)]
  unfold m2
  rcases rdCl_pend (b := b) (fd := fd) (w := w) (p := p) hn with ⟨fd2, w2, b2, p2, h1, h2⟩ | ⟨h1, h2⟩
  · rw [h1, h2]
  · rw [h1, h2]
    dsimp only
    rw [ho]
    have er : fd ++ rest (o :: w) = fd ++ [(o, 0)] ++ rest w := by
      unfold rest
      rw [List.map_cons, List.append_assoc]
      rfl
    rw [er]
    split
    · rfl
    · have eq : rdOr b fd (o :: w) p = rdOr b (fd ++ [(o, 0)]) w p := by
        unfold rdOr
        cases e3 : nx b p opsL with
        | lost => rfl
        | bad k => rfl
        | ok z =>
          obtain ⟨c, b3, p3⟩ := z
          obtain ⟨hb1, _, hc⟩ := nx_ok e3
          have hle : binds c ≤ binds o := hb c (by rw [hb1]; rfl) hc
          dsimp only
          have q : unw c fd (o :: w) = unw c (fd ++ [(o, 0)]) w := by
            rw [unw, if_pos hle]
          rw [q]
      rw [eq]
/-- no operator, no end, no closer: a fault -/
theorem M2.bad {ends : List Int} {fd : Items} {w b : List Int} {p : Nat} (h1 : rdCl b fd w p = (fd, w, b, p)) (h2 : ((opens w).isEmpty && sees b ends) = false) (h3 : ∀ c, b.head? = some c → opsL.contains c = false) : M2 ends fd w b p (.bad p) := by
  refine ⟨fun q => (by cases q), 0, ?_⟩
  unfold m2
  rw [h1]
  dsimp only
  rw [if_neg (by rw [h2]; exact Bool.false_ne_true)]
  have q : rdOr b fd w p = .bad p := by
    unfold rdOr
    cases b with
    | nil => rfl
    | cons c b =>
      rw [nx_cons, if_neg (by rw [h3 c rfl]; exact Bool.false_ne_true)]
  rw [q]
/-- an operator read -/
theorem M2.op {ends : List Int} {fd : Items} {w b : List Int} {p : Nat} {c : Int} {r} (hc : opsL.contains c = true) (hcl : rdCl (c :: b) fd w p = (fd, w, c :: b, p)) (he : ends.contains c = false) (hu : unw c fd w = (fd, w)) (h : M1 ends fd (c :: w) b (p + 1) r) :
    M2 ends fd w (c :: b) p r := by
  obtain ⟨n, f, e⟩ := h
  refine ⟨n, f, ?_⟩
  unfold m2
  rw [hcl]
  dsimp only
  have q : ((opens w).isEmpty && sees (c :: b) ends) = false := by
    rw [sees_cons, he, Bool.and_false]
  rw [if_neg (by rw [q]; exact Bool.false_ne_true)]
  have q2 : rdOr (c :: b) fd w p = .ok (fd, c :: w, b, p + 1) := by
    unfold rdOr
    rw [nx_cons, if_pos hc]
    dsimp only
    rw [hu]
  rw [q2]
  exact e
end Ab
namespace Ab
theorem exL_len (ends : List Int) : ∀ (f : Nat) (fd : Items) (w b : List Int) (p : Nat) {its b1 p1}, exL ends f fd w b p = .ok (its, b1, p1) → b1.length < b.length
  | 0, _, _, _, _, _, _, _, h => by cases h
  | f + 1, fd, w, b, p, its, b1, p1, h => by
    rw [exL_succ] at h
    cases e : rdOp b w p with
    | lost => exact absurd e rdOp_lost
    | bad k => rw [e] at h; cases h
    | ok z =>
      obtain ⟨it, w1, b2, p2⟩ := z
      have l1 := rdOp_len e
      rw [e] at h
      dsimp only at h
      unfold m2 at h
      have l2 := rdCl_len b2 (fd ++ [it]) w1 p2
      revert h l2
      generalize rdCl b2 (fd ++ [it]) w1 p2 = z
      obtain ⟨fd3, w3, b3, p3⟩ := z
      intro h l2
      dsimp only at h l2
      split at h
      · have e2 : b3 = b1 := congrArg (fun z => z.2.1) (R.ok.inj h)
        rw [← e2]
        omega
      · cases e3 : rdOr b3 fd3 w3 p3 with
        | lost => exact absurd e3 rdOr_lost
        | bad k => rw [e3] at h; cases h
        | ok z =>
          obtain ⟨fd4, w4, b4, p4⟩ := z
          have l3 := rdOr_len e3
          rw [e3] at h
          have := exL_len ends f fd4 w4 b4 p4 h
          omega
theorem expr_len {ends b : List Int} {p : Nat} {its b1 p1} (h : expr ends b p = .ok (its, b1, p1)) : b1.length < b.length := exL_len ends _ _ _ _ _ h
theorem cmp_consM (c : Int) (b : List Int) (p : Nat) : cmp (c :: b) p = if c = 61 then .ok ((false, true, false), b, p + 1)
    else if c = 62 then (match b with
      | [] => .ok ((false, false, true), [], p + 1)
      | d :: b1 => if d = 61 then .ok ((false, true, true), b1, p + 2) else .ok ((false, false, true), d :: b1, p + 1))
    else if c = 60 then (match b with
      | [] => .ok ((true, false, false), [], p + 1)
      | d :: b1 => if d = 61 then .ok ((true, true, false), b1, p + 2) else if d = 62 then .ok ((true, false, true), b1, p + 2) else .ok ((true, false, false), d :: b1, p + 1))
    else .bad p := rfl
theorem cmp_len {b : List Int} {p : Nat} {y b1 p1} (h : cmp b p = .ok (y, b1, p1)) : b1.length < b.length := by
  cases b with
  | nil => cases h
  | cons c b =>
    rw [cmp_consM] at h
    have k : ∀ {z : (Bool × Bool × Bool) × List Int × Nat}, R.ok z = R.ok (y, b1, p1) → z.2.1.length < (c :: b).length → b1.length < (c :: b).length := fun {z} e l => by cases R.ok.inj e; exact l
    split at h
    · exact k h (Nat.lt_succ_self _)
    · split at h
      · cases b with
        | nil => exact k h (Nat.lt_succ_self _)
        | cons d b =>
          dsimp only at h
          split at h
          · exact k h (by show b.length < b.length + 1 + 1; omega)
          · exact k h (Nat.lt_succ_self _)
      · split at h
        · cases b with
          | nil => exact k h (Nat.lt_succ_self _)
          | cons d b =>
            dsimp only at h
            split at h
            · exact k h (by show b.length < b.length + 1 + 1; omega)
            · split at h
              · exact k h (by show b.length < b.length + 1 + 1; omega)
              · exact k h (Nat.lt_succ_self _)
        · cases h
theorem word_len : ∀ {w b : List Int} {p : Nat} {b1 p1}, word w b p = .ok (b1, p1) → b1.length ≤ b.length
  | [], b, p, b1, p1, h => by cases R.ok.inj h; exact Nat.le_refl _
  | c :: w, b, p, b1, p1, h => by
    rw [word] at h
    cases e : nx b p [c] with
    | lost => exact absurd e nx_lost
    | bad k => rw [e] at h; cases h
    | ok z =>
      obtain ⟨d, b2, p2⟩ := z
      rw [e] at h
      obtain ⟨e1, _, _⟩ := nx_ok e
      have := word_len h
      rw [e1]
      exact Nat.le_succ_of_le this
theorem cdL_fuel : ∀ (f : Nat) (ts : Tests) (b : List Int) (p : Nat), b.length < f → cdL f ts b p ≠ .lost
  | 0, _, _, _, h => absurd h (Nat.not_lt_zero _)
  | f + 1, ts, b, p, h => by
    rw [cdL]
    cases e1 : expr [60, 61, 62] b p with
    | lost => exact absurd e1 (exL_fuel _ _ _ _ _ _ (Nat.lt_succ_self _))
    | bad k => intro z; cases z
    | ok z =>
      obtain ⟨l, b1, p1⟩ := z
      have l1 := expr_len e1
      dsimp only
      cases e2 : cmp b1 p1 with
      | lost =>
        exfalso
        cases b1 with
        | nil => cases e2
        | cons c b1 =>
          rw [cmp_consM] at e2
          repeat' split at e2
          all_goals cases e2
      | bad k => intro z; cases z
      | ok z =>
        obtain ⟨y, b2, p2⟩ := z
        have l2 := cmp_len e2
        dsimp only
        cases e3 : expr [32, 10] b2 p2 with
        | lost => exact absurd e3 (exL_fuel _ _ _ _ _ _ (Nat.lt_succ_self _))
        | bad k => intro z; cases z
        | ok z =>
          obtain ⟨r, b3, p3⟩ := z
          have l3 := expr_len e3
          dsimp only
          split
          · cases e4 : word andL b3 p3 with
            | lost =>
              exfalso
              have : ∀ (w b : List Int) (p : Nat), word w b p ≠ .lost := by
                intro w
                induction w with
                | nil => intro b p z; cases z
                | cons c w ih =>
                  intro b p z
                  rw [word] at z
                  cases e : nx b p [c] with
                  | lost => exact absurd e nx_lost
                  | bad k => rw [e] at z; cases z
                  | ok y => rw [e] at z; exact ih _ _ z
              exact this _ _ _ e4
            | bad k => intro z; cases z
            | ok z =>
              obtain ⟨b4, p4⟩ := z
              have l4 := word_len e4
              exact cdL_fuel f _ b4 p4 (by omega)
          · intro z; cases z
theorem cond_fuel (b : List Int) (p : Nat) : cond b p ≠ .lost := cdL_fuel _ _ _ _ (Nat.lt_succ_self _)
end Ab
namespace Ab
open Na
/-! ### the specification's readers, one turn each -/
theorem by8_cons (c : Int) (b : List Int) : by8 (c :: b) = u c :: by8 b := rfl
theorem by8_len (b : List Int) : (by8 b).length = b.length := List.length_map ..
theorem timesAt_nil (f d x p) : timesAt (f + 1) d x p [] = .ok (x, p, []) := by
  rw [timesAt]
  intro l h; cases h
theorem timesAt_cons (f d x p) (c : UInt8) (l : Bytes) : timesAt (f + 1) d x p (c :: l) = if c = 42 then (match factorAt f d (p + 1) l with
    | .error k => .error k
    | .ok (y, q, e) => timesAt f d (.times x y) q e) else .ok (x, p, c :: l) := by
  by_cases h : c = 42
  · rw [if_pos h]; subst h; rw [timesAt]; rfl
  · rw [if_neg h, timesAt]
    intro l2 e; cases e; exact absurd rfl h
theorem sumAt_nil (f d x p) : sumAt (f + 1) d x p [] = .ok (x, p, []) := by
  rw [sumAt]
  · intro l h; cases h
  · intro l h; cases h
theorem sumAt_cons (f d x p) (c : UInt8) (l : Bytes) : sumAt (f + 1) d x p (c :: l) = if c = 43 then (match termAt f d (p + 1) l with
    | .error k => .error k
    | .ok (y, q, e) => sumAt f d (.plus x y) q e) else if c = 45 then (match termAt f d (p + 1) l with
    | .error k => .error k
    | .ok (y, q, e) => sumAt f d (.minus x y) q e) else .ok (x, p, c :: l) := by
  by_cases h : c = 43
  · rw [if_pos h]; subst h; rw [sumAt]; rfl
  · rw [if_neg h]
    by_cases h2 : c = 45
    · rw [if_pos h2]; subst h2; rw [sumAt]; rfl
    · rw [if_neg h2, sumAt]
      · intro l2 e; cases e; exact absurd rfl h
      · intro l2 e; cases e; exact absurd rfl h2
theorem factorAt_nil (f d p) : factorAt (f + 1) d p [] = .error p := by rw [factorAt]
theorem factorAt_cons (f d p) (c : UInt8) (l : Bytes) : factorAt (f + 1) d p (c :: l) = if c = 48 then .ok (.num 0, p + 1, l)
      else if isDigit c = true then (let n := digitsAt 3 (c.toNat - 48) (p + 1) l
        .ok (.num n.1, n.2))
      else if 97 ≤ c.toNat ∧ c.toNat ≤ 104 then .ok (.head (c.toNat - 97), p + 1, l)
      else if 65 ≤ c.toNat ∧ c.toNat ≤ 72 then .ok (.mark (c.toNat - 65), p + 1, l)
      else if c = 91 ∨ c = 40 then (if OPEN ≤ d then .error p else match exAt f (d + 1) (p + 1) l with
        | .error k => .error k
        | .ok (x, q, r) => match expect [if c = 91 then 93 else 41] q r with
          | .error k => .error k
          | .ok (_, q, r) => .ok (if c = 91 then .rod x else .par x, q, r))
      else .error p := by
  rw [factorAt]
  rfl
theorem exAt_succ (f d p b) : exAt (f + 1) d p b = match termAt f d p b with
    | .error k => .error k
    | .ok (x, q, c) => sumAt f d x q c := by
  rw [exAt]
  rfl
theorem termAt_succ (f d p b) : termAt (f + 1) d p b = match factorAt f d p b with
    | .error k => .error k
    | .ok (x, q, c) => timesAt f d x q c := by
  rw [termAt]
  rfl
/-! ### bytes' kinds -/
theorem digits_has {c : Int} : digitsL.contains c = true ↔ 48 ≤ c ∧ c ≤ 57 := by
  simp only [digitsL, List.contains_iff_mem, List.mem_cons, List.not_mem_nil, or_false]
  omega
theorem heads_has {c : Int} : headsL.contains c = true ↔ 97 ≤ c ∧ c ≤ 104 := by
  simp only [headsL, List.contains_iff_mem, List.mem_cons, List.not_mem_nil, or_false]
  omega
theorem marks_has {c : Int} : marksL.contains c = true ↔ 65 ≤ c ∧ c ≤ 72 := by
  simp only [marksL, List.contains_iff_mem, List.mem_cons, List.not_mem_nil, or_false]
  omega
theorem openers_has {c : Int} : openersL.contains c = true ↔ c = 40 ∨ c = 91 := by
  simp only [openersL, List.contains_iff_mem, List.mem_cons, List.not_mem_nil, or_false]
theorem ops_has {c : Int} : opsL.contains c = true ↔ c = 42 ∨ c = 43 ∨ c = 45 := by
  simp only [opsL, List.contains_iff_mem, List.mem_cons, List.not_mem_nil, or_false]
theorem bfalse {b : Bool} {P : Prop} (h : b = true ↔ P) (n : ¬ P) : b = false := by
  cases b with
  | false => rfl
  | true => exact absurd (h.mp rfl) n
theorem isDigit_u {c : Int} (h : 0 ≤ c ∧ c ≤ 255) : isDigit (u c) = true ↔ 48 ≤ c ∧ c ≤ 57 := by
  unfold isDigit
  rw [u_nat h, Bool.and_eq_true, decide_eq_true_eq, decide_eq_true_eq]
  omega
theorem num_digits : ∀ (f : Nat) (n : Nat) (b : List Int) (p : Nat), 0 < n → Good b →
    ∃ m b1 q, digitsAt f n p (by8 b) = (m, q, by8 b1) ∧ num f (n : Int) b p = ((m : Int), b1, q) ∧ b1.length ≤ b.length ∧ Good b1
  | 0, n, b, p, _, g => ⟨n, b, p, rfl, rfl, Nat.le_refl _, g⟩
  | f + 1, n, [], p, h, g => by
    refine ⟨n, [], p, rfl, ?_, Nat.le_refl _, g⟩
    rw [num, if_pos (by omega)]
  | f + 1, n, c :: b, p, h, g => by
    have hc := g.head
    rw [num, if_pos (show (0 : Int) < (n : Int) by omega), by8_cons, digitsAt]
    by_cases hd : 48 ≤ c ∧ c ≤ 57
    · rw [if_pos ((isDigit_u hc).mpr hd), if_pos (digits_has.mpr hd)]
      have e : ((n : Int) * 10 + c - 48) = ((10 * n + ((u c).toNat - 48) : Nat) : Int) := by
        rw [u_nat hc]; omega
      rw [e]
      obtain ⟨m, b1, q, e1, e2, l, g1⟩ := num_digits f (10 * n + ((u c).toNat - 48)) b (p + 1) (by omega) g.tail
      exact ⟨m, b1, q, e1, e2, Nat.le_succ_of_le l, g1⟩
    · rw [if_neg (fun z => hd ((isDigit_u hc).mp z)), if_neg (fun z => hd (digits_has.mp z))]
      exact ⟨n, c :: b, p, rfl, rfl, Nat.le_refl _, g⟩
/-! ### the simulation -/
/-- nothing that waits on top binds as tight as a product -/
def Low2 (w : List Int) : Prop := ∀ c, w.head? = some c → binds c < 2
def Low1 (w : List Int) : Prop := ∀ c, w.head? = some c → binds c < 1
def NoTimes (b : List Int) : Prop := ∀ c, b.head? = some c → c ≠ 42
def NoOp (b : List Int) : Prop := ∀ c, b.head? = some c → opsL.contains c = false
def Ends (ends : List Int) : Prop := ∀ c, opsL.contains c = true → ends.contains c = false
theorem rdCl_op {c : Int} {b : List Int} {fd : Items} {w : List Int} {p : Nat} (hc : c = 42 ∨ c = 43 ∨ c = 45) : rdCl (c :: b) fd w p = (fd, w, c :: b, p) := by
  rw [rdCl]
  split
  · rfl
  · rename_i o e
    rw [if_neg]
    intro z
    unfold closer at z
    split at z <;> omega
section
variable {ends : List Int} (he : Ends ends)
include he
def Sim (r : Except Nat (Ex × (Nat × Bytes))) (fd : Items) (w b : List Int) (p : Nat) (T : List Int → Prop) (M : (R (Items × List Int × Nat)) → Prop) : Prop := match r with
  | .error k => M (.bad k)
  | .ok (x, q, c) => ∃ b1, c = by8 b1 ∧ Good b1 ∧ b1.length ≤ b.length ∧ T b1 ∧ ∀ R, M2 ends (fd ++ post x) w b1 q R → M R
theorem sim : ∀ (f : Nat),
    (∀ d p b fd w, Good b → (opens w).length = d → 6 * b.length + 1 ≤ f → Sim (ends := ends) (factorAt f d p (by8 b)) fd w b p (fun b1 => b1.length < b.length) (M1 ends fd w b p)) ∧
    (∀ d p b fd w x, Good b → (opens w).length = d → Low2 w → 6 * b.length + 1 ≤ f → Sim (ends := ends) (timesAt f d x p (by8 b)) fd w b p NoTimes (M2 ends (fd ++ post x) w b p)) ∧
    (∀ d p b fd w, Good b → (opens w).length = d → Low2 w → 6 * b.length + 2 ≤ f → Sim (ends := ends) (termAt f d p (by8 b)) fd w b p (fun b1 => b1.length < b.length ∧ NoTimes b1) (M1 ends fd w b p)) ∧
    (∀ d p b fd w x, Good b → (opens w).length = d → Low1 w → NoTimes b → 6 * b.length + 1 ≤ f → Sim (ends := ends) (sumAt f d x p (by8 b)) fd w b p NoOp (M2 ends (fd ++ post x) w b p)) ∧
    (∀ d p b fd w, Good b → (opens w).length = d → Low1 w → 6 * b.length + 3 ≤ f → Sim (ends := ends) (exAt f d p (by8 b)) fd w b p (fun b1 => b1.length < b.length ∧ NoOp b1) (M1 ends fd w b p)) := by
  intro f
  induction f with
  | zero =>
    refine ⟨fun d p b fd w g hd hf => absurd hf (by omega), fun d p b fd w x g hd lw hf => absurd hf (by omega), fun d p b fd w g hd lw hf => absurd hf (by omega), fun d p b fd w x g hd lw nt hf => absurd hf (by omega), fun d p b fd w g hd lw hf => absurd hf (by omega)⟩
  | succ f ih =>
    obtain ⟨iF, iX, iT, iS, iE⟩ := ih
    refine ⟨?_, ?_, ?_, ?_, ?_⟩
    · -- a factor
      intro d p b fd w g hd hf
      cases b with
      | nil =>
        show Sim (ends := ends) (factorAt (f + 1) d p []) fd w [] p _ _
        rw [factorAt_nil]
        exact M1.bad (by rw [rdOp])
      | cons c b =>
        have hc := g.head
        rw [by8_cons, factorAt_cons]
        have hno : ∀ k : Nat, k ≤ 255 → (u c = UInt8.ofNat k ↔ c = (k : Int)) := fun k hk => u_eq hc hk
        have h48 : (u c = 48) ↔ c = 48 := hno 48 (by decide)
        have h91 : (u c = 91) ↔ c = 91 := hno 91 (by decide)
        have h40 : (u c = 40) ↔ c = 40 := hno 40 (by decide)
        have un := u_nat hc
        by_cases k1 : c = 48
        · rw [if_pos (h48.mpr k1)]
          have hn : openersL.contains c = false := bfalse openers_has (by omega)
          refine ⟨b, rfl, g.tail, Nat.le_succ _, Nat.lt_succ_self _, fun R h => ?_⟩
          have e : operand c b (p + 1) = ((0, 0), b, p + 1) := by
            subst k1
            unfold operand
            rw [if_pos (show digitsL.contains 48 = true by decide)]
            have : num 3 (48 - 48) b (p + 1) = (0, b, p + 1) := by
              rfl
            rw [this]
          refine M1.operand (by
            have : digitsL.contains c = true := digits_has.mpr (by omega)
            have m : c ∈ digitsL := by simpa using this
            simp [m]) hn ?_
          rw [e]
          exact h
        · rw [if_neg (fun z => k1 (h48.mp z))]
          by_cases k2 : 48 ≤ c ∧ c ≤ 57
          · rw [if_pos ((isDigit_u hc).mpr k2)]
            obtain ⟨m, b1, q, e1, e2, l1, g1⟩ := num_digits 3 ((u c).toNat - 48) b (p + 1) (by rw [un]; omega) g.tail
            rw [e1]
            have hn : openersL.contains c = false := bfalse openers_has (by omega)
            refine ⟨b1, rfl, g1, Nat.le_succ_of_le l1, Nat.lt_succ_of_le l1, fun R h => ?_⟩
            have e : operand c b (p + 1) = ((0, (m : Int)), b1, q) := by
              unfold operand
              rw [if_pos (digits_has.mpr k2)]
              have e3 : c - 48 = (((u c).toNat - 48 : Nat) : Int) := by rw [un]; omega
              rw [e3, e2]
            refine M1.operand (by
              have : digitsL.contains c = true := digits_has.mpr k2
              have m : c ∈ digitsL := by simpa using this
              simp [m]) hn ?_
            rw [e]
            exact h
          · rw [if_neg (fun z => k2 ((isDigit_u hc).mp z))]
            have nd : digitsL.contains c = false := bfalse digits_has k2
            by_cases k3 : 97 ≤ c ∧ c ≤ 104
            · rw [if_pos (by rw [un]; omega)]
              have hn : openersL.contains c = false := bfalse openers_has (by omega)
              refine ⟨b, rfl, g.tail, Nat.le_succ _, Nat.lt_succ_self _, fun R h => ?_⟩
              have e : operand c b (p + 1) = ((1, (((u c).toNat - 97 : Nat) : Int)), b, p + 1) := by
                unfold operand
                rw [if_neg (by rw [nd]; exact Bool.false_ne_true), if_pos (heads_has.mpr k3)]
                have e3 : c - 97 = (((u c).toNat - 97 : Nat) : Int) := by rw [un]; omega
                rw [e3]
              refine M1.operand (by
                have : headsL.contains c = true := heads_has.mpr k3
                have m : c ∈ headsL := by simpa using this
                simp [m]) hn ?_
              rw [e]
              exact h
            · rw [if_neg (by rw [un]; omega)]
              have nh : headsL.contains c = false := bfalse heads_has k3
              by_cases k4 : 65 ≤ c ∧ c ≤ 72
              · rw [if_pos (by rw [un]; omega)]
                have hn : openersL.contains c = false := bfalse openers_has (by omega)
                refine ⟨b, rfl, g.tail, Nat.le_succ _, Nat.lt_succ_self _, fun R h => ?_⟩
                have e : operand c b (p + 1) = ((2, (((u c).toNat - 65 : Nat) : Int)), b, p + 1) := by
                  unfold operand
                  rw [if_neg (by rw [nd]; exact Bool.false_ne_true), if_neg (by rw [nh]; exact Bool.false_ne_true)]
                  have e3 : c - 65 = (((u c).toNat - 65 : Nat) : Int) := by rw [un]; omega
                  rw [e3]
                refine M1.operand (by
                  have : marksL.contains c = true := marks_has.mpr k4
                  have m : c ∈ marksL := by simpa using this
                  simp [m]) hn ?_
                rw [e]
                exact h
              · rw [if_neg (by rw [un]; omega)]
                have nm : marksL.contains c = false := bfalse marks_has k4
                have nb : ∀ s : Nat, (canBegin w).contains c = true → s = s → (openersL.contains c = true ∧ (opens w).length < 16) := by
                  intro s h _
                  have m : c ∈ canBegin w := by simpa using h
                  unfold canBegin at m
                  rcases List.mem_append.mp m with m | m
                  · rcases List.mem_append.mp m with m | m
                    · rcases List.mem_append.mp m with m | m
                      · exact absurd (show digitsL.contains c = true by simpa using m) (by rw [nd]; exact Bool.false_ne_true)
                      · exact absurd (show headsL.contains c = true by simpa using m) (by rw [nh]; exact Bool.false_ne_true)
                    · exact absurd (show marksL.contains c = true by simpa using m) (by rw [nm]; exact Bool.false_ne_true)
                  · split at m
                    · exact ⟨by simpa using m, by assumption⟩
                    · cases m
                by_cases k5 : c = 40 ∨ c = 91
                · rw [if_pos (by rcases k5 with k | k; exact .inr (h40.mpr k); exact .inl (h91.mpr k))]
                  have ho : openersL.contains c = true := openers_has.mpr k5
                  by_cases k6 : OPEN ≤ d
                  · rw [if_pos k6]
                    have k6 : 16 ≤ d := k6
                    refine M1.bad ?_
                    rw [rdOp, if_neg]
                    intro h
                    have := (nb 0 h rfl).2
                    omega
                  · rw [if_neg k6]
                    have k6 : ¬ 16 ≤ d := k6
                    have hd2 : (opens (c :: w)).length = d + 1 := by
                      unfold opens
                      rw [List.filter_cons, if_pos ho]
                      show (opens w).length + 1 = d + 1
                      rw [hd]
                    have lw : Low1 (c :: w) := by
                      intro x hx
                      cases hx
                      unfold binds
                      rw [if_neg (by omega), if_neg (by omega), if_neg (by omega)]
                      decide
                    have hE := iE (d + 1) (p + 1) b fd (c :: w) g.tail hd2 lw (by
                      have : (c :: b).length = b.length + 1 := rfl
                      omega)
                    have lift : ∀ R, M1 ends fd (c :: w) b (p + 1) R → M1 ends fd w (c :: b) p R := fun R h => M1.opener ho (by omega) h
                    cases e1 : exAt f (d + 1) (p + 1) (by8 b) with
                    | error k =>
                      rw [e1] at hE
                      exact lift _ hE
                    | ok z =>
                      obtain ⟨x, q, r⟩ := z
                      rw [e1] at hE
                      obtain ⟨b1, rfl, g1, l1, ⟨l2, no⟩, hM⟩ := hE
                      dsimp only
                      have hopen : (opens (c :: w)).head? = some c := by
                        unfold opens
                        rw [List.filter_cons, if_pos ho]
                        rfl
                      have hne : (opens (c :: w)).isEmpty = false := by
                        unfold opens
                        rw [List.filter_cons, if_pos ho]
                        rfl
                      have hclN : (if u c = 91 then (93 : UInt8) else 41) = u (closer c) := by
                        unfold closer
                        by_cases k7 : c = 40
                        · rw [if_neg (fun z => by have := h91.mp z; omega), if_pos k7]; rfl
                        · have k8 : c = 91 := by omega
                          rw [if_pos (h91.mpr k8), if_neg k7]; rfl
                      have hclR : 0 ≤ closer c ∧ closer c ≤ 255 := by unfold closer; split <;> decide
                      rw [hclN]
                      cases b1 with
                      | nil =>
                        show Sim (ends := ends) (.error q) fd w (c :: b) p _ _
                        refine lift _ (hM _ (M2.bad (by rw [rdCl]) (by rw [hne, Bool.false_and]) (fun y hy => by cases hy)))
                      | cons y b1 =>
                        have gy := g1.head
                        rw [by8_cons]
                        have hexp : expect [u (closer c)] q (u y :: by8 b1) = if u (closer c) = u y then .ok ((), q + 1, by8 b1) else .error q := rfl
                        rw [hexp]
                        have heq : (u (closer c) = u y) ↔ y = closer c := by
                          constructor
                          · intro z
                            have := congrArg UInt8.toNat z
                            rw [u_nat hclR, u_nat gy] at this
                            omega
                          · intro z; rw [z]
                        by_cases k9 : y = closer c
                        · rw [if_pos (heq.mpr k9)]
                          dsimp only
                          refine ⟨b1, rfl, g1.tail, Nat.le_succ_of_le (Nat.le_of_lt (Nat.lt_of_succ_lt l2)), ?_, fun R h => ?_⟩
                          · show b1.length < b.length + 1
                            have : (y :: b1).length = b1.length + 1 := rfl
                            omega
                          · refine lift _ (hM R ?_)
                            obtain ⟨n, f2, e2⟩ := h
                            refine ⟨n, f2, ?_⟩
                            rw [← e2]
                            unfold m2
                            have q1 : rdCl (y :: b1) (fd ++ post x) (c :: w) q = rdCl b1 (fd ++ post (if u c = 91 then Ex.rod x else Ex.par x)) w (q + 1) := by
                              rw [rdCl, hopen]
                              dsimp only
                              rw [if_pos k9]
                              have q2 : clos (fd ++ post x) (c :: w) = (fd ++ post (if u c = 91 then Ex.rod x else Ex.par x), w) := by
                                rw [clos, if_pos ho]
                                by_cases k7 : c = 91
                                · rw [if_pos k7, if_pos (h91.mpr k7), post, List.append_assoc]
                                · rw [if_neg k7, if_neg (fun z => k7 (h91.mp z)), post]
                              rw [q2]
                            rw [q1]
                        · rw [if_neg (fun z => k9 (heq.mp z))]
                          dsimp only
                          refine lift _ (hM _ (M2.bad ?_ (by rw [hne, Bool.false_and]) no))
                          rw [rdCl, hopen]
                          dsimp only
                          rw [if_neg k9]
                · rw [if_neg (by
                    intro z
                    rcases z with z | z
                    · exact k5 (.inr (h91.mp z))
                    · exact k5 (.inl (h40.mp z)))]
                  refine M1.bad ?_
                  rw [rdOp, if_neg]
                  intro h
                  have := openers_has.mp (nb 0 h rfl).1
                  exact k5 this
    · -- what is multiplied
      intro d p b fd w x g hd lw hf
      cases b with
      | nil =>
        show Sim (ends := ends) (timesAt (f + 1) d x p []) fd w [] p _ _
        rw [timesAt_nil]
        exact ⟨[], rfl, g, Nat.le_refl _, (fun c hc => by cases hc), fun R h => h⟩
      | cons c b =>
        have hc := g.head
        rw [by8_cons, timesAt_cons]
        have h42 : (u c = 42) ↔ c = 42 := u_eq hc (by decide : 42 ≤ 255)
        by_cases k1 : c = 42
        · rw [if_pos (h42.mpr k1)]
          have ho : opens (42 :: w) = opens w := by
            unfold opens
            rw [List.filter_cons, if_neg (by decide)]
          have hu : unw 42 (fd ++ post x) w = (fd ++ post x, w) := by
            cases w with
            | nil => rw [unw]
            | cons y w =>
              have := lw y rfl
              rw [unw, if_neg]
              show ¬ (2 : Int) ≤ binds y
              omega
          have up : ∀ R, M1 ends (fd ++ post x) (42 :: w) b (p + 1) R → M2 ends (fd ++ post x) w (c :: b) p R := fun R h => by
            subst k1
            exact M2.op (by decide) (rdCl_op (.inl rfl)) (he 42 (by decide)) hu h
          have lb : (c :: b).length = b.length + 1 := rfl
          have hF := iF d (p + 1) b (fd ++ post x) (42 :: w) g.tail (by rw [ho]; exact hd) (by omega)
          cases e1 : factorAt f d (p + 1) (by8 b) with
          | error k =>
            rw [e1] at hF
            exact up _ hF
          | ok z =>
            obtain ⟨y, q, r⟩ := z
            rw [e1] at hF
            obtain ⟨b1, rfl, g1, l1, l2, hM⟩ := hF
            dsimp only
            have hX := iX d q b1 fd w (.times x y) g1 hd lw (by omega)
            have turn : ∀ R, M2 ends (fd ++ post (.times x y)) w b1 q R → M2 ends (fd ++ post x) w (c :: b) p R := fun R h => by
              refine up R (hM R (M2.pend (by decide) (fun z _ hz => ?_) ?_))
              · rcases ops_has.mp hz with k | k | k <;> subst k <;> decide
              · rw [post, ← List.append_assoc, ← List.append_assoc] at h
                exact h
            revert hX
            generalize timesAt f d (.times x y) q (by8 b1) = res
            intro hX
            cases res with
            | error k => exact turn _ hX
            | ok z =>
              obtain ⟨x2, q2, r2⟩ := z
              obtain ⟨b2, rfl, g2, l3, nt, hM2⟩ := hX
              exact ⟨b2, rfl, g2, by omega, nt, fun R h => turn R (hM2 R h)⟩
        · rw [if_neg (fun z => k1 (h42.mp z))]
          exact ⟨c :: b, rfl, g, Nat.le_refl _, (fun y hy => by cases hy; exact k1), fun R h => h⟩
    · -- a term
      intro d p b fd w g hd lw hf
      rw [termAt_succ]
      have hF := iF d p b fd w g hd (by omega)
      cases e1 : factorAt f d p (by8 b) with
      | error k => rw [e1] at hF; exact hF
      | ok z =>
        obtain ⟨y, q, r⟩ := z
        rw [e1] at hF
        obtain ⟨b1, rfl, g1, l1, l2, hM⟩ := hF
        dsimp only
        have hX := iX d q b1 fd w y g1 hd lw (by omega)
        revert hX
        generalize timesAt f d y q (by8 b1) = res
        intro hX
        cases res with
        | error k => exact hM _ hX
        | ok z =>
          obtain ⟨x2, q2, r2⟩ := z
          obtain ⟨b2, rfl, g2, l3, nt, hM2⟩ := hX
          exact ⟨b2, rfl, g2, by omega, ⟨by omega, nt⟩, fun R h => hM R (hM2 R h)⟩
    · -- what is added
      intro d p b fd w x g hd lw nt0 hf
      cases b with
      | nil =>
        show Sim (ends := ends) (sumAt (f + 1) d x p []) fd w [] p _ _
        rw [sumAt_nil]
        exact ⟨[], rfl, g, Nat.le_refl _, (fun c hc => by cases hc), fun R h => h⟩
      | cons c b =>
        have hc := g.head
        rw [by8_cons, sumAt_cons]
        have h43 : (u c = 43) ↔ c = 43 := u_eq hc (by decide : 43 ≤ 255)
        have h45 : (u c = 45) ↔ c = 45 := u_eq hc (by decide : 45 ≤ 255)
        have lb : (c :: b).length = b.length + 1 := rfl
        have go : ∀ (o : Int) (mk : Ex → Ex), (o = 43 ∨ o = 45) → (∀ y, post (mk y) = post x ++ post y ++ [(o, 0)]) → c = o →
            Sim (ends := ends) (match termAt f d (p + 1) (by8 b) with
              | .error k => .error k
              | .ok (y, q, e) => sumAt f d (mk y) q e) fd w (c :: b) p NoOp (M2 ends (fd ++ post x) w (c :: b) p) := by
          intro o mk hov hpost hco
          have bo : binds o = 1 := by rcases hov with k | k <;> subst k <;> decide
          have hno : openersL.contains o = false := by rcases hov with k | k <;> subst k <;> decide
          have ho : opens (o :: w) = opens w := by
            unfold opens
            rw [List.filter_cons, if_neg (by rw [hno]; exact Bool.false_ne_true)]
          have hu : unw o (fd ++ post x) w = (fd ++ post x, w) := by
            cases w with
            | nil => rw [unw]
            | cons y w =>
              have := lw y rfl
              rw [unw, if_neg]
              omega
          have up : ∀ R, M1 ends (fd ++ post x) (o :: w) b (p + 1) R → M2 ends (fd ++ post x) w (c :: b) p R := fun R h => by
            subst hco
            have hops : opsL.contains c = true := ops_has.mpr (by omega)
            exact M2.op hops (rdCl_op (by omega)) (he c hops) hu h
          have hT := iT d (p + 1) b (fd ++ post x) (o :: w) g.tail (by rw [ho]; exact hd) (by intro z hz; cases hz; rw [bo]; decide) (by omega)
          cases e1 : termAt f d (p + 1) (by8 b) with
          | error k =>
            rw [e1] at hT
            exact up _ hT
          | ok z =>
            obtain ⟨y, q, r⟩ := z
            rw [e1] at hT
            obtain ⟨b1, rfl, g1, l1, ⟨l2, nt1⟩, hM⟩ := hT
            dsimp only
            have hS := iS d q b1 fd w (mk y) g1 hd lw nt1 (by omega)
            have turn : ∀ R, M2 ends (fd ++ post (mk y)) w b1 q R → M2 ends (fd ++ post x) w (c :: b) p R := fun R h => by
              refine up R (hM R (M2.pend hno (fun z hz1 hz => ?_) ?_))
              · have n42 := nt1 z hz1
                rw [bo]
                rcases ops_has.mp hz with k | k | k
                · exact absurd k n42
                · subst k; decide
                · subst k; decide
              · rw [hpost, ← List.append_assoc, ← List.append_assoc] at h
                exact h
            revert hS
            generalize sumAt f d (mk y) q (by8 b1) = res
            intro hS
            cases res with
            | error k => exact turn _ hS
            | ok z =>
              obtain ⟨x2, q2, r2⟩ := z
              obtain ⟨b2, rfl, g2, l3, nt, hM2⟩ := hS
              exact ⟨b2, rfl, g2, by omega, nt, fun R h => turn R (hM2 R h)⟩
        by_cases k1 : c = 43
        · rw [if_pos (h43.mpr k1)]
          exact go 43 (fun y => .plus x y) (.inl rfl) (fun y => rfl) k1
        · rw [if_neg (fun z => k1 (h43.mp z))]
          by_cases k2 : c = 45
          · rw [if_pos (h45.mpr k2)]
            exact go 45 (fun y => .minus x y) (.inr rfl) (fun y => rfl) k2
          · rw [if_neg (fun z => k2 (h45.mp z))]
            refine ⟨c :: b, rfl, g, Nat.le_refl _, (fun y hy => ?_), fun R h => h⟩
            cases hy
            have k0 := nt0 c rfl
            exact bfalse ops_has (by omega)
    · -- an E
      intro d p b fd w g hd lw hf
      rw [exAt_succ]
      have hT := iT d p b fd w g hd (fun c hc => by have := lw c hc; omega) (by omega)
      cases e1 : termAt f d p (by8 b) with
      | error k => rw [e1] at hT; exact hT
      | ok z =>
        obtain ⟨y, q, r⟩ := z
        rw [e1] at hT
        obtain ⟨b1, rfl, g1, l1, ⟨l2, nt1⟩, hM⟩ := hT
        dsimp only
        have hS := iS d q b1 fd w y g1 hd lw nt1 (by omega)
        revert hS
        generalize sumAt f d y q (by8 b1) = res
        intro hS
        cases res with
        | error k => exact hM _ hS
        | ok z =>
          obtain ⟨x2, q2, r2⟩ := z
          obtain ⟨b2, rfl, g2, l3, nt, hM2⟩ := hS
          exact ⟨b2, rfl, g2, by omega, ⟨by omega, nt⟩, fun R h => hM R (hM2 R h)⟩
/-- **An E read**: as the specification reads it -/
theorem expr_is (b : List Int) (p : Nat) (g : Good b) : match exHere p (by8 b) with
    | .error k => expr ends b p = .bad k
    | .ok (x, q, c) => ∃ b1, c = by8 b1 ∧ Good b1 ∧ b1.length < b.length ∧ expr ends b p = if sees b1 ends = true then .ok (post x, b1, q) else .bad q := by
  have h := (sim he (6 * b.length + 8)).2.2.2.2 0 p b [] [] g rfl (fun c hc => by cases hc) (by omega)
  unfold exHere
  rw [by8_len]
  revert h
  generalize exAt (6 * b.length + 8) 0 p (by8 b) = res
  intro h
  cases res with
  | error k => exact M1.expr h
  | ok z =>
    obtain ⟨x, q, c⟩ := z
    obtain ⟨b1, rfl, g1, _, ⟨l2, no⟩, hM⟩ := h
    refine ⟨b1, rfl, g1, l2, ?_⟩
    have hcl : rdCl b1 ([] ++ post x) [] q = ([] ++ post x, [], b1, q) := by
      cases b1 with
      | nil => rw [rdCl]
      | cons c b1 => rw [rdCl]; rfl
    by_cases hs : sees b1 ends = true
    · rw [if_pos hs]
      refine M1.expr (hM _ ⟨fun z => (by cases z), 0, ?_⟩)
      unfold m2
      rw [hcl]
      dsimp only
      rw [if_pos (by rw [hs]; rfl)]
      unfold rest
      rw [List.map_nil, List.append_nil, List.nil_append]
    · rw [if_neg hs]
      refine M1.expr (hM _ (M2.bad hcl (by rw [Bool.eq_false_iff.mpr hs, Bool.and_false]) no))
end
end Ab
namespace Ab
open Na
theorem word_cons (c : Int) (w b : List Int) (p : Nat) : word (c :: w) b p = match b with
    | [] => .bad p
    | d :: b1 => if c = d then word w b1 (p + 1) else .bad p := by
  rw [word]
  cases b with
  | nil => rfl
  | cons d b1 =>
    rw [nx_cons]
    dsimp only
    by_cases h : c = d
    · rw [if_pos h, if_pos (by simp [h])]
    · rw [if_neg h, if_neg (by simp; omega)]
theorem word_is : ∀ (w b : List Int) (p : Nat), Good w → Good b → match expect (by8 w) p (by8 b) with
    | .error k => word w b p = .bad k
    | .ok (_, q, c) => ∃ b1, c = by8 b1 ∧ Good b1 ∧ b.length = w.length + b1.length ∧ word w b p = .ok (b1, q)
  | [], b, p, _, g => ⟨b, rfl, g, by simp, rfl⟩
  | c :: w, [], p, _, g => rfl
  | c :: w, d :: b, p, gw, g => by
    have ih := word_is w b (p + 1) gw.tail g.tail
    rw [word_cons]
    show match (if u c = u d then expect (by8 w) (p + 1) (by8 b) else .error p) with
      | .error k => _
      | .ok (_, q, e) => _
    have heq : (u c = u d) ↔ c = d := by
      constructor
      · intro z
        have := congrArg UInt8.toNat z
        rw [u_nat gw.head, u_nat g.head] at this
        have h1 := gw.head
        have h2 := g.head
        omega
      · intro z; rw [z]
    dsimp only
    by_cases h : c = d
    · rw [if_pos h, if_pos (heq.mpr h)]
      revert ih
      generalize expect (by8 w) (p + 1) (by8 b) = res
      intro ih
      cases res with
      | error k => exact ih
      | ok z =>
        obtain ⟨b1, h1, h2, h3, h4⟩ := ih
        refine ⟨b1, h1, h2, ?_, h4⟩
        show b.length + 1 = w.length + 1 + b1.length
        omega
    · rw [if_neg h, if_neg (fun z => h (heq.mp z))]
def tri : Cmp → Bool × Bool × Bool
  | .eq => (false, true, false)
  | .lt => (true, false, false)
  | .gt => (false, false, true)
  | .le => (true, true, false)
  | .ge => (false, true, true)
  | .ne => (true, false, true)
theorem cmpAt_nil (p) : cmpAt p [] = .error p := by
  rw [cmpAt] <;> (intro l h; cases h)
theorem cmpAt_eq (p l) : cmpAt p (61 :: l) = .ok (.eq, p + 1, l) := by rw [cmpAt]
theorem cmpAt_other (p) (c : UInt8) (l : Bytes) (h1 : c ≠ 61) (h2 : c ≠ 60) (h3 : c ≠ 62) : cmpAt p (c :: l) = .error p := by
  rw [cmpAt]
  · intro l h; cases h; exact h1 rfl
  · intro l h; cases h; exact h2 rfl
  · intro l h; cases h; exact h2 rfl
  · intro l h; cases h; exact h2 rfl
  · intro l h; cases h; exact h3 rfl
  · intro l h; cases h; exact h3 rfl
theorem cmpAt_lt (p) (l : Bytes) : cmpAt p (60 :: l) = match l with
    | [] => .ok (.lt, p + 1, [])
    | d :: m => if d = 61 then .ok (.le, p + 2, m) else if d = 62 then .ok (.ne, p + 2, m) else .ok (.lt, p + 1, d :: m) := by
  cases l with
  | nil => rw [cmpAt] <;> (intro l h; cases h)
  | cons d m =>
    dsimp only
    by_cases h : d = 61
    · rw [if_pos h]; subst h; rw [cmpAt]
    · rw [if_neg h]
      by_cases h2 : d = 62
      · rw [if_pos h2]; subst h2; rw [cmpAt]
      · rw [if_neg h2, cmpAt]
        · intro l e; cases e; exact h rfl
        · intro l e; cases e; exact h2 rfl
theorem cmpAt_gt (p) (l : Bytes) : cmpAt p (62 :: l) = match l with
    | [] => .ok (.gt, p + 1, [])
    | d :: m => if d = 61 then .ok (.ge, p + 2, m) else .ok (.gt, p + 1, d :: m) := by
  cases l with
  | nil => rw [cmpAt] <;> (intro l h; cases h)
  | cons d m =>
    dsimp only
    by_cases h : d = 61
    · rw [if_pos h]; subst h; rw [cmpAt]
    · rw [if_neg h, cmpAt]
      intro l e; cases e; exact h rfl
theorem cmp_cons (c : Int) (b : List Int) (p : Nat) : cmp (c :: b) p = if c = 61 then .ok ((false, true, false), b, p + 1)
    else if c = 62 then (match b with
      | [] => .ok ((false, false, true), [], p + 1)
      | d :: b1 => if d = 61 then .ok ((false, true, true), b1, p + 2) else .ok ((false, false, true), d :: b1, p + 1))
    else if c = 60 then (match b with
      | [] => .ok ((true, false, false), [], p + 1)
      | d :: b1 => if d = 61 then .ok ((true, true, false), b1, p + 2) else if d = 62 then .ok ((true, false, true), b1, p + 2) else .ok ((true, false, false), d :: b1, p + 1))
    else .bad p := rfl
theorem cmp_is (b : List Int) (p : Nat) (g : Good b) : match cmpAt p (by8 b) with
    | .error k => cmp b p = .bad k
    | .ok (y, q, c) => ∃ b1, c = by8 b1 ∧ Good b1 ∧ b1.length < b.length ∧ cmp b p = .ok (tri y, b1, q) := by
  cases b with
  | nil =>
    have e : cmpAt p (by8 []) = .error p := cmpAt_nil p
    rw [e]
    rfl
  | cons c b =>
    have hc := g.head
    have h61 : (u c = 61) ↔ c = 61 := u_eq hc (by decide : 61 ≤ 255)
    have h60 : (u c = 60) ↔ c = 60 := u_eq hc (by decide : 60 ≤ 255)
    have h62 : (u c = 62) ↔ c = 62 := u_eq hc (by decide : 62 ≤ 255)
    rw [by8_cons, cmp_cons]
    by_cases k1 : c = 61
    · rw [h61.mpr k1, cmpAt_eq, if_pos k1]
      exact ⟨b, rfl, g.tail, Nat.lt_succ_self _, rfl⟩
    · rw [if_neg k1]
      by_cases k2 : c = 62
      · rw [h62.mpr k2, cmpAt_gt, if_pos k2]
        cases b with
        | nil => exact ⟨[], rfl, g.tail, Nat.lt_succ_self _, rfl⟩
        | cons d m =>
          rw [by8_cons]
          dsimp only
          have g2 := g.tail
          have d61 : (u d = 61) ↔ d = 61 := u_eq g2.head (by decide : 61 ≤ 255)
          by_cases k3 : d = 61
          · rw [if_pos (d61.mpr k3), if_pos k3]
            exact ⟨m, rfl, g2.tail, by show m.length < m.length + 1 + 1; omega, rfl⟩
          · rw [if_neg (fun z => k3 (d61.mp z)), if_neg k3]
            exact ⟨d :: m, rfl, g2, Nat.lt_succ_self _, rfl⟩
      · rw [if_neg k2]
        by_cases k3 : c = 60
        · rw [h60.mpr k3, cmpAt_lt, if_pos k3]
          cases b with
          | nil => exact ⟨[], rfl, g.tail, Nat.lt_succ_self _, rfl⟩
          | cons d m =>
            rw [by8_cons]
            dsimp only
            have g2 := g.tail
            have d61 : (u d = 61) ↔ d = 61 := u_eq g2.head (by decide : 61 ≤ 255)
            have d62 : (u d = 62) ↔ d = 62 := u_eq g2.head (by decide : 62 ≤ 255)
            by_cases k4 : d = 61
            · rw [if_pos (d61.mpr k4), if_pos k4]
              exact ⟨m, rfl, g2.tail, by show m.length < m.length + 1 + 1; omega, rfl⟩
            · rw [if_neg (fun z => k4 (d61.mp z)), if_neg k4]
              by_cases k5 : d = 62
              · rw [if_pos (d62.mpr k5), if_pos k5]
                exact ⟨m, rfl, g2.tail, by show m.length < m.length + 1 + 1; omega, rfl⟩
              · rw [if_neg (fun z => k5 (d62.mp z)), if_neg k5]
                exact ⟨d :: m, rfl, g2, Nat.lt_succ_self _, rfl⟩
        · rw [if_neg k3, cmpAt_other p (u c) (by8 b) (fun z => k1 (h61.mp z)) (fun z => k3 (h60.mp z)) (fun z => k2 (h62.mp z))]
theorem cmp_not (b : List Int) (p : Nat) (h : sees b [60, 61, 62] = false) : cmp b p = .bad p := by
  cases b with
  | nil => rfl
  | cons c b =>
    have h1 : ¬ (c = 60 ∨ c = 61 ∨ c = 62) := by
      intro z
      have : ([60, 61, 62] : List Int).contains c = true := by simpa using z
      rw [sees_cons, this] at h
      cases h
    rw [cmp_cons, if_neg (by omega), if_neg (by omega), if_neg (by omega)]
def ttest (t : Test) : Items × (Bool × Bool × Bool) × Items := (post t.a, tri t.cmp, post t.b)
theorem ends1 : Ends [60, 61, 62] := by
  intro c h
  rcases ops_has.mp h with k | k | k <;> subst k <;> decide
theorem ends2 : Ends [32, 10] := by
  intro c h
  rcases ops_has.mp h with k | k | k <;> subst k <;> decide
theorem ends3 : Ends [32] := by
  intro c h
  rcases ops_has.mp h with k | k | k <;> subst k <;> decide
theorem ends4 : Ends [10] := by
  intro c h
  rcases ops_has.mp h with k | k | k <;> subst k <;> decide
theorem testAt_eq (p : Nat) (b : Bytes) : testAt p b = match exHere p b with
    | .error k => .error k
    | .ok (x, q, c) => match cmpAt q c with
      | .error k => .error k
      | .ok (y, q, c) => match exHere q c with
        | .error k => .error k
        | .ok (z, q, c) => .ok (⟨x, y, z⟩, q, c) := by
  unfold testAt
  cases exHere p b with
  | error k => rfl
  | ok z =>
    obtain ⟨x, q, c⟩ := z
    show (do let c ← cmpAt q c; let y ← exHere c.2.1 c.2.2; return ((⟨x, c.1, y.1⟩ : Test), y.2)) = _
    cases h : cmpAt q c with
    | error k => dsimp only; rw [h]; rfl
    | ok z =>
      obtain ⟨y, q, c⟩ := z
      dsimp only
      rw [h]
      show (do let y_1 ← exHere q c; return ((⟨x, y, y_1.1⟩ : Test), y_1.2)) = _
      cases h2 : exHere q c with
      | error k => dsimp only; rw [h2]; rfl
      | ok z => dsimp only; rw [h2]; rfl
theorem testsAt_eq (f p : Nat) (b : Bytes) : testsAt (f + 1) p b = match testAt p b with
    | .error k => .error k
    | .ok (t, q, c) => if c.head? = some 32 then (match expect (ascii " and ") q c with
      | .error k => .error k
      | .ok (_, q, c) => match testsAt f q c with
        | .error k => .error k
        | .ok (l, q, c) => .ok (t :: l, q, c)) else .ok ([t], q, c) := by
  rw [testsAt]
  cases testAt p b with
  | error k => rfl
  | ok z =>
    obtain ⟨t, q, c⟩ := z
    dsimp only
    show (if c.head? = some 32 then (do let w ← expect (ascii " and ") q c; let r ← testsAt f w.2.1 w.2.2; return (t :: r.1, r.2)) else return ([t], q, c)) = _
    by_cases h : c.head? = some 32
    · rw [if_pos h, if_pos h]
      cases h2 : expect (ascii " and ") q c with
      | error k => rfl
      | ok z =>
        obtain ⟨_, q, c⟩ := z
        dsimp only
        show (do let r ← testsAt f q c; return (t :: r.1, r.2)) = _
        cases h3 : testsAt f q c with
        | error k => rfl
        | ok z => rfl
    · rw [if_neg h, if_neg h]
      rfl
theorem and_ascii : ascii " and " = by8 andL := by decide
theorem goodL {l : List Int} (h : l.all (fun c => decide (0 ≤ c) && decide (c ≤ 255)) = true) : Good l := fun c hc => by
  have := List.all_eq_true.mp h c hc
  rw [Bool.and_eq_true, decide_eq_true_eq, decide_eq_true_eq] at this
  exact this
theorem sees_one {b : List Int} {k : Nat} (g : Good b) (hk : k ≤ 255) : sees b [(k : Int)] = true ↔ (by8 b).head? = some (UInt8.ofNat k) := by
  cases b with
  | nil => exact ⟨fun h => (by cases h), fun h => (by cases h)⟩
  | cons c b =>
    rw [sees_cons, by8_cons]
    have q := u_eq g.head hk
    simp only [List.head?_cons, Option.some.injEq, q, List.contains_iff_mem, List.mem_cons, List.not_mem_nil, or_false]
theorem cond_is : ∀ (f : Nat) (b : List Int) (p : Nat) (ts : Tests), Good b → b.length < f → match testsAt f p (by8 b) with
    | .error k => cdL f ts b p = .bad k
    | .ok (l, q, c) => ∃ b1, c = by8 b1 ∧ Good b1 ∧ b1.length < b.length ∧ cdL f ts b p = if sees b1 [10] = true then .ok (ts ++ l.map ttest, b1, q) else .bad q
  | 0, b, p, ts, _, h => absurd h (Nat.not_lt_zero _)
  | f + 1, b, p, ts, g, hf => by
    rw [testsAt_eq, testAt_eq, cdL]
    have e1 := expr_is ends1 b p g
    revert e1
    generalize exHere p (by8 b) = r1
    intro e1
    cases r1 with
    | error k => dsimp only at e1 ⊢; rw [e1]
    | ok z =>
      obtain ⟨x, q1, c1⟩ := z
      obtain ⟨b1, rfl, g1, l1, e1⟩ := e1
      dsimp only
      rw [e1]
      have e2 := cmp_is b1 q1 g1
      by_cases hs : sees b1 [60, 61, 62] = true
      · rw [if_pos hs]
        dsimp only
        revert e2
        generalize cmpAt q1 (by8 b1) = r2
        intro e2
        cases r2 with
        | error k => dsimp only at e2 ⊢; rw [e2]
        | ok z =>
          obtain ⟨y, q2, c2⟩ := z
          obtain ⟨b2, rfl, g2, l2, e2⟩ := e2
          dsimp only
          rw [e2]
          dsimp only
          have e3 := expr_is ends2 b2 q2 g2
          revert e3
          generalize exHere q2 (by8 b2) = r3
          intro e3
          cases r3 with
          | error k => dsimp only at e3 ⊢; rw [e3]
          | ok z =>
            obtain ⟨z, q3, c3⟩ := z
            obtain ⟨b3, rfl, g3, l3, e3⟩ := e3
            dsimp only
            rw [e3]
            have hd32 : (by8 b3).head? = some 32 ↔ sees b3 [32] = true := (sees_one (k := 32) g3 (by decide)).symm
            by_cases h32 : sees b3 [32] = true
            · have hs2 : sees b3 [32, 10] = true := by
                cases b3 with
                | nil => cases h32
                | cons c b3 =>
                  rw [sees_cons] at h32 ⊢
                  simp only [List.contains_iff_mem, List.mem_cons, List.not_mem_nil, or_false] at h32 ⊢
                  exact .inl h32
              rw [if_pos hs2, if_pos (hd32.mpr h32)]
              dsimp only
              rw [if_pos h32, and_ascii]
              have e4 := word_is andL b3 q3 (goodL (by decide)) g3
              revert e4
              generalize expect (by8 andL) q3 (by8 b3) = r4
              intro e4
              cases r4 with
              | error k => dsimp only at e4 ⊢; rw [e4]
              | ok z =>
                obtain ⟨_, q4, c4⟩ := z
                obtain ⟨b4, rfl, g4, l4, e4⟩ := e4
                dsimp only
                rw [e4]
                dsimp only
                have l5 : andL.length = 5 := rfl
                have ih := cond_is f b4 q4 (ts ++ [(post x, tri y, post z)]) g4 (by omega)
                revert ih
                generalize testsAt f q4 (by8 b4) = r5
                intro ih
                cases r5 with
                | error k => exact ih
                | ok w =>
                  obtain ⟨l, q5, c5⟩ := w
                  obtain ⟨b5, rfl, g5, l6, ih⟩ := ih
                  refine ⟨b5, rfl, g5, by omega, ?_⟩
                  rw [ih]
                  simp [ttest, List.append_assoc]
            · rw [if_neg (fun z => h32 (hd32.mp z))]
              refine ⟨b3, rfl, g3, by omega, ?_⟩
              by_cases h10 : sees b3 [10] = true
              · have hs2 : sees b3 [32, 10] = true := by
                  cases b3 with
                  | nil => cases h10
                  | cons c b3 =>
                    rw [sees_cons] at h10 ⊢
                    simp only [List.contains_iff_mem, List.mem_cons, List.not_mem_nil, or_false] at h10 ⊢
                    exact .inr h10
                rw [if_pos hs2, if_pos h10]
                dsimp only
                rw [if_neg h32]
                rfl
              · have hs2 : ¬ sees b3 [32, 10] = true := by
                  intro z
                  cases b3 with
                  | nil => cases z
                  | cons c b3 =>
                    rw [sees_cons] at h10 h32 z
                    simp only [List.contains_iff_mem, List.mem_cons, List.not_mem_nil, or_false] at h10 h32 z
                    rcases z with z | z
                    · exact h32 z
                    · exact h10 z
                rw [if_neg hs2, if_neg h10]
      · rw [if_neg hs]
        have e3 := cmp_not b1 q1 (Bool.eq_false_iff.mpr hs)
        revert e2
        generalize cmpAt q1 (by8 b1) = r2
        intro e2
        cases r2 with
        | error k =>
          dsimp only at e2 ⊢
          rw [e3] at e2
          cases e2
          rfl
        | ok z =>
          obtain ⟨y, q2, c2⟩ := z
          obtain ⟨b2, _, _, _, e2⟩ := e2
          rw [e3] at e2
          cases e2
end Ab
namespace Ab
open Na
/-! ### words -/
theorem oneOf_single {A : Type} (k : A) : ∀ (w : Bytes) (f p : Nat) (b : Bytes), w.length < f → oneOf f [(w, k)] p b = match expect w p b with
    | .error e => .error e
    | .ok (_, q, c) => .ok (k, q, c)
  | [], f + 1, p, b, _ => rfl
  | c :: w, 0, p, b, h => absurd h (Nat.not_lt_zero _)
  | c :: w, f + 1, p, [], _ => rfl
  | c :: w, f + 1, p, d :: b, h => by
    rw [oneOf]
    show (if (List.filterMap (fun x : Bytes × A => match x.1 with
          | e :: r => if d = e then some (r, x.2) else none
          | [] => none) [(c :: w, k)]).isEmpty = true then Except.error p else oneOf f (List.filterMap (fun x : Bytes × A => match x.1 with
          | e :: r => if d = e then some (r, x.2) else none
          | [] => none) [(c :: w, k)]) (p + 1) b) = _
    show _ = match (if c = d then expect w (p + 1) b else Except.error p) with
      | .error e => Except.error e
      | .ok (_, q, c) => Except.ok (k, q, c)
    by_cases e : d = c
    · have e2 : (List.filterMap (fun x : Bytes × A => match x.1 with
          | e :: r => if d = e then some (r, x.2) else none
          | [] => none) [(c :: w, k)]) = [(w, k)] := by simp [e]
      rw [e2, if_pos e.symm]
      exact oneOf_single k w f (p + 1) b (Nat.lt_of_succ_lt_succ h)
    · have e2 : (List.filterMap (fun x : Bytes × A => match x.1 with
          | e :: r => if d = e then some (r, x.2) else none
          | [] => none) [(c :: w, k)]) = [] := by simp [e]
      rw [e2, if_pos (show ([] : List (Bytes × A)).isEmpty = true from rfl), if_neg (fun z => e z.symm)]
/-- the words, by the three things that are asked of what's open -/
def wordsB (a i e : Bool) : List (Bytes × Kw) := [(ascii "add ", .add), (ascii "take ", .take), (ascii "set ", .set), (ascii "stop", .halt_), (ascii "fail", .fail)] ++ ((if a = true then [(ascii "if ", .if_), (ascii "while ", .while_)] else []) ++ ((if i = true then [(ascii "else", .else_)] else []) ++ if e = true then [] else [(ascii "end", .end_)]))
theorem words_is (o : List Nat) : words_ o = wordsB (decide (o.length < OPEN)) (decide (o.head? = some 1)) o.isEmpty := by
  unfold words_ wordsB
  simp only [decide_eq_true_eq]
def firstB (a e : Bool) : List Int := [97, 116, 115, 102] ++ (if a = true then [105, 119] else []) ++ (if e = true then [] else [101])
/-- what is left to be read of the word behind its first byte -/
def kwRest : Kw → List Int
  | .add => [100, 100, 32]
  | .take => [97, 107, 101, 32]
  | .set => [116, 32]
  | .halt_ => [111, 112]
  | .fail => [97, 105, 108]
  | .if_ => [102, 32]
  | .while_ => [104, 105, 108, 101, 32]
  | .else_ => [115, 101]
  | .end_ => [100]
abbrev RK := Except Nat (Kw × (Nat × Bytes))
def kwThen (k : Kw) (p : Nat) (b : Bytes) : RK := match expect (by8 (kwRest k)) p b with
    | .error e => .error e
    | .ok (_, q, c) => .ok (k, q, c)
theorem oneOf_nil (f : Nat) (W : List (Bytes × Kw)) (p : Nat) (h : (W.find? fun x => x.1.isEmpty) = none) : oneOf (f + 1) W p [] = .error p := by
  rw [oneOf, h]
def step1 (W : List (Bytes × Kw)) (c : UInt8) : List (Bytes × Kw) := W.filterMap fun (x : Bytes × Kw) => match x.1 with
          | d :: r => if c = d then some (r, x.2) else none
          | [] => none
theorem oneOf_cons (f : Nat) (W : List (Bytes × Kw)) (p : Nat) (c : UInt8) (l : Bytes) (h : (W.find? fun x => x.1.isEmpty) = none) : oneOf (f + 1) W p (c :: l) = if (step1 W c).isEmpty = true then .error p else oneOf f (step1 W c) (p + 1) l := by
  rw [oneOf, h]
  rfl
theorem wordsB_full (a i e : Bool) : ((wordsB a i e).find? fun x => x.1.isEmpty) = none := by revert a i e; decide
theorem st_a (a i e : Bool) : step1 (wordsB a i e) 97 = [(by8 (kwRest .add), .add)] := by revert a i e; decide
theorem st_t (a i e : Bool) : step1 (wordsB a i e) 116 = [(by8 (kwRest .take), .take)] := by revert a i e; decide
theorem st_f (a i e : Bool) : step1 (wordsB a i e) 102 = [(by8 (kwRest .fail), .fail)] := by revert a i e; decide
theorem st_s (a i e : Bool) : step1 (wordsB a i e) 115 = [(101 :: by8 (kwRest .set), .set), (116 :: by8 (kwRest .halt_), .halt_)] := by revert a i e; decide
theorem st_i (i e : Bool) : step1 (wordsB true i e) 105 = [(by8 (kwRest .if_), .if_)] := by revert i e; decide
theorem st_w (i e : Bool) : step1 (wordsB true i e) 119 = [(by8 (kwRest .while_), .while_)] := by revert i e; decide
theorem st_i0 (i e : Bool) : step1 (wordsB false i e) 105 = [] := by revert i e; decide
theorem st_w0 (i e : Bool) : step1 (wordsB false i e) 119 = [] := by revert i e; decide
theorem st_e0 (a : Bool) : step1 (wordsB a false true) 101 = [] := by revert a; decide
theorem st_e1 (a : Bool) : step1 (wordsB a false false) 101 = [(110 :: by8 (kwRest .end_), .end_)] := by revert a; decide
theorem st_e2 (a : Bool) : step1 (wordsB a true false) 101 = [(108 :: by8 (kwRest .else_), .else_), (110 :: by8 (kwRest .end_), .end_)] := by revert a; decide
theorem st_other (a i e : Bool) (c : UInt8) (h : c ≠ 97 ∧ c ≠ 116 ∧ c ≠ 115 ∧ c ≠ 102 ∧ c ≠ 105 ∧ c ≠ 119 ∧ c ≠ 101) : step1 (wordsB a i e) c = [] := by
  obtain ⟨h1, h2, h3, h4, h5, h6, h7⟩ := h
  have e1 : ascii "add " = 97 :: [100, 100, 32] := by decide
  have e2 : ascii "take " = 116 :: [97, 107, 101, 32] := by decide
  have e3 : ascii "set " = 115 :: [101, 116, 32] := by decide
  have e4 : ascii "stop" = 115 :: [116, 111, 112] := by decide
  have e5 : ascii "fail" = 102 :: [97, 105, 108] := by decide
  have e6 : ascii "if " = 105 :: [102, 32] := by decide
  have e7 : ascii "while " = 119 :: [104, 105, 108, 101, 32] := by decide
  have e8 : ascii "else" = 101 :: [108, 115, 101] := by decide
  have e9 : ascii "end" = 101 :: [110, 100] := by decide
  unfold step1 wordsB
  rw [e1, e2, e3, e4, e5, e6, e7, e8, e9]
  cases a <;> cases i <;> cases e <;> simp [h1, h2, h3, h4, h5, h6, h7]
/-! ### a line -/
def partOf : Line → Part
  | .add e r => .two (post e) (post r)
  | .take e r => .two (post e) (post r)
  | .set k e => .set (k : Int) (post e)
  | .if_ c => .tests (c.map ttest)
  | .while_ c => .tests (c.map ttest)
  | _ => .nil
def codeOf : Line → Nat
  | .add _ _ => 0
  | .take _ _ => 1
  | .set _ _ => 2
  | .if_ _ => 3
  | .else_ => 4
  | .end_ => 5
  | .while_ _ => 6
  | .halt_ => 7
  | .fail => 8
def stepL (s : LS) (l : Line) : LS := match l with
  | .if_ _ => s.opened 3 (partOf l)
  | .while_ _ => s.opened 6 (partOf l)
  | .else_ => s.putElse
  | .end_ => s.putEnd
  | _ => s.put (codeOf l) (partOf l)
def flag (ws : List Nat) (x : Nat × Option Nat) : Nat := match x.2 with
  | some _ => 2
  | none => if ws[x.1]? = some 3 then 1 else 0
def openOf (s : LS) : List Nat := s.os.map (flag s.ws)
/-- what stands open stands there -/
def Wf (s : LS) : Prop := ∀ x ∈ s.os, x.1 < s.ws.length ∧ (s.ws[x.1]? = some 3 ∨ s.ws[x.1]? = some 6)
abbrev RLine := Except Nat (Line × (Nat × Bytes))
/-- the line behind its keyword -/
def tailAt (k : Kw) (p : Nat) (b : Bytes) : RLine := match k with
  | .add => (match exHere p b with
    | .error k => .error k
    | .ok (x, q, c) => match expect (ascii " at ") q c with
      | .error k => .error k
      | .ok (_, q, c) => match exHere q c with
        | .error k => .error k
        | .ok (y, q, c) => .ok (.add x y, q, c))
  | .take => (match exHere p b with
    | .error k => .error k
    | .ok (x, q, c) => match expect (ascii " at ") q c with
      | .error k => .error k
      | .ok (_, q, c) => match exHere q c with
        | .error k => .error k
        | .ok (y, q, c) => .ok (.take x y, q, c))
  | .set => (match headAt p b with
    | .error k => .error k
    | .ok (h, q, c) => match expect [32] q c with
      | .error k => .error k
      | .ok (_, q, c) => match exHere q c with
        | .error k => .error k
        | .ok (y, q, c) => .ok (.set h y, q, c))
  | .if_ => (match testsAt (b.length + 1) p b with
    | .error k => .error k
    | .ok (t, q, c) => .ok (.if_ t, q, c))
  | .while_ => (match testsAt (b.length + 1) p b with
    | .error k => .error k
    | .ok (t, q, c) => .ok (.while_ t, q, c))
  | .else_ => .ok (.else_, p, b)
  | .end_ => .ok (.end_, p, b)
  | .halt_ => .ok (.halt_, p, b)
  | .fail => .ok (.fail, p, b)
theorem lineAt_eq (o : List Nat) (p : Nat) (b : Bytes) : lineAt o p b = match oneOf 8 (words_ o) p b with
    | .error k => .error k
    | .ok (k, q, c) => tailAt k q c := by
  unfold lineAt
  cases oneOf 8 (words_ o) p b with
  | error k => rfl
  | ok z =>
    obtain ⟨k, q, c⟩ := z
    cases k with
    | add =>
      show (do let e ← exHere q c; let w ← expect (ascii " at ") e.2.1 e.2.2; let r ← exHere w.2.1 w.2.2; return (Line.add e.1 r.1, r.2)) = tailAt .add q c
      unfold tailAt
      cases exHere q c with
      | error k => rfl
      | ok z =>
        obtain ⟨x, q, c⟩ := z
        show (do let w ← expect (ascii " at ") q c; let r ← exHere w.2.1 w.2.2; return (Line.add x r.1, r.2)) = _
        dsimp only
        cases expect (ascii " at ") q c with
        | error k => rfl
        | ok z =>
          obtain ⟨_, q, c⟩ := z
          show (do let r ← exHere q c; return (Line.add x r.1, r.2)) = _
          dsimp only
          cases exHere q c <;> rfl
    | take =>
      show (do let e ← exHere q c; let w ← expect (ascii " at ") e.2.1 e.2.2; let r ← exHere w.2.1 w.2.2; return (Line.take e.1 r.1, r.2)) = tailAt .take q c
      unfold tailAt
      cases exHere q c with
      | error k => rfl
      | ok z =>
        obtain ⟨x, q, c⟩ := z
        show (do let w ← expect (ascii " at ") q c; let r ← exHere w.2.1 w.2.2; return (Line.take x r.1, r.2)) = _
        dsimp only
        cases expect (ascii " at ") q c with
        | error k => rfl
        | ok z =>
          obtain ⟨_, q, c⟩ := z
          show (do let r ← exHere q c; return (Line.take x r.1, r.2)) = _
          dsimp only
          cases exHere q c <;> rfl
    | set =>
      show (do let h ← headAt q c; let w ← expect [32] h.2.1 h.2.2; let e ← exHere w.2.1 w.2.2; return (Line.set h.1 e.1, e.2)) = tailAt .set q c
      unfold tailAt
      cases headAt q c with
      | error k => rfl
      | ok z =>
        obtain ⟨x, q, c⟩ := z
        show (do let w ← expect [32] q c; let r ← exHere w.2.1 w.2.2; return (Line.set x r.1, r.2)) = _
        dsimp only
        cases expect [32] q c with
        | error k => rfl
        | ok z =>
          obtain ⟨_, q, c⟩ := z
          show (do let r ← exHere q c; return (Line.set x r.1, r.2)) = _
          dsimp only
          cases exHere q c <;> rfl
    | if_ =>
      show (do let t ← testsAt (c.length + 1) q c; return (Line.if_ t.1, t.2)) = tailAt .if_ q c
      unfold tailAt
      dsimp only
      cases testsAt (c.length + 1) q c <;> rfl
    | while_ =>
      show (do let t ← testsAt (c.length + 1) q c; return (Line.while_ t.1, t.2)) = tailAt .while_ q c
      unfold tailAt
      dsimp only
      cases testsAt (c.length + 1) q c <;> rfl
    | else_ => rfl
    | end_ => rfl
    | halt_ => rfl
    | fail => rfl
/-- a line and its line feed -/
def lineLf (r : RLine) : RLine := match r with
  | .error k => .error k
  | .ok (l, q, c) => match expect [10] q c with
    | .error k => .error k
    | .ok (_, q, c) => .ok (l, q, c)
/-- the mirror's line, with its line feed -/
def lf (r : RL) : RL := match r with
  | .lost => .lost
  | .bad k => .bad k
  | .ok (s2, b2, p2) => match word [10] b2 p2 with
      | .lost => .lost
      | .bad k => .bad k
      | .ok (b3, p3) => .ok (s2, b3, p3)
def SimL (r : RLine) (m : RL) (n : Nat) (s : LS) : Prop := match r with
  | .error k => m = .bad k
  | .ok (l, q, c) => ∃ b1, c = by8 b1 ∧ Good b1 ∧ b1.length < n ∧ m = .ok (stepL s l, b1, q)
theorem lf_is {l : Line} {q : Nat} {b : List Int} {s : LS} {n : Nat} (g : Good b) (hn : b.length ≤ n) : SimL (lineLf (.ok (l, q, by8 b))) (lf (.ok (stepL s l, b, q))) n s := by
  unfold lineLf lf
  dsimp only
  have h := word_is [10] b q (goodL (by decide)) g
  have e : by8 [10] = [10] := by decide
  rw [e] at h
  revert h
  generalize expect [10] q (by8 b) = r
  intro h
  cases r with
  | error k => dsimp only at h; rw [h]; rfl
  | ok z =>
    obtain ⟨_, q2, c⟩ := z
    obtain ⟨b1, rfl, g1, l1, h⟩ := h
    rw [h]
    have : ([10] : List Int).length = 1 := rfl
    exact ⟨b1, rfl, g1, by omega, rfl⟩
theorem lf_bad {l : Line} {q : Nat} {b : List Int} {s : LS} {n : Nat} (g : Good b) (h : sees b [10] = false) : SimL (lineLf (.ok (l, q, by8 b))) (lf (.bad q)) n s := by
  unfold lineLf lf
  dsimp only
  cases b with
  | nil => rfl
  | cons c b =>
    have h10 : (10 = u c) ↔ c = 10 := by
      constructor
      · intro z; exact (u_eq g.head (by decide : 10 ≤ 255)).mp z.symm
      · intro z; exact ((u_eq g.head (by decide : 10 ≤ 255)).mpr z).symm
    have hc : c ≠ 10 := by
      intro z
      rw [sees_cons] at h
      subst z
      exact absurd h (by decide)
    show SimL (match (if (10 : UInt8) = u c then expect [] (q + 1) (by8 b) else .error q) with
      | .error k => .error k
      | .ok (_, q, c) => .ok (l, q, c)) _ _ _
    rw [if_neg (fun z => hc (h10.mp z))]
    rfl
theorem at_ascii : ascii " at " = by8 [32, 97, 116, 32] := by decide
theorem sees_at {b : List Int} {p : Nat} (g : Good b) (h : sees b [32] = false) : expect (ascii " at ") p (by8 b) = .error p := by
  rw [at_ascii]
  cases b with
  | nil => rfl
  | cons c b =>
    have h32 : (32 = u c) ↔ c = 32 := by
      constructor
      · intro z; exact (u_eq g.head (by decide : 32 ≤ 255)).mp z.symm
      · intro z; exact ((u_eq g.head (by decide : 32 ≤ 255)).mpr z).symm
    have hc : c ≠ 32 := by
      intro z
      rw [sees_cons] at h
      subst z
      exact absurd h (by decide)
    show (if (32 : UInt8) = u c then expect (by8 [97, 116, 32]) (p + 1) (by8 b) else .error p) = _
    rw [if_neg (fun z => hc (h32.mp z))]
/-- add and take -/
theorem change_tail (k : Kw) (mk : Ex → Ex → Line) (hk : k = .add ∧ mk = .add ∨ k = .take ∧ mk = .take) (s : LS) (b : List Int) (p : Nat) (n w : Nat) (g : Good b) (hn : b.length ≤ n) (hs : ∀ x y, stepL s (mk x y) = s.put w (.two (post x) (post y))) :
    SimL (lineLf (tailAt k p (by8 b))) (lf (match expr [32] b p with
    | .lost => .lost
    | .bad k => .bad k
    | .ok (x, b2, p2) => match word [32, 97, 116, 32] b2 p2 with
      | .lost => .lost
      | .bad k => .bad k
      | .ok (b3, p3) => match expr [10] b3 p3 with
        | .lost => .lost
        | .bad k => .bad k
        | .ok (y, b4, p4) => .ok (s.put w (.two x y), b4, p4))) n s := by
  have ht : tailAt k p (by8 b) = match exHere p (by8 b) with
    | .error k => .error k
    | .ok (x, q, c) => match expect (ascii " at ") q c with
      | .error k => .error k
      | .ok (_, q, c) => match exHere q c with
        | .error k => .error k
        | .ok (y, q, c) => .ok (mk x y, q, c) := by
    rcases hk with ⟨rfl, rfl⟩ | ⟨rfl, rfl⟩ <;> rfl
  rw [ht]
  have e1 := expr_is ends3 b p g
  revert e1
  generalize exHere p (by8 b) = r1
  intro e1
  cases r1 with
  | error k => dsimp only at e1 ⊢; rw [e1]; rfl
  | ok z =>
    obtain ⟨x, q1, c1⟩ := z
    obtain ⟨b1, rfl, g1, l1, e1⟩ := e1
    dsimp only
    rw [e1]
    by_cases hs1 : sees b1 [32] = true
    · rw [if_pos hs1, at_ascii]
      dsimp only
      have e2 := word_is [32, 97, 116, 32] b1 q1 (goodL (by decide)) g1
      revert e2
      generalize expect (by8 [32, 97, 116, 32]) q1 (by8 b1) = r2
      intro e2
      cases r2 with
      | error k => dsimp only at e2 ⊢; rw [e2]; rfl
      | ok z =>
        obtain ⟨_, q2, c2⟩ := z
        obtain ⟨b2, rfl, g2, l2, e2⟩ := e2
        have lw : ([32, 97, 116, 32] : List Int).length = 4 := rfl
        dsimp only
        rw [e2]
        dsimp only
        have e3 := expr_is ends4 b2 q2 g2
        revert e3
        generalize exHere q2 (by8 b2) = r3
        intro e3
        cases r3 with
        | error k => dsimp only at e3 ⊢; rw [e3]; rfl
        | ok z =>
          obtain ⟨y, q3, c3⟩ := z
          obtain ⟨b3, rfl, g3, l3, e3⟩ := e3
          dsimp only
          rw [e3]
          by_cases hs3 : sees b3 [10] = true
          · rw [if_pos hs3]
            dsimp only
            rw [← hs x y]
            exact lf_is g3 (by omega)
          · rw [if_neg hs3]
            exact lf_bad g3 (Bool.eq_false_iff.mpr hs3)
    · rw [if_neg hs1, sees_at g1 (Bool.eq_false_iff.mpr hs1)]
      rfl
theorem tests_tail (k : Kw) (mk : List Test → Line) (hk : k = .if_ ∧ mk = .if_ ∨ k = .while_ ∧ mk = .while_) (s : LS) (b : List Int) (p : Nat) (n w : Nat) (g : Good b) (hn : b.length ≤ n) (hs : ∀ x, stepL s (mk x) = s.opened w (.tests (x.map ttest))) :
    SimL (lineLf (tailAt k p (by8 b))) (lf (match cond b p with
    | .lost => .lost
    | .bad k => .bad k
    | .ok (ts, b2, p2) => .ok (s.opened w (.tests ts), b2, p2))) n s := by
  have ht : tailAt k p (by8 b) = match testsAt (b.length + 1) p (by8 b) with
    | .error k => .error k
    | .ok (t, q, c) => .ok (mk t, q, c) := by
    rw [← by8_len b]
    rcases hk with ⟨rfl, rfl⟩ | ⟨rfl, rfl⟩ <;> rfl
  rw [ht]
  have e1 := cond_is (b.length + 1) b p [] g (Nat.lt_succ_self _)
  unfold cond
  revert e1
  generalize testsAt (b.length + 1) p (by8 b) = r1
  intro e1
  cases r1 with
  | error k => dsimp only at e1 ⊢; rw [e1]; rfl
  | ok z =>
    obtain ⟨x, q1, c1⟩ := z
    obtain ⟨b1, rfl, g1, l1, e1⟩ := e1
    dsimp only
    rw [e1]
    by_cases hs1 : sees b1 [10] = true
    · rw [if_pos hs1]
      dsimp only
      rw [List.nil_append, ← hs x]
      exact lf_is g1 (by omega)
    · rw [if_neg hs1]
      exact lf_bad g1 (Bool.eq_false_iff.mpr hs1)
theorem set_tail (s : LS) (b : List Int) (p : Nat) (n : Nat) (g : Good b) (hn : b.length ≤ n) :
    SimL (lineLf (tailAt .set p (by8 b))) (lf (match nx b p headsL with
        | .lost => .lost
        | .bad k => .bad k
        | .ok (h, b3, p3) => match word [32] b3 p3 with
          | .lost => .lost
          | .bad k => .bad k
          | .ok (b4, p4) => match expr [10] b4 p4 with
            | .lost => .lost
            | .bad k => .bad k
            | .ok (x, b5, p5) => .ok (s.put 2 (.set (h - 97) x), b5, p5))) n s := by
  cases b with
  | nil => rfl
  | cons c b =>
    have hc := g.head
    have un := u_nat hc
    rw [nx_cons]
    have hh : headAt p (by8 (c :: b)) = if 97 ≤ c ∧ c ≤ 104 then .ok ((u c).toNat - 97, p + 1, by8 b) else .error p := by
      show (if 97 ≤ (u c).toNat ∧ (u c).toNat ≤ 104 then _ else _) = _
      by_cases k : 97 ≤ c ∧ c ≤ 104
      · rw [if_pos k, if_pos (by rw [un]; omega)]; rfl
      · rw [if_neg k, if_neg (by rw [un]; omega)]
    unfold tailAt
    dsimp only
    rw [hh]
    by_cases k : 97 ≤ c ∧ c ≤ 104
    · rw [if_pos k, if_pos (heads_has.mpr k)]
      dsimp only
      have lb : (c :: b).length = b.length + 1 := rfl
      have e2 := word_is [32] b (p + 1) (goodL (by decide)) g.tail
      have e32 : by8 [32] = [32] := by decide
      rw [e32] at e2
      revert e2
      generalize expect [32] (p + 1) (by8 b) = r2
      intro e2
      cases r2 with
      | error k => dsimp only at e2 ⊢; rw [e2]; rfl
      | ok z =>
        obtain ⟨_, q2, c2⟩ := z
        obtain ⟨b2, rfl, g2, l2, e2⟩ := e2
        have lw : ([32] : List Int).length = 1 := rfl
        dsimp only
        rw [e2]
        dsimp only
        have e3 := expr_is ends4 b2 q2 g2
        revert e3
        generalize exHere q2 (by8 b2) = r3
        intro e3
        cases r3 with
        | error k => dsimp only at e3 ⊢; rw [e3]; rfl
        | ok z =>
          obtain ⟨y, q3, c3⟩ := z
          obtain ⟨b3, rfl, g3, l3, e3⟩ := e3
          dsimp only
          rw [e3]
          by_cases hs3 : sees b3 [10] = true
          · rw [if_pos hs3]
            dsimp only
            have es : s.put 2 (.set (c - 97) (post y)) = stepL s (.set ((u c).toNat - 97) y) := by
              show _ = s.put 2 (.set ((((u c).toNat - 97 : Nat) : Int)) (post y))
              have e4 : c - 97 = (((u c).toNat - 97 : Nat) : Int) := by rw [un]; omega
              rw [e4]
            rw [es]
            exact lf_is g3 (by omega)
          · rw [if_neg hs3]
            exact lf_bad g3 (Bool.eq_false_iff.mpr hs3)
    · rw [if_neg k, if_neg (fun z => k (heads_has.mp z))]
      rfl
/-- a keyword, then its line -/
theorem kw_then (k : Kw) (s : LS) (b : List Int) (p n : Nat) (g : Good b) (hn : b.length ≤ n) (m : List Int → Nat → RL)
    (h : ∀ b1 q, Good b1 → b1.length ≤ n → SimL (lineLf (tailAt k q (by8 b1))) (lf (m b1 q)) n s) :
    SimL (lineLf (match kwThen k p (by8 b) with
      | .error e => .error e
      | .ok (k, q, c) => tailAt k q c)) (lf (match word (kwRest k) b p with
      | .lost => .lost
      | .bad e => .bad e
      | .ok (b1, p1) => m b1 p1)) n s := by
  have gk : Good (kwRest k) := goodL (by cases k <;> decide)
  have e := word_is (kwRest k) b p gk g
  unfold kwThen
  revert e
  generalize expect (by8 (kwRest k)) p (by8 b) = r
  intro e
  cases r with
  | error k => dsimp only at e ⊢; rw [e]; rfl
  | ok z =>
    obtain ⟨_, q, c⟩ := z
    obtain ⟨b1, rfl, g1, l1, e⟩ := e
    dsimp only
    rw [e]
    exact h b1 q g1 (by omega)
end Ab
namespace Ab
open Na
theorem flag_append {ws : List Nat} {k : Nat} {x : Nat × Option Nat} (h : x.1 < ws.length) : flag (ws ++ [k]) x = flag ws x := by
  unfold flag
  rw [List.getElem?_append_left h]
theorem openOf_put {s : LS} (wf : Wf s) (k : Nat) (x : Part) : openOf (s.put k x) = openOf s := by
  unfold openOf
  refine List.map_congr_left fun y hy => ?_
  exact flag_append (wf y hy).1
theorem wf_put {s : LS} (wf : Wf s) (k : Nat) (x : Part) : Wf (s.put k x) := fun y hy => by
  obtain ⟨h1, h2⟩ := wf y hy
  have : (s.put k x).ws = s.ws ++ [k] := rfl
  rw [this, List.length_append, List.getElem?_append_left h1]
  exact ⟨by omega, h2⟩
theorem may_is {s : LS} (wf : Wf s) : s.may = true ↔ (openOf s).head? = some 1 := by
  unfold LS.may openOf
  cases h : s.os with
  | nil => simp
  | cons x r =>
    obtain ⟨b, m⟩ := x
    rw [List.map_cons, List.head?_cons]
    unfold flag
    cases m with
    | none =>
      dsimp only
      by_cases k : s.ws[b]? = some 3
      · rw [if_pos k, k]; simp
      · rw [if_neg k]
        simp [k]
    | some m => simp
theorem openOf_len (s : LS) : (openOf s).length = s.os.length := List.length_map ..
theorem openOf_empty (s : LS) : (openOf s).isEmpty = s.os.isEmpty := by
  unfold openOf
  cases s.os <;> rfl
theorem first_is (s : LS) : s.first = firstB (decide ((openOf s).length < OPEN)) (openOf s).isEmpty := by
  rw [openOf_len, openOf_empty]
  unfold LS.first firstB OPEN
  simp only [decide_eq_true_eq]
theorem firstB_has (a e : Bool) (c : Int) : (firstB a e).contains c = true ↔ c = 97 ∨ c = 116 ∨ c = 115 ∨ c = 102 ∨ (a = true ∧ (c = 105 ∨ c = 119)) ∨ (e = false ∧ c = 101) := by
  unfold firstB
  cases a <;> cases e <;> simp <;> omega
/-- **a line**: as the specification reads it -/
theorem line_is (s : LS) (b : List Int) (p : Nat) (wf : Wf s) (g : Good b) (hb : b.isEmpty = false) : SimL (lineLf (lineAt (openOf s) p (by8 b))) (rdLine s b p) b.length s := by
  have hl : rdLine s b p = match nx b p s.first with
      | .lost => .lost
      | .bad k => .bad k
      | .ok (c, b1, p1) => lf (rdBody s c b1 p1) := rfl
  rw [hl, lineAt_eq, words_is, first_is]
  cases b with
  | nil => cases hb
  | cons c b =>
    have hc := g.head
    have gt := g.tail
    rw [nx_cons, by8_cons, oneOf_cons 7 _ _ _ _ (wordsB_full _ _ _)]
    have uq : ∀ k : Nat, k ≤ 255 → (u c = UInt8.ofNat k ↔ c = (k : Int)) := fun k hk => u_eq hc hk
    have lb : (c :: b).length = b.length + 1 := rfl
    have single : ∀ (k : Kw) (m : List Int → Nat → RL) (f : Nat) (b0 : List Int) (p0 : Nat), 5 < f → Good b0 → b0.length ≤ (c :: b).length → (∀ b1 q, Good b1 → b1.length ≤ (c :: b).length → SimL (lineLf (tailAt k q (by8 b1))) (lf (m b1 q)) (c :: b).length s) →
        SimL (lineLf (match oneOf f [(by8 (kwRest k), k)] p0 (by8 b0) with
          | .error k => .error k
          | .ok (k, q, c) => tailAt k q c)) (lf (match word (kwRest k) b0 p0 with
          | .lost => .lost
          | .bad e => .bad e
          | .ok (b1, p1) => m b1 p1)) (c :: b).length s := by
      intro k m f b0 p0 hf g0 l0 h
      rw [oneOf_single k (by8 (kwRest k)) f p0 (by8 b0) (by rw [by8_len]; exact Nat.lt_of_le_of_lt (show (kwRest k).length ≤ 5 by cases k <;> decide) hf)]
      exact kw_then k s b0 p0 (c :: b).length g0 l0 m h
    have one : ∀ (k : Kw) (f : Nat) (p0 : Nat) (b0 : Bytes), (if ([(by8 (kwRest k), k)] : List (Bytes × Kw)).isEmpty = true then Except.error p else oneOf f [(by8 (kwRest k), k)] p0 b0) = oneOf f [(by8 (kwRest k), k)] p0 b0 := fun k f p0 b0 => if_neg (by intro z; cases z)
    have lbb : b.length ≤ (c :: b).length := Nat.le_succ _
    have twoW : ∀ (d1 d2 : Nat) (k1 k2 : Kw) (b0 : List Int) (p0 : Nat), d1 ≤ 255 → d2 ≤ 255 → d1 ≠ d2 → Good b0 → oneOf 7 [(UInt8.ofNat d1 :: by8 (kwRest k1), k1), (UInt8.ofNat d2 :: by8 (kwRest k2), k2)] p0 (by8 b0) = match b0 with
        | [] => Except.error p0
        | d :: b1 => if d = (d1 : Int) then oneOf 6 [(by8 (kwRest k1), k1)] (p0 + 1) (by8 b1) else if d = (d2 : Int) then oneOf 6 [(by8 (kwRest k2), k2)] (p0 + 1) (by8 b1) else .error p0 := by
      intro d1 d2 k1 k2 b0 p0 h1 h2 hne g0
      cases b0 with
      | nil => rfl
      | cons d b1 =>
        rw [by8_cons, oneOf_cons 6 _ _ _ _ (by rfl)]
        have e1 := u_eq g0.head h1
        have e2 := u_eq g0.head h2
        have en : UInt8.ofNat d1 ≠ UInt8.ofNat d2 := fun z => hne (by
          have := congrArg UInt8.toNat z
          rw [UInt8.toNat_ofNat', UInt8.toNat_ofNat'] at this
          omega)
        dsimp only
        by_cases k : d = (d1 : Int)
        · rw [if_pos k]
          have : step1 [(UInt8.ofNat d1 :: by8 (kwRest k1), k1), (UInt8.ofNat d2 :: by8 (kwRest k2), k2)] (u d) = [(by8 (kwRest k1), k1)] := by
            unfold step1
            rw [e1.mpr k]
            simp [en]
          rw [this]
          exact if_neg (by intro z; cases z)
        · rw [if_neg k]
          by_cases k' : d = (d2 : Int)
          · rw [if_pos k']
            have : step1 [(UInt8.ofNat d1 :: by8 (kwRest k1), k1), (UInt8.ofNat d2 :: by8 (kwRest k2), k2)] (u d) = [(by8 (kwRest k2), k2)] := by
              unfold step1
              rw [e2.mpr k']
              simp [Ne.symm en]
            rw [this]
            exact if_neg (by intro z; cases z)
          · rw [if_neg k']
            have : step1 [(UInt8.ofNat d1 :: by8 (kwRest k1), k1), (UInt8.ofNat d2 :: by8 (kwRest k2), k2)] (u d) = [] := by
              unfold step1
              have n1 : ¬ u d = UInt8.ofNat d1 := fun z => k (e1.mp z)
              have n2 : ¬ u d = UInt8.ofNat d2 := fun z => k' (e2.mp z)
              simp [n1, n2]
            rw [this]
            rfl
    have hfc := firstB_has (decide ((openOf s).length < OPEN)) (openOf s).isEmpty c
    by_cases k1 : c = 97
    · rw [if_pos (hfc.mpr (.inl k1)), show u c = 97 from (uq 97 (by decide)).mpr k1, st_a, one]
      subst k1
      exact single .add _ 7 b (p + 1) (by decide) gt lbb (fun b1 q g1 l1 => change_tail .add .add (.inl ⟨rfl, rfl⟩) s b1 q _ 0 g1 l1 (fun x y => rfl))
    by_cases k2 : c = 116
    · rw [if_pos (hfc.mpr (.inr (.inl k2))), show u c = 116 from (uq 116 (by decide)).mpr k2, st_t, one]
      subst k2
      exact single .take _ 7 b (p + 1) (by decide) gt lbb (fun b1 q g1 l1 => change_tail .take .take (.inr ⟨rfl, rfl⟩) s b1 q _ 1 g1 l1 (fun x y => rfl))
    by_cases k3 : c = 115
    · rw [if_pos (hfc.mpr (.inr (.inr (.inl k3)))), show u c = 115 from (uq 115 (by decide)).mpr k3, st_s, if_neg (by decide)]
      subst k3
      have h2 := twoW 101 116 .set .halt_ b (p + 1) (by decide) (by decide) (by decide) gt
      rw [show (101 : UInt8) = UInt8.ofNat 101 from rfl, show (116 : UInt8) = UInt8.ofNat 116 from rfl, h2]
      show SimL _ (lf (rdSet s b (p + 1))) _ s
      unfold rdSet
      cases b with
      | nil => rfl
      | cons d b1 =>
        have g1 := gt.tail
        rw [nx_cons]
        dsimp only
        have l1 : b1.length ≤ (115 :: d :: b1).length := by show b1.length ≤ b1.length + 1 + 1; omega
        by_cases j1 : d = 101
        · rw [if_pos (show d = ((101 : Nat) : Int) from j1), if_pos (show ([101, 116] : List Int).contains d = true by subst j1; decide)]
          dsimp only
          rw [if_neg (by omega)]
          exact single .set _ 6 b1 (p + 1 + 1) (by decide) g1 l1 (fun b2 q g2 l2 => set_tail s b2 q _ g2 l2)
        · rw [if_neg (show ¬ d = ((101 : Nat) : Int) from j1)]
          by_cases j2 : d = 116
          · rw [if_pos (show d = ((116 : Nat) : Int) from j2), if_pos (show ([101, 116] : List Int).contains d = true by subst j2; decide)]
            dsimp only
            rw [if_pos j2]
            exact single .halt_ (fun b2 p2 => .ok (s.put 7 .nil, b2, p2)) 6 b1 (p + 1 + 1) (by decide) g1 l1 (fun b2 q g2 l2 => lf_is (l := .halt_) g2 l2)
          · rw [if_neg (show ¬ d = ((116 : Nat) : Int) from j2), if_neg (show ¬ ([101, 116] : List Int).contains d = true by simp; omega)]
            rfl
    by_cases k4 : c = 102
    · rw [if_pos (hfc.mpr (.inr (.inr (.inr (.inl k4))))), show u c = 102 from (uq 102 (by decide)).mpr k4, st_f, one]
      subst k4
      exact single .fail (fun b2 p2 => .ok (s.put 8 .nil, b2, p2)) 7 b (p + 1) (by decide) gt lbb (fun b1 q g1 l1 => lf_is (l := .fail) g1 l1)
    by_cases k5 : c = 105
    · rw [show u c = 105 from (uq 105 (by decide)).mpr k5]
      cases ha : decide ((openOf s).length < OPEN) with
      | false =>
        rw [ha] at hfc
        rw [st_i0, if_pos (show ([] : List (Bytes × Kw)).isEmpty = true from rfl), if_neg (fun z => by have := hfc.mp z; simp [k5] at this)]
        rfl
      | true =>
        rw [ha] at hfc
        rw [if_pos (hfc.mpr (.inr (.inr (.inr (.inr (.inl ⟨rfl, .inl k5⟩)))))), st_i, one]
        subst k5
        exact single .if_ _ 7 b (p + 1) (by decide) gt lbb (fun b1 q g1 l1 => tests_tail .if_ .if_ (.inl ⟨rfl, rfl⟩) s b1 q _ 3 g1 l1 (fun x => rfl))
    by_cases k6 : c = 119
    · rw [show u c = 119 from (uq 119 (by decide)).mpr k6]
      cases ha : decide ((openOf s).length < OPEN) with
      | false =>
        rw [ha] at hfc
        rw [st_w0, if_pos (show ([] : List (Bytes × Kw)).isEmpty = true from rfl), if_neg (fun z => by have := hfc.mp z; simp [k6] at this)]
        rfl
      | true =>
        rw [ha] at hfc
        rw [if_pos (hfc.mpr (.inr (.inr (.inr (.inr (.inl ⟨rfl, .inr k6⟩)))))), st_w, one]
        subst k6
        exact single .while_ _ 7 b (p + 1) (by decide) gt lbb (fun b1 q g1 l1 => tests_tail .while_ .while_ (.inr ⟨rfl, rfl⟩) s b1 q _ 6 g1 l1 (fun x => rfl))
    by_cases k7 : c = 101
    · rw [show u c = 101 from (uq 101 (by decide)).mpr k7]
      have hmay := may_is wf
      cases he : (openOf s).isEmpty with
      | true =>
        rw [he] at hfc
        have h1 : decide ((openOf s).head? = some 1) = false := by
          refine decide_eq_false ?_
          intro z
          cases ho : openOf s with
          | nil => rw [ho] at z; cases z
          | cons x r => rw [ho] at he; cases he
        rw [h1, st_e0, if_pos (show ([] : List (Bytes × Kw)).isEmpty = true from rfl), if_neg (fun z => by have := hfc.mp z; simp [k7] at this)]
        rfl
      | false =>
        rw [he] at hfc
        rw [if_pos (hfc.mpr (.inr (.inr (.inr (.inr (.inr ⟨rfl, k7⟩))))))]
        subst k7
        show SimL _ (lf (rdElse s b (p + 1))) _ s
        unfold rdElse
        by_cases hm : s.may = true
        · rw [if_pos hm, show decide ((openOf s).head? = some 1) = true from decide_eq_true (hmay.mp hm), st_e2, if_neg (by decide)]
          have h2 := twoW 108 110 .else_ .end_ b (p + 1) (by decide) (by decide) (by decide) gt
          rw [show (108 : UInt8) = UInt8.ofNat 108 from rfl, show (110 : UInt8) = UInt8.ofNat 110 from rfl, h2]
          cases b with
          | nil => rfl
          | cons d b1 =>
            have g1 := gt.tail
            rw [nx_cons]
            dsimp only
            have l1 : b1.length ≤ (101 :: d :: b1).length := by show b1.length ≤ b1.length + 1 + 1; omega
            by_cases j1 : d = 108
            · rw [if_pos (show d = ((108 : Nat) : Int) from j1), if_pos (show ([110, 108] : List Int).contains d = true by subst j1; decide)]
              dsimp only
              rw [if_neg (by omega)]
              exact single .else_ (fun b2 p2 => .ok (s.putElse, b2, p2)) 6 b1 (p + 1 + 1) (by decide) g1 l1 (fun b2 q g2 l2 => lf_is (l := .else_) g2 l2)
            · rw [if_neg (show ¬ d = ((108 : Nat) : Int) from j1)]
              by_cases j2 : d = 110
              · rw [if_pos (show d = ((110 : Nat) : Int) from j2), if_pos (show ([110, 108] : List Int).contains d = true by subst j2; decide)]
                dsimp only
                rw [if_pos j2]
                exact single .end_ (fun b2 p2 => .ok (s.putEnd, b2, p2)) 6 b1 (p + 1 + 1) (by decide) g1 l1 (fun b2 q g2 l2 => lf_is (l := .end_) g2 l2)
              · rw [if_neg (show ¬ d = ((110 : Nat) : Int) from j2), if_neg (show ¬ ([110, 108] : List Int).contains d = true by simp; omega)]
                rfl
        · rw [if_neg hm, show decide ((openOf s).head? = some 1) = false from decide_eq_false (fun z => hm (hmay.mpr z)), st_e1, if_neg (by decide)]
          cases b with
          | nil => rfl
          | cons d b1 =>
            have g1 := gt.tail
            rw [nx_cons, by8_cons, oneOf_cons 6 _ _ _ _ (by rfl)]
            have l1 : b1.length ≤ (101 :: d :: b1).length := by show b1.length ≤ b1.length + 1 + 1; omega
            have e1 : (u d = 110) ↔ d = 110 := u_eq gt.head (by decide : 110 ≤ 255)
            by_cases j2 : d = 110
            · have : step1 [(110 :: by8 (kwRest .end_), .end_)] (u d) = [(by8 (kwRest .end_), .end_)] := by
                unfold step1
                rw [e1.mpr j2]
                simp
              rw [this, if_neg (by intro z; cases z), if_pos (show ([110] : List Int).contains d = true by subst j2; decide)]
              dsimp only
              rw [if_pos j2]
              exact single .end_ (fun b2 p2 => .ok (s.putEnd, b2, p2)) 6 b1 (p + 1 + 1) (by decide) g1 l1 (fun b2 q g2 l2 => lf_is (l := .end_) g2 l2)
            · have : step1 [(110 :: by8 (kwRest .end_), .end_)] (u d) = [] := by
                unfold step1
                have n1 : ¬ u d = 110 := fun z => j2 (e1.mp z)
                simp [n1]
              rw [this, if_pos (show ([] : List (Bytes × Kw)).isEmpty = true from rfl), if_neg (show ¬ ([110] : List Int).contains d = true by simp; omega)]
              rfl
    have hn : ∀ k : Nat, k ≤ 255 → c ≠ (k : Int) → u c ≠ UInt8.ofNat k := fun k hk h z => h ((uq k hk).mp z)
    rw [st_other _ _ _ (u c) ⟨hn 97 (by decide) k1, hn 116 (by decide) k2, hn 115 (by decide) k3, hn 102 (by decide) k4, hn 105 (by decide) k5, hn 119 (by decide) k6, hn 101 (by decide) k7⟩,
      if_pos (show ([] : List (Bytes × Kw)).isEmpty = true from rfl), if_neg (fun z => by have := hfc.mp z; omega)]
    rfl
theorem linesAt_eq (f : Nat) (o : List Nat) (p : Nat) (b : Bytes) : linesAt (f + 1) o p b = if b.isEmpty = true then (if o.isEmpty = true then .ok [] else .error p) else match lineLf (lineAt o p b) with
    | .error k => .error k
    | .ok (l, q, c) => match linesAt f (openBehind o l) q c with
      | .error k => .error k
      | .ok r => .ok (l :: r) := by
  rw [linesAt]
  by_cases h : b.isEmpty = true
  · rw [if_pos h, if_pos h]
  · rw [if_neg h, if_neg h]
    unfold lineLf
    cases lineAt o p b with
    | error k => rfl
    | ok z =>
      obtain ⟨l, q, c⟩ := z
      show (do let e ← expect [10] q c; let r ← linesAt f (openBehind o l) e.2.1 e.2.2; return l :: r) = _
      dsimp only
      cases expect [10] q c with
      | error k => rfl
      | ok z =>
        obtain ⟨_, q, c⟩ := z
        show (do let r ← linesAt f (openBehind o l) q c; return l :: r) = _
        dsimp only
        cases linesAt f (openBehind o l) q c <;> rfl
/-- what a line leaves open -/
theorem open_step {s : LS} {l : Line} (wf : Wf s) (h : (l = .else_ ∨ l = .end_) → s.os ≠ []) : Wf (stepL s l) ∧ openOf (stepL s l) = openBehind (openOf s) l := by
  have put : ∀ k x, Wf (s.put k x) ∧ openOf (s.put k x) = openOf s := fun k x => ⟨wf_put wf k x, openOf_put wf k x⟩
  have opd : ∀ k x, (k = 3 ∨ k = 6) → Wf (s.opened k x) ∧ openOf (s.opened k x) = (if k = 3 then 1 else 0) :: openOf s := by
    intro k x hk
    have e1 : (s.opened k x).os = (s.ws.length, none) :: s.os := rfl
    have e2 : (s.opened k x).ws = s.ws ++ [k] := rfl
    have at0 : (s.ws ++ [k])[s.ws.length]? = some k := by simp
    refine ⟨fun y hy => ?_, ?_⟩
    · rw [e1] at hy
      rw [e2]
      rcases List.mem_cons.mp hy with e | hy
      · subst e
        refine ⟨by simp, ?_⟩
        rw [at0]
        rcases hk with e | e <;> subst e <;> simp
      · obtain ⟨h1, h2⟩ := wf y hy
        rw [List.length_append, List.getElem?_append_left h1]
        exact ⟨by omega, h2⟩
    · unfold openOf
      rw [e1, e2, List.map_cons]
      congr 1
      · unfold flag
        dsimp only
        rw [at0]
        rcases hk with e | e <;> subst e <;> rfl
      · exact List.map_congr_left fun y hy => flag_append (wf y hy).1
  cases l with
  | add x y => exact put _ _
  | take x y => exact put _ _
  | set k x => exact put _ _
  | if_ c => exact opd 3 _ (.inl rfl)
  | while_ c => exact opd 6 _ (.inr rfl)
  | halt_ => exact put _ _
  | fail => exact put _ _
  | else_ =>
    have hne := h (.inl rfl)
    show Wf s.putElse ∧ openOf s.putElse = 2 :: (openOf s).drop 1
    unfold LS.putElse openOf
    cases e : s.os with
    | nil => exact absurd e hne
    | cons x r =>
      obtain ⟨b, m⟩ := x
      have wr : ∀ y ∈ s.os, y.1 < (s.ws ++ [4]).length ∧ ((s.ws ++ [4])[y.1]? = some 3 ∨ (s.ws ++ [4])[y.1]? = some 6) := fun y hy => by
        obtain ⟨h1, h2⟩ := wf y hy
        rw [List.length_append, List.getElem?_append_left h1]
        exact ⟨by omega, h2⟩
      refine ⟨fun y hy => ?_, ?_⟩
      · rcases List.mem_cons.mp hy with e2 | hy
        · subst e2
          exact wr (b, m) (by rw [e]; exact List.mem_cons_self ..)
        · exact wr y (by rw [e]; exact List.mem_cons_of_mem _ hy)
      · show List.map (flag (s.ws ++ [4])) ((b, some s.ws.length) :: r) = 2 :: (List.map (flag s.ws) ((b, m) :: r)).drop 1
        rw [List.map_cons, List.map_cons]
        congr 1
        exact List.map_congr_left fun y hy => flag_append (wf y (by rw [e]; exact List.mem_cons_of_mem _ hy)).1
  | end_ =>
    have hne := h (.inr rfl)
    show Wf s.putEnd ∧ openOf s.putEnd = (openOf s).drop 1
    unfold LS.putEnd openOf
    cases e : s.os with
    | nil => exact absurd e hne
    | cons x r =>
      obtain ⟨b, m⟩ := x
      refine ⟨fun y hy => ?_, ?_⟩
      · have hy : y ∈ r := hy
        obtain ⟨h1, h2⟩ := wf y (by rw [e]; exact List.mem_cons_of_mem _ hy)
        show y.1 < (s.ws ++ [5]).length ∧ ((s.ws ++ [5])[y.1]? = some 3 ∨ (s.ws ++ [5])[y.1]? = some 6)
        rw [List.length_append, List.getElem?_append_left h1]
        exact ⟨by omega, h2⟩
      · show List.map (flag (s.ws ++ [5])) r = (List.map (flag s.ws) ((b, m) :: r)).drop 1
        rw [List.map_cons]
        exact List.map_congr_left fun y hy => flag_append (wf y (by rw [e]; exact List.mem_cons_of_mem _ hy)).1
/-- an else, an end, is read where something is open -/
theorem line_open {s : LS} {b : List Int} {p : Nat} {l : Line} {q : Nat} {c : Bytes} (hl : lineAt (openOf s) p (by8 b) = .ok (l, q, c)) (h : l = .else_ ∨ l = .end_) : s.os ≠ [] := by
  intro z
  rw [lineAt_eq, words_is] at hl
  have e0 : openOf s = [] := by unfold openOf; rw [z]; rfl
  rw [e0] at hl
  cases b with
  | nil =>
    rw [show oneOf 8 (wordsB (decide (([] : List Nat).length < OPEN)) (decide (([] : List Nat).head? = some 1)) ([] : List Nat).isEmpty) p (by8 []) = .error p from oneOf_nil 7 _ p (wordsB_full _ _ _)] at hl
    cases hl
  | cons d b =>
    have key : ∀ (f : Nat) (W : List (Bytes × Kw)) (p : Nat) (b : Bytes) (k : Kw) (q : Nat) (c : Bytes), oneOf f W p b = .ok (k, q, c) → ∃ x ∈ W, x.2 = k := by
      intro f
      induction f with
      | zero => intro W p b k q c e; cases e
      | succ f ih =>
        intro W p b k q c e
        unfold oneOf at e
        cases hf : W.find? fun x => x.1.isEmpty with
        | some x =>
          rw [hf] at e
          have e := Except.ok.inj e
          exact ⟨x, List.mem_of_find?_eq_some hf, congrArg (·.1) e⟩
        | none =>
          rw [hf] at e
          cases b with
          | nil => cases e
          | cons d b =>
            dsimp only at e
            split at e
            · cases e
            · obtain ⟨x, hx, hk⟩ := ih _ _ _ _ _ _ e
              obtain ⟨y, hy, hxy⟩ := List.mem_filterMap.mp hx
              refine ⟨y, hy, ?_⟩
              rw [← hk]
              split at hxy
              · split at hxy
                · have := Option.some.inj hxy
                  rw [← this]
                · cases hxy
              · cases hxy
    cases ho : oneOf 8 (wordsB (decide (([] : List Nat).length < OPEN)) (decide (([] : List Nat).head? = some 1)) ([] : List Nat).isEmpty) p (by8 (d :: b)) with
    | error k => rw [ho] at hl; cases hl
    | ok w =>
      obtain ⟨k, q1, c1⟩ := w
      rw [ho] at hl
      obtain ⟨x, hx, hk⟩ := key _ _ _ _ _ _ _ ho
      have hall : ∀ x ∈ wordsB (decide (([] : List Nat).length < OPEN)) (decide (([] : List Nat).head? = some 1)) ([] : List Nat).isEmpty, x.2 ≠ .else_ ∧ x.2 ≠ .end_ := by decide
      have hn := hall x hx
      rw [hk] at hn
      dsimp only at hl
      unfold tailAt at hl
      rcases h with e | e
      · subst e
        split at hl <;> (repeat' split at hl) <;> first | (cases hl; done) | (exact hn.1 rfl) | (exact hn.2 rfl) | (have := Except.ok.inj hl; cases this)
      · subst e
        split at hl <;> (repeat' split at hl) <;> first | (cases hl; done) | (exact hn.1 rfl) | (exact hn.2 rfl) | (have := Except.ok.inj hl; cases this)
/-- an else, an end, has what it belongs to -/
def Fit : LS → Method → Prop
  | _, [] => True
  | s, l :: r => ((l = .else_ ∨ l = .end_) → s.os ≠ []) ∧ Fit (stepL s l) r
/-- **a text read** -/
theorem lines_is : ∀ (f : Nat) (s : LS) (b : List Int) (p : Nat), Wf s → Good b → b.length < f → match linesAt f (openOf s) p (by8 b) with
    | .error k => lnL f s b p = .bad k
    | .ok m => lnL f s b p = .ok (m.foldl stepL s) ∧ (m.foldl stepL s).os = [] ∧ Fit s m
  | 0, s, b, p, _, _, h => absurd h (Nat.not_lt_zero _)
  | f + 1, s, b, p, wf, g, hf => by
    rw [linesAt_eq, lnL]
    have e0 : (by8 b).isEmpty = b.isEmpty := by cases b <;> rfl
    rw [e0]
    by_cases hb : b.isEmpty = true
    · rw [if_pos hb, if_pos hb, openOf_empty]
      by_cases ho : s.os.isEmpty = true
      · rw [if_pos ho, if_pos ho]
        exact ⟨rfl, List.isEmpty_iff.mp ho, trivial⟩
      · rw [if_neg ho, if_neg ho]
    · rw [if_neg hb, if_neg hb]
      have h := line_is s b p wf g (Bool.eq_false_iff.mpr hb)
      have hop : ∀ l q c, lineLf (lineAt (openOf s) p (by8 b)) = .ok (l, q, c) → (l = .else_ ∨ l = .end_) → s.os ≠ [] := by
        intro l q c e hl
        unfold lineLf at e
        cases h1 : lineAt (openOf s) p (by8 b) with
        | error k => rw [h1] at e; cases e
        | ok z =>
          obtain ⟨l1, q1, c1⟩ := z
          rw [h1] at e
          dsimp only at e
          cases h2 : expect [10] q1 c1 with
          | error k => rw [h2] at e; cases e
          | ok z =>
            rw [h2] at e
            have e := Except.ok.inj e
            have : l1 = l := congrArg (·.1) e
            subst this
            exact line_open h1 hl
      revert h hop
      generalize lineLf (lineAt (openOf s) p (by8 b)) = r
      intro h hop
      cases r with
      | error k => dsimp only; rw [show rdLine s b p = .bad k from h]
      | ok z =>
        obtain ⟨l, q, c⟩ := z
        obtain ⟨b1, rfl, g1, l1, h⟩ := h
        rw [h]
        dsimp only
        obtain ⟨wf2, ho2⟩ := open_step (l := l) wf (fun hl => hop l q _ rfl hl)
        rw [← ho2]
        have ih := lines_is f (stepL s l) b1 q wf2 g1 (by omega)
        revert ih
        generalize linesAt f (openOf (stepL s l)) q (by8 b1) = r
        intro ih
        cases r with
        | error k => exact ih
        | ok m => exact ⟨ih.1, ih.2.1, fun hl => hop l q _ rfl hl, ih.2.2⟩
/-- **the parser is the specification's** -/
theorem read_is (t : List Int) (g : Good t) : match readMethod (by8 t) with
    | .error k => linesOf t = .bad k
    | .ok m => linesOf t = .ok (m.foldl stepL .empty) ∧ (m.foldl stepL .empty).os = [] ∧ Fit .empty m := by
  unfold readMethod linesOf
  rw [by8_len]
  exact lines_is (t.length + 1) .empty t 0 (fun x hx => by cases hx) g (Nat.lt_succ_self _)
theorem step_len (s : LS) (l : Line) (h : (l = .else_ ∨ l = .end_) → s.os ≠ []) : (stepL s l).ws.length = s.ws.length + 1 := by
  cases l with
  | else_ =>
    show s.putElse.ws.length = _
    unfold LS.putElse
    cases e : s.os with
    | nil => exact absurd e (h (.inl rfl))
    | cons x r => simp [LS.put]
  | end_ =>
    show s.putEnd.ws.length = _
    unfold LS.putEnd
    cases e : s.os with
    | nil => exact absurd e (h (.inr rfl))
    | cons x r => simp [LS.put]
  | _ => simp [stepL, LS.put, LS.opened]
theorem fold_len : ∀ (m : Method) (s : LS), Fit s m → (m.foldl stepL s).ws.length = s.ws.length + m.length
  | [], s, _ => rfl
  | l :: r, s, h => by
    rw [List.foldl_cons, fold_len r _ h.2, step_len s l h.1, List.length_cons]
    omega
theorem good_bytes {t : List Int} (g : Good t) : MvNeutral.bytesOf t = some (by8 t) := by
  unfold MvNeutral.bytesOf
  have h : NeutralIO.bytes t = true := List.all_eq_true.mpr fun c hc => by
    have := g c hc
    simp [this.1, this.2]
  rw [if_pos h]
  rfl
/-- **the law of method** -/
theorem method_is (t : List Int) (g : Good t) : PyYqacda.method t = method t := by
  have e : PyYqacda.method t = MvNeutral.told (Mv.answer (.method (by8 t))) := by
    show (MvNeutral.step MvNeutral.start [[1], t]).2 = _
    unfold MvNeutral.step
    show (match ((MvNeutral.bytesOf t).map fun (t : List UInt8) => Mv.Call.method t) with | some x => _ | none => _ : MvNeutral.S × List Int).2 = _
    rw [good_bytes g]
    rfl
  rw [e]
  unfold Mv.answer method
  dsimp only
  rw [by8_len]
  by_cases h : 4096 < t.length
  · rw [if_pos (show Mv.LONGEST < t.length from h), if_pos h]
    rfl
  · rw [if_neg (show ¬ Mv.LONGEST < t.length from h), if_neg h]
    unfold Mv.withMethod
    have hr := read_is t g
    revert hr
    generalize readMethod (by8 t) = r
    intro hr
    cases r with
    | error k => rw [show linesOf t = .bad k from hr]; rfl
    | ok m =>
      rw [hr.1]
      show [((m.length : Nat) : Int)] = _
      dsimp only
      rw [fold_len m .empty hr.2.2]
      simp [LS.empty]
end Ab
namespace Ab
open Na
/-- the open ones lie among the lines -/
def Ob (s : LS) : Prop := ∀ x ∈ s.os, x.1 < s.ws.length ∧ ∀ m, x.2 = some m → m < s.ws.length
theorem ob_put {s : LS} (h : Ob s) (k : Nat) (x : Part) : Ob (s.put k x) := fun y hy => by
  obtain ⟨h1, h2⟩ := h y hy
  show y.1 < (s.ws ++ [k]).length ∧ ∀ m, y.2 = some m → m < (s.ws ++ [k]).length
  rw [List.length_append, List.length_singleton]
  exact ⟨by omega, fun m e => by have := h2 m e; omega⟩
theorem ob_step {s : LS} {l : Line} (h : Ob s) : Ob (stepL s l) := by
  have opd : ∀ k x, Ob (s.opened k x) := fun k x y hy => by
    show y.1 < (s.ws ++ [k]).length ∧ ∀ m, y.2 = some m → m < (s.ws ++ [k]).length
    rcases List.mem_cons.mp hy with e | hy
    · subst e
      exact ⟨by simp, fun m e => by cases e⟩
    · exact ob_put h k x y hy
  cases l with
  | if_ _ => exact opd _ _
  | while_ _ => exact opd _ _
  | else_ =>
    show Ob s.putElse
    obtain ⟨ws, ps, gs, os⟩ := s
    cases os with
    | nil => exact h
    | cons x r =>
      obtain ⟨b, m⟩ := x
      intro y hy
      show y.1 < (ws ++ [4]).length ∧ ∀ m, y.2 = some m → m < (ws ++ [4]).length
      rcases List.mem_cons.mp hy with e | hy
      · subst e
        have := (h (b, m) (List.mem_cons_self ..)).1
        exact ⟨by simp at this ⊢; omega, fun m e => by cases e; simp⟩
      · exact ob_put h 4 .nil y (List.mem_cons_of_mem _ hy)
  | end_ =>
    show Ob s.putEnd
    obtain ⟨ws, ps, gs, os⟩ := s
    cases os with
    | nil => exact h
    | cons x r =>
      obtain ⟨b, m⟩ := x
      intro y hy
      exact ob_put h 5 .nil y (List.mem_cons_of_mem _ hy)
  | _ => exact ob_put h _ _
/-- what holds between two lines -/
structure Mid (s : LS) (b : List Int) : Prop where
  ob : Ob s
  wf : Wf s
  g : Good b
theorem rdLine_step {s : LS} {b : List Int} {p : Nat} (h : Mid s b) (hb : b.isEmpty = false) : rdLine s b p ≠ .lost ∧
    ∀ s2 b2 p2, rdLine s b p = .ok (s2, b2, p2) → Mid s2 b2 ∧ b2.length < b.length ∧ s2.ws.length = s.ws.length + 1 := by
  have q := line_is s b p h.wf h.g hb
  have hop : ∀ l q c, lineLf (lineAt (openOf s) p (by8 b)) = .ok (l, q, c) → (l = .else_ ∨ l = .end_) → s.os ≠ [] := by
    intro l q c e hl
    unfold lineLf at e
    cases h1 : lineAt (openOf s) p (by8 b) with
    | error k => rw [h1] at e; cases e
    | ok z =>
      obtain ⟨l1, q1, c1⟩ := z
      rw [h1] at e
      dsimp only at e
      cases h2 : expect [10] q1 c1 with
      | error k => rw [h2] at e; cases e
      | ok z =>
        rw [h2] at e
        have e := Except.ok.inj e
        have : l1 = l := congrArg (·.1) e
        subst this
        exact line_open h1 hl
  revert q hop
  generalize lineLf (lineAt (openOf s) p (by8 b)) = r
  intro q hop
  cases r with
  | error k =>
    have q : rdLine s b p = .bad k := q
    rw [q]
    exact ⟨fun z => (by cases z), fun _ _ _ z => (by cases z)⟩
  | ok z =>
    obtain ⟨l, q1, c⟩ := z
    obtain ⟨b1, rfl, g1, l1, h1⟩ := q
    rw [h1]
    refine ⟨fun z => (by cases z), fun s2 b2 p2 z => ?_⟩
    cases z
    have ho := fun hl => hop l q1 _ rfl hl
    exact ⟨⟨ob_step h.ob, (open_step h.wf ho).1, g1⟩, l1, step_len s l ho⟩
theorem mid_start {t : List Int} (g : Good t) : Mid .empty t := ⟨fun x hx => (by cases hx), fun x hx => (by cases hx), g⟩
end Ab
namespace Ab
open Na
/-! ### where a method's lines go on -/
theorem oneOf_key : ∀ (f : Nat) (W : List (Bytes × Kw)) (p : Nat) (b : Bytes) (k : Kw) (q : Nat) (c : Bytes), oneOf f W p b = .ok (k, q, c) → ∃ x ∈ W, x.2 = k := by
  intro f
  induction f with
  | zero => intro W p b k q c e; cases e
  | succ f ih =>
    intro W p b k q c e
    unfold oneOf at e
    cases hf : W.find? fun x => x.1.isEmpty with
    | some x =>
      rw [hf] at e
      have e := Except.ok.inj e
      exact ⟨x, List.mem_of_find?_eq_some hf, congrArg (·.1) e⟩
    | none =>
      rw [hf] at e
      cases b with
      | nil => cases e
      | cons d b =>
        dsimp only at e
        split at e
        · cases e
        · obtain ⟨x, hx, hk⟩ := ih _ _ _ _ _ _ e
          obtain ⟨y, hy, hxy⟩ := List.mem_filterMap.mp hx
          refine ⟨y, hy, ?_⟩
          rw [← hk]
          split at hxy
          · split at hxy
            · have := Option.some.inj hxy
              rw [← this]
            · cases hxy
          · cases hxy
theorem tail_key {k : Kw} {q : Nat} {c : Bytes} {l : Line} {z : Nat × Bytes} (h : tailAt k q c = .ok (l, z)) : (l = .else_ → k = .else_) ∧ (l = .end_ → k = .end_) := by
  constructor
  · intro e
    subst e
    unfold tailAt at h
    cases k <;> first | rfl | (dsimp only at h; (repeat' split at h) <;> first | (cases h; done) | (have := Except.ok.inj h; cases this))
  · intro e
    subst e
    unfold tailAt at h
    cases k <;> first | rfl | (dsimp only at h; (repeat' split at h) <;> first | (cases h; done) | (have := Except.ok.inj h; cases this))
theorem line_fits {o : List Nat} {p : Nat} {b : Bytes} {l : Line} {z : Nat × Bytes} (h : lineAt o p b = .ok (l, z)) : (l = .else_ → o.head? = some 1) ∧ (l = .end_ → o.isEmpty = false) := by
  rw [lineAt_eq, words_is] at h
  cases ho : oneOf 8 (wordsB (decide (o.length < OPEN)) (decide (o.head? = some 1)) o.isEmpty) p b with
  | error k => rw [ho] at h; cases h
  | ok w =>
    obtain ⟨k, q1, c1⟩ := w
    rw [ho] at h
    obtain ⟨x, hx, hk⟩ := oneOf_key _ _ _ _ _ _ _ ho
    obtain ⟨t1, t2⟩ := tail_key h
    have k1 : ∀ a i e : Bool, ∀ x ∈ wordsB a i e, x.2 = .else_ → i = true := by decide
    have k2 : ∀ a i e : Bool, ∀ x ∈ wordsB a i e, x.2 = .end_ → e = false := by decide
    exact ⟨fun e => of_decide_eq_true (k1 _ _ _ x hx (by rw [hk, t1 e])), fun e => k2 _ _ _ x hx (by rw [hk, t2 e])⟩
/-- each else belongs to an if, each end to what is open, and all is closed -/
def NF : List Nat → Method → Prop
  | o, [] => o = []
  | o, l :: r => (l = .else_ → o.head? = some 1) ∧ (l = .end_ → o.isEmpty = false) ∧ NF (openBehind o l) r
theorem lines_nf : ∀ (f : Nat) (o : List Nat) (p : Nat) (b : Bytes) {m : Method}, linesAt f o p b = .ok m → NF o m
  | 0, o, p, b, m, h => by cases h
  | f + 1, o, p, b, m, h => by
    rw [linesAt_eq] at h
    by_cases hb : b.isEmpty = true
    · rw [if_pos hb] at h
      by_cases ho : o.isEmpty = true
      · rw [if_pos ho] at h
        cases h
        exact List.isEmpty_iff.mp ho
      · rw [if_neg ho] at h; cases h
    · rw [if_neg hb] at h
      unfold lineLf at h
      cases h1 : lineAt o p b with
      | error k => rw [h1] at h; cases h
      | ok z =>
        obtain ⟨l, q, c⟩ := z
        rw [h1] at h
        dsimp only at h
        cases h2 : expect [10] q c with
        | error k => rw [h2] at h; cases h
        | ok z =>
          obtain ⟨_, q2, c2⟩ := z
          rw [h2] at h
          dsimp only at h
          cases h3 : linesAt f (openBehind o l) q2 c2 with
          | error k => rw [h3] at h; cases h
          | ok r =>
            rw [h3] at h
            cases h
            obtain ⟨f1, f2⟩ := line_fits h1
            exact ⟨f1, f2, lines_nf f _ _ _ h3⟩
def pend (x : Nat × Option Nat) : Nat := x.2.getD x.1
structure Srt (s : LS) : Prop where
  gl : s.gs.length = s.ws.length
  bd : ∀ x ∈ s.os, x.1 ≤ pend x ∧ pend x < s.ws.length
  pw : s.os.Pairwise fun x y => pend y < x.1
def goal (p : Method) (i : Nat) : Line → Nat
  | .if_ _ => otherwise_ p i
  | .while_ _ => behindEnd p i
  | .else_ => behindEnd p i
  | .end_ => ending p i
  | _ => i + 1
/-- what is written into an open one's goal -/
def closing (suf : Method) (n d : Nat) (b : Bool) : Nat := if b = true then (match toElse suf d with
  | some k => n + k + 1
  | none => n + toEnd suf d + 1) else n + toEnd suf d + 1
def isIf (s : LS) (x : Nat × Option Nat) : Bool := x.2.isNone && s.ws[x.1]? == some 3
structure At (pre : Method) (s : LS) : Prop where
  ws : s.ws = pre.map codeOf
  srt : Srt s
  wf : Wf s
  to : ∀ d x, s.os[d]? = some x → toOpen pre.reverse d = pre.length - 1 - x.1
structure Goals (pre suf : Method) (s : LS) (F : List Nat) : Prop where
  old : ∀ i, i < pre.length → (∀ x ∈ s.os, pend x ≠ i) → F[i]? = s.gs[i]?
  op : ∀ d x, s.os[d]? = some x → F[pend x]? = some (closing suf pre.length d (isIf s x))
  new : ∀ i l, suf[i]? = some l → F[pre.length + i]? = some (goal (pre ++ suf) (pre.length + i) l)
def plain : Line → Bool
  | .if_ _ => false
  | .while_ _ => false
  | .else_ => false
  | .end_ => false
  | _ => true
theorem toEnd_plain {l : Line} (h : plain l = true) (r : Method) (d : Nat) : toEnd (l :: r) d = toEnd r d + 1 := by cases l <;> first | rfl | cases h
theorem toElse_plain {l : Line} (h : plain l = true) (r : Method) (d : Nat) : toElse (l :: r) d = (toElse r d).map (fun k => k + 1) := by cases l <;> first | rfl | cases h
theorem toOpen_plain {l : Line} (h : plain l = true) (r : Method) (d : Nat) : toOpen (l :: r) d = toOpen r d + 1 := by cases l <;> first | rfl | cases h
theorem closing_next {l : Line} {r : Method} {n d d' : Nat} {b : Bool} (h1 : toEnd (l :: r) d = toEnd r d' + 1) (h2 : toElse (l :: r) d = (toElse r d').map (fun k => k + 1)) : closing (l :: r) n d b = closing r (n + 1) d' b := by
  unfold closing
  rw [h1, h2]
  cases b with
  | false => rw [if_neg (by decide), if_neg (by decide)]; omega
  | true =>
    rw [if_pos rfl, if_pos rfl]
    cases toElse r d' with
    | none => show n + (toEnd r d' + 1) + 1 = n + 1 + toEnd r d' + 1; omega
    | some k => show n + (k + 1) + 1 = n + 1 + k + 1; omega
theorem isIf_app {s : LS} {k : Nat} {x : Nat × Option Nat} {p : Part} (h : x.1 < s.ws.length) : isIf (s.put k p) x = isIf s x := by
  unfold isIf
  have : (s.put k p).ws = s.ws ++ [k] := rfl
  rw [this, List.getElem?_append_left h]
theorem new_next {pre : Method} {l : Line} {r : Method} {F : List Nat} (h0 : F[pre.length]? = some (goal (pre ++ l :: r) pre.length l)) (h : ∀ i l', r[i]? = some l' → F[(pre ++ [l]).length + i]? = some (goal ((pre ++ [l]) ++ r) ((pre ++ [l]).length + i) l')) :
    ∀ i l', (l :: r)[i]? = some l' → F[pre.length + i]? = some (goal (pre ++ l :: r) (pre.length + i) l') := by
  intro i l' e
  cases i with
  | zero =>
    have : l = l' := Option.some.inj e
    subst this
    exact h0
  | succ i =>
    have q := h i l' e
    rw [List.length_append, List.append_assoc] at q
    have e2 : pre.length + [l].length + i = pre.length + (i + 1) := by show pre.length + 1 + i = _; omega
    rw [e2] at q
    exact q
theorem drop_next (pre : Method) (l : Line) (r : Method) : (pre ++ l :: r).drop (pre.length + 1) = r := by
  rw [show pre.length + 1 = (pre ++ [l]).length from by rw [List.length_append]; rfl, show pre ++ l :: r = (pre ++ [l]) ++ r from by rw [List.append_assoc]; rfl, List.drop_left]
theorem rev_next (pre : Method) (l : Line) : (pre ++ [l]).reverse = l :: pre.reverse := by rw [List.reverse_append]; rfl
theorem goals_step {pre : Method} {l : Line} {r : Method} {s : LS} {F : List Nat} (A : At pre s) (h1 : l = .else_ → (openOf s).head? = some 1) (h2 : l = .end_ → (openOf s).isEmpty = false) :
    At (pre ++ [l]) (stepL s l) ∧ (Goals (pre ++ [l]) r (stepL s l) F → Goals pre (l :: r) s F) := by
  have n1 : s.ws.length = pre.length := by rw [A.ws, List.length_map]
  have gl := A.srt.gl
  have hfit : (l = .else_ ∨ l = .end_) → s.os ≠ [] := fun h z => by
    have e0 : openOf s = [] := by unfold openOf; rw [z]; rfl
    rcases h with h | h
    · have := h1 h; rw [e0] at this; cases this
    · have := h2 h; rw [e0] at this; cases this
  have wf' := (open_step (l := l) A.wf hfit).1
  have ln : (pre ++ [l]).length = pre.length + 1 := by rw [List.length_append]; rfl
  have bd := A.srt.bd
  -- a plain line
  by_cases hp : plain l = true
  · have hs : stepL s l = s.put (codeOf l) (partOf l) := by cases l <;> first | rfl | cases hp
    rw [hs] at wf' ⊢
    have eo : (s.put (codeOf l) (partOf l)).os = s.os := rfl
    refine ⟨⟨?_, ⟨?_, fun x hx => ?_, A.srt.pw⟩, wf', fun d x hx => ?_⟩, fun G => ⟨fun i hi hx => ?_, fun d x hx => ?_, new_next ?_ G.new⟩⟩
    · show s.ws ++ [_] = _
      rw [A.ws, List.map_append]; rfl
    · show (s.gs ++ [_]).length = (s.ws ++ [_]).length
      rw [List.length_append, List.length_append, gl]; rfl
    · have := bd x hx
      show x.1 ≤ pend x ∧ pend x < (s.ws ++ [_]).length
      rw [List.length_append]
      exact ⟨this.1, by omega⟩
    · have q := A.to d x hx
      have := bd x (List.mem_of_getElem? hx)
      rw [rev_next, toOpen_plain hp, q, ln]
      omega
    · have q := G.old i (by omega) hx
      rw [q]
      show (s.gs ++ [_])[i]? = _
      rw [List.getElem?_append_left (by omega)]
    · have q := G.op d x hx
      have := bd x (List.mem_of_getElem? hx)
      rw [q, ln, isIf_app (by omega), closing_next (toEnd_plain hp r d) (toElse_plain hp r d)]
    · have q := G.old pre.length (by omega) (fun x hx => by have := bd x hx; omega)
      rw [q]
      have e : goal (pre ++ l :: r) pre.length l = pre.length + 1 := by cases l <;> first | rfl | cases hp
      rw [e]
      show (s.gs ++ [s.ws.length + 1])[pre.length]? = _
      rw [List.getElem?_append_right (by omega), gl, n1, Nat.sub_self]; rfl
  · have opened : ∀ (k : Nat) (w : Bool), (k = 3 ∧ w = true ∨ k = 6 ∧ w = false) → codeOf l = k → stepL s l = s.opened k (partOf l) → (∀ d, toEnd (l :: r) d = toEnd r (d + 1) + 1) → (∀ d, toElse (l :: r) d = (toElse r (d + 1)).map (fun k => k + 1)) →
        (∀ (m : Method) d, toOpen (l :: m) (d + 1) = toOpen m d + 1) → (∀ (m : Method), toOpen (l :: m) 0 = 0) → goal (pre ++ l :: r) pre.length l = closing r (pre.length + 1) 0 w →
        At (pre ++ [l]) (stepL s l) ∧ (Goals (pre ++ [l]) r (stepL s l) F → Goals pre (l :: r) s F) := by
      intro k w hk hc hs t1 t2 t3 t4 hg
      rw [hs] at wf' ⊢
      have eo : (s.opened k (partOf l)).os = (s.ws.length, none) :: s.os := rfl
      refine ⟨⟨?_, ⟨?_, fun x hx => ?_, ?_⟩, wf', fun d x hx => ?_⟩, fun G => ⟨fun i hi hx => ?_, fun d x hx => ?_, new_next ?_ G.new⟩⟩
      · show s.ws ++ [_] = _
        rw [A.ws, List.map_append, ← hc]; rfl
      · show (s.gs ++ [_]).length = (s.ws ++ [_]).length
        rw [List.length_append, List.length_append, gl]; rfl
      · show x.1 ≤ pend x ∧ pend x < (s.ws ++ [_]).length
        rw [List.length_append]
        rw [eo] at hx
        rcases List.mem_cons.mp hx with e | hx
        · subst e
          exact ⟨Nat.le_refl _, Nat.lt_succ_self _⟩
        · have := bd x hx
          exact ⟨this.1, by omega⟩
      · rw [eo]
        exact List.pairwise_cons.mpr ⟨fun y hy => (bd y hy).2, A.srt.pw⟩
      · rw [eo] at hx
        rw [rev_next, ln]
        cases d with
        | zero =>
          cases hx
          rw [t4]
          show 0 = pre.length + 1 - 1 - s.ws.length
          omega
        | succ d =>
          have hx : s.os[d]? = some x := hx
          have q := A.to d x hx
          have := bd x (List.mem_of_getElem? hx)
          rw [t3, q]
          omega
      · have q := G.old i (by omega) (fun x hx' => by
          rw [eo] at hx'
          rcases List.mem_cons.mp hx' with e | hx'
          · subst e
            show s.ws.length ≠ i
            omega
          · exact hx x hx')
        rw [q]
        show (s.gs ++ [_])[i]? = _
        rw [List.getElem?_append_left (by omega)]
      · have q := G.op (d + 1) x (by rw [eo]; exact hx)
        have := bd x (List.mem_of_getElem? hx)
        rw [q, ln, closing_next (t1 d) (t2 d)]
        congr 2
        exact isIf_app (k := k) (p := partOf l) (s := s) (by omega)
      · have q := G.op 0 (s.ws.length, none) (by rw [eo]; rfl)
        have e : isIf (s.opened k (partOf l)) (s.ws.length, none) = w := by
          show ((s.ws ++ [k])[s.ws.length]? == some 3) = w
          rw [List.getElem?_append_right (Nat.le_refl _), Nat.sub_self]
          rcases hk with ⟨h, h'⟩ | ⟨h, h'⟩ <;> subst h <;> subst h' <;> rfl
        rw [e, ln] at q
        rw [hg, ← n1]
        rw [← n1] at q
        exact q
    cases l with
    | if_ c =>
      refine opened 3 true (.inl ⟨rfl, rfl⟩) rfl rfl (fun d => rfl) (fun d => rfl) (fun m d => rfl) (fun m => rfl) ?_
      show otherwise_ _ _ = _
      unfold otherwise_ behindEnd closing
      rw [drop_next, if_pos rfl]
      cases toElse r 0 <;> rfl
    | while_ c =>
      refine opened 6 false (.inr ⟨rfl, rfl⟩) rfl rfl (fun d => rfl) (fun d => rfl) (fun m d => rfl) (fun m => rfl) ?_
      show behindEnd _ _ = _
      unfold behindEnd closing
      rw [drop_next, if_neg (by decide)]
    | else_ =>
      have ho := h1 rfl
      obtain ⟨ws, ps, gs, os⟩ := s
      cases os with
      | nil => cases ho
      | cons x0 rr =>
        obtain ⟨b, m⟩ := x0
        have ho : flag ws (b, m) = 1 := Option.some.inj ho
        have hm : m = none := by
          cases m with
          | none => rfl
          | some m => cases ho
        subst hm
        have hb3 : ws[b]? = some 3 := by
          by_cases z : ws[b]? = some 3
          · exact z
          · unfold flag at ho; dsimp only at ho; rw [if_neg z] at ho; cases ho
        dsimp only at n1 gl
        have b0 := bd (b, none) (List.mem_cons_self ..)
        have b0 : b ≤ b ∧ b < ws.length := b0
        have pw := A.srt.pw
        have pw0 := (List.pairwise_cons.mp pw).1
        have pwr := (List.pairwise_cons.mp pw).2
        have bdr : ∀ x ∈ rr, x.1 ≤ pend x ∧ pend x < ws.length := fun x hx => bd x (List.mem_cons_of_mem _ hx)
        have es : stepL ⟨ws, ps, gs, (b, none) :: rr⟩ .else_ = ⟨ws ++ [4], ps ++ [.nil], (gs ++ [ws.length + 1]).set b (ws ++ [4]).length, (b, some ws.length) :: rr⟩ := rfl
        rw [es] at wf' ⊢
        refine ⟨⟨?_, ⟨?_, fun x hx => ?_, ?_⟩, wf', fun d x hx => ?_⟩, fun G => ⟨fun i hi hx => ?_, fun d x hx => ?_, new_next ?_ G.new⟩⟩
        · show ws ++ [4] = _
          have : ws = _ := A.ws
          rw [this, List.map_append]; rfl
        · show ((gs ++ [_]).set _ _).length = (ws ++ [_]).length
          rw [List.length_set, List.length_append, List.length_append, gl]; rfl
        · show x.1 ≤ pend x ∧ pend x < (ws ++ [_]).length
          rw [List.length_append]
          rcases List.mem_cons.mp hx with e | hx
          · subst e
            show b ≤ ws.length ∧ ws.length < ws.length + 1
            omega
          · have := bdr x hx
            exact ⟨this.1, by omega⟩
        · exact List.pairwise_cons.mpr ⟨pw0, pwr⟩
        · rw [rev_next, ln]
          have tp : ∀ (m : Method) d, toOpen (.else_ :: m) d = toOpen m d + 1 := fun m d => rfl
          rw [tp]
          cases d with
          | zero =>
            cases hx
            have q := A.to 0 (b, none) rfl
            rw [q]
            show pre.length - 1 - b + 1 = pre.length + 1 - 1 - b
            omega
          | succ d =>
            have q := A.to (d + 1) x hx
            have := bdr x (List.mem_of_getElem? (show rr[d]? = some x from hx))
            rw [q]
            omega
        · have hib : b ≠ i := hx (b, none) (List.mem_cons_self ..)
          have q := G.old i (by omega) (fun x hx' => by
            rcases List.mem_cons.mp hx' with e | hx'
            · subst e
              show ws.length ≠ i
              omega
            · exact hx x (List.mem_cons_of_mem _ hx'))
          rw [q]
          show ((gs ++ [_]).set b _)[i]? = _
          rw [List.getElem?_set_ne hib, List.getElem?_append_left (by omega)]
        · cases d with
          | zero =>
            cases hx
            have q := G.old b (by omega) (fun x hx' => by
              rcases List.mem_cons.mp hx' with e | hx'
              · subst e
                show ws.length ≠ b
                omega
              · have := pw0 x hx'
                have : pend x < b := this
                omega)
            show F[b]? = _
            rw [q]
            show ((gs ++ [_]).set b _)[b]? = _
            rw [List.getElem?_set_self (by rw [List.length_append]; omega)]
            have e : isIf ⟨ws, ps, gs, (b, none) :: rr⟩ (b, none) = true := by
              show (ws[b]? == some 3) = true
              rw [hb3]; rfl
            rw [e, List.length_append, n1]
            rfl
          | succ d =>
            have hx : rr[d]? = some x := hx
            have q := G.op (d + 1) x hx
            have := bdr x (List.mem_of_getElem? hx)
            have tE : toEnd (.else_ :: r) (d + 1) = toEnd r (d + 1) + 1 := rfl
            have tL : toElse (.else_ :: r) (d + 1) = (toElse r (d + 1)).map (fun k => k + 1) := if_neg (Nat.succ_ne_zero d)
            rw [q, ln, closing_next tE tL]
            congr 2
            exact isIf_app (k := 4) (p := .nil) (s := ⟨ws, ps, gs, (b, none) :: rr⟩) (show x.1 < ws.length by omega)
        · have q := G.op 0 (b, some ws.length) rfl
          have e : isIf ⟨ws ++ [4], ps ++ [.nil], (gs ++ [ws.length + 1]).set b (ws ++ [4]).length, (b, some ws.length) :: rr⟩ (b, some ws.length) = false := rfl
          rw [e, ln] at q
          have q : F[ws.length]? = _ := q
          rw [n1] at q
          rw [q]
          show _ = some (behindEnd _ _)
          unfold closing behindEnd
          rw [drop_next, if_neg (by decide)]
    | end_ =>
      have ho := hfit (.inr rfl)
      obtain ⟨ws, ps, gs, os⟩ := s
      cases os with
      | nil => exact absurd rfl ho
      | cons x0 rr =>
        obtain ⟨b, m⟩ := x0
        dsimp only at n1 gl
        have b0 : b ≤ m.getD b ∧ m.getD b < ws.length := bd (b, m) (List.mem_cons_self ..)
        have pw := A.srt.pw
        have pw0 := (List.pairwise_cons.mp pw).1
        have pwr := (List.pairwise_cons.mp pw).2
        have bdr : ∀ x ∈ rr, x.1 ≤ pend x ∧ pend x < ws.length := fun x hx => bd x (List.mem_cons_of_mem _ hx)
        have es : stepL ⟨ws, ps, gs, (b, m) :: rr⟩ .end_ = ⟨ws ++ [5], ps ++ [.nil], (if ((ws ++ [5])[b]? == some 6) = true then (gs ++ [ws.length + 1]).set gs.length b else gs ++ [ws.length + 1]).set (m.getD b) (ws ++ [5]).length, rr⟩ := rfl
        have wb : (ws ++ [5])[b]? = ws[b]? := List.getElem?_append_left (by omega)
        rw [wb] at es
        rw [es] at wf' ⊢
        have lg : (if (ws[b]? == some 6) = true then (gs ++ [ws.length + 1]).set gs.length b else gs ++ [ws.length + 1]).length = ws.length + 1 := by
          split
          · rw [List.length_set, List.length_append, gl]; rfl
          · rw [List.length_append, gl]; rfl
        have lo : ∀ i, i < ws.length → (if (ws[b]? == some 6) = true then (gs ++ [ws.length + 1]).set gs.length b else gs ++ [ws.length + 1])[i]? = gs[i]? := by
          intro i hi
          split
          · rw [List.getElem?_set_ne (by omega), List.getElem?_append_left (by omega)]
          · rw [List.getElem?_append_left (by omega)]
        have hi' : (if (ws[b]? == some 6) = true then (gs ++ [ws.length + 1]).set gs.length b else gs ++ [ws.length + 1])[ws.length]? = some (if (ws[b]? == some 6) = true then b else ws.length + 1) := by
          split
          · rw [← gl, List.getElem?_set_self (by rw [List.length_append]; exact Nat.lt_succ_self _)]
          · rw [List.getElem?_append_right (by omega), gl, Nat.sub_self]; rfl
        revert lg lo hi'
        generalize (if (ws[b]? == some 6) = true then (gs ++ [ws.length + 1]).set gs.length b else gs ++ [ws.length + 1]) = g
        intro lg lo hi'
        refine ⟨⟨?_, ⟨?_, fun x hx => ?_, pwr⟩, wf', fun d x hx => ?_⟩, fun G => ⟨fun i hi hx => ?_, fun d x hx => ?_, new_next ?_ G.new⟩⟩
        · show ws ++ [5] = _
          have : ws = _ := A.ws
          rw [this, List.map_append]; rfl
        · show (g.set _ _).length = (ws ++ [_]).length
          rw [List.length_set, List.length_append, lg]; rfl
        · show x.1 ≤ pend x ∧ pend x < (ws ++ [_]).length
          rw [List.length_append]
          have := bdr x hx
          exact ⟨this.1, by omega⟩
        · rw [rev_next, ln]
          have tp : ∀ (m : Method) d, toOpen (.end_ :: m) d = toOpen m (d + 1) + 1 := fun m d => rfl
          have q := A.to (d + 1) x hx
          have := bdr x (List.mem_of_getElem? (show rr[d]? = some x from hx))
          rw [tp, q]
          omega
        · have hib : m.getD b ≠ i := hx (b, m) (List.mem_cons_self ..)
          have q := G.old i (by omega) (fun x hx' => hx x (List.mem_cons_of_mem _ hx'))
          rw [q]
          show (g.set _ _)[i]? = _
          rw [List.getElem?_set_ne hib, lo i (by omega)]
        · cases d with
          | zero =>
            cases hx
            have q := G.old (m.getD b) (by omega) (fun x hx' => by
              have : pend x < b := pw0 x hx'
              omega)
            show F[m.getD b]? = _
            rw [q]
            show (g.set _ _)[_]? = _
            rw [List.getElem?_set_self (by omega)]
            have e : ∀ w, closing (.end_ :: r) pre.length 0 w = pre.length + 1 := fun w => by cases w <;> rfl
            rw [e, List.length_append, n1]
            rfl
          | succ d =>
            have hx : rr[d]? = some x := hx
            have q := G.op d x hx
            have := bdr x (List.mem_of_getElem? hx)
            have tE : toEnd (.end_ :: r) (d + 1) = toEnd r d + 1 := rfl
            have tL : toElse (.end_ :: r) (d + 1) = (toElse r d).map (fun k => k + 1) := rfl
            rw [q, ln, closing_next tE tL]
            congr 2
            exact isIf_app (k := 5) (p := .nil) (s := ⟨ws, ps, gs, (b, m) :: rr⟩) (show x.1 < ws.length by omega)
        · have q := G.old pre.length (by omega) (fun x hx' => by have := bdr x hx'; omega)
          rw [q]
          show (g.set _ _)[_]? = _
          rw [List.getElem?_set_ne (by omega), ← n1, hi', n1]
          show _ = some (ending _ _)
          unfold ending
          rw [List.take_left]
          have q0 := A.to 0 (b, m) rfl
          have q0 : toOpen pre.reverse 0 = pre.length - 1 - b := q0
          rw [q0, show pre.length - 1 - (pre.length - 1 - b) = b from by omega]
          dsimp only
          rw [List.getElem?_append_left (by omega)]
          have hw : ws[b]? = pre[b]?.map codeOf := by
            have : ws = _ := A.ws
            rw [this, List.getElem?_map]
          rw [hw]
          cases hpb : pre[b]? with
          | none => rfl
          | some l => cases l <;> rfl
    | add _ _ => exact absurd rfl hp
    | take _ _ => exact absurd rfl hp
    | set _ _ => exact absurd rfl hp
    | halt_ => exact absurd rfl hp
    | fail => exact absurd rfl hp
theorem goals_ind : ∀ (suf pre : Method) (s : LS), At pre s → NF (openOf s) suf → Goals pre suf s (suf.foldl stepL s).gs
  | [], pre, s, A, h => by
    have e : s.os = [] := by
      have h : openOf s = [] := h
      unfold openOf at h
      exact List.map_eq_nil_iff.mp h
    exact ⟨fun i _ _ => rfl, fun d x hx => (by rw [e] at hx; cases hx), fun i l hl => (by cases hl)⟩
  | l :: r, pre, s, A, ⟨h1, h2, h3⟩ => by
    obtain ⟨A', k⟩ := goals_step (r := r) (F := ((l :: r).foldl stepL s).gs) A h1 h2
    have hfit : (l = .else_ ∨ l = .end_) → s.os ≠ [] := fun h z => by
      have e0 : openOf s = [] := by unfold openOf; rw [z]; rfl
      rcases h with h | h
      · have := h1 h; rw [e0] at this; cases this
      · have := h2 h; rw [e0] at this; cases this
    have ho := (open_step (l := l) A.wf hfit).2
    exact k (goals_ind r (pre ++ [l]) (stepL s l) A' (by rw [ho]; exact h3))
theorem goals_are {m : Method} (h : NF [] m) {i : Nat} {l : Line} (hl : m[i]? = some l) : (m.foldl stepL .empty).gs[i]? = some (goal m i l) := by
  have G := goals_ind m [] .empty ⟨rfl, ⟨rfl, fun x hx => (by cases hx), .nil⟩, fun x hx => (by cases hx), fun d x hx => (by cases hx)⟩ h
  have q := G.new i l hl
  rw [show ([] : Method).length + i = i from Nat.zero_add i] at q
  exact q
end Ab
namespace Ab
open Na
/-! ### what a method's expressions hold -/
def nok : Ex → Prop
  | .num n => n ≤ 9999
  | .head k => k < 8
  | .mark k => k < 8
  | .rod e => nok e
  | .par e => nok e
  | .times a b => nok a ∧ nok b
  | .plus a b => nok a ∧ nok b
  | .minus a b => nok a ∧ nok b
theorem digitsAt_ok : ∀ (f n p : Nat) (b : Bytes), (digitsAt f n p b).1 < (n + 1) * 10 ^ f ∧ (digitsAt f n p b).2.2.length ≤ b.length
  | 0, n, p, b => ⟨by show n < (n + 1) * 1; omega, Nat.le_refl _⟩
  | f + 1, n, p, b => by
    unfold digitsAt
    have big : n < (n + 1) * 10 ^ (f + 1) := Nat.lt_of_lt_of_le (Nat.lt_succ_self n) (Nat.le_mul_of_pos_right _ (Nat.pow_pos (by decide)))
    cases b with
    | nil => exact ⟨big, Nat.le_refl _⟩
    | cons c l =>
      dsimp only
      by_cases h : isDigit c = true
      · rw [if_pos h]
        obtain ⟨h1, h2⟩ := digitsAt_ok f (10 * n + (c.toNat - 48)) (p + 1) l
        have hc : c.toNat - 48 ≤ 9 := by
          unfold isDigit at h
          have := of_decide_eq_true (Bool.and_eq_true_iff.mp h).2
          omega
        refine ⟨Nat.lt_of_lt_of_le h1 ?_, by rw [List.length_cons]; omega⟩
        rw [Nat.pow_succ, Nat.mul_comm (10 ^ f) 10, ← Nat.mul_assoc]
        exact Nat.mul_le_mul_right _ (by omega)
      · rw [if_neg h]
        exact ⟨big, Nat.le_refl _⟩
theorem expect_len : ∀ {w : Bytes} {p : Nat} {b : Bytes} {q : Nat} {c : Bytes} {z : Unit}, expect w p b = .ok (z, q, c) → c.length ≤ b.length
  | [], p, b, q, c, z, h => by cases h; exact Nat.le_refl _
  | d :: w, p, b, q, c, z, h => by
    unfold expect at h
    cases b with
    | nil => cases h
    | cons e l =>
      dsimp only at h
      by_cases k : d = e
      · rw [if_pos k] at h
        have := expect_len h
        rw [List.length_cons]; omega
      · rw [if_neg k] at h; cases h
theorem ex_ok : ∀ f : Nat,
    (∀ d p b x q c, exAt f d p b = .ok (x, q, c) → nok x ∧ (post x).length + c.length ≤ b.length) ∧
    (∀ d x p b y q c, sumAt f d x p b = .ok (y, q, c) → nok x → nok y ∧ (post y).length + c.length ≤ (post x).length + b.length) ∧
    (∀ d p b x q c, termAt f d p b = .ok (x, q, c) → nok x ∧ (post x).length + c.length ≤ b.length) ∧
    (∀ d x p b y q c, timesAt f d x p b = .ok (y, q, c) → nok x → nok y ∧ (post y).length + c.length ≤ (post x).length + b.length) ∧
    (∀ d p b x q c, factorAt f d p b = .ok (x, q, c) → nok x ∧ (post x).length + c.length ≤ b.length) := by
  intro f
  induction f with
  | zero =>
    refine ⟨fun d p b x q c h => ?_, fun d x p b y q c h => ?_, fun d p b x q c h => ?_, fun d x p b y q c h => ?_, fun d p b x q c h => ?_⟩
    · rw [exAt] at h; cases h
    · rw [sumAt] at h; cases h
    · rw [termAt] at h; cases h
    · rw [timesAt] at h; cases h
    · rw [factorAt] at h; cases h
  | succ f ih =>
    obtain ⟨i1, i2, i3, i4, i5⟩ := ih
    have bin : ∀ (a b : Ex) (k : Int), (post a ++ post b ++ [(k, 0)]).length = (post a).length + (post b).length + 1 := fun a b k => by rw [List.length_append, List.length_append]; rfl
    refine ⟨fun d p b x q c h => ?_, fun d x p b y q c h hx => ?_, fun d p b x q c h => ?_, fun d x p b y q c h hx => ?_, fun d p b x q c h => ?_⟩
    · rw [exAt_succ] at h
      cases e : termAt f d p b with
      | error k => rw [e] at h; cases h
      | ok z =>
        obtain ⟨x1, q1, c1⟩ := z
        rw [e] at h
        obtain ⟨a1, a2⟩ := i3 _ _ _ _ _ _ e
        obtain ⟨b1, b2⟩ := i2 _ _ _ _ _ _ _ h a1
        exact ⟨b1, by omega⟩
    · cases b with
      | nil => rw [sumAt_nil] at h; cases h; exact ⟨hx, Nat.le_refl _⟩
      | cons s l =>
        rw [sumAt_cons] at h
        rw [List.length_cons]
        by_cases h43 : s = 43
        · rw [if_pos h43] at h
          cases e : termAt f d (p + 1) l with
          | error k => rw [e] at h; cases h
          | ok z =>
            obtain ⟨x1, q1, c1⟩ := z
            rw [e] at h
            obtain ⟨a1, a2⟩ := i3 _ _ _ _ _ _ e
            obtain ⟨b1, b2⟩ := i2 _ _ _ _ _ _ _ h ⟨hx, a1⟩
            have := bin x x1 43
            have e2 : post (.plus x x1) = post x ++ post x1 ++ [(43, 0)] := rfl
            rw [e2, this] at b2
            exact ⟨b1, by omega⟩
        · rw [if_neg h43] at h
          by_cases h45 : s = 45
          · rw [if_pos h45] at h
            cases e : termAt f d (p + 1) l with
            | error k => rw [e] at h; cases h
            | ok z =>
              obtain ⟨x1, q1, c1⟩ := z
              rw [e] at h
              obtain ⟨a1, a2⟩ := i3 _ _ _ _ _ _ e
              obtain ⟨b1, b2⟩ := i2 _ _ _ _ _ _ _ h ⟨hx, a1⟩
              have := bin x x1 45
              have e2 : post (.minus x x1) = post x ++ post x1 ++ [(45, 0)] := rfl
              rw [e2, this] at b2
              exact ⟨b1, by omega⟩
          · rw [if_neg h45] at h
            cases h
            exact ⟨hx, Nat.le_refl _⟩
    · rw [termAt_succ] at h
      cases e : factorAt f d p b with
      | error k => rw [e] at h; cases h
      | ok z =>
        obtain ⟨x1, q1, c1⟩ := z
        rw [e] at h
        obtain ⟨a1, a2⟩ := i5 _ _ _ _ _ _ e
        obtain ⟨b1, b2⟩ := i4 _ _ _ _ _ _ _ h a1
        exact ⟨b1, by omega⟩
    · cases b with
      | nil => rw [timesAt_nil] at h; cases h; exact ⟨hx, Nat.le_refl _⟩
      | cons s l =>
        rw [timesAt_cons] at h
        rw [List.length_cons]
        by_cases h42 : s = 42
        · rw [if_pos h42] at h
          cases e : factorAt f d (p + 1) l with
          | error k => rw [e] at h; cases h
          | ok z =>
            obtain ⟨x1, q1, c1⟩ := z
            rw [e] at h
            obtain ⟨a1, a2⟩ := i5 _ _ _ _ _ _ e
            obtain ⟨b1, b2⟩ := i4 _ _ _ _ _ _ _ h ⟨hx, a1⟩
            have := bin x x1 42
            have e2 : post (.times x x1) = post x ++ post x1 ++ [(42, 0)] := rfl
            rw [e2, this] at b2
            exact ⟨b1, by omega⟩
        · rw [if_neg h42] at h
          cases h
          exact ⟨hx, Nat.le_refl _⟩
    · cases b with
      | nil => rw [factorAt_nil] at h; cases h
      | cons s l =>
        rw [factorAt_cons] at h
        rw [List.length_cons]
        by_cases h1 : s = 48
        · rw [if_pos h1] at h
          cases h
          exact ⟨Nat.zero_le _, by show 1 + c.length ≤ _; omega⟩
        · rw [if_neg h1] at h
          by_cases h2 : isDigit s = true
          · rw [if_pos h2] at h
            obtain ⟨a1, a2⟩ := digitsAt_ok 3 (s.toNat - 48) (p + 1) l
            have hc : s.toNat - 48 ≤ 9 := by
              unfold isDigit at h2
              have := of_decide_eq_true (Bool.and_eq_true_iff.mp h2).2
              omega
            have h := Except.ok.inj h
            have hx : .num (digitsAt 3 (s.toNat - 48) (p + 1) l).1 = x := congrArg (·.1) h
            have hc2 : (digitsAt 3 (s.toNat - 48) (p + 1) l).2.2 = c := congrArg (·.2.2) h
            subst hx hc2
            refine ⟨?_, by show 1 + _ ≤ _; omega⟩
            show (digitsAt 3 (s.toNat - 48) (p + 1) l).1 ≤ 9999
            have : (s.toNat - 48 + 1) * 10 ^ 3 ≤ 10 * 10 ^ 3 := Nat.mul_le_mul_right _ (by omega)
            omega
          · rw [if_neg h2] at h
            by_cases h3 : 97 ≤ s.toNat ∧ s.toNat ≤ 104
            · rw [if_pos h3] at h
              cases h
              exact ⟨by show s.toNat - 97 < 8; omega, by show 1 + c.length ≤ _; omega⟩
            · rw [if_neg h3] at h
              by_cases h4 : 65 ≤ s.toNat ∧ s.toNat ≤ 72
              · rw [if_pos h4] at h
                cases h
                exact ⟨by show s.toNat - 65 < 8; omega, by show 1 + c.length ≤ _; omega⟩
              · rw [if_neg h4] at h
                by_cases h5 : s = 91 ∨ s = 40
                · rw [if_pos h5] at h
                  by_cases h6 : OPEN ≤ d
                  · rw [if_pos h6] at h; cases h
                  · rw [if_neg h6] at h
                    cases e : exAt f (d + 1) (p + 1) l with
                    | error k => rw [e] at h; cases h
                    | ok z =>
                      obtain ⟨x1, q1, c1⟩ := z
                      rw [e] at h
                      dsimp only at h
                      obtain ⟨a1, a2⟩ := i1 _ _ _ _ _ _ e
                      cases e2 : expect [if s = 91 then 93 else 41] q1 c1 with
                      | error k => rw [e2] at h; cases h
                      | ok z =>
                        obtain ⟨z0, q2, c2⟩ := z
                        rw [e2] at h
                        have := expect_len e2
                        have l2 : c2.length + 1 ≤ c1.length := by
                          unfold expect at e2
                          cases c1 with
                          | nil => cases e2
                          | cons d0 c1 =>
                            dsimp only at e2
                            by_cases hd : (if s = 91 then 93 else 41) = d0
                            · rw [if_pos hd] at e2
                              cases e2; exact Nat.le_refl _
                            · rw [if_neg hd] at e2; cases e2
                        cases h
                        by_cases h7 : s = 91
                        · rw [if_pos h7]
                          refine ⟨a1, ?_⟩
                          show (post x1 ++ [(3, 0)]).length + _ ≤ _
                          rw [List.length_append]
                          show (post x1).length + 1 + _ ≤ _
                          omega
                        · rw [if_neg h7]
                          refine ⟨a1, ?_⟩
                          show (post x1).length + _ ≤ _
                          omega
                · rw [if_neg h5] at h; cases h
def EOK (N : Nat) (e : Ex) : Prop := nok e ∧ (post e).length ≤ N
theorem exHere_ok {N p : Nat} {b : Bytes} {x : Ex} {q : Nat} {c : Bytes} (h : exHere p b = .ok (x, q, c)) (hb : b.length ≤ N) : EOK N x ∧ c.length ≤ N := by
  obtain ⟨h1, h2⟩ := (ex_ok _).1 _ _ _ _ _ _ h
  exact ⟨⟨h1, by omega⟩, by omega⟩
def TOK (N : Nat) (ts : List Test) : Prop := ∀ t ∈ ts, EOK N t.a ∧ EOK N t.b
def LOK (N : Nat) : Line → Prop
  | .add e r => EOK N e ∧ EOK N r
  | .take e r => EOK N e ∧ EOK N r
  | .set k e => k < 8 ∧ EOK N e
  | .if_ c => TOK N c
  | .while_ c => TOK N c
  | _ => True
theorem cmpAt_len {p : Nat} {b : Bytes} {y : Cmp} {q : Nat} {c : Bytes} (h : cmpAt p b = .ok (y, q, c)) : c.length ≤ b.length := by
  unfold cmpAt at h
  split at h <;> first | (cases h; simp only [List.length_cons]; omega) | cases h
theorem testAt_ok {N p : Nat} {b : Bytes} {t : Test} {q : Nat} {c : Bytes} (h : testAt p b = .ok (t, q, c)) (hb : b.length ≤ N) : (EOK N t.a ∧ EOK N t.b) ∧ c.length ≤ N := by
  rw [testAt_eq] at h
  cases e1 : exHere p b with
  | error k => rw [e1] at h; cases h
  | ok z =>
    obtain ⟨x, q1, c1⟩ := z
    rw [e1] at h
    dsimp only at h
    obtain ⟨a1, a2⟩ := exHere_ok e1 hb
    cases e2 : cmpAt q1 c1 with
    | error k => rw [e2] at h; cases h
    | ok z =>
      obtain ⟨y, q2, c2⟩ := z
      rw [e2] at h
      dsimp only at h
      have l2 := cmpAt_len e2
      cases e3 : exHere q2 c2 with
      | error k => rw [e3] at h; cases h
      | ok z =>
        obtain ⟨w, q3, c3⟩ := z
        rw [e3] at h
        cases h
        obtain ⟨b1, b2⟩ := exHere_ok (N := N) e3 (by omega)
        exact ⟨⟨a1, b1⟩, b2⟩
theorem testsAt_ok {N : Nat} : ∀ (f : Nat) {p : Nat} {b : Bytes} {ts : List Test} {q : Nat} {c : Bytes}, testsAt f p b = .ok (ts, q, c) → b.length ≤ N → TOK N ts ∧ c.length ≤ N
  | 0, p, b, ts, q, c, h, hb => by rw [testsAt] at h; cases h
  | f + 1, p, b, ts, q, c, h, hb => by
    rw [testsAt_eq] at h
    cases e1 : testAt p b with
    | error k => rw [e1] at h; cases h
    | ok z =>
      obtain ⟨t, q1, c1⟩ := z
      rw [e1] at h
      dsimp only at h
      obtain ⟨a1, a2⟩ := testAt_ok e1 hb
      by_cases hs : c1.head? = some 32
      · rw [if_pos hs] at h
        cases e2 : expect (ascii " and ") q1 c1 with
        | error k => rw [e2] at h; cases h
        | ok z =>
          obtain ⟨_, q2, c2⟩ := z
          rw [e2] at h
          dsimp only at h
          have l2 := expect_len e2
          cases e3 : testsAt f q2 c2 with
          | error k => rw [e3] at h; cases h
          | ok z =>
            obtain ⟨r, q3, c3⟩ := z
            rw [e3] at h
            cases h
            obtain ⟨b1, b2⟩ := testsAt_ok (N := N) f e3 (by omega)
            exact ⟨fun t' ht => by
              rcases List.mem_cons.mp ht with e | ht
              · subst e; exact a1
              · exact b1 t' ht, b2⟩
      · rw [if_neg hs] at h
        cases h
        exact ⟨fun t' ht => by
          have : t' = t := by simpa using ht
          subst this; exact a1, a2⟩
theorem oneOf_len : ∀ (f : Nat) (W : List (Bytes × Kw)) (p : Nat) (b : Bytes) {k : Kw} {q : Nat} {c : Bytes}, oneOf f W p b = .ok (k, q, c) → c.length ≤ b.length
  | 0, W, p, b, k, q, c, h => by rw [oneOf] at h; cases h
  | f + 1, W, p, b, k, q, c, h => by
    unfold oneOf at h
    cases hf : W.find? fun x => x.1.isEmpty with
    | some x => rw [hf] at h; cases h; exact Nat.le_refl _
    | none =>
      rw [hf] at h
      cases b with
      | nil => cases h
      | cons d b =>
        dsimp only at h
        split at h
        · cases h
        · have := oneOf_len f _ _ _ h
          rw [List.length_cons]; omega
theorem line_ok {N : Nat} {o : List Nat} {p : Nat} {b : Bytes} {l : Line} {q : Nat} {c : Bytes} (h : lineAt o p b = .ok (l, q, c)) (hb : b.length ≤ N) : LOK N l ∧ c.length ≤ N := by
  rw [lineAt_eq] at h
  cases e0 : oneOf 8 (words_ o) p b with
  | error k => rw [e0] at h; cases h
  | ok z =>
    obtain ⟨k, q0, c0⟩ := z
    rw [e0] at h
    dsimp only at h
    have l0 := oneOf_len _ _ _ _ e0
    have b0 : c0.length ≤ N := by omega
    have two : ∀ (mk : Ex → Ex → Line), (∀ x y, EOK N x → EOK N y → LOK N (mk x y)) → (match exHere q0 c0 with
        | .error k => (.error k : RLine)
        | .ok (x, q, c) => match expect (ascii " at ") q c with
          | .error k => .error k
          | .ok (_, q, c) => match exHere q c with
            | .error k => .error k
            | .ok (y, q, c) => .ok (mk x y, q, c)) = .ok (l, q, c) → LOK N l ∧ c.length ≤ N := by
      intro mk hm h
      cases e1 : exHere q0 c0 with
      | error k => rw [e1] at h; cases h
      | ok z =>
        obtain ⟨x, q1, c1⟩ := z
        rw [e1] at h
        dsimp only at h
        obtain ⟨a1, a2⟩ := exHere_ok e1 b0
        cases e2 : expect (ascii " at ") q1 c1 with
        | error k => rw [e2] at h; cases h
        | ok z =>
          obtain ⟨_, q2, c2⟩ := z
          rw [e2] at h
          dsimp only at h
          have l2 := expect_len e2
          cases e3 : exHere q2 c2 with
          | error k => rw [e3] at h; cases h
          | ok z =>
            obtain ⟨y, q3, c3⟩ := z
            rw [e3] at h
            cases h
            obtain ⟨b1, b2⟩ := exHere_ok (N := N) e3 (by omega)
            exact ⟨hm _ _ a1 b1, b2⟩
    have tst : ∀ (mk : List Test → Line), (∀ t, TOK N t → LOK N (mk t)) → (match testsAt (c0.length + 1) q0 c0 with
        | .error k => (.error k : RLine)
        | .ok (t, q, c) => .ok (mk t, q, c)) = .ok (l, q, c) → LOK N l ∧ c.length ≤ N := by
      intro mk hm h
      cases e1 : testsAt (c0.length + 1) q0 c0 with
      | error k => rw [e1] at h; cases h
      | ok z =>
        obtain ⟨t, q1, c1⟩ := z
        rw [e1] at h
        cases h
        obtain ⟨a1, a2⟩ := testsAt_ok _ e1 b0
        exact ⟨hm _ a1, a2⟩
    cases k with
    | add => exact two .add (fun x y a b => ⟨a, b⟩) h
    | take => exact two .take (fun x y a b => ⟨a, b⟩) h
    | if_ => exact tst .if_ (fun t a => a) h
    | while_ => exact tst .while_ (fun t a => a) h
    | set =>
      unfold tailAt at h
      dsimp only at h
      cases e1 : headAt q0 c0 with
      | error k => rw [e1] at h; cases h
      | ok z =>
        obtain ⟨x, q1, c1⟩ := z
        rw [e1] at h
        dsimp only at h
        have hx : x < 8 ∧ c1.length ≤ N := by
          unfold headAt at e1
          cases c0 with
          | nil => cases e1
          | cons d c0 =>
            dsimp only at e1
            split at e1
            · rename_i hd
              cases e1
              rw [List.length_cons] at b0
              exact ⟨by omega, by omega⟩
            · cases e1
        cases e2 : expect [32] q1 c1 with
        | error k => rw [e2] at h; cases h
        | ok z =>
          obtain ⟨_, q2, c2⟩ := z
          rw [e2] at h
          dsimp only at h
          have l2 := expect_len e2
          cases e3 : exHere q2 c2 with
          | error k => rw [e3] at h; cases h
          | ok z =>
            obtain ⟨y, q3, c3⟩ := z
            rw [e3] at h
            cases h
            obtain ⟨b1, b2⟩ := exHere_ok (N := N) e3 (by omega)
            exact ⟨⟨hx.1, b1⟩, b2⟩
    | else_ => cases h; exact ⟨trivial, b0⟩
    | end_ => cases h; exact ⟨trivial, b0⟩
    | halt_ => cases h; exact ⟨trivial, b0⟩
    | fail => cases h; exact ⟨trivial, b0⟩
theorem lines_ok {N : Nat} : ∀ (f : Nat) (o : List Nat) (p : Nat) (b : Bytes) {m : Method}, linesAt f o p b = .ok m → b.length ≤ N → ∀ l ∈ m, LOK N l
  | 0, o, p, b, m, h, hb => by cases h
  | f + 1, o, p, b, m, h, hb => by
    rw [linesAt_eq] at h
    by_cases hbe : b.isEmpty = true
    · rw [if_pos hbe] at h
      by_cases ho : o.isEmpty = true
      · rw [if_pos ho] at h
        cases h
        intro l hl; cases hl
      · rw [if_neg ho] at h; cases h
    · rw [if_neg hbe] at h
      unfold lineLf at h
      cases h1 : lineAt o p b with
      | error k => rw [h1] at h; cases h
      | ok z =>
        obtain ⟨l, q, c⟩ := z
        rw [h1] at h
        dsimp only at h
        obtain ⟨a1, a2⟩ := line_ok h1 hb
        cases h2 : expect [10] q c with
        | error k => rw [h2] at h; cases h
        | ok z =>
          obtain ⟨_, q2, c2⟩ := z
          rw [h2] at h
          dsimp only at h
          have l2 := expect_len h2
          cases h3 : linesAt f (openBehind o l) q2 c2 with
          | error k => rw [h3] at h; cases h
          | ok r =>
            rw [h3] at h
            cases h
            intro l' hl'
            rcases List.mem_cons.mp hl' with e | hl'
            · subst e; exact a1
            · exact lines_ok f _ _ _ h3 (by omega) l' hl'
/-- **a method that was read**: its lines hold what they may -/
structure Read (N : Nat) (m : Method) : Prop where
  nf : NF [] m
  ok : ∀ l ∈ m, LOK N l
theorem read_ok {t : Bytes} {m : Method} (h : readMethod t = .ok m) : Read t.length m := ⟨lines_nf _ _ _ _ h, lines_ok _ _ _ _ h (Nat.le_refl _)⟩
/-! ### the words and the parts -/
theorem step_ws {s : LS} {l : Line} (h : (l = .else_ ∨ l = .end_) → s.os ≠ []) : (stepL s l).ws = s.ws ++ [codeOf l] ∧ (stepL s l).ps = s.ps ++ [partOf l] := by
  cases l with
  | else_ =>
    show s.putElse.ws = _ ∧ s.putElse.ps = _
    unfold LS.putElse
    cases e : s.os with
    | nil => exact absurd e (h (.inl rfl))
    | cons x r => exact ⟨rfl, rfl⟩
  | end_ =>
    show s.putEnd.ws = _ ∧ s.putEnd.ps = _
    unfold LS.putEnd
    cases e : s.os with
    | nil => exact absurd e (h (.inr rfl))
    | cons x r => exact ⟨rfl, rfl⟩
  | _ => exact ⟨rfl, rfl⟩
theorem fold_ws : ∀ (m : Method) (s : LS), Fit s m → (m.foldl stepL s).ws = s.ws ++ m.map codeOf ∧ (m.foldl stepL s).ps = s.ps ++ m.map partOf
  | [], s, _ => ⟨(List.append_nil _).symm, (List.append_nil _).symm⟩
  | l :: r, s, h => by
    obtain ⟨a, b⟩ := fold_ws r (stepL s l) h.2
    obtain ⟨c, d⟩ := step_ws h.1
    rw [List.foldl_cons, a, b, c, d, List.append_assoc, List.append_assoc]
    exact ⟨rfl, rfl⟩
/-! ### expressions worked out -/
def evS (dig : Int → Except Nat Int) (hd mk : List Int) : Items → List Int → R (List Int)
  | [], w => .ok w
  | (k, n) :: r, w => if k = 0 then evS dig hd mk r (n :: w)
    else if k = 1 then (match hd[n.toNat]? with
      | none => .lost
      | some x => evS dig hd mk r (x :: w))
    else if k = 2 then (match mk[n.toNat]? with
      | none => .lost
      | some x => evS dig hd mk r (x :: w))
    else if k = 3 then (match w with
      | [] => .lost
      | x :: w => match dig x with
        | .error e => .bad e
        | .ok d => evS dig hd mk r (d :: w))
    else match w with
      | y :: x :: w => (match held (if k = 42 then x * y else if k = 43 then x + y else x - y) with
        | .error e => .bad e
        | .ok z => evS dig hd mk r (z :: w))
      | _ => .lost
theorem evS_cons (dig : Int → Except Nat Int) (hd mk : List Int) (k n : Int) (r : Items) (w : List Int) : evS dig hd mk ((k, n) :: r) w = if k = 0 then evS dig hd mk r (n :: w)
    else if k = 1 then (match hd[n.toNat]? with
      | none => .lost
      | some x => evS dig hd mk r (x :: w))
    else if k = 2 then (match mk[n.toNat]? with
      | none => .lost
      | some x => evS dig hd mk r (x :: w))
    else if k = 3 then (match w with
      | [] => .lost
      | x :: w => match dig x with
        | .error e => .bad e
        | .ok d => evS dig hd mk r (d :: w))
    else match w with
      | y :: x :: w => (match held (if k = 42 then x * y else if k = 43 then x + y else x - y) with
        | .error e => .bad e
        | .ok z => evS dig hd mk r (z :: w))
      | _ => .lost := by rw [evS.eq_def]
/-- a rod's digit, as a run asks for it -/
def digOf {σ : Type} (b : Board σ) (s : σ) (x : Int) : Except Nat Int := match rodIn b.rods x with
  | .error e => .error e
  | .ok i => match b.look s i with
    | .error e => .error e
    | .ok d => .ok (d : Int)
theorem held_ok {x : Int} (h : -9999 ≤ x ∧ x ≤ 9999) : held x = .ok x := if_pos h
theorem held_is {x y : Int} (h : held x = .ok y) : y = x ∧ -9999 ≤ x ∧ x ≤ 9999 := by
  unfold held at h
  by_cases k : -9999 ≤ x ∧ x ≤ 9999
  · rw [if_pos k] at h; cases h; exact ⟨rfl, k⟩
  · rw [if_neg k] at h; cases h
section
variable {σ : Type} {b : Board σ} {marks : List Nat} {a : Now σ}
theorem v_rod (e : Ex) : Ex.value b marks a (.rod e) = match e.value b marks a with
    | .error k => .error k
    | .ok x => match rodIn b.rods x with
      | .error k => .error k
      | .ok i => match b.look a.on i with
        | .error k => .error k
        | .ok d => held (d : Int) := by
  show (do let x ← e.value b marks a; let i ← rodIn b.rods x; let d ← b.look a.on i; held d) = _
  cases e.value b marks a with
  | error k => rfl
  | ok x =>
    show (do let i ← rodIn b.rods x; let d ← b.look a.on i; held d) = _
    dsimp only
    generalize rodIn b.rods x = ri
    cases ri with
    | error k => rfl
    | ok i =>
      show (do let d ← b.look a.on i; held d) = _
      dsimp only
      cases b.look a.on i <;> rfl
theorem v_two {g : Int → Int → Int} (p q : Ex) : (do let u ← p.value b marks a; let v ← q.value b marks a; held (g u v)) = match p.value b marks a with
    | .error k => .error k
    | .ok u => match q.value b marks a with
      | .error k => .error k
      | .ok v => held (g u v) := by
  cases p.value b marks a with
  | error k => rfl
  | ok u =>
    show (do let v ← q.value b marks a; held (g u v)) = _
    dsimp only
    cases q.value b marks a <;> rfl
theorem v_times (p q : Ex) : Ex.value b marks a (.times p q) = match p.value b marks a with
    | .error k => .error k
    | .ok u => match q.value b marks a with
      | .error k => .error k
      | .ok v => held (u * v) := v_two (g := fun u v => u * v) p q
theorem v_plus (p q : Ex) : Ex.value b marks a (.plus p q) = match p.value b marks a with
    | .error k => .error k
    | .ok u => match q.value b marks a with
      | .error k => .error k
      | .ok v => held (u + v) := v_two (g := fun u v => u + v) p q
theorem v_minus (p q : Ex) : Ex.value b marks a (.minus p q) = match p.value b marks a with
    | .error k => .error k
    | .ok u => match q.value b marks a with
      | .error k => .error k
      | .ok v => held (u - v) := v_two (g := fun u v => u - v) p q
end
theorem value_in {σ : Type} {b : Board σ} {marks : List Nat} {a : Now σ} : ∀ {e : Ex} {x : Int}, e.value b marks a = .ok x → -9999 ≤ x ∧ x ≤ 9999
  | .num n, x, h => by have := held_is (show held n = .ok x from h); omega
  | .head k, x, h => by have := held_is (show held _ = .ok x from h); omega
  | .mark k, x, h => by have := held_is (show held _ = .ok x from h); omega
  | .rod e, x, h => by
    rw [v_rod] at h
    cases h1 : e.value b marks a with
    | error k => rw [h1] at h; cases h
    | ok u =>
      rw [h1] at h
      dsimp only at h
      cases h2 : rodIn b.rods u with
      | error k => rw [h2] at h; cases h
      | ok i =>
        rw [h2] at h
        dsimp only at h
        cases h3 : b.look a.on i with
        | error k => rw [h3] at h; cases h
        | ok d =>
          rw [h3] at h
          have := held_is h
          omega
  | .par e, x, h => value_in (e := e) (show e.value b marks a = .ok x from h)
  | .times p q, x, h => by
    rw [v_times] at h
    cases h1 : p.value b marks a with
    | error k => rw [h1] at h; cases h
    | ok u =>
      rw [h1] at h
      dsimp only at h
      cases h2 : q.value b marks a with
      | error k => rw [h2] at h; cases h
      | ok v =>
        rw [h2] at h
        have := held_is h
        omega
  | .plus p q, x, h => by
    rw [v_plus] at h
    cases h1 : p.value b marks a with
    | error k => rw [h1] at h; cases h
    | ok u =>
      rw [h1] at h
      dsimp only at h
      cases h2 : q.value b marks a with
      | error k => rw [h2] at h; cases h
      | ok v =>
        rw [h2] at h
        have := held_is h
        omega
  | .minus p q, x, h => by
    rw [v_minus] at h
    cases h1 : p.value b marks a with
    | error k => rw [h1] at h; cases h
    | ok u =>
      rw [h1] at h
      dsimp only at h
      cases h2 : q.value b marks a with
      | error k => rw [h2] at h; cases h
      | ok v =>
        rw [h2] at h
        have := held_is h
        omega
def vis8 (l : List Nat) : List Int := l.map fun (n : Nat) => (n : Int)
theorem vis8_at {l : List Nat} (h : l.length = 8) {k : Nat} (hk : k < 8) : (vis8 l)[((k : Int)).toNat]? = some ((l.getD k 0 : Nat) : Int) := by
  unfold vis8
  rw [Int.toNat_natCast, List.getElem?_map, List.getElem?_eq_getElem (by omega), List.getD_eq_getElem?_getD, List.getElem?_eq_getElem (by omega)]
  rfl
/-- **an expression's items are worked out as the specification works out the expression** -/
theorem ev_is {σ : Type} {b : Board σ} {marks : List Nat} {a : Now σ} (hb : ∀ i d, b.look a.on i = .ok d → d ≤ 9999) (h8 : a.heads.length = 8) (hh : ∀ k, a.heads.getD k 0 ≤ 9999) (m8 : marks.length = 8) (hm : ∀ k, marks.getD k 0 ≤ 9999) :
    ∀ (e : Ex), nok e → ∀ (r : Items) (w : List Int), evS (digOf b a.on) (vis8 a.heads) (vis8 marks) (post e ++ r) w = match e.value b marks a with
      | .error k => .bad k
      | .ok x => evS (digOf b a.on) (vis8 a.heads) (vis8 marks) r (x :: w)
  | .num n, h, r, w => by
    have h : n ≤ 9999 := h
    have e : Ex.value b marks a (.num n) = .ok (n : Int) := held_ok (by omega)
    rw [e]
    rfl
  | .head k, h, r, w => by
    have := hh k
    have e : Ex.value b marks a (.head k) = .ok ((a.heads.getD k 0 : Nat) : Int) := held_ok (by omega)
    rw [e]
    show evS _ _ _ ((1, (k : Int)) :: r) w = _
    rw [evS_cons, if_neg (by decide), if_pos rfl, vis8_at h8 h]
  | .mark k, h, r, w => by
    have := hm k
    have e : Ex.value b marks a (.mark k) = .ok ((marks.getD k 0 : Nat) : Int) := held_ok (by omega)
    rw [e]
    show evS _ _ _ ((2, (k : Int)) :: r) w = _
    rw [evS_cons, if_neg (by decide), if_neg (by decide), if_pos rfl, vis8_at m8 h]
  | .rod e, h, r, w => by
    show evS _ _ _ (post e ++ [(3, 0)] ++ r) w = _
    rw [List.append_assoc, ev_is hb h8 hh m8 hm e h, v_rod]
    cases h1 : e.value b marks a with
    | error k => rfl
    | ok u =>
      dsimp only
      show evS _ _ _ ((3, 0) :: r) (u :: w) = _
      rw [evS_cons, if_neg (by decide), if_neg (by decide), if_neg (by decide), if_pos rfl]
      unfold digOf
      dsimp only
      cases h2 : rodIn b.rods u with
      | error k => rfl
      | ok i =>
        dsimp only
        cases h3 : b.look a.on i with
        | error k => rfl
        | ok d =>
          have := hb i d h3
          dsimp only
          rw [held_ok (by omega)]
  | .par e, h, r, w => ev_is hb h8 hh m8 hm e h r w
  | .times p q, h, r, w => by
    show evS _ _ _ (post p ++ post q ++ [(42, 0)] ++ r) w = _
    rw [List.append_assoc, List.append_assoc, ev_is hb h8 hh m8 hm p h.1, v_times]
    cases h1 : p.value b marks a with
    | error k => rfl
    | ok u =>
      dsimp only
      rw [ev_is hb h8 hh m8 hm q h.2]
      cases h2 : q.value b marks a with
      | error k => rfl
      | ok v =>
        dsimp only
        show evS _ _ _ ((42, 0) :: r) (v :: u :: w) = _
        rw [evS_cons, if_neg (by decide), if_neg (by decide), if_neg (by decide), if_neg (by decide)]
        dsimp only
        rw [if_pos rfl]
  | .plus p q, h, r, w => by
    show evS _ _ _ (post p ++ post q ++ [(43, 0)] ++ r) w = _
    rw [List.append_assoc, List.append_assoc, ev_is hb h8 hh m8 hm p h.1, v_plus]
    cases h1 : p.value b marks a with
    | error k => rfl
    | ok u =>
      dsimp only
      rw [ev_is hb h8 hh m8 hm q h.2]
      cases h2 : q.value b marks a with
      | error k => rfl
      | ok v =>
        dsimp only
        show evS _ _ _ ((43, 0) :: r) (v :: u :: w) = _
        rw [evS_cons, if_neg (by decide), if_neg (by decide), if_neg (by decide), if_neg (by decide)]
        dsimp only
        rw [if_neg (by decide), if_pos rfl]
  | .minus p q, h, r, w => by
    show evS _ _ _ (post p ++ post q ++ [(45, 0)] ++ r) w = _
    rw [List.append_assoc, List.append_assoc, ev_is hb h8 hh m8 hm p h.1, v_minus]
    cases h1 : p.value b marks a with
    | error k => rfl
    | ok u =>
      dsimp only
      rw [ev_is hb h8 hh m8 hm q h.2]
      cases h2 : q.value b marks a with
      | error k => rfl
      | ok v =>
        dsimp only
        show evS _ _ _ ((45, 0) :: r) (v :: u :: w) = _
        rw [evS_cons, if_neg (by decide), if_neg (by decide), if_neg (by decide), if_neg (by decide)]
        dsimp only
        rw [if_neg (by decide), if_neg (by decide)]
end Ab
namespace Ab
open Na
/-! ### makes: the mirror of makes.py -/
structure RodM where
  q : Nat
  b0 : Nat
  b1 : Nat
  b2 : Nat
  w0 : Nat
  w1 : Nat
  w2 : Nat
abbrev P3 := Nat × Nat × Nat
def rodM (g : List Nat) : RodM := ⟨g.getD 0 0, g.getD 1 0, g.getD 3 0, g.getD 5 0, g.getD 2 0, g.getD 4 0, g.getD 6 0⟩
def rodsM (l : List Nat) : List RodM := (groups 7 l).map rodM
def worthM (r : RodM) (p : P3) : Nat := p.1 * r.w0 + p.2.1 * r.w1 + p.2.2 * r.w2
def okP (b w : Nat) : Bool := (decide (b = 0) == decide (w = 0)) && (decide (b ≤ 15) && decide (w ≤ 63))
def decksM (r : RodM) : Bool := if r.b0 = 0 ∨ (0 < r.b2 ∧ r.b1 = 0) ∨ ¬ (2 ≤ r.q ∧ r.q ≤ 20) then false else okP r.b0 r.w0 && (okP r.b1 r.w1 && okP r.b2 r.w2)
def waysM (a b c : Nat) : List P3 := (List.range (a + 1)).flatMap fun i => (List.range (b + 1)).flatMap fun j => (List.range (c + 1)).map fun k => (i, j, k)
def tot3 (p : P3) : Nat := p.1 + p.2.1 + p.2.2
/-- the lesser rank: fewer beads, then more of deck 0, of deck 1 -/
def rankLt (p r : P3) : Bool := decide (tot3 p < tot3 r) || (decide (tot3 p = tot3 r) && (decide (r.1 < p.1) || (decide (r.1 = p.1) && decide (r.2.1 < p.2.1))))
def better (a : Option P3) (p : P3) : Bool := match a with
  | none => true
  | some r => rankLt p r
abbrev Forms := Nat → Option P3
def fmStep (r : RodM) (f : Forms) (p : P3) : Forms := if worthM r p < r.q ∧ better (f (worthM r p)) p = true then fun d => if d = worthM r p then some p else f d else f
def fmOf (r : RodM) (l : List P3) : Forms := l.foldl (fmStep r) fun _ => none
def formsM (r : RodM) : Forms := fmOf r (waysM r.b0 r.b1 r.b2)
def cntF (q : Nat) (f : Forms) : Nat := (List.range q).countP fun d => (f d).isSome
def ruleM (r : RodM) : Nat := if decksM r = false then 2 else if 255 < worthM r (r.b0, r.b1, r.b2) then 3 else if cntF r.q (formsM r) < r.q then 4 else 0
/-! groups -/
theorem by_at (k : Nat) (hk : 0 < k) : ∀ (n : Nat) (l : List Nat), l.length < n → ∀ i, (by_ k n l)[i]? = if k * i < l.length then some ((l.drop (k * i)).take k) else none
  | 0, l, h, i => absurd h (Nat.not_lt_zero _)
  | n + 1, l, h, i => by
    unfold by_
    by_cases e : l = []
    · rw [if_pos e, e]
      rw [if_neg (by simp)]; rfl
    · rw [if_neg e]
      have hl : 0 < l.length := List.length_pos_iff.mpr e
      cases i with
      | zero =>
        rw [if_pos (by omega)]
        rfl
      | succ i =>
        show (by_ k n (l.drop k))[i]? = _
        rw [by_at k hk n (l.drop k) (by rw [List.length_drop]; omega) i, List.length_drop, List.drop_drop]
        have e1 : k * (i + 1) = k + k * i := by rw [Nat.mul_add, Nat.mul_one, Nat.add_comm]
        rw [e1]
        by_cases h2 : k * i < l.length - k
        · rw [if_pos h2, if_pos (by omega)]
        · rw [if_neg h2, if_neg (by omega)]
theorem groups_at {k : Nat} (hk : 0 < k) (l : List Nat) (i : Nat) : (groups k l)[i]? = if k * i < l.length then some ((l.drop (k * i)).take k) else none := by_at k hk _ l (Nat.lt_succ_self _) i
theorem groups_len {k : Nat} (hk : 0 < k) {l : List Nat} {n : Nat} (h : l.length = k * n) : (groups k l).length = n := by
  have a : ∀ i, i < (groups k l).length ↔ i < n := fun i => by
    have q := groups_at hk l i
    rw [h] at q
    constructor
    · intro hi
      rw [List.getElem?_eq_getElem hi] at q
      by_cases z : k * i < k * n
      · exact Nat.lt_of_mul_lt_mul_left z
      · rw [if_neg z] at q; cases q
    · intro hi
      rw [if_pos (Nat.mul_lt_mul_of_pos_left hi hk)] at q
      exact (List.getElem?_eq_some_iff.mp q).1
  have h1 := a n
  have h2 := a (groups k l).length
  omega
theorem take_getD (l : List Nat) (k i j : Nat) (h : j < k) : ((l.drop i).take k).getD j 0 = l.getD (i + j) 0 := by
  rw [List.getD_eq_getElem?_getD, List.getD_eq_getElem?_getD, List.getElem?_take_of_lt h, List.getElem?_drop]
theorem rodsM_at {l : List Nat} {n i : Nat} (h : l.length = 7 * n) (hi : i < n) : (rodsM l)[i]? = some ⟨l.getD (7 * i) 0, l.getD (7 * i + 1) 0, l.getD (7 * i + 3) 0, l.getD (7 * i + 5) 0, l.getD (7 * i + 2) 0, l.getD (7 * i + 4) 0, l.getD (7 * i + 6) 0⟩ := by
  unfold rodsM
  rw [List.getElem?_map, groups_at (by decide), if_pos (by omega)]
  show some (rodM _) = _
  unfold rodM
  rw [take_getD _ _ _ _ (by decide), take_getD _ _ _ _ (by decide), take_getD _ _ _ _ (by decide), take_getD _ _ _ _ (by decide), take_getD _ _ _ _ (by decide), take_getD _ _ _ _ (by decide), take_getD _ _ _ _ (by decide)]
  rfl
theorem rodsM_len {l : List Nat} {n : Nat} (h : l.length = 7 * n) : (rodsM l).length = n := by
  unfold rodsM
  rw [List.length_map, groups_len (by decide) h]
/-! rods -/
theorem range3 (f : Nat → Bool) : (List.range 3).filter f = (if f 0 = true then [0] else []) ++ ((if f 1 = true then [1] else []) ++ (if f 2 = true then [2] else [])) := by
  show List.filter f [0, 1, 2] = _
  cases h0 : f 0 <;> cases h1 : f 1 <;> cases h2 : f 2 <;> simp [List.filter_cons, h0, h1, h2]
def decksOf (r : RodM) : List Deck := (if r.b0 ≠ 0 then [⟨r.b0, r.w0⟩] else []) ++ ((if r.b1 ≠ 0 then [⟨r.b1, r.w1⟩] else []) ++ (if r.b2 ≠ 0 then [⟨r.b2, r.w2⟩] else []))
theorem rodOf_is (g : List Nat) : rodOf g = ⟨(rodM g).q, decksOf (rodM g)⟩ := by
  unfold rodOf
  rw [range3]
  unfold decksOf rodM
  dsimp only
  congr 1
  rw [List.map_append, List.map_append]
  simp only [Nat.mul_zero, Nat.add_zero, Nat.mul_one, bne_iff_ne]
  congr 1
  · by_cases h : g.getD 1 0 ≠ 0
    · rw [if_pos h, if_pos h]; rfl
    · rw [if_neg h, if_neg h]; rfl
  · congr 1
    · by_cases h : g.getD 3 0 ≠ 0
      · rw [if_pos h, if_pos h]; rfl
      · rw [if_neg h, if_neg h]; rfl
    · by_cases h : g.getD 5 0 ≠ 0
      · rw [if_pos h, if_pos h]; rfl
      · rw [if_neg h, if_neg h]; rfl
/-- how many decks a fit rod has -/
theorem decks_cases {r : RodM} (h : decksM r = true) : (2 ≤ r.q ∧ r.q ≤ 20) ∧ (okP r.b0 r.w0 = true ∧ okP r.b1 r.w1 = true ∧ okP r.b2 r.w2 = true) ∧ r.b0 ≠ 0 ∧ (r.b1 = 0 → r.b2 = 0) := by
  unfold decksM at h
  by_cases c : r.b0 = 0 ∨ (0 < r.b2 ∧ r.b1 = 0) ∨ ¬ (2 ≤ r.q ∧ r.q ≤ 20)
  · rw [if_pos c] at h; cases h
  · rw [if_neg c] at h
    have h1 := Bool.and_eq_true_iff.mp h
    have h2 := Bool.and_eq_true_iff.mp h1.2
    exact ⟨by omega, ⟨h1.1, h2.1, h2.2⟩, by omega, by omega⟩
theorem okP_iff {b w : Nat} : okP b w = true ↔ ((b = 0 ↔ w = 0) ∧ b ≤ 15 ∧ w ≤ 63) := by
  unfold okP
  by_cases h1 : b = 0 <;> by_cases h2 : w = 0 <;> simp [h1, h2]
theorem good_iff (d : Deck) : d.good = true ↔ 1 ≤ d.beads ∧ d.beads ≤ 15 ∧ 1 ≤ d.worth ∧ d.worth ≤ 63 := by
  unfold Deck.good
  simp [Bool.and_eq_true, and_assoc]
theorem rodGood_is (g : List Nat) : rodGood g = decksM (rodM g) := by
  apply Bool.eq_iff_iff.mpr
  unfold rodGood
  rw [rodOf_is]
  have e3 : ∀ f : Nat → Bool, (List.range 3).all f = (f 0 && (f 1 && f 2)) := fun f => by
    show List.all [0, 1, 2] f = _
    simp
  rw [e3]
  unfold Rod.formed_ decksM
  have eb : ∀ a b : Nat, ((a == 0) == (b == 0)) = true ↔ (a = 0 ↔ b = 0) := fun a b => by
    have e1 : (a == 0) = decide (a = 0) := rfl
    have e2 : (b == 0) = decide (b = 0) := rfl
    rw [e1, e2]
    by_cases h1 : a = 0 <;> by_cases h2 : b = 0 <;> simp [h1, h2]
  simp only [Nat.mul_zero, Nat.add_zero, Nat.mul_one, Bool.and_eq_true, eb, Bool.or_eq_true, bne_iff_ne, decide_eq_true_eq, beq_iff_eq, show 1 + 2 * 2 = 5 from rfl, show 2 + 2 * 2 = 6 from rfl, show 1 + 2 = 3 from rfl, show 2 + 2 = 4 from rfl]
  show _ ↔ (if (rodM g).b0 = 0 ∨ (0 < (rodM g).b2 ∧ (rodM g).b1 = 0) ∨ ¬ (2 ≤ (rodM g).q ∧ (rodM g).q ≤ 20) then false else okP (rodM g).b0 (rodM g).w0 && (okP (rodM g).b1 (rodM g).w1 && okP (rodM g).b2 (rodM g).w2)) = true
  have e : ∀ {P : Prop} [Decidable P] {x : Bool}, (if P then false else x) = true ↔ ¬ P ∧ x = true := fun {P} _ {x} => by
    by_cases h : P
    · rw [if_pos h]; exact ⟨fun z => (by cases z), fun z => absurd h z.1⟩
    · rw [if_neg h]; exact ⟨fun z => ⟨h, z⟩, fun z => z.2⟩
  rw [e, Bool.and_eq_true, Bool.and_eq_true, okP_iff, okP_iff, okP_iff]
  show (g.getD 1 0 ≠ 0 ∧ ((g.getD 1 0 = 0 ↔ g.getD 2 0 = 0) ∧ (g.getD 3 0 = 0 ↔ g.getD 4 0 = 0) ∧ (g.getD 5 0 = 0 ↔ g.getD 6 0 = 0))) ∧ _ ↔ _
  unfold decksOf rodM
  dsimp only
  generalize g.getD 0 0 = q
  generalize g.getD 1 0 = b0
  generalize g.getD 2 0 = w0
  generalize g.getD 3 0 = b1
  generalize g.getD 4 0 = w1
  generalize g.getD 5 0 = b2
  generalize g.getD 6 0 = w2
  by_cases h0 : b0 = 0 <;> by_cases h1 : b1 = 0 <;> by_cases h2 : b2 = 0 <;> simp [h0, h1, h2, List.all_cons, good_iff] <;> omega
theorem most_is (g : List Nat) : (rodOf g).most = worthM (rodM g) ((rodM g).b0, (rodM g).b1, (rodM g).b2) := by
  rw [rodOf_is]
  unfold Rod.most decksOf worthM total
  generalize rodM g = r
  obtain ⟨q, b0, b1, b2, w0, w1, w2⟩ := r
  dsimp only
  by_cases h0 : b0 = 0 <;> by_cases h1 : b1 = 0 <;> by_cases h2 : b2 = 0 <;> simp [h0, h1, h2] <;> omega
/-! ways, forms -/
theorem rankLt_irr (p : P3) : rankLt p p = false := by
  unfold rankLt
  simp
def pick (a : Option P3) (p : P3) : Option P3 := if better a p = true then some p else a
theorem fm_at (r : RodM) : ∀ (l : List P3) (f : Forms) (d : Nat), (l.foldl (fmStep r) f) d = if d < r.q then (l.filter fun p => worthM r p == d).foldl pick (f d) else f d
  | [], f, d => by
    rw [List.foldl_nil, List.filter_nil, List.foldl_nil]
    split <;> rfl
  | p :: l, f, d => by
    rw [List.foldl_cons, fm_at r l (fmStep r f p) d]
    unfold fmStep
    by_cases hd : d < r.q
    · rw [if_pos hd, if_pos hd, List.filter_cons]
      by_cases hw : worthM r p = d
      · have e : (worthM r p == d) = true := beq_iff_eq.mpr hw
        rw [e, if_pos rfl, List.foldl_cons]
        congr 1
        unfold pick
        by_cases hb : better (f (worthM r p)) p = true
        · rw [if_pos ⟨by omega, hb⟩, if_pos hw.symm, ← hw, if_pos hb]
        · rw [if_neg (fun z => hb z.2), ← hw, if_neg hb]
      · have e : (worthM r p == d) = false := beq_eq_false_iff_ne.mpr hw
        simp only [e, Bool.false_eq_true, if_false]
        congr 1
        by_cases h : worthM r p < r.q ∧ better (f (worthM r p)) p = true
        · rw [if_pos h]
          show (if d = worthM r p then some p else f d) = f d
          rw [if_neg (fun z => hw z.symm)]
        · rw [if_neg h]
    · rw [if_neg hd, if_neg hd]
      by_cases h : worthM r p < r.q ∧ better (f (worthM r p)) p = true
      · rw [if_pos h]
        show (if d = worthM r p then some p else f d) = f d
        rw [if_neg (fun z => hd (by omega))]
      · rw [if_neg h]
theorem pick_some : ∀ (l : List P3) (a : Option P3), (l.foldl pick a).isSome = (a.isSome || !l.isEmpty)
  | [], a => by simp
  | p :: l, a => by
    rw [List.foldl_cons, pick_some l]
    unfold pick better
    cases a with
    | none => rfl
    | some r => dsimp only; split <;> rfl
theorem forms_some (r : RodM) {d : Nat} (hd : d < r.q) : (formsM r d).isSome = (waysM r.b0 r.b1 r.b2).any fun p => worthM r p == d := by
  unfold formsM fmOf
  rw [fm_at, if_pos hd, pick_some]
  show (!List.isEmpty _) = _
  generalize waysM r.b0 r.b1 r.b2 = l
  induction l with
  | nil => rfl
  | cons p l ih =>
    rw [List.filter_cons, List.any_cons]
    cases h : (worthM r p == d) with
    | true => rfl
    | false => rw [if_neg (by decide), ih]; rfl
/-- the ways that a rod's own decks have -/
def cut (n : Nat) (p : P3) : Push := [p.1, p.2.1, p.2.2].take n
theorem ways_is {r : RodM} (h : decksM r = true) : ∃ n, (∀ p ∈ waysM r.b0 r.b1 r.b2, cut n p = cut n p) ∧ pushes (decksOf r) = (waysM r.b0 r.b1 r.b2).map (cut n) ∧ ∀ p ∈ waysM r.b0 r.b1 r.b2, worthOf (decksOf r) (cut n p) = worthM r p ∧ total (cut n p) = tot3 p ∧ (n ≤ 1 → p.2.1 = 0) ∧ (n ≤ 2 → p.2.2 = 0) := by
  obtain ⟨_, _, h0, h12⟩ := decks_cases h
  obtain ⟨q, b0, b1, b2, w0, w1, w2⟩ := r
  dsimp only at h0 h12
  have mem : ∀ {b0 b1 b2 : Nat} {p : P3}, p ∈ waysM b0 b1 b2 → p.1 ≤ b0 ∧ p.2.1 ≤ b1 ∧ p.2.2 ≤ b2 := fun {b0 b1 b2 p} hp => by
    unfold waysM at hp
    obtain ⟨i, hi, hp⟩ := List.mem_flatMap.mp hp
    obtain ⟨j, hj, hp⟩ := List.mem_flatMap.mp hp
    obtain ⟨k, hk, rfl⟩ := List.mem_map.mp hp
    have := List.mem_range.mp hi
    have := List.mem_range.mp hj
    have := List.mem_range.mp hk
    dsimp only
    omega
  have push1 : ∀ d : Deck, pushes [d] = (List.range (d.beads + 1)).map fun k => [k] := fun d => by
    show (List.range (d.beads + 1)).flatMap (fun k => [[k]]) = _
    rw [← List.map_eq_flatMap]
  have pushc : ∀ (d : Deck) (r : List Deck), pushes (d :: r) = (List.range (d.beads + 1)).flatMap fun k => (pushes r).map fun p => k :: p := fun d r => rfl
  by_cases h1 : b1 = 0
  · have h2 := h12 h1
    subst h1 h2
    have ed : decksOf ⟨q, b0, 0, 0, w0, w1, w2⟩ = [⟨b0, w0⟩] := by unfold decksOf; simp [h0]
    refine ⟨1, fun _ _ => rfl, ?_, fun p hp => ?_⟩
    · rw [ed, push1]
      unfold waysM
      show _ = List.map _ (List.flatMap (fun i => List.flatMap (fun j => List.map (fun k => (i, j, k)) [0]) [0]) (List.range (b0 + 1)))
      rw [List.map_flatMap, List.map_eq_flatMap]
      rfl
    · have := mem hp
      obtain ⟨i, j, k⟩ := p
      dsimp only at this
      obtain ⟨_, hj, hk⟩ := this
      have hj : j = 0 := by omega
      have hk : k = 0 := by omega
      subst hj hk
      rw [ed]
      refine ⟨?_, ?_, fun _ => rfl, fun _ => rfl⟩
      · show i * w0 + 0 = i * w0 + 0 * w1 + 0 * w2
        omega
      · show i + 0 = i + 0 + 0
        omega
  · by_cases h2 : b2 = 0
    · subst h2
      have ed : decksOf ⟨q, b0, b1, 0, w0, w1, w2⟩ = [⟨b0, w0⟩, ⟨b1, w1⟩] := by unfold decksOf; simp [h0, h1]
      refine ⟨2, fun _ _ => rfl, ?_, fun p hp => ?_⟩
      · rw [ed, pushc, push1]
        unfold waysM
        show _ = List.map _ (List.flatMap (fun i => List.flatMap (fun j => List.map (fun k => (i, j, k)) [0]) (List.range (b1 + 1))) (List.range (b0 + 1)))
        rw [List.map_flatMap]
        congr 1
        funext i
        rw [List.map_flatMap, List.map_map, List.map_eq_flatMap]
        rfl
      · have := mem hp
        obtain ⟨i, j, k⟩ := p
        dsimp only at this
        obtain ⟨_, hj, hk⟩ := this
        have hk : k = 0 := by omega
        subst hk
        rw [ed]
        refine ⟨?_, ?_, fun z => absurd z (by decide), fun _ => rfl⟩
        · show i * w0 + (j * w1 + 0) = i * w0 + j * w1 + 0 * w2
          omega
        · show i + (j + 0) = i + j + 0
          omega
    · have ed : decksOf ⟨q, b0, b1, b2, w0, w1, w2⟩ = [⟨b0, w0⟩, ⟨b1, w1⟩, ⟨b2, w2⟩] := by unfold decksOf; simp [h0, h1, h2]
      refine ⟨3, fun _ _ => rfl, ?_, fun p hp => ?_⟩
      · rw [ed, pushc, pushc, push1]
        unfold waysM
        show _ = List.map _ (List.flatMap (fun i => List.flatMap (fun j => List.map (fun k => (i, j, k)) (List.range (b2 + 1))) (List.range (b1 + 1))) (List.range (b0 + 1)))
        rw [List.map_flatMap]
        congr 1
        funext i
        rw [List.map_flatMap, List.map_flatMap]
        congr 1
        funext j
        rw [List.map_map, List.map_map, List.map_map]
        rfl
      · obtain ⟨i, j, k⟩ := p
        rw [ed]
        refine ⟨?_, ?_, fun z => absurd z (by decide), fun z => absurd z (by decide)⟩
        · show i * w0 + (j * w1 + (k * w2 + 0)) = i * w0 + j * w1 + k * w2
          omega
        · show i + (j + (k + 0)) = i + j + k
          omega
theorem whole_is (g : List Nat) (h : decksM (rodM g) = true) : (rodOf g).whole = decide (¬ cntF (rodM g).q (formsM (rodM g)) < (rodM g).q) := by
  rw [rodOf_is]
  generalize rodM g = r at h ⊢
  obtain ⟨n, _, e, hw⟩ := ways_is h
  unfold Rod.whole
  dsimp only
  rw [e]
  have e2 : ∀ d, ((waysM r.b0 r.b1 r.b2).map (cut n)).any (fun p => worthOf (decksOf r) p == d) = (waysM r.b0 r.b1 r.b2).any fun p => worthM r p == d := fun d => by
    rw [List.any_map]
    apply Bool.eq_iff_iff.mpr
    rw [List.any_eq_true, List.any_eq_true]
    constructor
    · rintro ⟨p, hp, h⟩
      exact ⟨p, hp, by rw [← (hw p hp).1]; exact h⟩
    · rintro ⟨p, hp, h⟩
      exact ⟨p, hp, by show (worthOf _ (cut n p) == d) = true; rw [(hw p hp).1]; exact h⟩
  apply Bool.eq_iff_iff.mpr
  rw [List.all_eq_true, decide_eq_true_iff]
  unfold cntF
  constructor
  · intro ha
    have : (List.range r.q).countP (fun d => (formsM r d).isSome) = (List.range r.q).length := by
      rw [List.countP_eq_length]
      intro d hd
      rw [forms_some r (List.mem_range.mp hd), ← e2]
      exact ha d hd
    rw [this, List.length_range]
    omega
  · intro hn d hd
    have l1 := List.countP_le_length (p := fun d => (formsM r d).isSome) (l := List.range r.q)
    rw [List.length_range] at l1
    have : (List.range r.q).countP (fun d => (formsM r d).isSome) = (List.range r.q).length := by rw [List.length_range]; omega
    rw [List.countP_eq_length] at this
    have q := this d hd
    rw [forms_some r (List.mem_range.mp hd), ← e2] at q
    exact q
theorem rule_is (g : List Nat) : ruleM (rodM g) = rodWrong g := by
  unfold ruleM rodWrong
  rw [rodGood_is, most_is]
  by_cases h : decksM (rodM g) = false
  · rw [if_pos h, if_pos h]
  · rw [if_neg h, if_neg h]
    by_cases h2 : 255 < worthM (rodM g) ((rodM g).b0, (rodM g).b1, (rodM g).b2)
    · rw [if_pos h2, if_pos h2]
    · rw [if_neg h2, if_neg h2, whole_is g (by simpa using h)]
      by_cases h3 : cntF (rodM g).q (formsM (rodM g)) < (rodM g).q
      · rw [if_pos h3, if_pos (by simpa using h3)]
      · rw [if_neg h3, if_neg (by simpa using h3)]
/-! the whole make -/
def wrongAt (l : List Nat) : Option Nat := (rodsM l).findIdx? fun r => ruleM r != 0
theorem make_is (l : List Nat) : makeOf l = if l.length % 7 ≠ 0 ∨ ¬ (1 ≤ l.length / 7 ∧ l.length / 7 ≤ 64) then .error ⟨1, 0⟩ else match wrongAt l with
    | some i => .error ⟨((rodsM l)[i]?.map ruleM).getD 0, i⟩
    | none => .ok ((groups 7 l).map rodOf) := by
  unfold makeOf wrongAt rodsM RODS
  have e1 : (l.length % 7 ≠ 0 ∨ l.length = 0 ∨ 7 * 64 < l.length) ↔ (l.length % 7 ≠ 0 ∨ ¬ (1 ≤ l.length / 7 ∧ l.length / 7 ≤ 64)) := by omega
  have e2 : (groups 7 l).findIdx? (fun g => rodWrong g != 0) = ((groups 7 l).map rodM).findIdx? fun r => ruleM r != 0 := by
    rw [List.findIdx?_map]
    congr 1
    funext g
    show _ = (ruleM (rodM g) != 0)
    rw [rule_is]
  rw [e2]
  by_cases h : l.length % 7 ≠ 0 ∨ ¬ (1 ≤ l.length / 7 ∧ l.length / 7 ≤ 64)
  · rw [if_pos (e1.mpr h), if_pos h]
  · rw [if_neg (fun z => h (e1.mp z)), if_neg h]
    cases hi : ((groups 7 l).map rodM).findIdx? fun r => ruleM r != 0 with
    | none => rfl
    | some i =>
      dsimp only
      have hl : i < (groups 7 l).length := by
        have := (List.findIdx?_eq_some_iff_getElem.mp hi).1
        simpa using this
      rw [List.getElem?_map, List.getElem?_eq_getElem hl, List.getD_eq_getElem?_getD, List.getElem?_eq_getElem hl]
      show _ = Except.error (⟨ruleM (rodM _), i⟩ : Na.Fault)
      rw [rule_is]
      rfl
/-! places and digits -/
theorem span_take (m : Make) (i : Nat) {r : Rod} (h : m[i]? = some r) : span (m.take (i + 1)) = span (m.take i) * r.ratio := by
  induction m generalizing i with
  | nil => cases h
  | cons a m ih =>
    cases i with
    | zero =>
      cases h
      show r.ratio * span (m.take 0) = 1 * r.ratio
      rw [List.take_zero]
      show r.ratio * 1 = _
      omega
    | succ i =>
      show a.ratio * span (m.take (i + 1)) = a.ratio * span (m.take i) * r.ratio
      rw [ih i h, Nat.mul_assoc]
theorem digits_at : ∀ (m : Make) (v i : Nat) {r : Rod}, m[i]? = some r → (digits m v).getD i 0 = v / span (m.take i) % r.ratio
  | [], v, i, r, h => by cases h
  | a :: m, v, 0, r, h => by
    cases h
    show v % a.ratio = v / 1 % a.ratio
    rw [Nat.div_one]
  | a :: m, v, i + 1, r, h => by
    show (digits m (v / a.ratio)).getD i 0 = v / (a.ratio * span (m.take i)) % r.ratio
    rw [digits_at m (v / a.ratio) i h, Nat.div_div_eq_div_mul]
end Ab
namespace Ab
open Na
/-! ### forms: the mirror's dict has the specification's forms -/
def nd (r : RodM) : Nat := (decksOf r).length
theorem nd_cases {r : RodM} (h : decksM r = true) : (nd r = 1 ∧ r.b0 ≠ 0 ∧ r.b1 = 0 ∧ r.b2 = 0 ∧ decksOf r = [⟨r.b0, r.w0⟩]) ∨ (nd r = 2 ∧ r.b0 ≠ 0 ∧ r.b1 ≠ 0 ∧ r.b2 = 0 ∧ decksOf r = [⟨r.b0, r.w0⟩, ⟨r.b1, r.w1⟩]) ∨ (nd r = 3 ∧ r.b0 ≠ 0 ∧ r.b1 ≠ 0 ∧ r.b2 ≠ 0 ∧ decksOf r = [⟨r.b0, r.w0⟩, ⟨r.b1, r.w1⟩, ⟨r.b2, r.w2⟩]) := by
  obtain ⟨_, _, h0, h12⟩ := decks_cases h
  obtain ⟨q, b0, b1, b2, w0, w1, w2⟩ := r
  dsimp only at h0 h12 ⊢
  by_cases h1 : b1 = 0
  · have h2 := h12 h1
    subst h1 h2
    left
    unfold nd decksOf
    simp [h0]
  · by_cases h2 : b2 = 0
    · subst h2
      right; left
      unfold nd decksOf
      simp [h0, h1]
    · right; right
      unfold nd decksOf
      simp [h0, h1, h2]
/-- beads that a rod has -/
def P3.le (p : P3) (r : RodM) : Prop := p.1 ≤ r.b0 ∧ p.2.1 ≤ r.b1 ∧ p.2.2 ≤ r.b2
theorem ways_iff {r : RodM} {p : P3} : p ∈ waysM r.b0 r.b1 r.b2 ↔ p.le r := by
  unfold waysM P3.le
  obtain ⟨i, j, k⟩ := p
  constructor
  · intro hp
    obtain ⟨i, hi, hp⟩ := List.mem_flatMap.mp hp
    obtain ⟨j, hj, hp⟩ := List.mem_flatMap.mp hp
    obtain ⟨k, hk, e⟩ := List.mem_map.mp hp
    cases e
    have := List.mem_range.mp hi
    have := List.mem_range.mp hj
    have := List.mem_range.mp hk
    dsimp only
    omega
  · rintro ⟨h1, h2, h3⟩
    exact List.mem_flatMap.mpr ⟨i, List.mem_range.mpr (by dsimp only at h1; omega), List.mem_flatMap.mpr ⟨j, List.mem_range.mpr (by dsimp only at h2; omega), List.mem_map.mpr ⟨k, List.mem_range.mpr (by dsimp only at h3; omega), rfl⟩⟩⟩
theorem cut_worth {r : RodM} (h : decksM r = true) {p : P3} (hp : p.le r) : worthOf (decksOf r) (cut (nd r) p) = worthM r p ∧ total (cut (nd r) p) = tot3 p := by
  obtain ⟨i, j, k⟩ := p
  unfold P3.le at hp
  dsimp only at hp
  rcases nd_cases h with ⟨e, _, h1, h2, ed⟩ | ⟨e, _, _, h2, ed⟩ | ⟨e, _, _, _, ed⟩
  · have hj : j = 0 := by omega
    have hk : k = 0 := by omega
    subst hj hk
    rw [ed, e]
    exact ⟨by show i * r.w0 + 0 = i * r.w0 + 0 * r.w1 + 0 * r.w2; omega, by show i + 0 = i + 0 + 0; omega⟩
  · have hk : k = 0 := by omega
    subst hk
    rw [ed, e]
    exact ⟨by show i * r.w0 + (j * r.w1 + 0) = i * r.w0 + j * r.w1 + 0 * r.w2; omega, by show i + (j + 0) = i + j + 0; omega⟩
  · rw [ed, e]
    exact ⟨by show i * r.w0 + (j * r.w1 + (k * r.w2 + 0)) = i * r.w0 + j * r.w1 + k * r.w2; omega, by show i + (j + (k + 0)) = i + j + k; omega⟩
theorem cut_inj {r : RodM} (h : decksM r = true) {p p' : P3} (hp : p.le r) (hp' : p'.le r) (e : cut (nd r) p = cut (nd r) p') : p = p' := by
  obtain ⟨i, j, k⟩ := p
  obtain ⟨i', j', k'⟩ := p'
  unfold P3.le at hp hp'
  dsimp only at hp hp'
  rcases nd_cases h with ⟨en, _, h1, h2, _⟩ | ⟨en, _, _, h2, _⟩ | ⟨en, _, _, _, _⟩
  · rw [en] at e
    have e : [i] = [i'] := e
    have e := List.cons.inj e
    have : j = j' := by omega
    have : k = k' := by omega
    rw [e.1]
    simp_all
  · rw [en] at e
    have e : [i, j] = [i', j'] := e
    simp only [List.cons.injEq, and_true] at e
    have : k = k' := by omega
    simp_all
  · rw [en] at e
    have e : [i, j, k] = [i', j', k'] := e
    simp only [List.cons.injEq, and_true] at e
    simp_all
theorem pushes_is {r : RodM} (h : decksM r = true) : pushes (decksOf r) = (waysM r.b0 r.b1 r.b2).map (cut (nd r)) := by
  have push1 : ∀ d : Deck, pushes [d] = (List.range (d.beads + 1)).map fun k => [k] := fun d => by
    show (List.range (d.beads + 1)).flatMap (fun k => [[k]]) = _
    rw [← List.map_eq_flatMap]
  have pushc : ∀ (d : Deck) (r : List Deck), pushes (d :: r) = (List.range (d.beads + 1)).flatMap fun k => (pushes r).map fun p => k :: p := fun d r => rfl
  rcases nd_cases h with ⟨e, _, h1, h2, ed⟩ | ⟨e, _, _, h2, ed⟩ | ⟨e, _, _, _, ed⟩
  · rw [ed, e, push1, h1, h2]
    unfold waysM
    show _ = List.map _ (List.flatMap (fun i => List.flatMap (fun j => List.map (fun k => (i, j, k)) [0]) [0]) (List.range (r.b0 + 1)))
    rw [List.map_flatMap, List.map_eq_flatMap]
    rfl
  · rw [ed, e, pushc, push1, h2]
    unfold waysM
    show _ = List.map _ (List.flatMap (fun i => List.flatMap (fun j => List.map (fun k => (i, j, k)) [0]) (List.range (r.b1 + 1))) (List.range (r.b0 + 1)))
    rw [List.map_flatMap]
    congr 1
    funext i
    rw [List.map_flatMap, List.map_map, List.map_eq_flatMap]
    rfl
  · rw [ed, e, pushc, pushc, push1]
    unfold waysM
    rw [List.map_flatMap]
    congr 1
    funext i
    rw [List.map_flatMap, List.map_flatMap]
    congr 1
    funext j
    rw [List.map_map, List.map_map, List.map_map]
    rfl
theorem nicer_is {r : RodM} (h : decksM r = true) {p q : P3} (hp : p.le r) (hq : q.le r) : nicer (cut (nd r) p) (cut (nd r) q) = rankLt p q := by
  unfold nicer rankLt
  rw [(cut_worth h hp).2, (cut_worth h hq).2]
  obtain ⟨i, j, k⟩ := p
  obtain ⟨i', j', k'⟩ := q
  unfold P3.le at hp hq
  dsimp only at hp hq
  apply Bool.eq_iff_iff.mpr
  have lt3 : ∀ a b : Nat, (a == b) = true ↔ a = b := fun a b => beq_iff_eq
  rcases nd_cases h with ⟨en, _, h1, h2, _⟩ | ⟨en, _, _, h2, _⟩ | ⟨en, _, _, _, _⟩
  · rw [en]
    show (decide (tot3 (i, j, k) < tot3 (i', j', k')) || (tot3 (i, j, k) == tot3 (i', j', k') && (decide (i' < i) || (i' == i && false)))) = true ↔ _
    simp only [Bool.or_eq_true, Bool.and_eq_true, decide_eq_true_eq, beq_iff_eq, Bool.false_eq_true, and_false, or_false]
    omega
  · rw [en]
    show (decide (tot3 (i, j, k) < tot3 (i', j', k')) || (tot3 (i, j, k) == tot3 (i', j', k') && (decide (i' < i) || (i' == i && (decide (j' < j) || (j' == j && false)))))) = true ↔ _
    simp only [Bool.or_eq_true, Bool.and_eq_true, decide_eq_true_eq, beq_iff_eq, Bool.false_eq_true, and_false, or_false]
  · rw [en]
    show (decide (tot3 (i, j, k) < tot3 (i', j', k')) || (tot3 (i, j, k) == tot3 (i', j', k') && (decide (i' < i) || (i' == i && (decide (j' < j) || (j' == j && (decide (k' < k) || (k' == k && false)))))))) = true ↔ _
    simp only [Bool.or_eq_true, Bool.and_eq_true, decide_eq_true_eq, beq_iff_eq, Bool.false_eq_true, and_false, or_false]
    unfold tot3
    dsimp only
    omega
theorem nicest_is {r : RodM} (h : decksM r = true) : ∀ (l : List P3) (a : Option P3), (∀ p ∈ l, p.le r) → (∀ p, a = some p → p.le r) →
    (l.map (cut (nd r))).foldl (fun (a : Option Push) (p : Push) => match a with
      | none => some p
      | some q => if nicer p q = true then some p else some q) (a.map (cut (nd r))) = (l.foldl pick a).map (cut (nd r)) ∧ ∀ p, l.foldl pick a = some p → p.le r
  | [], a, _, ha => ⟨rfl, ha⟩
  | p :: l, a, hl, ha => by
    have hp := hl p (List.mem_cons_self ..)
    have hl' := fun q hq => hl q (List.mem_cons_of_mem _ hq)
    rw [List.map_cons, List.foldl_cons, List.foldl_cons]
    have hs : (match a.map (cut (nd r)) with
      | none => some (cut (nd r) p)
      | some q => if nicer (cut (nd r) p) q = true then some (cut (nd r) p) else some q) = (pick a p).map (cut (nd r)) ∧ ∀ q, pick a p = some q → q.le r := by
      cases a with
      | none => exact ⟨rfl, fun q e => by cases e; exact hp⟩
      | some q =>
        have hq := ha q rfl
        show (if nicer (cut (nd r) p) (cut (nd r) q) = true then some (cut (nd r) p) else some (cut (nd r) q)) = _ ∧ _
        rw [nicer_is h hp hq]
        unfold pick better
        dsimp only
        by_cases hr : rankLt p q = true
        · simp only [if_pos hr]
          exact ⟨rfl, fun q' e => by cases e; exact hp⟩
        · simp only [if_neg hr]
          exact ⟨rfl, fun q' e => by cases e; exact hq⟩
    rw [hs.1]
    exact nicest_is h l (pick a p) hl' hs.2
/-- **a form is the specification's** -/
theorem form_is {r : RodM} (h : decksM r = true) {d : Nat} (hd : d < r.q) : (∀ p, formsM r d = some p → p.le r) ∧ formOf ⟨r.q, decksOf r⟩ d = ((formsM r d).map (cut (nd r))).getD [] := by
  have e : formsM r d = ((waysM r.b0 r.b1 r.b2).filter fun p => worthM r p == d).foldl pick none := by
    unfold formsM fmOf
    rw [fm_at, if_pos hd]
  have hl : ∀ p ∈ (waysM r.b0 r.b1 r.b2).filter (fun p => worthM r p == d), p.le r := fun p hp => ways_iff.mp (List.mem_filter.mp hp).1
  obtain ⟨h1, h2⟩ := nicest_is h _ none hl (fun p e => by cases e)
  rw [e]
  refine ⟨h2, ?_⟩
  unfold formOf nicest
  dsimp only
  rw [pushes_is h]
  have ef : ((waysM r.b0 r.b1 r.b2).map (cut (nd r))).filter (fun p => worthOf (decksOf r) p == d) = ((waysM r.b0 r.b1 r.b2).filter fun p => worthM r p == d).map (cut (nd r)) := by
    rw [List.filter_map]
    congr 1
    apply List.filter_congr
    intro p hp
    show (worthOf (decksOf r) (cut (nd r) p) == d) = _
    rw [(cut_worth h (ways_iff.mp hp)).1]
  rw [ef]
  exact congrArg (fun z => z.getD []) h1
end Ab
namespace Ab
open Na
/-! ### standings as flat lists -/
def at3 (l : List Nat) (i : Nat) : P3 := (l.getD (3 * i) 0, l.getD (3 * i + 1) 0, l.getD (3 * i + 2) 0)
def mkR (rs : List RodM) : Make := rs.map fun r => ⟨r.q, decksOf r⟩
def sOf (rs : List RodM) (l : List Nat) : Standing := rs.zipIdx.map fun x => cut (nd x.1) (at3 l x.2)
structure StOk (rs : List RodM) (l : List Nat) : Prop where
  len : l.length = 3 * rs.length
  le : ∀ i r, rs[i]? = some r → (at3 l i).le r
theorem zipIdx_at {A : Type} (l : List A) (i : Nat) : l.zipIdx[i]? = l[i]?.map fun a => (a, i) := by
  rw [List.getElem?_zipIdx]
  simp
theorem sOf_at (rs : List RodM) (l : List Nat) (i : Nat) : (sOf rs l)[i]? = rs[i]?.map fun r => cut (nd r) (at3 l i) := by
  unfold sOf
  rw [List.getElem?_map, zipIdx_at, Option.map_map]
  rfl
theorem sOf_len (rs : List RodM) (l : List Nat) : (sOf rs l).length = rs.length := by
  unfold sOf
  rw [List.length_map, List.length_zipIdx]
theorem mkR_at (rs : List RodM) (i : Nat) : (mkR rs)[i]? = rs[i]?.map fun r => ⟨r.q, decksOf r⟩ := List.getElem?_map ..
theorem mkR_len (rs : List RodM) : (mkR rs).length = rs.length := List.length_map ..
/-- how many beads there are at a place -/
def beadAt (rs : List RodM) (k : Nat) : Nat := match rs[k / 3]? with
  | none => 0
  | some r => if k % 3 = 0 then r.b0 else if k % 3 = 1 then r.b1 else r.b2
def AllD (rs : List RodM) : Prop := ∀ r ∈ rs, decksM r = true
theorem there_is {rs : List RodM} (h : AllD rs) (k : Nat) : thereAt (mkR rs) k = beadAt rs k := by
  unfold thereAt beadAt
  rw [mkR_at]
  cases hr : rs[k / 3]? with
  | none => rfl
  | some r =>
    have hd := h r (List.mem_of_getElem? hr)
    show (((decksOf r)[k % 3]?).map fun d : Deck => d.beads).getD 0 = _
    dsimp only
    have hk : k % 3 = 0 ∨ k % 3 = 1 ∨ k % 3 = 2 := by omega
    rcases nd_cases hd with ⟨_, _, h1, h2, ed⟩ | ⟨_, _, _, h2, ed⟩ | ⟨_, _, _, _, ed⟩ <;> rw [ed] <;> rcases hk with e | e | e <;> rw [e] <;> simp_all
theorem cut_range {n : Nat} (hn : n ≤ 3) (l : List Nat) (i : Nat) : (List.range n).map (fun j => l.getD (3 * i + j) 0) = cut n (at3 l i) := by
  have : n = 0 ∨ n = 1 ∨ n = 2 ∨ n = 3 := by omega
  rcases this with e | e | e | e <;> subst e <;> rfl
theorem nd_le {r : RodM} (h : decksM r = true) : 1 ≤ nd r ∧ nd r ≤ 3 := by
  rcases nd_cases h with ⟨e, _⟩ | ⟨e, _⟩ | ⟨e, _⟩ <;> omega
theorem stand_is {rs : List RodM} (h : AllD rs) (l : List Nat) : standingOf (mkR rs) l = if l.length ≠ 3 * rs.length then .error ⟨5, l.length⟩ else match (List.range l.length).find? fun k => decide (beadAt rs k < l.getD k 0) with
    | some k => .error ⟨5, k⟩
    | none => .ok (sOf rs l) := by
  unfold standingOf
  rw [mkR_len]
  by_cases hl : l.length ≠ 3 * rs.length
  · rw [if_pos hl, if_pos hl]
  · rw [if_neg hl, if_neg hl]
    have e1 : (fun k => decide (thereAt (mkR rs) k < l.getD k 0)) = fun k => decide (beadAt rs k < l.getD k 0) := by
      funext k
      rw [there_is h]
    rw [e1]
    cases (List.range l.length).find? fun k => decide (beadAt rs k < l.getD k 0) with
    | some k => rfl
    | none =>
      dsimp only
      congr 1
      unfold sOf
      apply List.ext_getElem?
      intro i
      rw [List.getElem?_map, List.getElem?_map, zipIdx_at, zipIdx_at, mkR_at]
      cases hr : rs[i]? with
      | none => rfl
      | some r =>
        have hd := h r (List.mem_of_getElem? hr)
        show some ((List.range (decksOf r).length).map fun j => l.getD (3 * i + j) 0) = some (cut (nd r) (at3 l i))
        exact congrArg some (cut_range (nd_le hd).2 l i)
theorem stand_ok {rs : List RodM} {l : List Nat} (hl : l.length = 3 * rs.length) (h : (List.range l.length).find? (fun k => decide (beadAt rs k < l.getD k 0)) = none) : StOk rs l := by
  refine ⟨hl, fun i r hr => ?_⟩
  have hi : i < rs.length := (List.getElem?_eq_some_iff.mp hr).1
  rw [List.find?_eq_none] at h
  have key : ∀ j, j < 3 → l.getD (3 * i + j) 0 ≤ beadAt rs (3 * i + j) := fun j hj => by
    have := h (3 * i + j) (List.mem_range.mpr (by omega))
    simp only [decide_eq_true_eq] at this
    omega
  have b : ∀ j, j < 3 → beadAt rs (3 * i + j) = if j = 0 then r.b0 else if j = 1 then r.b1 else r.b2 := fun j hj => by
    unfold beadAt
    have e1 : (3 * i + j) / 3 = i := by omega
    have e2 : (3 * i + j) % 3 = j := by omega
    rw [e1, e2, hr]
  have k0 := key 0 (by decide)
  have k1 := key 1 (by decide)
  have k2 := key 2 (by decide)
  rw [b 0 (by decide)] at k0
  rw [b 1 (by decide)] at k1
  rw [b 2 (by decide)] at k2
  exact ⟨k0, k1, k2⟩
/-- the digit that beads on a rod show in form -/
def showM (r : RodM) (p : P3) : Option Nat := if worthM r p < r.q ∧ formsM r (worthM r p) = some p then some (worthM r p) else none
/-- every digit has a form -/
def WholeM (r : RodM) : Prop := ∀ d, d < r.q → (formsM r d).isSome = true
theorem whole_of {r : RodM} (h : ¬ cntF r.q (formsM r) < r.q) : WholeM r := by
  intro d hd
  have l1 := List.countP_le_length (p := fun d => (formsM r d).isSome) (l := List.range r.q)
  rw [List.length_range] at l1
  unfold cntF at h
  have : (List.range r.q).countP (fun d => (formsM r d).isSome) = (List.range r.q).length := by rw [List.length_range]; omega
  rw [List.countP_eq_length] at this
  exact this d (List.mem_range.mpr hd)
theorem form_eq {r : RodM} (h : decksM r = true) (hw : WholeM r) {p : P3} (hp : p.le r) {d : Nat} (hd : d < r.q) : cut (nd r) p = formOf ⟨r.q, decksOf r⟩ d ↔ formsM r d = some p := by
  obtain ⟨h1, h2⟩ := form_is h hd
  rw [h2]
  have := hw d hd
  cases hf : formsM r d with
  | none => rw [hf] at this; cases this
  | some p' =>
    show cut (nd r) p = cut (nd r) p' ↔ _
    constructor
    · intro e
      rw [cut_inj h hp (h1 p' hf) e]
    · intro e
      rw [Option.some.inj e]
theorem shown_is {rs : List RodM} (h : AllD rs) (hw : ∀ r ∈ rs, WholeM r) {l : List Nat} (s : StOk rs l) (i : Nat) : shownAt (mkR rs) (sOf rs l) i = match rs[i]? with
    | none => none
    | some r => showM r (at3 l i) := by
  unfold shownAt
  rw [mkR_at, sOf_at]
  cases hr : rs[i]? with
  | none => rfl
  | some r =>
    have hd := h r (List.mem_of_getElem? hr)
    have hp := s.le i r hr
    show (if worthOf (decksOf r) (cut (nd r) (at3 l i)) < r.q ∧ cut (nd r) (at3 l i) = formOf ⟨r.q, decksOf r⟩ (worthOf (decksOf r) (cut (nd r) (at3 l i))) then some (worthOf (decksOf r) (cut (nd r) (at3 l i))) else none) = _
    rw [(cut_worth hd hp).1]
    dsimp only
    unfold showM
    by_cases hlt : worthM r (at3 l i) < r.q
    · have := form_eq hd (hw r (List.mem_of_getElem? hr)) hp hlt
      by_cases hf : formsM r (worthM r (at3 l i)) = some (at3 l i)
      · rw [if_pos ⟨hlt, this.mpr hf⟩, if_pos ⟨hlt, hf⟩]
      · rw [if_neg (fun z => hf (this.mp z.2)), if_neg (fun z => hf z.2)]
    · rw [if_neg (fun z => hlt z.1), if_neg (fun z => hlt z.1)]
theorem formed_is {rs : List RodM} (h : AllD rs) (hw : ∀ r ∈ rs, WholeM r) {l : List Nat} (s : StOk rs l) : formed (mkR rs) (sOf rs l) = (List.range rs.length).all fun i => (match rs[i]? with
    | none => none
    | some r => showM r (at3 l i)).isSome := by
  unfold formed
  rw [sOf_len, mkR_len, beq_self_eq_true, Bool.true_and]
  apply Bool.eq_iff_iff.mpr
  rw [List.all_eq_true, List.all_eq_true]
  have hz : ∀ i, (List.zip (mkR rs) (sOf rs l))[i]? = rs[i]?.map fun r => ((⟨r.q, decksOf r⟩ : Rod), cut (nd r) (at3 l i)) := fun i => by
    unfold List.zip
    rw [List.getElem?_zipWith, mkR_at, sOf_at]
    cases rs[i]? <;> rfl
  have one : ∀ i r, rs[i]? = some r → ((decide (worthOf (decksOf r) (cut (nd r) (at3 l i)) < r.q) && cut (nd r) (at3 l i) == formOf ⟨r.q, decksOf r⟩ (worthOf (decksOf r) (cut (nd r) (at3 l i)))) = true ↔ (showM r (at3 l i)).isSome = true) := fun i r hr => by
    have hd := h r (List.mem_of_getElem? hr)
    have hp := s.le i r hr
    rw [(cut_worth hd hp).1, Bool.and_eq_true, decide_eq_true_iff, beq_iff_eq]
    unfold showM
    by_cases hlt : worthM r (at3 l i) < r.q
    · have := form_eq hd (hw r (List.mem_of_getElem? hr)) hp hlt
      by_cases hf : formsM r (worthM r (at3 l i)) = some (at3 l i)
      · rw [if_pos ⟨hlt, hf⟩]
        exact ⟨fun _ => rfl, fun _ => ⟨hlt, this.mpr hf⟩⟩
      · rw [if_neg (fun z => hf z.2)]
        exact ⟨fun z => absurd (this.mp z.2) hf, fun z => by cases z⟩
    · rw [if_neg (fun z => hlt z.1)]
      exact ⟨fun z => absurd z.1 hlt, fun z => by cases z⟩
  constructor
  · intro ha i hi
    have hi := List.mem_range.mp hi
    have hr : rs[i]? = some rs[i] := List.getElem?_eq_getElem hi
    rw [hr]
    have hm := List.mem_of_getElem? ((hz i).trans (by rw [hr]; rfl))
    exact (one i _ hr).mp (ha _ hm)
  · intro ha x hx
    obtain ⟨i, hi, e⟩ := List.getElem_of_mem hx
    have e2 := (hz i).symm.trans (List.getElem?_eq_getElem hi)
    cases hr : rs[i]? with
    | none => rw [hr] at e2; cases e2
    | some r =>
      rw [hr] at e2
      have e2 : ((⟨r.q, decksOf r⟩ : Rod), cut (nd r) (at3 l i)) = (List.zip (mkR rs) (sOf rs l))[i] := Option.some.inj e2
      rw [← e, ← e2]
      have hil : i < rs.length := (List.getElem?_eq_some_iff.mp hr).1
      have := ha i (List.mem_range.mpr hil)
      rw [hr] at this
      exact (one i r hr).mpr this
end Ab
namespace Ab
open Na
/-! ### hands: the mirror of hands.py -/
def deckM (a b c : Nat) : Bool := decide (a < 3) && (decide (b = 1 ∨ b = 2) && (decide (1 ≤ c) && decide (c ≤ 15)))
def has2 (g : List Nat) : Bool := !(decide (g.getD 3 0 = 0) && (decide (g.getD 4 0 = 0) && decide (g.getD 5 0 = 0)))
def strokeM (g : List Nat) : Bool := if (!deckM (g.getD 0 0) (g.getD 1 0) (g.getD 2 0) || !(decide (1 ≤ g.getD 6 0) && decide (g.getD 6 0 ≤ 255))) = true then false
  else if has2 g = false then true else deckM (g.getD 3 0) (g.getD 4 0) (g.getD 5 0) && !decide (g.getD 3 0 = g.getD 0 0)
theorem drop3 (g : List Nat) (j : Nat) : (g.drop 3).getD j 0 = g.getD (3 + j) 0 := by
  rw [List.getD_eq_getElem?_getD, List.getD_eq_getElem?_getD, List.getElem?_drop]
theorem strokeOf_is (g : List Nat) : strokeOf g = ⟨⟨g.getD 0 0, g.getD 1 0 == 1, g.getD 2 0⟩, if g.getD 4 0 = 0 then none else some ⟨g.getD 3 0, g.getD 4 0 == 1, g.getD 5 0⟩, g.getD 6 0⟩ := by
  unfold strokeOf reachOf
  rw [drop3, drop3, drop3]
theorem stroke_is (g : List Nat) : strokeGood g = strokeM g := by
  apply Bool.eq_iff_iff.mpr
  unfold strokeGood
  rw [strokeOf_is]
  unfold strokeM has2 deckM Stroke.good Reach.good
  dsimp only
  generalize g.getD 0 0 = a
  generalize g.getD 1 0 = b
  generalize g.getD 2 0 = c
  generalize g.getD 3 0 = d
  generalize g.getD 4 0 = e
  generalize g.getD 5 0 = f
  generalize g.getD 6 0 = k
  by_cases he : e = 0
  · subst he
    by_cases hd : d = 0 <;> by_cases hf : f = 0 <;> simp [hd, hf] <;> omega
  · rw [if_neg he]
    by_cases hd : d = a <;> simp [he, hd] <;> omega
theorem stroke_first {g : List Nat} (h : strokeM g = true) : deckM (g.getD 0 0) (g.getD 1 0) (g.getD 2 0) = true ∧ (1 ≤ g.getD 6 0 ∧ g.getD 6 0 ≤ 255) ∧ (has2 g = true → deckM (g.getD 3 0) (g.getD 4 0) (g.getD 5 0) = true) := by
  unfold strokeM at h
  by_cases c : (!deckM (g.getD 0 0) (g.getD 1 0) (g.getD 2 0) || !(decide (1 ≤ g.getD 6 0) && decide (g.getD 6 0 ≤ 255))) = true
  · rw [if_pos c] at h; cases h
  · rw [if_neg c] at h
    rw [Bool.not_eq_true, Bool.or_eq_false_iff, Bool.not_eq_false', Bool.not_eq_false', Bool.and_eq_true, decide_eq_true_iff, decide_eq_true_iff] at c
    refine ⟨c.1, c.2, fun h2 => ?_⟩
    rw [if_neg (by rw [h2]; decide)] at h
    exact (Bool.and_eq_true_iff.mp h).1
theorem deck_lt {a b c : Nat} (h : deckM a b c = true) : a < 3 := of_decide_eq_true (Bool.and_eq_true_iff.mp h).1
theorem second_of {g : List Nat} (h : strokeGood g = true) : has2 g = decide (g.getD 4 0 ≠ 0) := by
  unfold strokeGood at h
  simp only [Bool.and_eq_true] at h
  have h' := h.2.2.2.1
  clear h
  unfold has2
  revert h'
  generalize g.getD 3 0 = d
  generalize g.getD 4 0 = e
  generalize g.getD 5 0 = f
  intro h'
  by_cases hd : d = 0 <;> by_cases he : e = 0 <;> by_cases hf : f = 0 <;> simp_all
/-- so many beads of a deck pushed on a flat standing -/
def bead (r : RodM) (j : Nat) : Nat := if j = 0 then r.b0 else if j = 1 then r.b1 else r.b2
def pushM (r : RodM) (l : List Nat) (i deck dir most many : Nat) : Option (List Nat) :=
  if bead r deck = 0 ∨ most < many ∨ (if dir = 1 then bead r deck - l.getD (3 * i + deck) 0 else l.getD (3 * i + deck) 0) < many then none
  else some (l.set (3 * i + deck) (if dir = 1 then l.getD (3 * i + deck) 0 + many else l.getD (3 * i + deck) 0 - many))
theorem getD_set {l : List Nat} {k v j : Nat} (h : k < l.length) : (l.set k v).getD j 0 = if j = k then v else l.getD j 0 := by
  rw [List.getD_eq_getElem?_getD, List.getD_eq_getElem?_getD]
  by_cases e : j = k
  · subst e
    rw [if_pos rfl, List.getElem?_set_self h]; rfl
  · rw [if_neg e, List.getElem?_set_ne (fun z => e z.symm)]
theorem at3_set {l : List Nat} {i deck v : Nat} (hd : deck < 3) (h : 3 * i + deck < l.length) (k : Nat) : at3 (l.set (3 * i + deck) v) k = if k = i then (if deck = 0 then v else (at3 l i).1, if deck = 1 then v else (at3 l i).2.1, if deck = 2 then v else (at3 l i).2.2) else at3 l k := by
  unfold at3
  rw [getD_set h, getD_set h, getD_set h]
  by_cases hk : k = i
  · subst hk
    rw [if_pos rfl]
    have hd3 : deck = 0 ∨ deck = 1 ∨ deck = 2 := by omega
    rcases hd3 with e | e | e <;> subst e <;> simp
  · rw [if_neg hk, if_neg (by omega), if_neg (by omega), if_neg (by omega)]
theorem push_is {rs : List RodM} (h : AllD rs) {l : List Nat} (s : StOk rs l) {i : Nat} {r : RodM} (hr : rs[i]? = some r) {deck dir most many : Nat} (hd : deck < 3) (hm : 1 ≤ many) :
    pushed (decksOf r) (cut (nd r) (at3 l i)) ⟨deck, dir == 1, most⟩ many = (pushM r l i deck dir most many).map (fun l' => cut (nd r) (at3 l' i)) ∧
    ∀ l', pushM r l i deck dir most many = some l' → StOk rs l' ∧ sOf rs l' = (sOf rs l).set i (cut (nd r) (at3 l' i)) := by
  have hD := h r (List.mem_of_getElem? hr)
  have hp := s.le i r hr
  have hi : i < rs.length := (List.getElem?_eq_some_iff.mp hr).1
  have hlen : 3 * i + deck < l.length := by rw [s.len]; omega
  have hx : l.getD (3 * i + deck) 0 = (if deck = 0 then (at3 l i).1 else if deck = 1 then (at3 l i).2.1 else (at3 l i).2.2) := by
    unfold at3
    have : deck = 0 ∨ deck = 1 ∨ deck = 2 := by omega
    rcases this with e | e | e <;> subst e <;> rfl
  have hxb : l.getD (3 * i + deck) 0 ≤ bead r deck := by
    rw [hx]
    unfold bead
    unfold P3.le at hp
    split
    · exact hp.1
    · split
      · exact hp.2.1
      · exact hp.2.2
  have hset := fun v k => at3_set (v := v) hd hlen k
  constructor
  · unfold pushed pushM
    dsimp only
    by_cases c1 : many < 1 ∨ most < many
    · rw [if_pos c1, if_pos (by omega)]; rfl
    · rw [if_neg c1]
      have hd3 : deck = 0 ∨ deck = 1 ∨ deck = 2 := by omega
      have hlen2 : (decksOf r)[deck]? = if bead r deck = 0 then none else some ⟨bead r deck, if deck = 0 then r.w0 else if deck = 1 then r.w1 else r.w2⟩ := by
        unfold bead
        rcases nd_cases hD with ⟨_, z0, z1, z2, ed⟩ | ⟨_, z0, z1, z2, ed⟩ | ⟨_, z0, z1, z2, ed⟩ <;> rw [ed] <;> rcases hd3 with e | e | e <;> subst e <;> simp [z0, z1, z2]
      have hcut : bead r deck ≠ 0 → (cut (nd r) (at3 l i))[deck]? = some (l.getD (3 * i + deck) 0) := by
        intro hb
        rw [hx]
        unfold bead at hb
        rcases nd_cases hD with ⟨en, z0, z1, z2, _⟩ | ⟨en, z0, z1, z2, _⟩ | ⟨en, z0, z1, z2, _⟩ <;> rw [en] <;> rcases hd3 with e | e | e <;> subst e <;> first | rfl | (exfalso; simp [z1, z2] at hb)
      rw [hlen2]
      by_cases hb : bead r deck = 0
      · rw [if_pos hb, if_pos (.inl hb)]
        rfl
      · rw [if_neg hb, hcut hb]
        dsimp only
        have hcs : ∀ v, cut (nd r) (at3 (l.set (3 * i + deck) v) i) = (cut (nd r) (at3 l i)).set deck v := fun v => by
          rw [hset, if_pos rfl]
          unfold bead at hb
          rcases nd_cases hD with ⟨en, z0, z1, z2, _⟩ | ⟨en, z0, z1, z2, _⟩ | ⟨en, z0, z1, z2, _⟩ <;> rw [en] <;> rcases hd3 with e | e | e <;> subst e <;> first | rfl | (exfalso; simp [z1, z2] at hb)
        by_cases hdir : dir = 1
        · have e1 : (dir == 1) = true := by simp [hdir]
          rw [e1, if_pos rfl, if_pos hdir, if_pos hdir]
          by_cases hroom : l.getD (3 * i + deck) 0 + many ≤ bead r deck
          · rw [if_pos hroom, if_neg (by omega)]
            exact congrArg some (hcs _).symm
          · rw [if_neg hroom, if_pos (by omega)]; rfl
        · have e1 : (dir == 1) = false := by simp [hdir]
          rw [e1, if_neg (by decide), if_neg hdir, if_neg hdir]
          by_cases hroom : many ≤ l.getD (3 * i + deck) 0
          · rw [if_pos hroom, if_neg (by omega)]
            exact congrArg some (hcs _).symm
          · rw [if_neg hroom, if_pos (by omega)]; rfl
  · intro l' e
    unfold pushM at e
    by_cases c : bead r deck = 0 ∨ most < many ∨ (if dir = 1 then bead r deck - l.getD (3 * i + deck) 0 else l.getD (3 * i + deck) 0) < many
    · rw [if_pos c] at e; cases e
    · rw [if_neg c] at e
      have e := Option.some.inj e
      have hv : (if dir = 1 then l.getD (3 * i + deck) 0 + many else l.getD (3 * i + deck) 0 - many) ≤ bead r deck := by
        by_cases hdir : dir = 1
        · rw [if_pos hdir] at c ⊢; omega
        · rw [if_neg hdir] at c ⊢; omega
      revert e hv
      generalize (if dir = 1 then l.getD (3 * i + deck) 0 + many else l.getD (3 * i + deck) 0 - many) = v
      intro e hv
      subst e
      refine ⟨⟨(List.length_set ..).trans s.len, fun k r' hr' => ?_⟩, ?_⟩
      · rw [hset]
        by_cases hk : k = i
        · subst hk
          rw [hr] at hr'
          cases hr'
          rw [if_pos rfl]
          unfold P3.le at hp ⊢
          unfold bead at hv
          have hd3 : deck = 0 ∨ deck = 1 ∨ deck = 2 := by omega
          rcases hd3 with e | e | e <;> subst e <;> simp at hv ⊢ <;> omega
        · rw [if_neg hk]
          exact s.le k r' hr'
      · apply List.ext_getElem?
        intro k
        rw [sOf_at]
        by_cases hk : i = k
        · subst hk
          rw [List.getElem?_set_self (by rw [sOf_len]; exact hi), hr]
          rfl
        · rw [List.getElem?_set_ne hk, sOf_at, hset, if_neg (fun z => hk z.symm)]
/-- an act on a flat standing -/
def actM (r : RodM) (sk : List (List Nat)) (l : List Nat) (i num many second : Nat) : Option (List Nat) := match sk[num]? with
  | none => none
  | some g => if has2 g ≠ decide (0 < second) then none else match pushM r l i (g.getD 0 0) (g.getD 1 0) (g.getD 2 0) many with
    | none => none
    | some l1 => if 0 < second then pushM r l1 i (g.getD 3 0) (g.getD 4 0) (g.getD 5 0) second else some l1
theorem act_is {rs : List RodM} (h : AllD rs) {sk : List (List Nat)} (hg : ∀ g ∈ sk, strokeGood g = true) {l : List Nat} (s : StOk rs l) {o i : Nat} {r : RodM} (hr : rs[i]? = some r) {num many second : Nat} (hm : 1 ≤ many) :
    acted (mkR rs) ⟨o, sk.map strokeOf⟩ (sOf rs l) ⟨i, num, many, second⟩ = (actM r sk l i num many second).map (sOf rs) ∧ ∀ l', actM r sk l i num many second = some l' → StOk rs l' := by
  have hi : i < rs.length := (List.getElem?_eq_some_iff.mp hr).1
  unfold acted actM
  dsimp only
  rw [mkR_at, sOf_at, hr, List.getElem?_map]
  cases hs : sk[num]? with
  | none => exact ⟨rfl, fun l' e => by cases e⟩
  | some g =>
    have gg := hg g (List.mem_of_getElem? hs)
    have h2 := second_of gg
    have gm := gg
    rw [stroke_is] at gm
    have d0 : g.getD 0 0 < 3 := deck_lt (stroke_first gm).1
    show (strokeOn (decksOf r) (strokeOf g) many second (cut (nd r) (at3 l i))).map (fun q => (sOf rs l).set i q) = _ ∧ _
    unfold strokeOn
    rw [strokeOf_is]
    dsimp only
    obtain ⟨p1, p2⟩ := push_is h s hr (deck := g.getD 0 0) (dir := g.getD 1 0) (most := g.getD 2 0) d0 hm
    rw [p1, h2]
    cases hp : pushM r l i (g.getD 0 0) (g.getD 1 0) (g.getD 2 0) many with
    | none =>
      constructor
      · show (none : Option Standing) = Option.map (sOf rs) (ite _ none none)
        rw [ite_self]; rfl
      · intro l' e
        have e : (ite _ none none : Option (List Nat)) = some l' := e
        rw [ite_self] at e
        cases e
    | some l1 =>
      obtain ⟨s1, e1⟩ := p2 l1 hp
      show ((match (if g.getD 4 0 = 0 then none else some (⟨g.getD 3 0, g.getD 4 0 == 1, g.getD 5 0⟩ : Reach)) with
        | none => if second = 0 then some (cut (nd r) (at3 l1 i)) else none
        | some y => pushed (decksOf r) (cut (nd r) (at3 l1 i)) y second).map fun q => (sOf rs l).set i q) = _ ∧ _
      by_cases h4 : g.getD 4 0 = 0
      · rw [if_pos h4]
        dsimp only
        by_cases hsec : second = 0
        · have a1 : decide (g.getD 4 0 ≠ 0) = false := decide_eq_false (fun z => z h4)
          have a2 : decide (0 < second) = false := decide_eq_false (by omega)
          rw [if_pos hsec, if_neg (by rw [a1, a2]; decide), if_neg (by omega)]
          exact ⟨by show some _ = some _; rw [e1], fun l' e => by cases e; exact s1⟩
        · have a1 : decide (g.getD 4 0 ≠ 0) = false := decide_eq_false (fun z => z h4)
          have a2 : decide (0 < second) = true := decide_eq_true (by omega)
          rw [if_neg hsec, if_pos (by rw [a1, a2]; decide)]
          exact ⟨rfl, fun l' e => by cases e⟩
      · rw [if_neg h4]
        dsimp only
        by_cases hsec : second = 0
        · have a1 : decide (g.getD 4 0 ≠ 0) = true := decide_eq_true h4
          have a2 : decide (0 < second) = false := decide_eq_false (by omega)
          rw [if_pos (by rw [a1, a2]; decide)]
          refine ⟨?_, fun l' e => by cases e⟩
          subst hsec
          show (pushed _ _ _ 0).map _ = none
          unfold pushed
          rw [if_pos (by omega)]; rfl
        · have a1 : decide (g.getD 4 0 ≠ 0) = true := decide_eq_true h4
          have a2 : decide (0 < second) = true := decide_eq_true (by omega)
          rw [if_neg (by rw [a1, a2]; decide), if_pos (by omega)]
          have d3 : g.getD 3 0 < 3 := deck_lt ((stroke_first gm).2.2 (by rw [h2]; simpa using h4))
          obtain ⟨q1, q2⟩ := push_is h s1 hr (deck := g.getD 3 0) (dir := g.getD 4 0) (most := g.getD 5 0) (many := second) d3 (by omega)
          rw [q1]
          cases hp2 : pushM r l1 i (g.getD 3 0) (g.getD 4 0) (g.getD 5 0) second with
          | none => exact ⟨rfl, fun l' e => by cases e⟩
          | some l2 =>
            obtain ⟨s2, e2⟩ := q2 l2 hp2
            refine ⟨?_, fun l' e => by cases e; exact s2⟩
            show some _ = some _
            rw [e2, e1, List.set_set]
end Ab
namespace Ab
open Na
/-! ### books: the mirror of hands.py's rules -/
def pOf (g : List Nat) : P3 := (g.getD 0 0, g.getD 1 0, g.getD 2 0)
def stepsM (l : List Nat) : List P3 := (groups 3 (l.drop 3)).map pOf
def stepM (p : P3) : Bool := if p = (0, 0, 0) then true else decide (p.1 < 32) && ((decide (1 ≤ p.2.1) && decide (p.2.1 ≤ 15)) && decide (p.2.2 ≤ 15))
theorem step_is (g : List Nat) : moveGood g = stepM (pOf g) := by
  unfold moveGood stepM pOf STROKES
  generalize g.getD 0 0 = a
  generalize g.getD 1 0 = b
  generalize g.getD 2 0 = c
  apply Bool.eq_iff_iff.mpr
  by_cases h : b = 0
  · subst h
    simp [Prod.ext_iff]
  · simp [Prod.ext_iff, h]
    omega
def mvOf (p : P3) : Move := if p.2.1 = 0 then .carry else .act p.1 p.2.1 p.2.2
theorem mv_is (g : List Nat) : moveOf g = mvOf (pOf g) := rfl
def rowM (l : List Nat) : Bool := if (decide (l.length < 3) || (!decide (l.length % 3 = 0) || decide (33 < l.length))) = true then false
  else if (decide (1 < l.getD 0 0) || (decide (19 < l.getD 1 0) || decide (19 < l.getD 2 0))) = true then false else (stepsM l).all stepM
theorem all_steps (l : List (List Nat)) : l.all moveGood = (l.map pOf).all stepM := by
  induction l with
  | nil => rfl
  | cons a l ih => rw [List.map_cons, List.all_cons, List.all_cons, ih, step_is]
theorem row_is (l : List Nat) : rowGood l = rowM l := by
  apply Bool.eq_iff_iff.mpr
  unfold rowGood rowM stepsM MOVES DIGITS
  rw [all_steps]
  generalize ((groups 3 (l.drop 3)).map pOf).all stepM = z
  generalize l.getD 0 0 = a
  generalize l.getD 1 0 = b
  generalize l.getD 2 0 = c
  generalize l.length = n
  by_cases h1 : (decide (n < 3) || (!decide (n % 3 = 0) || decide (33 < n))) = true
  · rw [if_pos h1]
    simp at h1 ⊢
    omega
  · rw [if_neg h1]
    by_cases h2 : (decide (1 < a) || (decide (19 < b) || decide (19 < c))) = true
    · rw [if_pos h2]
      simp at h1 h2 ⊢
      omega
    · rw [if_neg h2]
      simp at h1 h2 ⊢
      exact ⟨fun h => h.2.2.2.2.2.2, fun h => ⟨h1.1, h1.2.1, h1.2.2, h2.1, by omega, by omega, h⟩⟩
/-- the rules as the program keeps them -/
def ruleAs (e : P3 × List P3) : Rule := ⟨e.1.1, e.1.2.1, e.1.2.2, e.2.map mvOf⟩
def keyM (l : List Nat) : P3 := pOf l
theorem rule_as (l : List Nat) : rowRule l = ruleAs (keyM l, stepsM l) := by
  unfold rowRule ruleAs keyM stepsM
  rw [List.map_map]
  rfl
theorem key_as (D : List (P3 × List P3)) (k : P3) : ((D.map ruleAs).any fun x => x.op == k.1 && (x.d == k.2.1 && x.x == k.2.2)) = (D.lookup k).isSome := by
  induction D with
  | nil => rfl
  | cons e D ih =>
    obtain ⟨⟨a, b, c⟩, s⟩ := e
    obtain ⟨x, y, z⟩ := k
    rw [List.map_cons, List.any_cons, ih, List.lookup_cons]
    show ((a == x && (b == y && c == z)) || _) = _
    have e : (((x, y, z) : P3) == (a, b, c)) = (a == x && (b == y && c == z)) := by
      apply Bool.eq_iff_iff.mpr
      simp [Prod.ext_iff]
      omega
    rw [e]
    cases (a == x && (b == y && c == z)) <;> rfl
theorem rule_of (D : List (P3 × List P3)) (k : P3) : ruleOf (D.map ruleAs) k.1 k.2.1 k.2.2 = ((D.lookup k).getD []).map mvOf := by
  unfold ruleOf
  induction D with
  | nil => rfl
  | cons e D ih =>
    obtain ⟨⟨a, b, c⟩, s⟩ := e
    obtain ⟨x, y, z⟩ := k
    rw [List.map_cons, List.find?_cons, List.lookup_cons]
    show Option.getD (Option.map _ (match (a == x && (b == y && c == z)) with | true => some _ | false => _)) [] = _
    have e : (((x, y, z) : P3) == (a, b, c)) = (a == x && (b == y && c == z)) := by
      apply Bool.eq_iff_iff.mpr
      simp [Prod.ext_iff]
      omega
    rw [e]
    cases (a == x && (b == y && c == z)) with
    | true => rfl
    | false => exact ih
theorem book_step (i : Nat) (D : List (P3 × List P3)) (l : List Nat) (r : List (List Nat)) : bookFrom i (D.map ruleAs) (l :: r) =
    if rowM l = false ∨ (D.lookup (keyM l)).isSome = true then .error ⟨9, i⟩ else bookFrom (i + 1) ((D ++ [(keyM l, stepsM l)]).map ruleAs) r := by
  show (if rowGood l = false ∨ ((D.map ruleAs).any fun x => x.op == (keyM l).1 && (x.d == (keyM l).2.1 && x.x == (keyM l).2.2)) = true then _ else bookFrom (i + 1) (D.map ruleAs ++ [rowRule l]) r) = _
  rw [key_as, row_is, rule_as, List.map_append]
  rfl
end Ab
namespace Ab
open Na
/-! ### sums by a book, without fuel -/
def wgt : Todo → Nat
  | .moves _ _ => 1
  | .digit _ _ => 2
def need (u : Under) (l : List Todo) : Nat := 3 * (STEPS - u.steps) + (l.map wgt).sum
section
variable {m : Make} {h : Hand} {b : Book} {op : Nat}
theorem on_digit {u : Under} {i d : Nat} {r : List Todo} : onward m h b op u (.digit i d :: r) = if m.length ≤ i then .error .over else match shownAt m u.s i with
    | none => .error .wrong
    | some x => .ok (u, .moves i (ruleOf b op d x) :: r) := rfl
theorem on_carry {u : Under} {i : Nat} {l : List Move} {r : List Todo} : onward m h b op u (.moves i (.carry :: l) :: r) = if STEPS ≤ u.steps then .error .long else .ok ({ u with steps := u.steps + 1 }, .digit (i + 1) 1 :: .moves i l :: r) := rfl
theorem on_act {u : Under} {i s n k : Nat} {l : List Move} {r : List Todo} : onward m h b op u (.moves i (.act s n k :: l) :: r) = if STEPS ≤ u.steps then .error .long else match acted m h u.s ⟨i, s, n, k⟩ with
    | none => .error .wrong
    | some t => .ok (⟨t, ⟨i, s, n, k⟩ :: u.acts, u.steps + 1⟩, .moves i l :: r) := rfl
theorem onward_need {u v : Under} {x : Todo} {l r : List Todo} (e : onward m h b op u (x :: l) = .ok (v, r)) : need v r + 1 ≤ need u (x :: l) := by
  unfold need
  rw [List.map_cons, List.sum_cons]
  cases x with
  | digit i d =>
    rw [on_digit] at e
    split at e
    · cases e
    · cases hs : shownAt m u.s i with
      | none => rw [hs] at e; cases e
      | some x =>
        rw [hs] at e
        cases e
        rw [List.map_cons, List.sum_cons]
        show _ + (1 + _) + 1 ≤ _ + (2 + _)
        omega
  | moves i mv =>
    cases mv with
    | nil =>
      cases e
      show _ + _ + 1 ≤ _ + (1 + _)
      omega
    | cons a mv =>
      cases a with
      | carry =>
        rw [on_carry] at e
        split at e
        · cases e
        · cases e
          rw [List.map_cons, List.sum_cons, List.map_cons, List.sum_cons]
          show 3 * (STEPS - (u.steps + 1)) + (2 + (1 + _)) + 1 ≤ _ + (1 + _)
          omega
      | act s n k =>
        rw [on_act] at e
        split at e
        · cases e
        · cases ha : acted m h u.s ⟨i, s, n, k⟩ with
          | none => rw [ha] at e; cases e
          | some t =>
            rw [ha] at e
            cases e
            rw [List.map_cons, List.sum_cons]
            show 3 * (STEPS - (u.steps + 1)) + (1 + _) + 1 ≤ _ + (1 + _)
            omega
theorem carried_eq : ∀ (n : Nat) (u : Under) (l : List Todo), need u l ≤ n → ∀ f f', n ≤ f → n ≤ f' → carried m h b op f u l = carried m h b op f' u l
  | n, u, [], _, f, f', _, _ => by cases f <;> cases f' <;> rfl
  | 0, u, x :: l, hn, f, f', _, _ => by
    unfold need at hn
    rw [List.map_cons, List.sum_cons] at hn
    cases x <;> simp [wgt] at hn
  | n + 1, u, x :: l, hn, f, f', hf, hf' => by
    cases f with
    | zero => omega
    | succ f =>
      cases f' with
      | zero => omega
      | succ f' =>
        unfold carried
        cases e : onward m h b op u (x :: l) with
        | error k => rfl
        | ok z =>
          obtain ⟨v, r⟩ := z
          have := onward_need e
          exact carried_eq n v r (by omega) f f' (by omega) (by omega)
/-- all that waits done -/
def CN (m : Make) (h : Hand) (b : Book) (op : Nat) (u : Under) (l : List Todo) : Except Fail Under := carried m h b op (need u l) u l
theorem CN_of {f : Nat} {u : Under} {l : List Todo} (hf : need u l ≤ f) : carried m h b op f u l = CN m h b op u l := carried_eq _ u l (Nat.le_refl _) _ _ hf (Nat.le_refl _)
theorem CN_nil {u : Under} : CN m h b op u [] = .ok u := by
  unfold CN
  generalize need u [] = n
  cases n <;> rfl
theorem CN_cons {u : Under} {x : Todo} {l : List Todo} : CN m h b op u (x :: l) = match onward m h b op u (x :: l) with
    | .error e => .error e
    | .ok (v, r) => CN m h b op v r := by
  have hp : ∃ n, need u (x :: l) = n + 1 := by
    unfold need
    rw [List.map_cons, List.sum_cons]
    cases x with
    | moves i mv => exact ⟨3 * (STEPS - u.steps) + (l.map wgt).sum, by show _ + (1 + _) = _; omega⟩
    | digit i d => exact ⟨3 * (STEPS - u.steps) + (l.map wgt).sum + 1, by show _ + (2 + _) = _; omega⟩
  obtain ⟨n, hn⟩ := hp
  unfold CN
  rw [hn, carried]
  cases e : onward m h b op u (x :: l) with
  | error k => rfl
  | ok z =>
    obtain ⟨v, r⟩ := z
    have := onward_need e
    exact carried_eq (need v r) v r (Nat.le_refl _) _ _ (by omega) (Nat.le_refl _)
theorem CN_digit {u : Under} {i d : Nat} {l : List Todo} : CN m h b op u (.digit i d :: l) = if m.length ≤ i then .error .over else match shownAt m u.s i with
    | none => .error .wrong
    | some x => CN m h b op u (.moves i (ruleOf b op d x) :: l) := by
  rw [CN_cons, on_digit]
  by_cases c : m.length ≤ i
  · rw [if_pos c, if_pos c]
  · rw [if_neg c, if_neg c]
    cases shownAt m u.s i <;> rfl
theorem CN_done {u : Under} {i : Nat} {l : List Todo} : CN m h b op u (.moves i [] :: l) = CN m h b op u l := by rw [CN_cons]; rfl
theorem CN_carry {u : Under} {i : Nat} {mv : List Move} {l : List Todo} : CN m h b op u (.moves i (.carry :: mv) :: l) = if STEPS ≤ u.steps then .error .long else CN m h b op { u with steps := u.steps + 1 } (.digit (i + 1) 1 :: .moves i mv :: l) := by
  rw [CN_cons, on_carry]
  by_cases c : STEPS ≤ u.steps
  · rw [if_pos c, if_pos c]
  · rw [if_neg c, if_neg c]
theorem CN_act {u : Under} {i s n k : Nat} {mv : List Move} {l : List Todo} : CN m h b op u (.moves i (.act s n k :: mv) :: l) = if STEPS ≤ u.steps then .error .long else match acted m h u.s ⟨i, s, n, k⟩ with
    | none => .error .wrong
    | some t => CN m h b op ⟨t, ⟨i, s, n, k⟩ :: u.acts, u.steps + 1⟩ (.moves i mv :: l) := by
  rw [CN_cons, on_act]
  by_cases c : STEPS ≤ u.steps
  · rw [if_pos c, if_pos c]
  · rw [if_neg c, if_neg c]
    cases acted m h u.s ⟨i, s, n, k⟩ <;> rfl
end
/-- what waits for the rods below k, the leftmost first -/
def wl (ds : List Nat) : Nat → List Todo
  | 0 => []
  | k + 1 => if ds.getD k 0 ≠ 0 then .digit k (ds.getD k 0) :: wl ds k else wl ds k
theorem wl_is (ds : List Nat) : ((ds.zipIdx.filter fun (x : Nat × Nat) => x.1 != 0).map fun (x : Nat × Nat) => Todo.digit x.2 x.1).reverse = wl ds ds.length := by
  have key : ∀ k, k ≤ ds.length → (((ds.zipIdx.take k).filter fun (x : Nat × Nat) => x.1 != 0).map fun (x : Nat × Nat) => Todo.digit x.2 x.1).reverse = wl ds k := by
    intro k
    induction k with
    | zero => intro _; rw [List.take_zero]; rfl
    | succ k ih =>
      intro hk
      have hz : ds.zipIdx[k]? = some (ds.getD k 0, k) := by
        rw [zipIdx_at, List.getD_eq_getElem?_getD, List.getElem?_eq_getElem (by omega)]
        rfl
      rw [List.take_succ, hz, List.filter_append, List.map_append, List.reverse_append, ih (by omega), wl]
      by_cases h : ds.getD k 0 ≠ 0
      · rw [if_pos h]
        have : (ds.getD k 0 != 0) = true := by simpa using h
        rw [show (some (ds.getD k 0, k)).toList = [(ds.getD k 0, k)] from rfl, List.filter_cons, if_pos this]; rfl
      · rw [if_neg h]
        have : ¬ (ds.getD k 0 != 0) = true := by simpa using h
        rw [show (some (ds.getD k 0, k)).toList = [(ds.getD k 0, k)] from rfl, List.filter_cons, if_neg this]; rfl
  have := key ds.length (Nat.le_refl _)
  rw [List.take_of_length_le (by rw [List.length_zipIdx]; exact Nat.le_refl _)] at this
  exact this
theorem digits_len : ∀ (m : Make) (v : Nat), (digits m v).length = m.length
  | [], v => rfl
  | a :: m, v => by show (digits m (v / a.ratio)).length + 1 = _; rw [digits_len m]; rfl
theorem wl_wgt (ds : List Nat) : ∀ k, ((wl ds k).map wgt).sum ≤ 2 * k
  | 0 => Nat.le_refl _
  | k + 1 => by
    have ih := wl_wgt ds k
    unfold wl
    split
    · rw [List.map_cons, List.sum_cons]
      show 2 + _ ≤ _
      omega
    · omega
theorem sum_is (m : Make) (h : Hand) (b : Book) (op : Nat) (s : Standing) (v : Nat) (hm : m.length ≤ 64) : sumBy m h b op 0 s v = match CN m h b op ⟨s, [], 0⟩ (wl (digits m v) m.length) with
    | .error e => .error e
    | .ok u => .ok (u.s, u.acts.reverse) := by
  unfold sumBy wanted
  dsimp only
  rw [if_pos rfl, wl_is, digits_len]
  have hn : need ⟨s, [], 0⟩ (wl (digits m v) m.length) ≤ FUEL := by
    unfold need FUEL STEPS
    have := wl_wgt (digits m v) m.length
    show 3 * (65536 - 0) + _ ≤ 4 * 65536 + 1024
    omega
  rw [CN_of hn]
  cases CN m h b op ⟨s, [], 0⟩ (wl (digits m v) m.length) <;> rfl
/-- what acts cost, the last one first -/
theorem costs_snoc (h : Hand) : ∀ (l : List Act) (r : Nat) (a : Act), costs h r (l ++ [a]) = costs h r l + costOf h ((l.getLast?.map fun x : Act => x.rod).getD r) a
  | [], r, a => by
    show costOf h r a + 0 = 0 + costOf h r a
    omega
  | x :: l, r, a => by
    show costOf h r x + costs h x.rod (l ++ [a]) = costOf h r x + costs h x.rod l + _
    rw [costs_snoc h l x.rod a]
    have : ((x :: l).getLast?.map fun y : Act => y.rod).getD r = (l.getLast?.map fun y : Act => y.rod).getD x.rod := by
      cases l with
      | nil => rfl
      | cons y l => rw [List.getLast?_cons_cons]; cases e : (y :: l).getLast? with
        | none => simp at e
        | some z => rfl
    rw [this]
    omega
end Ab
namespace Ab
open Na
/-! ### a standing told again as a flat list -/
theorem cut_three {r : RodM} (h : decksM r = true) {p : P3} (hp : p.le r) : ((List.range 3).map fun j => (cut (nd r) p).getD j 0) = [p.1, p.2.1, p.2.2] := by
  obtain ⟨i, j, k⟩ := p
  unfold P3.le at hp
  dsimp only at hp
  rcases nd_cases h with ⟨e, _, h1, h2, _⟩ | ⟨e, _, _, h2, _⟩ | ⟨e, _, _, _, _⟩
  · have : j = 0 := by omega
    have : k = 0 := by omega
    subst_vars
    rw [e]; rfl
  · have : k = 0 := by omega
    subst_vars
    rw [e]; rfl
  · rw [e]; rfl
theorem flat_three : ∀ (n : Nat) (l : List Nat), l.length = 3 * n → (List.range n).flatMap (fun i => [(at3 l i).1, (at3 l i).2.1, (at3 l i).2.2]) = l
  | 0, l, h => by
    cases l with
    | nil => rfl
    | cons a l => simp at h
  | n + 1, l, h => by
    match l, h with
    | a :: b :: c :: l, h =>
      have h : l.length = 3 * n := by simp at h; omega
      have ih := flat_three n l h
      rw [List.range_succ_eq_map, List.flatMap_cons, List.flatMap_map]
      have e : ∀ i, at3 (a :: b :: c :: l) (i + 1) = at3 l i := fun i => by
        unfold at3
        rw [show 3 * (i + 1) = 3 * i + 1 + 1 + 1 by omega]
        rfl
      show a :: b :: c :: (List.range n).flatMap (fun i => [(at3 (a :: b :: c :: l) (i + 1)).1, (at3 (a :: b :: c :: l) (i + 1)).2.1, (at3 (a :: b :: c :: l) (i + 1)).2.2]) = _
      simp only [e]
      rw [ih]
theorem numbers_is {rs : List RodM} (h : AllD rs) {l : List Nat} (s : StOk rs l) : standingNumbers (sOf rs l) = l := by
  unfold standingNumbers
  have e : (sOf rs l) = (List.range rs.length).map fun i => (match rs[i]? with | none => [] | some r => cut (nd r) (at3 l i)) := by
    apply List.ext_getElem?
    intro i
    rw [sOf_at, List.getElem?_map]
    by_cases hi : i < rs.length
    · rw [List.getElem?_range hi, List.getElem?_eq_getElem hi]
      show some _ = some (match rs[i]? with | none => [] | some r => cut (nd r) (at3 l i))
      rw [List.getElem?_eq_getElem hi]
    · rw [List.getElem?_eq_none (by omega), List.getElem?_eq_none (by rw [List.length_range]; omega)]; rfl
  rw [e, List.flatMap_map]
  have e2 : ∀ i ∈ List.range rs.length, ((List.range 3).map fun j => (match rs[i]? with | none => [] | some r => cut (nd r) (at3 l i)).getD j 0) = [(at3 l i).1, (at3 l i).2.1, (at3 l i).2.2] := fun i hi => by
    have hi := List.mem_range.mp hi
    have hr : rs[i]? = some rs[i] := List.getElem?_eq_getElem hi
    rw [hr]
    exact cut_three (h _ (List.getElem_mem hi)) (s.le i _ hr)
  have e3 : ∀ (L : List Nat), (∀ i ∈ L, i ∈ List.range rs.length) → L.flatMap (fun i => (List.range 3).map fun j => (match rs[i]? with | none => [] | some r => cut (nd r) (at3 l i)).getD j 0) = L.flatMap fun i => [(at3 l i).1, (at3 l i).2.1, (at3 l i).2.2] := by
    intro L
    induction L with
    | nil => intro _; rfl
    | cons a L ih =>
      intro hL
      rw [List.flatMap_cons, List.flatMap_cons, e2 a (hL a (List.mem_cons_self ..)), ih fun i hi => hL i (List.mem_cons_of_mem _ hi)]
  exact (e3 _ fun i hi => hi).trans (flat_three _ _ s.len)
theorem hand_ok {l : List Nat} {y : Hand} (h : handOf l = .ok y) : ∃ o r, l = o :: r ∧ y = ⟨o, (groups 7 r).map strokeOf⟩ ∧ (∀ g ∈ groups 7 r, strokeGood g = true) ∧ o ≤ 255 ∧ r.length % 7 = 0 ∧ r.length ≤ 224 := by
  cases l with
  | nil => cases h
  | cons o r =>
    have eh : handOf (o :: r) = if 255 < o ∨ r.length % 7 ≠ 0 ∨ 7 * STROKES < r.length then Except.error ⟨6, 0⟩ else
        match (groups 7 r).findIdx? (fun g => !strokeGood g) with
        | some i => .error ⟨7, i⟩
        | none => .ok ⟨o, (groups 7 r).map strokeOf⟩ := rfl
    rw [eh] at h
    by_cases c : 255 < o ∨ r.length % 7 ≠ 0 ∨ 7 * STROKES < r.length
    · rw [if_pos c] at h; cases h
    · rw [if_neg c] at h
      cases hf : (groups 7 r).findIdx? (fun g => !strokeGood g) with
      | some i => rw [hf] at h; cases h
      | none =>
        rw [hf] at h
        have h := Except.ok.inj h
        unfold STROKES at c
        refine ⟨o, r, rfl, h.symm, fun g hg => ?_, by omega, by omega, by omega⟩
        have := List.findIdx?_eq_none_iff.mp hf g hg
        simpa using this
theorem stand_done {rs : List RodM} (h : AllD rs) {l : List Nat} {u : Standing} (e : standingOf (mkR rs) l = .ok u) : u = sOf rs l ∧ StOk rs l := by
  rw [stand_is h] at e
  by_cases hl : l.length ≠ 3 * rs.length
  · rw [if_pos hl] at e; cases e
  · rw [if_neg hl] at e
    cases hf : (List.range l.length).find? (fun k => decide (beadAt rs k < l.getD k 0)) with
    | some k => rw [hf] at e; cases e
    | none =>
      rw [hf] at e
      exact ⟨(Except.ok.inj e).symm, stand_ok (Classical.byContradiction hl) hf⟩
theorem whole_rule {r : RodM} (h : ruleM r = 0) : decksM r = true ∧ WholeM r := by
  unfold ruleM at h
  by_cases hd : decksM r = false
  · rw [if_pos hd] at h; cases h
  · rw [if_neg hd] at h
    refine ⟨by simpa using hd, ?_⟩
    by_cases h2 : 255 < worthM r (r.b0, r.b1, r.b2)
    · rw [if_pos h2] at h; cases h
    · rw [if_neg h2] at h
      by_cases h3 : cntF r.q (formsM r) < r.q
      · rw [if_pos h3] at h; cases h
      · exact whole_of h3
end Ab
namespace Ab
open PySem PySem.Spec PyProof.Rows L2
open PySem.W (Codec)
/-! ## Rules of my own over the layer -/
/-! ### a module's names -/
def GI (mg : Str → Option Value) (x : Str) (n : Int) : Prop := ∃ t, mg x = some (.int n t)
theorem pe_gi {X : Cx} {x : Str} {n : Int} {pos : Pos} (h : GI X.mg x n) (hg : Gl X x := by rfl) (hd : (x == ("__debug__" : Str)) = false := by decide) : PE X (.Name x pos) (tC (.int n)) := by
  obtain ⟨t, e⟩ := h
  exact pe_glob (v := .int n) hg e ⟨t, rfl⟩ hd
theorem pe_gr {X : Cx} {x : Str} {a : Addr} {pos : Pos} (h : X.mg x = some (.ref a)) (hg : Gl X x := by rfl) (hd : (x == ("__debug__" : Str)) = false := by decide) : PE X (.Name x pos) (tC (.ref a)) :=
  pe_glob (v := .ref a) hg h rfl hd
/-- a module's tuple -/
def GT (K : PySem.W.Frag) (mg : Str → Option Value) (x : Str) (xs : List V) : Prop := ∃ a, mg x = some (.ref a) ∧ ∀ H, SqT K H a xs
def tGT (K : PySem.W.Frag) (xs : List V) : TE := fun _ H Q => ∀ a, (∀ H, SqT K H a xs) → Q (.ref a) H
theorem pe_gt {X : Cx} {x : Str} {xs : List V} {pos : Pos} (h : GT X.K X.mg x xs) (hg : Gl X x := by rfl) (hd : (x == ("__debug__" : Str)) = false := by decide) : PE X (.Name x pos) (tGT X.K xs) := by
  obtain ⟨a, e, hs⟩ := h
  exact ⟨fun pins s σ H Q I q => (pe_gr (a := a) e hg hd).run pins s σ H Q I (q a hs)⟩
/-! ### fields -/
/-- the object at a has v in its field f -/
def Fld (K : PySem.W.Frag) (H : Hp) (a : Addr) (f : Str) (v : V) : Prop := ∃ C dx fs, H a = some (.ins C dx fs) ∧ Cls K C ∧ NoAttr K C f ∧ fs.lookup f = some v
def tGet (K : PySem.W.Frag) (ta : TE) (f : Str) : TE := fun σ H Q => ta σ H fun x H1 => ∃ a v, x = .ref a ∧ Fld K H1 a f v ∧ Q v H1
theorem pe_get {X : Cx} {e : Expr} {f : Str} {ta : TE} {pos : Pos} (he : PE X e ta) (hb : attributeBase e f X.env (eval e X.env) = eval e X.env := by rfl) : PE X (.Attribute e f pos) (tGet X.K ta f) := by
  refine ⟨fun pins s σ H Q I h => ?_⟩
  refine attr_of hb (thn (he.run pins s σ H _ I h) fun u s1 ⟨x, H1, I1, rx, a, v, ex, ⟨C, dx, fs, ea, c, n, l⟩, q⟩ => ?_)
  subst ex
  obtain rfl : u = Value.ref a := rx
  exact getattr_ok I1 ea c n l fun u s' I2 r => ⟨v, H1, I2, r, q⟩
/-- f may be stored in the object at a -/
def Sto (K : PySem.W.Frag) (H : Hp) (a : Addr) (f : Str) (C dx : Addr) (fs : List (Str × V)) : Prop := H a = some (.ins C dx fs) ∧ Cls K C ∧ NoAttr K C f ∧ fs.length < 1000
/-- a target o.f -/
def gFld (K : PySem.W.Frag) (ta : TE) (f : Str) : TG := fun v σ H Q => ta σ H fun x H1 => ∃ a C dx fs, x = .ref a ∧ Sto K H1 a f C dx fs ∧ Q σ (upd H1 a (.ins C dx (putF f v fs)))
theorem ps_put {X : Cx} {o e : Expr} {f : Str} {ta te : TE} {pos pos' : Pos} (ho : PE X o ta) (he : PE X e te) (hs : swapsWith e (some (.Attribute o f pos')) pos.line X.env = pure false := by rfl) :
    PS X (.Assign [.Attribute o f pos'] e pos) (tAsg te (gFld X.K ta f)) := by
  refine ⟨fun pins s σ H D I h => ?_⟩
  refine plainObj_wpAny_Assign_Attribute (thn (he.run pins s σ H _ I h) fun u s1 ⟨y, H1, I1, ry, q⟩ => thn (ho.run pins s1 σ H1 _ I1 q) fun ov s2 ⟨x, H2, I2, rx, a, C, dx, fs, ex, ⟨ea, c, n, l⟩, q2⟩ => ?_) hs
  subst ex
  obtain rfl : ov = Value.ref a := rx
  exact setattr_ok I2 ea c n l ry fun s' J => ⟨σ, _, J, q2⟩
/-- o.f += e, of ints -/
def tAugF (K : PySem.W.Frag) (ta te : TE) (f : Str) (g : Int → Int → Int) : TS := fun D σ H => ta σ H fun x H1 => ∃ a i, x = .ref a ∧ Fld K H1 a f (.int i) ∧ te σ H1 fun y H2 => ∃ j C dx fs, y = .int j ∧ Sto K H2 a f C dx fs ∧ D.nx σ (upd H2 a (.ins C dx (putF f (.int (g i j)) fs)))
theorem ps_augF {X : Cx} {o e : Expr} {f : Str} {ta te : TE} {pos tpos : Pos} (ho : PE X o ta) (he : PE X e te) : PS X (.AugAssign (.Attribute o f tpos) .Add e pos) (tAugF X.K ta te f fun i j => i + j) := by
  refine ⟨fun pins s σ H D I h => ?_⟩
  refine wpAny_AugAssign_AttributeAny (thn (ho.run pins s σ H _ I h) fun ov s1 ⟨x, H1, I1, rx, a, i, ex, ⟨C, dx, fs, ea, c, n, l⟩, q⟩ => ?_)
  subst ex
  obtain rfl : ov = Value.ref a := rx
  refine getattr_ok I1 ea c n l fun u s' I2 r => ?_
  refine thn (he.run pins s' σ H1 _ I2 q) fun w s2 ⟨y, H2, I3, ry, j, C2, dx2, fs2, ey, ⟨ea2, c2, n2, l2⟩, q2⟩ => ?_
  subst ey
  refine thn (in_add pins s2 σ H2 (.int i) (.int j) u w (fun z H3 => z = .int (i + j) ∧ H3 = H2) I3 r ry ⟨i, j, rfl, rfl, rfl, rfl⟩) fun z s3 ⟨zv, H3, I4, rz, ez, eH⟩ => ?_
  subst ez eH
  exact setattr_ok I4 ea2 c2 n2 l2 rz fun s4 J => ⟨σ, _, J, q2⟩
/-! ### xs != [] -/
def rNeE (K : PySem.W.Frag) : R2 := fun x y H Q => ∃ p q xs, x = .ref p ∧ y = .ref q ∧ SqL K H p xs ∧ SqL K H q [] ∧ Q (.bl (!xs.isEmpty)) H
theorem op_neE {X : Cx} (hu : X.A.units < cLine) : OpR X (compareOp .NotEq) (rNeE X.K) := by
  intro pins s σ H x y v u Q I rx ry h
  obtain ⟨p, q, xs, rfl, rfl, hp, hq, k⟩ := h
  obtain rfl : v = Value.ref p := rx
  obtain rfl : u = Value.ref q := ry
  obtain ⟨its, rv, pl, hz⟩ := I.list hp
  obtain ⟨its2, rv2, pl2, hz2⟩ := I.list hq
  cases rv2
  cases xs with
  | nil =>
    cases rv
    exact SeqAt.RcNeAt.lists (e := fun _ => true) pl.isList pl2.isList rfl hu (fun j h1 h2 => absurd h1 (by simp)) X.prog X.w X.xe _ ⟨.bl false, H, I, rfl, k⟩
  | cons a xs =>
    cases rv with
    | cons r0 rr =>
      exact SeqAt.RcNeAt.lists_lengths pl.isList pl2.isList (by simp) hu X.prog X.w X.xe _ ⟨.bl true, H, I, rfl, k⟩
/-! ### a module's own dict with whole-number keys -/
def KInt (K : PySem.W.Frag) (a : Addr) (l : List (Int × Int)) : Prop := ∃ es n, K.lookup a = some ⟨.type "dict", none, .dict es n, #[]⟩ ∧ Paired (fun (p : Int × Int) (e : DictEntry) => e.hash = hashInt p.1 ∧ (∃ t, e.key = .int p.1 t) ∧ ∃ t, e.val = .int p.2 t) l es.toList
theorem find_ints : ∀ {l : List (Int × Int)} {es : List DictEntry}, Paired (fun (p : Int × Int) (e : DictEntry) => e.hash = hashInt p.1 ∧ (∃ t, e.key = .int p.1 t) ∧ ∃ t, e.val = .int p.2 t) l es → ∀ {k v : Int}, l.lookup k = some v →
    ∃ t, (es.find? fun e => Value.isInt k e.key).map (·.val) = some (.int v t) := by
  intro l es r
  induction r with
  | nil => intro k v h; cases h
  | @cons p e ps es h t ih =>
    intro k v hl
    obtain ⟨h1, ⟨t1, h2⟩, t2, h3⟩ := h
    obtain ⟨a, b⟩ := p
    rw [List.find?_cons, h2]
    rw [List.lookup_cons] at hl
    by_cases e : k = a
    · subst e
      have q : Value.isInt k (.int k t1) = true := by simp [Value.isInt]
      rw [q]
      simp only [beq_self_eq_true] at hl
      cases hl
      exact ⟨t2, by rw [Option.map_some, h3]⟩
    · have q : Value.isInt k (.int a t1) = false := by
        simp only [Value.isInt, beq_eq_false_iff_ne]
        exact fun z => e z.symm
      rw [q]
      have q2 : (k == a) = false := beq_eq_false_iff_ne.mpr e
      rw [q2] at hl
      exact ih hl
def rIxK (K : PySem.W.Frag) : R2 := fun x y H Q => ∃ p l k v, x = .ref p ∧ y = .int k ∧ KInt K p l ∧ l.lookup k = some v ∧ Q (.int v) H
theorem ix_kint {X : Cx} : IxR X (rIxK X.K) := by
  intro value slice pins s σ H x y v u Q I rx ry h hs
  obtain ⟨p, l, k, r, rfl, rfl, ⟨es, n, hl, hp⟩, hv, q⟩ := h
  obtain rfl : v = Value.ref p := rx
  obtain ⟨t, rfl⟩ := ry
  have hm : s.heap.MapOf (intKind X.prog X.w) p (fun k => findBy (intKind X.prog X.w).is es k) :=
    ⟨_, es, n, I.kIn _ _ hl, ⟨rfl, rfl, rfl⟩, rfl, fun e he => by
      have he' : e ∈ es.toList := Array.mem_toList_iff.mpr he
      have key : ∀ {l : List (Int × Int)} {es : List DictEntry}, Paired (fun (p : Int × Int) (e : DictEntry) => e.hash = hashInt p.1 ∧ (∃ t, e.key = .int p.1 t) ∧ ∃ t, e.val = .int p.2 t) l es → ∀ e ∈ es, ∃ k t, e.key = .int k t ∧ e.hash = hashInt k := by
        intro l es r
        induction r with
        | nil => intro e he; cases he
        | @cons p e0 ps es h t ih =>
          intro e he
          obtain ⟨h1, ⟨t1, h2⟩, _⟩ := h
          rcases List.mem_cons.mp he with z | z
          · subst z; exact ⟨_, t1, h2, h1⟩
          · exact ih e z
      obtain ⟨k, t, e1, e2⟩ := key hp e he'
      exact ⟨k, by rw [e1]; simp [intKind, Value.isInt], e2⟩, fun _ => rfl⟩
  obtain ⟨t2, hf⟩ := find_ints hp hv
  have hf2 : findBy (intKind X.prog X.w).is es k = some (.int r t2) := by
    obtain ⟨l⟩ := es
    unfold findBy
    rw [List.find?_toArray]
    exact hf
  exact tail_any hm.typeIs slot_dict_getitem.lookup (wpAny_getItem_of (by simp [intKind, Value.isInt]) hm hf2 ⟨.int r, H, I.tok _, ⟨_, rfl⟩, q⟩) hs
/-- a module's dict with whole-number keys -/
def GK (K : PySem.W.Frag) (mg : Str → Option Value) (x : Str) (l : List (Int × Int)) : Prop := ∃ a, mg x = some (.ref a) ∧ KInt K a l
def tGK (K : PySem.W.Frag) (l : List (Int × Int)) : TE := fun _ H Q => ∀ a, KInt K a l → Q (.ref a) H
theorem pe_gk {X : Cx} {x : Str} {l : List (Int × Int)} {pos : Pos} (h : GK X.K X.mg x l) (hg : Gl X x := by rfl) (hd : (x == ("__debug__" : Str)) = false := by decide) : PE X (.Name x pos) (tGK X.K l) := by
  obtain ⟨a, e, hs⟩ := h
  exact ⟨fun pins s σ H Q I q => (pe_gr (a := a) e hg hd).run pins s σ H Q I (q a hs)⟩
/-! ### what the text has -/
/-- a def of the module; a method; an __init__; an own exception's -/
def DefAt (K : PySem.W.Frag) (mg : Str → Option Value) (x : Str) (st : Stmt) (ps : List Str) : Prop := ∃ f fd, Fun K x x st f fd ∧ mg x = some (.ref f) ∧ Binds K fd ps []
def MetAt (K : PySem.W.Frag) (C : Addr) (m qual : Str) (st : Stmt) (ps : List Str) : Prop := ∃ f fd, Fun K m qual st f fd ∧ Meth K C m f ∧ Binds K fd ps []
def IniAt (K : PySem.W.Frag) (C : Addr) (qual : Str) (st : Stmt) (ps : List Str) : Prop := ∃ f fd, Fun K "__init__" qual st f fd ∧ Mk K C f ∧ Binds K fd ps []
def XniAt (K : PySem.W.Frag) (C : Addr) (qual : Str) (st : Stmt) (ps : List Str) : Prop := ∃ f fd, Fun K "__init__" qual st f fd ∧ (PySem.W.findIn K (.ref C) "__init__" = some (some (.ref f)) ∧ PySem.W.typeIn K (.ref f) = some (.type "function")) ∧ Binds K fd ps []
/-! ### defs, methods, constructors as one fact each -/
section
variable (P : Program) (w : World) (K : PySem.W.Frag) (mg : Str → Option Value) (base : Heap)
/-- the module's def x keeps sp -/
structure Df (CX : CXT) (k : Nat) (x : Str) (ps : List Str) (sp : Sp) : Prop where
  ex : ∃ (f : Addr) (fd : FuncData), FnOk P w K mg base CX k f fd ps sp ∧ mg x = some (.ref f) ∧ PySem.W.keepIn K (.ref f) = true ∧ Binds K fd ps []
/-- the method m of the class at C keeps sp -/
structure Mf (CX : CXT) (k : Nat) (C : Addr) (m : Str) (ps : List Str) (sp : Sp) : Prop where
  ex : ∃ (f : Addr) (fd : FuncData), FnOk P w K mg base CX k f fd ps sp ∧ Meth K C m f ∧ Binds K fd ps []
  cl : Cls K C
/-- the class x, at C, is made by an __init__ that keeps sp -/
structure Kf (CX : CXT) (k : Nat) (x : Str) (C : Addr) (ps : List Str) (sp : Sp) : Prop where
  ex : ∃ (f : Addr) (fd : FuncData), FnOk P w K mg base CX k f fd ps sp ∧ Mk K C f ∧ Binds K fd ps []
  mg : mg x = some (.ref C)
/-- the own exception x, at C -/
structure Xf (k : Nat) (x : Str) (C : Addr) (ps : List Str) (sp : Sp) : Prop where
  ex : ∃ (f : Addr) (fd : FuncData), FnOk P w K mg base CX0 k f fd ps sp ∧ PySem.W.findIn K (.ref C) "__init__" = some (some (.ref f)) ∧ PySem.W.typeIn K (.ref f) = some (.type "function") ∧ Binds K fd ps []
  oex : OexC K C
  mg : mg x = some (.ref C)
end
section
variable {X : Cx} {CX : CXT} {k : Nat} {x m : Str} {C : Addr} {ps : List Str} {sp : Sp} {E : XK} {W : WX} {p pos apos : Pos} {e o : Expr} {es : List Expr} {ta : TE} {t : TA}
theorem pe_df (D : Df X.prog X.w X.K X.mg X.base CX k x ps sp) (hr : Room k X.A) (hx : Passes CX X E) (ha : PA X (e :: es) t) (hg : Gl X x := by rfl) (hdb : (x == ("__debug__" : Str)) = false := by decide)
    (he : starEach (e :: es) X.env = (false, eval e X.env) :: starEach es X.env := by rfl) (hpl : (backTo pos (starEach es X.env)).any (·.1) = false := by rfl) : PE X (.Call (.Name x p) (e :: es) [] pos) (tCall sp [] E t) := by
  obtain ⟨f, fd, F, hm, hk, hb⟩ := D.ex
  exact pe_call F hr hg hm hk hb .nil hx ha hdb he hpl
theorem pe_dfS {ES : L2.St → XK} (D : Df X.prog X.w X.K X.mg X.base CX k x ps sp) (hr : Room k X.A) (hx : ∀ σ, PassesAt CX X σ (ES σ)) (ha : PA X (e :: es) t) (hg : Gl X x := by rfl) (hdb : (x == ("__debug__" : Str)) = false := by decide)
    (he : starEach (e :: es) X.env = (false, eval e X.env) :: starEach es X.env := by rfl) (hpl : (backTo pos (starEach es X.env)).any (·.1) = false := by rfl) : PE X (.Call (.Name x p) (e :: es) [] pos) (tCallS sp ES t) := by
  obtain ⟨f, fd, F, hm, hk, hb⟩ := D.ex
  exact pe_callS F hr hg hm hk hb hx ha hdb he hpl
/-- an instance of the class at C, without a field m -/
def Ins (H : Hp) (a C : Addr) (m : Str) : Prop := ∃ dx fs, H a = some (.ins C dx fs) ∧ fs.lookup m = none
def tMf (C : Addr) (m : Str) (sp : Sp) (E : XK) (ta : TE) (t : TA) : TE := fun σ H Q => ta σ H fun x H1 => ∃ a, x = .ref a ∧ Ins H1 a C m ∧ t σ H1 fun vs H2 => sp (x :: vs) H2 Q E
theorem pe_mf {pl : Sem Bool} (M : Mf X.prog X.w X.K X.mg X.base CX k C m ps sp) (hr : Room k X.A) (hx : Passes CX X E) (he : PE X o ta) (ha : PA X (e :: es) t)
    (hst : starEach (e :: es) X.env = (false, eval e X.env) :: starEach es X.env := by rfl) (hpl : (backTo pos (starEach es X.env)).any (·.1) = false := by rfl)
    (ht : eval (.Call (.Attribute o m apos) (e :: es) [] pos) X.env = (do
      let ov ← eval o X.env
      standAt apos.atName
      let (f, first) ← holding [ov] (getMethod ov m pl)
      callWith pos f first (backTo pos (starEach (e :: es) X.env)) (backToKw pos (keywordEach [] X.env))) := by rfl) : PE X (.Call (.Attribute o m apos) (e :: es) [] pos) (tMf C m sp E ta t) := by
  obtain ⟨f, fd, F, hm, hb⟩ := M.ex
  refine ⟨fun pins s σ H Q I h => ?_⟩
  refine PySem.W.methodCall_KW (pl := pl) (thn (he.run pins s σ H _ I h) fun u s1 ⟨x, H1, I1, rx, a, ex, ⟨dx, fs, ea, l⟩, q⟩ => ?_) ht
  subst ex
  obtain rfl : u = Value.ref a := rx
  refine getmeth_ok I1 ea M.cl hm l ?_
  refine PySem.W.callWith_K (first := [.ref a]) (h₀ := X.base) I.ok.mod.kin hm.kp (thn (ha.run pos pins s1 σ H1 _ I1 q) fun us s2 ⟨vs, H2, I2, r, q2⟩ => ⟨I2.kIn, ?_⟩) hst hpl
  exact run_fn (us := .ref a :: us) (vs := .ref a :: vs) F hr hb .nil hx I2 (.cons rfl r) (by rw [List.append_nil]; exact q2)
theorem pe_mf0 {pl : Sem Bool} (M : Mf X.prog X.w X.K X.mg X.base CX k C m ps sp) (hr : Room k X.A) (hx : Passes CX X E) (he : PE X o ta)
    (ht : eval (.Call (.Attribute o m apos) [] [] pos) X.env = (do
      let ov ← eval o X.env
      standAt apos.atName
      let (f, first) ← holding [ov] (getMethod ov m pl)
      callWith pos f first (backTo pos (starEach [] X.env)) (backToKw pos (keywordEach [] X.env))) := by rfl) : PE X (.Call (.Attribute o m apos) [] [] pos) (tMf C m sp E ta tNil) := by
  obtain ⟨f, fd, F, hm, hb⟩ := M.ex
  refine ⟨fun pins s σ H Q I h => ?_⟩
  refine PySem.W.methodCall_KW (pl := pl) (thn (he.run pins s σ H _ I h) fun u s1 ⟨x, H1, I1, rx, a, ex, ⟨dx, fs, ea, l⟩, q⟩ => ?_) ht
  subst ex
  obtain rfl : u = Value.ref a := rx
  refine getmeth_ok I1 ea M.cl hm l ?_
  exact PySem.W.callWith_K0 (first := [.ref a]) I1.kIn hm.kp (run_fn (us := [.ref a]) (vs := [.ref a]) F hr hb .nil hx I1 (.cons rfl .nil) (by rw [List.append_nil]; exact q))
def tKf (C : Addr) (sp : Sp) (E : XK) (t : TA) : TE := fun σ H Q => t σ H fun vs H1 => ∀ x dx, H1 x = none → H1 dx = none → dx ≠ x →
  sp (.ref x :: (vs ++ [])) (upd (upd H1 dx (.own x)) x (.ins C dx [])) (fun v H2 => v = .non ∧ Q (.ref x) H2) E
theorem pe_kf (M : Kf X.prog X.w X.K X.mg X.base CX k x C ps sp) (hr : Room (k + 1) X.A) (hx : Passes CX X E) (ha : PA X (e :: es) t) (hg : Gl X x := by rfl) (hdb : (x == ("__debug__" : Str)) = false := by decide)
    (he : starEach (e :: es) X.env = (false, eval e X.env) :: starEach es X.env := by rfl) (hpl : (backTo pos (starEach es X.env)).any (·.1) = false := by rfl) : PE X (.Call (.Name x p) (e :: es) [] pos) (tKf C sp E t) := by
  obtain ⟨f, fd, F, hm, hb⟩ := M.ex
  exact pe_make hm F hr hg M.mg hb .nil hx ha hdb he hpl
theorem pe_kf0 (M : Kf X.prog X.w X.K X.mg X.base CX k x C ps sp) (hr : Room (k + 1) X.A) (hx : Passes CX X E) (hg : Gl X x := by rfl) (hdb : (x == ("__debug__" : Str)) = false := by decide) : PE X (.Call (.Name x p) [] [] pos) (tKf C sp E tNil) := by
  obtain ⟨f, fd, F, hm, hb⟩ := M.ex
  exact pe_make0 hm F hr hg M.mg hb .nil hx hdb
theorem pmk_xf (M : Xf X.prog X.w X.K X.mg X.base k x C ps sp) (hr : Room (k + 1) X.A) (ha : PA X (e :: es) t) (hg : Gl X x := by rfl) (hdb : (x == ("__debug__" : Str)) = false := by decide)
    (he : starEach (e :: es) X.env = (false, eval e X.env) :: starEach es X.env := by rfl) (hpl : (backTo pos (starEach es X.env)).any (·.1) = false := by rfl) : PMk X (.Call (.Name x p) (e :: es) [] pos) (tMkO C sp [] t) := by
  obtain ⟨f, fd, F, iC, tI, hb⟩ := M.ex
  exact pmk_oex M.oex iC tI F hr hb .nil pass0 hg M.mg ha hdb he hpl
theorem df_mk {P : Program} {w : World} {K : PySem.W.Frag} {mg : Str → Option Value} {base : Heap} {st : Stmt} (S : DefAt K mg x st ps) (h : ∀ f fd, Fun K x x st f fd → FnOk P w K mg base CX k f fd ps sp) : Df P w K mg base CX k x ps sp := by
  obtain ⟨f, fd, F, hm, hb⟩ := S
  exact ⟨⟨f, fd, h f fd F, hm, F.kp, hb⟩⟩
theorem mf_mk {P : Program} {w : World} {K : PySem.W.Frag} {mg : Str → Option Value} {base : Heap} {st : Stmt} {qual : Str} (c : Cls K C) (S : MetAt K C m qual st ps) (h : ∀ f fd, Fun K m qual st f fd → FnOk P w K mg base CX k f fd ps sp) : Mf P w K mg base CX k C m ps sp := by
  obtain ⟨f, fd, F, hm, hb⟩ := S
  exact ⟨⟨f, fd, h f fd F, hm, hb⟩, c⟩
theorem kf_mk {P : Program} {w : World} {K : PySem.W.Frag} {mg : Str → Option Value} {base : Heap} {st : Stmt} {qual : Str} (c : mg x = some (.ref C)) (S : IniAt K C qual st ps) (h : ∀ f fd, Fun K "__init__" qual st f fd → FnOk P w K mg base CX k f fd ps sp) : Kf P w K mg base CX k x C ps sp := by
  obtain ⟨f, fd, F, hm, hb⟩ := S
  exact ⟨⟨f, fd, h f fd F, hm, hb⟩, c⟩
theorem xf_mk {P : Program} {w : World} {K : PySem.W.Frag} {mg : Str → Option Value} {base : Heap} {st : Stmt} {qual : Str} (c : mg x = some (.ref C)) (ox : OexC K C) (S : XniAt K C qual st ps) (h : ∀ f fd, Fun K "__init__" qual st f fd → FnOk P w K mg base CX0 k f fd ps sp) : Xf P w K mg base k x C ps sp := by
  obtain ⟨f, fd, F, hm, hb⟩ := S
  exact ⟨⟨f, fd, h f fd F, hm.1, hm.2, hb⟩, ox, c⟩
theorem passE (tk : Takes X (fun cls d _ H => E cls d H)) : Passes (L2.CX X.prog X.w) X E := passes_call tk (fun _ _ _ _ h => h)
end
/-! ### heaps -/
def Imm : HO → Prop
  | .frz _ _ => True
  | .tup _ => True
  | _ => False
/-- what may have changed stands in S; frozen things and tuples never do -/
def Chg (S : List Addr) (H H' : Hp) : Prop := (∀ b o, b ∉ S → H b = some o → H' b = some o) ∧ ∀ b o, Imm o → H b = some o → H' b = some o
theorem Chg.refl {S : List Addr} (H : Hp) : Chg S H H := ⟨fun _ _ _ h => h, fun _ _ _ h => h⟩
theorem Chg.trans {S : List Addr} {H H1 H2 : Hp} (a : Chg S H H1) (b : Chg S H1 H2) : Chg S H H2 := ⟨fun x o n h => b.1 x o n (a.1 x o n h), fun x o n h => b.2 x o n (a.2 x o n h)⟩
theorem Chg.mono {S T : List Addr} {H H' : Hp} (a : Chg S H H') (h : ∀ x ∈ S, x ∈ T) : Chg T H H' := ⟨fun x o n e => a.1 x o (fun z => n (h x z)) e, a.2⟩
theorem chgS {S : List Addr} {H H' : Hp} (a : Same H H') : Chg S H H' := ⟨fun x o _ e => a x o e, fun x o _ e => a x o e⟩
theorem Chg.same {H H' : Hp} (a : Chg [] H H') : Same H H' := fun x o e => a.1 x o (by simp) e
theorem Chg.new {S : List Addr} {H H' : Hp} {p : Addr} {o : HO} (a : Chg S H H') (h : H' p = none) : Chg S H (upd H' p o) := by
  refine ⟨fun x u n e => ?_, fun x u n e => ?_⟩
  · have q := a.1 x u n e
    rw [upd_ne (ne_of_none q h)]; exact q
  · have q := a.2 x u n e
    rw [upd_ne (ne_of_none q h)]; exact q
theorem Chg.set {S : List Addr} {H H' : Hp} {p : Addr} {o u : HO} (a : Chg S H H') (hp : p ∈ S) (h : H' p = some o) (ho : ¬ Imm o) : Chg S H (upd H' p u) := by
  refine ⟨fun x v n e => ?_, fun x v n e => ?_⟩
  · have q := a.1 x v n e
    rw [upd_ne (fun z => n (by rw [z]; exact hp))]; exact q
  · have q := a.2 x v n e
    rw [upd_ne (fun z => ho (by rw [z, h] at q; cases q; exact n))]; exact q
/-- new since H: changed without a trace -/
theorem Chg.setN {S : List Addr} {H H' : Hp} {p : Addr} {u : HO} (a : Chg S H H') (hp : H p = none) : Chg S H (upd H' p u) := by
  refine ⟨fun x v n e => ?_, fun x v n e => ?_⟩
  · rw [upd_ne (ne_of_none e hp)]; exact a.1 x v n e
  · rw [upd_ne (ne_of_none e hp)]; exact a.2 x v n e
theorem Chg.none {S : List Addr} {H H' : Hp} {p : Addr} (a : Chg S H H') (h : H' p = Option.none) (n : p ∉ S) : H p = Option.none := by
  cases q : H p with
  | none => rfl
  | some o => rw [a.1 p o n q] at h; cases h
theorem Chg.tup {S : List Addr} {H H' : Hp} {K : PySem.W.Frag} {p : Addr} {xs : List V} (a : Chg S H H') (h : SqT K H p xs) : SqT K H' p xs := by
  rcases h with (h | ⟨o, h⟩) | h
  · exact .inl (.inl (a.2 _ _ trivial h))
  · exact .inl (.inr ⟨o, a.2 _ _ trivial h⟩)
  · exact .inr h
abbrev vis (l : List Int) : List V := l.map V.int
/-- a list that never changes -/
def Fz (K : PySem.W.Frag) (H : Hp) (a : Addr) (xs : List V) : Prop := (∃ o, H a = some (.frz o (.lst xs))) ∨ ∀ H, SqL K H a xs
theorem Fz.sq {K : PySem.W.Frag} {H : Hp} {a : Addr} {xs : List V} (h : Fz K H a xs) : SqL K H a xs := by
  rcases h with ⟨o, h⟩ | h
  · exact .inl (.inr ⟨o, h⟩)
  · exact h H
theorem Fz.chg {K : PySem.W.Frag} {S : List Addr} {H H' : Hp} {a : Addr} {xs : List V} (h : Fz K H a xs) (c : Chg S H H') : Fz K H' a xs := by
  rcases h with ⟨o, h⟩ | h
  · exact .inl ⟨o, c.2 _ _ trivial h⟩
  · exact .inr h
theorem Fz.of {K : PySem.W.Frag} {H : Hp} {a : Addr} {xs : List V} (h : SqL K H a xs) (o : OnlyF H) : Fz K H a xs := by
  rcases h with (h | h) | h
  · rcases o a with z | ⟨x, u, z⟩
    · rw [z] at h; cases h
    · rw [z] at h; cases h
  · exact .inl h
  · exact .inr fun H => .inr h
theorem flat_ints (l : List Int) : (vis l).all flatV = true := by
  rw [List.all_eq_true]
  intro v hv
  obtain ⟨i, _, rfl⟩ := List.mem_map.mp hv
  rfl
theorem inV_ints (c : Int) : ∀ l : List Int, inV (.int c) (vis l) = l.contains c
  | [] => rfl
  | x :: l => by
    have ih := inV_ints c l
    unfold inV at ih ⊢
    show (eqV (.int x) (.int c) || (vis l).any fun y => eqV y (.int c)) = (x :: l).contains c
    rw [ih, List.contains_cons]
    congr 1
    show (x == c) = (c == x)
    exact BEq.comm
theorem sz {n : Nat} (h : n ≤ 100000) : n ≤ sizeLine := Nat.le_trans h (by decide)
theorem szl {n : Nat} (h : n < 100000) : n < sizeLine := Nat.lt_of_lt_of_le h (by decide)
end Ab
/-! a try whose first clause names what it caught, with more clauses behind it: the kit's two rules (one clause with a name; many without) joined; its steps are those of the two, turned to this -/
namespace Ab
open PySem PySem.Spec PyProof.Rows L2
section
variable {X : Cx} {x n : Str} {c : Value} {i : Nat} {body suite : List Stmt} {b₀ : Stmt} {np pos pos' : Pos} {hds : List ExceptHandler} {l : List (Value × (Addr → Value → Option Addr → TS))} {tb : WX → TS} {ts : Addr → Value → Option Addr → TS} {Wout : WX}
theorem ps_try_two (hs : X.stack = X.env :: X.outer) (hf : X.env.frame = some X.env.locals) (hN : X.N.Nodup) (hi : X.N[i]? = some n) (hln : X.env.kindOf n = some .local) (hc : Names X x c) (tk : Takes X Wout)
    (hb : ∀ (W : WX) (pn : List (Addr × Obj)) (xe : Value → Shared → Prop), Takes (X.tr pn xe) W → PassesOwn (model X.prog X.w) X.A X.env xe → PSs (X.tr pn xe) body (tb W))
    (hsu : ∀ (a : Addr) (oe : Obj) (cls : Value) (d : Option Addr) (pn : List (Addr × Obj)), Zc cls d oe → (∃ vs, oe.data = .fields vs) → PSs (X.suite a ((a, oe) :: pn)) (b₀ :: suite) (ts a cls d))
    (hh : HdsOk X hds l) :
    PS X (.Try body (.ExceptHandler (some (.Name x np)) (some n) (b₀ :: suite) pos' :: hds) [] [] pos) (fun D σ H => tb (wAs X.K c i ts (wMany X.K Wout D l) D) D σ H) := by
  refine ⟨fun pins s σ H D I h => ?_⟩
  have ok := I.ok
  have hfr : X.A.frames = some (X.env :: X.outer) := by rw [ok.frames, hs]
  have hloc : Loc X.env.scope n := .inl hln
  refine wpAny_Try_except ?_
  refine wpAny_mono ((hb (wAs X.K c i ts (wMany X.K Wout D l) D) (X.pn ++ pins) (fun e s₁ => wpAny (model X.prog X.w) X.A (noteFrame e X.env) (fun _ s₂ => wpAny (model X.prog X.w) X.A (setFlight e none) (fun _ s₃ =>
    wpAny (model X.prog X.w) X.A (handleBy e X.env (.ExceptHandler (some (.Name x np)) (some n) (b₀ :: suite) pos' :: hds)) (SP X pins D) X.xe s₃) X.xe s₂) X.xe s₁) (fun u s' xx => ?_) PassesOwn.looking).run [] s σ H D (I.toTry _) h) (fun f s1 hsp => ?_) (fun e s1 he => he)
  · obtain ⟨a, B, sI, pins', σ', H', cls, d, rfl, J', nb, up, sky, na, os, ag, b, hb1, hyes, hno⟩ := xx
    have J : Inv X pins σ' H' sI := J'.ofTry ok
    have sky' : Sky B (X.env :: X.outer) a (Zc cls d) X.env.locals s'.heap := by rw [← hs]; exact sky
    show wpAny (model X.prog X.w) X.A (noteFrame (.ref a) X.env) _ _ _
    refine Sky.land Zc.steady hfr hf sky' fun h3 fl3 up3 => ?_
    have J3 : Inv X pins σ' H' { s' with heap := h3 } := J.landed nb fl3.1 (up.trans up3) os ag
    obtain ⟨oe3, vs3, he3, hz3, hd3⟩ := fl3.there
    have notFr : ∀ {h : Heap} {o : Obj} {vs : Array Value}, h.FunFrames B (X.env :: X.outer) → h.get? a = some o → o.data = .fields vs → a ∉ frs (X.env :: X.outer) := fun {h o vs} ff e dd hm => by
      obtain ⟨_, o', e', hnf⟩ := ff.mem hm
      rw [e] at e'; cases e'
      exact hnf _ dd
    have nfr := notFr fl3.2.2.1 he3 hd3
    have nL : a ≠ X.env.locals := fun z => nfr (List.mem_filterMap.mpr ⟨X.env, List.mem_cons_self, by rw [hf, z]⟩)
    have nF : a ∉ X.fs := fun hm => by
      obtain ⟨e, he, q⟩ := List.mem_filterMap.mp hm
      exact nfr (List.mem_filterMap.mpr ⟨e, List.mem_cons_of_mem _ he, q⟩)
    have S3 := J3.suite he3 hd3 na nL nF
    have LT : PySem.W.Looks (model X.prog X.w) h3 (typeOf (.ref a)) cls := fun A Q E s k q => wpAny_typeOf_ref (k _ _ he3) (by rw [hz3.1]; exact q)
    have look : ∀ {x : Str} {c : Value} {np : Pos}, Names X x c → ∀ {Q : Value → Shared → Prop} {E : Value → Shared → Prop}, Q c { s' with heap := h3 } → wpAny (model X.prog X.w) (X.A.mark (some (.ref a))) (eval (.Name x np) X.env) Q E { s' with heap := h3 } := fun {x c np} hc {Q E} q => by
      obtain ⟨hg, hdbg, hm | ⟨hm, hv, hnn⟩⟩ := hc
      · exact ld_glob (X := X.suite a ((a, oe3) :: (X.pn ++ pins))) S3 hg hm q hdbg
      · exact ld_blt (X := X.suite a ((a, oe3) :: (X.pn ++ pins))) S3 hg hm hv q hnn hdbg
    have go : ∀ {hds' : List ExceptHandler} {l' : List (Value × (Addr → Value → Option Addr → TS))}, HdsOk X hds' l' → wMany X.K Wout D l' cls d σ' H' →
        wpAny (model X.prog X.w) X.A (handleBy (.ref a) X.env hds') (SP X pins D) X.xe { s' with heap := h3 } := by
      intro hds' l' hk
      induction hk with
      | nil =>
        intro w
        refine wpAny_handleBy_nil ?_
        obtain ⟨k1, k2, k3, oe, vs, T, oT, ts', he, hz, hd, h1, hr⟩ := id fl3
        unfold PySem.passOn
        refine wpAny_bind (wpAny_field he hd h1 ?_)
        rw [if_neg (show ¬ ((Value.ref T == Value.none) = true) from by simp)]
        have fin : wpAny (model X.prog X.w) X.A (setFlight (.ref a) X.env.frame) (fun _ s4 => wpAny (model X.prog X.w) X.A (throw (.ref a) : Sem Flow) (SP X pins D) X.xe s4) X.xe { s' with heap := h3 } := by
          rw [hf]
          refine HandSPX.setFlight_upZ fl3 fun h4 hh4 up4 => wpAny_throw (tk _ _ ?_)
          exact ⟨a, B, sI, pins, σ', H', cls, d, rfl, J, nb, (up.trans up3).trans up4, .inr (.inr (by rw [hs]; exact hh4)), na, os, ag, w⟩
        first
          | exact wpAny_bind (wpAny_pure (wpAny_bind fin))
          | exact wpAny_bind fin
      | @cons x c ts b₀ suite np pos' hds2 l2 hc hsu r ih =>
        intro w
        obtain ⟨b, hb1, hyes, hno⟩ := w
        refine wpAny_handleBy_cons (codeAny_handlers_test ?_) (by intro q; cases q)
        have LM := PySem.W.exm_one (M := model X.prog X.w) (J3.kIn) LT hb1
        refine look hc (LM.here ?_)
        cases b with
        | true =>
          refine codeAny_handlers_suite ?_
          refine HandSPX.lands_againZ fl3 fun h4 fl4 up4 => ?_
          have J4 : Inv X pins σ' H' { s' with heap := h4 } := J.landed nb fl4.1 ((up.trans up3).trans up4) os ag
          obtain ⟨oe4, vs4, he4, hz4, hd4⟩ := fl4.there
          have S4 := J4.suite he4 hd4 na nL nF
          refine wpAny_mono ((hsu a oe4 cls d (X.pn ++ pins) hz4 ⟨_, hd4⟩).run [] _ _ H' _ S4 (hyes rfl a na)) (fun f s6 hsp => ?_) (fun _ _ z => False.elim z)
          cases f with
          | next =>
            obtain ⟨σ6, H6, S6, q6⟩ := hsp
            exact ⟨_, _, S6.unsuite ok, q6⟩
          | brk =>
            obtain ⟨σ6, H6, S6, q6⟩ := hsp
            exact ⟨_, _, S6.unsuite ok, q6⟩
          | cont =>
            obtain ⟨σ6, H6, S6, q6⟩ := hsp
            exact ⟨_, _, S6.unsuite ok, q6⟩
          | ret u =>
            obtain ⟨v6, σ6, H6, S6, r6, q6⟩ := hsp
            exact ⟨_, _, _, S6.unsuite ok, r6, q6⟩
        | false =>
          show wpAny _ X.A (handleBy (.ref a) X.env hds2) _ _ _
          exact ih (hno rfl)
    refine wpAny_handleBy_cons (codeAny_handlers_test ?_) (by intro q; cases q)
    have LM := PySem.W.exm_one (M := model X.prog X.w) (J3.kIn) LT hb1
    refine look hc (LM.here ?_)
    cases b with
    | true =>
      refine codeAny_handlers_suite_as ?_
      refine HandSPX.lands_againZ fl3 fun h4 fl4 up4 => ?_
      have J4 : Inv X pins σ' H' { s' with heap := h4 } := J.landed nb fl4.1 ((up.trans up3).trans up4) os ag
      obtain ⟨oe4, vs4, he4, hz4, hd4⟩ := fl4.there
      have S4 := J4.suite he4 hd4 na nL nF
      refine store_ok (X := X.suite a ((a, oe4) :: (X.pn ++ pins))) (v := .ref a) S4 hN hi hloc rfl (fun s5 S5 => ?_) (.inr hln)
      refine wpAny_mono ((hsu a oe4 cls d (X.pn ++ pins) hz4 ⟨_, hd4⟩).run [] s5 _ H' _ S5 (hyes rfl a na)) (fun f s6 hsp => ?_) (fun _ _ z => False.elim z)
      have end_ : ∀ {σ6 : L2.St} {H6 : Hp} {Q : Shared → Prop}, Inv (X.suite a ((a, oe4) :: (X.pn ++ pins))) [] σ6 H6 s6 → (∀ s7, Inv X pins (σ6.set i none) H6 s7 → Q s7) →
          wpAny (model X.prog X.w) X.A (do bindName X.env n .none; unbindBehindTheSuite X.env n pos') (fun _ s7 => Q s7) X.xe s6 := fun {σ6 H6 Q} S6 hq => gone_ok (S6.unsuite ok) hN hi hln hq
      cases f with
      | next =>
        obtain ⟨σ6, H6, S6, q6⟩ := hsp
        exact end_ S6 fun s7 J7 => ⟨_, _, J7, q6⟩
      | brk =>
        obtain ⟨σ6, H6, S6, q6⟩ := hsp
        exact end_ S6 fun s7 J7 => ⟨_, _, J7, q6⟩
      | cont =>
        obtain ⟨σ6, H6, S6, q6⟩ := hsp
        exact end_ S6 fun s7 J7 => ⟨_, _, J7, q6⟩
      | ret u =>
        obtain ⟨v6, σ6, H6, S6, r6, q6⟩ := hsp
        exact end_ S6 fun s7 J7 => ⟨_, _, _, J7, r6, q6⟩
    | false =>
      show wpAny _ X.A (handleBy (.ref a) X.env hds) _ _ _
      exact go hh (hno rfl)
  · cases f with
    | next =>
      obtain ⟨σ', H', J', q⟩ := hsp
      exact wpAny_execs_nil ⟨σ', H', J'.ofTry ok, q⟩
    | brk =>
      obtain ⟨σ', H', J', q⟩ := hsp
      exact ⟨σ', H', J'.ofTry ok, q⟩
    | cont =>
      obtain ⟨σ', H', J', q⟩ := hsp
      exact ⟨σ', H', J'.ofTry ok, q⟩
    | ret u =>
      obtain ⟨v, σ', H', J', r, q⟩ := hsp
      exact ⟨v, σ', H', J'.ofTry ok, r, q⟩
end
/-! a method called in a try -/
section
variable {X : Cx} {CX : CXT} {k : Nat} {m : Str} {C : Addr} {ps : List Str} {sp : Sp} {ES : L2.St → XK} {pos apos : Pos} {e o : Expr} {es : List Expr} {ta : TE} {t : TA}
def tMfS (C : Addr) (m : Str) (sp : Sp) (ES : L2.St → XK) (ta : TE) (t : TA) : TE := fun σ H Q => ta σ H fun x H1 => ∃ a, x = .ref a ∧ Ins H1 a C m ∧ t σ H1 fun vs H2 => sp (x :: vs) H2 Q (ES σ)
theorem pe_mfS {pl : Sem Bool} (M : Mf X.prog X.w X.K X.mg X.base CX k C m ps sp) (hr : Room k X.A) (hx : ∀ σ, PassesAt CX X σ (ES σ)) (he : PE X o ta) (ha : PA X (e :: es) t)
    (hst : starEach (e :: es) X.env = (false, eval e X.env) :: starEach es X.env := by rfl) (hpl : (backTo pos (starEach es X.env)).any (·.1) = false := by rfl)
    (ht : eval (.Call (.Attribute o m apos) (e :: es) [] pos) X.env = (do
      let ov ← eval o X.env
      standAt apos.atName
      let (f, first) ← holding [ov] (getMethod ov m pl)
      callWith pos f first (backTo pos (starEach (e :: es) X.env)) (backToKw pos (keywordEach [] X.env))) := by rfl) : PE X (.Call (.Attribute o m apos) (e :: es) [] pos) (tMfS C m sp ES ta t) := by
  obtain ⟨f, fd, F, hm, hb⟩ := M.ex
  refine ⟨fun pins s σ H Q I h => ?_⟩
  refine PySem.W.methodCall_KW (pl := pl) (thn (he.run pins s σ H _ I h) fun u s1 ⟨x, H1, I1, rx, a, ex, ⟨dx, fs, ea, l⟩, q⟩ => ?_) ht
  subst ex
  obtain rfl : u = Value.ref a := rx
  refine getmeth_ok I1 ea M.cl hm l ?_
  refine PySem.W.callWith_K (first := [.ref a]) (h₀ := X.base) I.ok.mod.kin hm.kp (thn (ha.run pos pins s1 σ H1 _ I1 q) fun us s2 ⟨vs, H2, I2, r, q2⟩ => ⟨I2.kIn, ?_⟩) hst hpl
  exact run_fnS (us := .ref a :: us) (vs := .ref a :: vs) F hr hb (hx σ) I2 (.cons rfl r) q2
end
end Ab
/-! a field as one of several targets; an item of a list, read for `xs[i] += ..` -/
namespace Ab
open PySem PySem.Spec PyProof.Rows L2
section
variable {X : Cx} {o : Expr} {f : Str} {ta : TE} {pos : Pos}
theorem pg_put (ho : PE X o ta) : PG X (.Attribute o f pos) (gFld X.K ta f) := by
  refine ⟨fun pins s σ H v u Q I r h => ?_⟩
  rw [assign_Attribute]
  refine wpAny_bind (wpAny_holding (thn (ho.run pins s σ H _ I h) fun ov s1 ⟨x, H1, I1, r1, a, C, dx, fs, ex, ⟨ea, c, n, l⟩, q⟩ => ?_))
  subst ex
  obtain rfl : ov = Value.ref a := r1
  refine wpAny_bind (wpAny_standAt (wpAny_bind (wpAny_holding ?_)))
  exact setattr_ok I1 ea c n l r fun s' J => wpAny_release ⟨σ, _, J, q⟩
def rGetL (K : PySem.W.Frag) : V → V → Hp → VK → Prop := fun x y H Q => ∃ p xs i v, x = .ref p ∧ y = .int i ∧ SqL K H p xs ∧ atI xs i = some v ∧ Q v H
theorem get_list : PGet X (rGetL X.K) := by
  intro pins s σ H x y v u Q I rx ry h
  obtain ⟨p, xs, i, z, rfl, rfl, hq, he, q⟩ := h
  cases rx
  obtain ⟨t, rfl⟩ := ry
  obtain ⟨its, r, pl, hz⟩ := I.list hq
  obtain ⟨j, h1, h2, h3, h4, h5⟩ := atI_get he
  obtain ⟨w, ew, rw'⟩ := r.get h2
  have hl := r.length
  have hn := line63
  have fin : EP X pins σ Q w s := ⟨z, H, I, rw', q⟩
  by_cases h0 : 0 ≤ i
  · have hj : i.toNat = j := by
      rw [seqIndex_of h0 h5] at h1
      exact Option.some.inj h1
    exact wpAny_getItem_list pl.isList h0 (by omega) (by rw [hj]; simpa using ew) fin
  · have hj : (i + (its.toArray.size : Int)).toNat = j := by
      rw [seqIndex_neg (by omega) h4] at h1
      rw [List.size_toArray, ← hl]
      exact Option.some.inj h1
    exact wpAny_getItem_list_neg pl.isList (by omega) (by rw [List.size_toArray] <;> omega) (by omega) (by rw [hj]; simpa using ew) fin
end
end Ab
/-! ## The walk: the parser's defs -/
namespace Ab
open PySem PySem.Spec PyProof.Rows L2
def top (i : Nat) : Stmt := PySem.Challenge.pw_abacusways_s04_work.main.body.getD i (.Pass ⟨0, 0, 0, 0⟩)
abbrev s_Fault___init__ : Stmt := inClass (top 1) 0
theorem sc_Fault___init__ : FnScope ["self", "rule", "place"] ["self", "rule", "place"] (defScope s_Fault___init__) := ⟨rfl, rfl, rfl, by decide +kernel, rfl, by decide +kernel, by decide +kernel⟩
abbrev s_RunFault___init__ : Stmt := inClass (top 2) 0
theorem sc_RunFault___init__ : FnScope ["self", "kind"] ["self", "kind"] (defScope s_RunFault___init__) := ⟨rfl, rfl, rfl, by decide +kernel, rfl, by decide +kernel, by decide +kernel⟩
abbrev s_rods_of : Stmt := top 18
theorem sc_rods_of : FnScope ["make", "found", "at", "beads", "worths"] ["make"] (defScope s_rods_of) := ⟨rfl, rfl, rfl, by decide +kernel, rfl, by decide +kernel, by decide +kernel⟩
abbrev s_are_decks : Stmt := top 19
theorem sc_are_decks : FnScope ["rod", "ratio", "beads", "worths", "many", "worth"] ["rod"] (defScope s_are_decks) := ⟨rfl, rfl, rfl, by decide +kernel, rfl, by decide +kernel, by decide +kernel⟩
abbrev s_worth_of : Stmt := top 20
theorem sc_worth_of : FnScope ["pushed", "worths"] ["pushed", "worths"] (defScope s_worth_of) := ⟨rfl, rfl, rfl, by decide +kernel, rfl, by decide +kernel, by decide +kernel⟩
abbrev s_rank_of : Stmt := top 21
theorem sc_rank_of : FnScope ["pushed"] ["pushed"] (defScope s_rank_of) := ⟨rfl, rfl, rfl, by decide +kernel, rfl, by decide +kernel, by decide +kernel⟩
abbrev s_ways_of : Stmt := top 22
theorem sc_ways_of : FnScope ["beads", "found", "first", "second", "third"] ["beads"] (defScope s_ways_of) := ⟨rfl, rfl, rfl, by decide +kernel, rfl, by decide +kernel, by decide +kernel⟩
abbrev s_forms_of : Stmt := top 23
theorem sc_forms_of : FnScope ["rod", "ratio", "beads", "worths", "found", "pushed", "count"] ["rod"] (defScope s_forms_of) := ⟨rfl, rfl, rfl, by decide +kernel, rfl, by decide +kernel, by decide +kernel⟩
abbrev s_rod_rule : Stmt := top 24
theorem sc_rod_rule : FnScope ["rod", "ratio", "beads", "worths"] ["rod"] (defScope s_rod_rule) := ⟨rfl, rfl, rfl, by decide +kernel, rfl, by decide +kernel, by decide +kernel⟩
abbrev s_want_make : Stmt := top 25
theorem sc_want_make : FnScope ["make", "place", "rod", "rule"] ["make"] (defScope s_want_make) := ⟨rfl, rfl, rfl, by decide +kernel, rfl, by decide +kernel, by decide +kernel⟩
abbrev s_want_standing : Stmt := top 26
theorem sc_want_standing : FnScope ["rods", "standing", "place", "many"] ["rods", "standing"] (defScope s_want_standing) := ⟨rfl, rfl, rfl, by decide +kernel, rfl, by decide +kernel, by decide +kernel⟩
abbrev s_places_of : Stmt := top 27
theorem sc_places_of : FnScope ["rods", "found", "ratio", "beads", "worths"] ["rods"] (defScope s_places_of) := ⟨rfl, rfl, rfl, by decide +kernel, rfl, by decide +kernel, by decide +kernel⟩
abbrev s_pushed_on : Stmt := top 28
theorem sc_pushed_on : FnScope ["standing", "rod", "at"] ["standing", "rod"] (defScope s_pushed_on) := ⟨rfl, rfl, rfl, by decide +kernel, rfl, by decide +kernel, by decide +kernel⟩
abbrev s_digit_shown : Stmt := top 29
theorem sc_digit_shown : FnScope ["rods", "forms", "standing", "rod", "pushed", "count"] ["rods", "forms", "standing", "rod"] (defScope s_digit_shown) := ⟨rfl, rfl, rfl, by decide +kernel, rfl, by decide +kernel, by decide +kernel⟩
abbrev s_is_in_form : Stmt := top 30
theorem sc_is_in_form : FnScope ["rods", "forms", "standing", "rod"] ["rods", "forms", "standing"] (defScope s_is_in_form) := ⟨rfl, rfl, rfl, by decide +kernel, rfl, by decide +kernel, by decide +kernel⟩
abbrev s_strokes_of : Stmt := top 39
theorem sc_strokes_of : FnScope ["hand", "found", "at"] ["hand"] (defScope s_strokes_of) := ⟨rfl, rfl, rfl, by decide +kernel, rfl, by decide +kernel, by decide +kernel⟩
abbrev s_is_deck : Stmt := top 40
theorem sc_is_deck : FnScope ["deck", "direction", "most"] ["deck", "direction", "most"] (defScope s_is_deck) := ⟨rfl, rfl, rfl, by decide +kernel, rfl, by decide +kernel, by decide +kernel⟩
abbrev s_has_second : Stmt := top 41
theorem sc_has_second : FnScope ["stroke"] ["stroke"] (defScope s_has_second) := ⟨rfl, rfl, rfl, by decide +kernel, rfl, by decide +kernel, by decide +kernel⟩
abbrev s_is_stroke : Stmt := top 42
theorem sc_is_stroke : FnScope ["stroke"] ["stroke"] (defScope s_is_stroke) := ⟨rfl, rfl, rfl, by decide +kernel, rfl, by decide +kernel, by decide +kernel⟩
abbrev s_want_hand : Stmt := top 43
theorem sc_want_hand : FnScope ["hand", "strokes", "place", "stroke"] ["hand"] (defScope s_want_hand) := ⟨rfl, rfl, rfl, by decide +kernel, rfl, by decide +kernel, by decide +kernel⟩
abbrev s_steps_of : Stmt := top 44
theorem sc_steps_of : FnScope ["row", "at"] ["row"] (defScope s_steps_of) := ⟨rfl, rfl, rfl, by decide +kernel, rfl, by decide +kernel, by decide +kernel⟩
abbrev s_is_step : Stmt := top 45
theorem sc_is_step : FnScope ["step", "stroke", "many", "second"] ["step"] (defScope s_is_step) := ⟨rfl, rfl, rfl, by decide +kernel, rfl, by decide +kernel, by decide +kernel⟩
abbrev s_is_rule : Stmt := top 46
theorem sc_is_rule : FnScope ["row", "step"] ["row"] (defScope s_is_rule) := ⟨rfl, rfl, rfl, by decide +kernel, rfl, by decide +kernel, by decide +kernel⟩
abbrev s_rules_of : Stmt := top 47
theorem sc_rules_of : FnScope ["book", "found", "place", "row"] ["book"] (defScope s_rules_of) := ⟨rfl, rfl, rfl, by decide +kernel, rfl, by decide +kernel, by decide +kernel⟩
abbrev s_BeadFrame___init__ : Stmt := inClass (top 51) 0
theorem sc_BeadFrame___init__ : FnScope ["self", "rods", "forms", "hand", "rules", "standing", "rod"] ["self", "rods", "forms", "hand", "rules", "standing", "rod"] (defScope s_BeadFrame___init__) := ⟨rfl, rfl, rfl, by decide +kernel, rfl, by decide +kernel, by decide +kernel⟩
abbrev s_BeadFrame_shown : Stmt := inClass (top 51) 1
theorem sc_BeadFrame_shown : FnScope ["self", "rod", "found"] ["self", "rod"] (defScope s_BeadFrame_shown) := ⟨rfl, rfl, rfl, by decide +kernel, rfl, by decide +kernel, by decide +kernel⟩
abbrev s_BeadFrame_want_rod : Stmt := inClass (top 51) 2
theorem sc_BeadFrame_want_rod : FnScope ["self", "rod"] ["self", "rod"] (defScope s_BeadFrame_want_rod) := ⟨rfl, rfl, rfl, by decide +kernel, rfl, by decide +kernel, by decide +kernel⟩
abbrev s_BeadFrame_digit : Stmt := inClass (top 51) 3
theorem sc_BeadFrame_digit : FnScope ["self", "rod"] ["self", "rod"] (defScope s_BeadFrame_digit) := ⟨rfl, rfl, rfl, by decide +kernel, rfl, by decide +kernel, by decide +kernel⟩
abbrev s_BeadFrame_change : Stmt := inClass (top 51) 4
theorem sc_BeadFrame_change : FnScope ["self", "op", "many", "rod", "number", "steps", "at", "digit"] ["self", "op", "many", "rod"] (defScope s_BeadFrame_change) := ⟨rfl, rfl, rfl, by decide +kernel, rfl, by decide +kernel, by decide +kernel⟩
abbrev s_BeadFrame_sum_digit : Stmt := inClass (top 51) 5
theorem sc_BeadFrame_sum_digit : FnScope ["self", "op", "digit", "rod", "steps", "going", "at", "steps_there", "done"] ["self", "op", "digit", "rod", "steps"] (defScope s_BeadFrame_sum_digit) := ⟨rfl, rfl, rfl, by decide +kernel, rfl, by decide +kernel, by decide +kernel⟩
abbrev s_BeadFrame_carried : Stmt := inClass (top 51) 6
theorem sc_BeadFrame_carried : FnScope ["self", "op", "rod"] ["self", "op", "rod"] (defScope s_BeadFrame_carried) := ⟨rfl, rfl, rfl, by decide +kernel, rfl, by decide +kernel, by decide +kernel⟩
abbrev s_BeadFrame_told_rule : Stmt := inClass (top 51) 7
theorem sc_BeadFrame_told_rule : FnScope ["self", "op", "digit", "rod"] ["self", "op", "digit", "rod"] (defScope s_BeadFrame_told_rule) := ⟨rfl, rfl, rfl, by decide +kernel, rfl, by decide +kernel, by decide +kernel⟩
abbrev s_BeadFrame_act : Stmt := inClass (top 51) 8
theorem sc_BeadFrame_act : FnScope ["self", "rod", "step", "number", "many", "second", "stroke"] ["self", "rod", "step"] (defScope s_BeadFrame_act) := ⟨rfl, rfl, rfl, by decide +kernel, rfl, by decide +kernel, by decide +kernel⟩
abbrev s_BeadFrame_push : Stmt := inClass (top 51) 9
theorem sc_BeadFrame_push : FnScope ["self", "rod", "move", "many", "deck", "direction", "most", "at", "beads", "room"] ["self", "rod", "move", "many"] (defScope s_BeadFrame_push) := ⟨rfl, rfl, rfl, by decide +kernel, rfl, by decide +kernel, by decide +kernel⟩
abbrev s_Reader___init__ : Stmt := inClass (top 77) 0
theorem sc_Reader___init__ : FnScope ["self", "text"] ["self", "text"] (defScope s_Reader___init__) := ⟨rfl, rfl, rfl, by decide +kernel, rfl, by decide +kernel, by decide +kernel⟩
abbrev s_Reader_sees : Stmt := inClass (top 77) 1
theorem sc_Reader_sees : FnScope ["self", "some"] ["self", "some"] (defScope s_Reader_sees) := ⟨rfl, rfl, rfl, by decide +kernel, rfl, by decide +kernel, by decide +kernel⟩
abbrev s_Reader_next_of : Stmt := inClass (top 77) 2
theorem sc_Reader_next_of : FnScope ["self", "some"] ["self", "some"] (defScope s_Reader_next_of) := ⟨rfl, rfl, rfl, by decide +kernel, rfl, by decide +kernel, by decide +kernel⟩
abbrev s_Reader_word : Stmt := inClass (top 77) 3
theorem sc_Reader_word : FnScope ["self", "word", "byte"] ["self", "word"] (defScope s_Reader_word) := ⟨rfl, rfl, rfl, by decide +kernel, rfl, by decide +kernel, by decide +kernel⟩
abbrev s_bytes_of : Stmt := top 78
theorem sc_bytes_of : FnScope ["word", "sign"] ["word"] (defScope s_bytes_of) := ⟨rfl, rfl, rfl, by decide +kernel, rfl, by decide +kernel, by decide +kernel⟩
abbrev s_number_from : Stmt := top 79
theorem sc_number_from : FnScope ["reader", "byte", "found", "many"] ["reader", "byte"] (defScope s_number_from) := ⟨rfl, rfl, rfl, by decide +kernel, rfl, by decide +kernel, by decide +kernel⟩
abbrev s_operand : Stmt := top 80
theorem sc_operand : FnScope ["reader", "byte"] ["reader", "byte"] (defScope s_operand) := ⟨rfl, rfl, rfl, by decide +kernel, rfl, by decide +kernel, by decide +kernel⟩
abbrev s_open_brackets : Stmt := top 81
theorem sc_open_brackets : FnScope ["waiting", "byte"] ["waiting"] (defScope s_open_brackets) := ⟨rfl, rfl, rfl, by decide +kernel, rfl, by decide +kernel, by decide +kernel⟩
abbrev s_read_operand : Stmt := top 82
theorem sc_read_operand : FnScope ["reader", "found", "waiting", "byte", "room"] ["reader", "found", "waiting"] (defScope s_read_operand) := ⟨rfl, rfl, rfl, by decide +kernel, rfl, by decide +kernel, by decide +kernel⟩
abbrev s_close : Stmt := top 83
theorem sc_close : FnScope ["found", "waiting", "byte"] ["found", "waiting"] (defScope s_close) := ⟨rfl, rfl, rfl, by decide +kernel, rfl, by decide +kernel, by decide +kernel⟩
abbrev s_binds : Stmt := top 84
theorem sc_binds : FnScope ["byte"] ["byte"] (defScope s_binds) := ⟨rfl, rfl, rfl, by decide +kernel, rfl, by decide +kernel, by decide +kernel⟩
abbrev s_read_operator : Stmt := top 85
theorem sc_read_operator : FnScope ["reader", "found", "waiting", "byte"] ["reader", "found", "waiting"] (defScope s_read_operator) := ⟨rfl, rfl, rfl, by decide +kernel, rfl, by decide +kernel, by decide +kernel⟩
abbrev s_read_closers : Stmt := top 86
theorem sc_read_closers : FnScope ["reader", "found", "waiting", "inner"] ["reader", "found", "waiting"] (defScope s_read_closers) := ⟨rfl, rfl, rfl, by decide +kernel, rfl, by decide +kernel, by decide +kernel⟩
abbrev s_expression : Stmt := top 87
theorem sc_expression : FnScope ["reader", "ends", "found", "waiting", "is_open"] ["reader", "ends"] (defScope s_expression) := ⟨rfl, rfl, rfl, by decide +kernel, rfl, by decide +kernel, by decide +kernel⟩
abbrev s_compared : Stmt := top 88
theorem sc_compared : FnScope ["reader", "byte", "is_equal"] ["reader"] (defScope s_compared) := ⟨rfl, rfl, rfl, by decide +kernel, rfl, by decide +kernel, by decide +kernel⟩
abbrev s_condition : Stmt := top 89
theorem sc_condition : FnScope ["reader", "found", "is_open", "left", "by"] ["reader"] (defScope s_condition) := ⟨rfl, rfl, rfl, by decide +kernel, rfl, by decide +kernel, by decide +kernel⟩
abbrev s_Lines___init__ : Stmt := inClass (top 101) 0
theorem sc_Lines___init__ : FnScope ["self"] ["self"] (defScope s_Lines___init__) := ⟨rfl, rfl, rfl, by decide +kernel, rfl, by decide +kernel, by decide +kernel⟩
abbrev s_Lines_put : Stmt := inClass (top 101) 1
theorem sc_Lines_put : FnScope ["self", "word", "parts"] ["self", "word", "parts"] (defScope s_Lines_put) := ⟨rfl, rfl, rfl, by decide +kernel, rfl, by decide +kernel, by decide +kernel⟩
abbrev s_Lines_may_have_else : Stmt := inClass (top 101) 2
theorem sc_Lines_may_have_else : FnScope ["self"] ["self"] (defScope s_Lines_may_have_else) := ⟨rfl, rfl, rfl, by decide +kernel, rfl, by decide +kernel, by decide +kernel⟩
abbrev s_Lines_opened : Stmt := inClass (top 101) 3
theorem sc_Lines_opened : FnScope ["self", "word", "parts"] ["self", "word", "parts"] (defScope s_Lines_opened) := ⟨rfl, rfl, rfl, by decide +kernel, rfl, by decide +kernel, by decide +kernel⟩
abbrev s_Lines_put_else : Stmt := inClass (top 101) 4
theorem sc_Lines_put_else : FnScope ["self"] ["self"] (defScope s_Lines_put_else) := ⟨rfl, rfl, rfl, by decide +kernel, rfl, by decide +kernel, by decide +kernel⟩
abbrev s_Lines_put_end : Stmt := inClass (top 101) 5
theorem sc_Lines_put_end : FnScope ["self", "begin", "middle"] ["self"] (defScope s_Lines_put_end) := ⟨rfl, rfl, rfl, by decide +kernel, rfl, by decide +kernel, by decide +kernel⟩
abbrev s_first_bytes : Stmt := top 102
theorem sc_first_bytes : FnScope ["lines", "some"] ["lines"] (defScope s_first_bytes) := ⟨rfl, rfl, rfl, by decide +kernel, rfl, by decide +kernel, by decide +kernel⟩
abbrev s_read_change : Stmt := top 103
theorem sc_read_change : FnScope ["reader", "lines", "word", "rest", "many"] ["reader", "lines", "word", "rest"] (defScope s_read_change) := ⟨rfl, rfl, rfl, by decide +kernel, rfl, by decide +kernel, by decide +kernel⟩
abbrev s_read_set_or_stop : Stmt := top 104
theorem sc_read_set_or_stop : FnScope ["reader", "lines", "head"] ["reader", "lines"] (defScope s_read_set_or_stop) := ⟨rfl, rfl, rfl, by decide +kernel, rfl, by decide +kernel, by decide +kernel⟩
abbrev s_read_else_or_end : Stmt := top 105
theorem sc_read_else_or_end : FnScope ["reader", "lines"] ["reader", "lines"] (defScope s_read_else_or_end) := ⟨rfl, rfl, rfl, by decide +kernel, rfl, by decide +kernel, by decide +kernel⟩
abbrev s_read_line : Stmt := top 106
theorem sc_read_line : FnScope ["reader", "lines", "byte"] ["reader", "lines"] (defScope s_read_line) := ⟨rfl, rfl, rfl, by decide +kernel, rfl, by decide +kernel, by decide +kernel⟩
abbrev s_lines_of : Stmt := top 107
theorem sc_lines_of : FnScope ["text", "reader", "lines"] ["text"] (defScope s_lines_of) := ⟨rfl, rfl, rfl, by decide +kernel, rfl, by decide +kernel, by decide +kernel⟩
abbrev s_in_range : Stmt := top 113
theorem sc_in_range : FnScope ["number"] ["number"] (defScope s_in_range) := ⟨rfl, rfl, rfl, by decide +kernel, rfl, by decide +kernel, by decide +kernel⟩
abbrev s_joined : Stmt := top 114
theorem sc_joined : FnScope ["byte", "left", "right"] ["byte", "left", "right"] (defScope s_joined) := ⟨rfl, rfl, rfl, by decide +kernel, rfl, by decide +kernel, by decide +kernel⟩
abbrev s_Run___init__ : Stmt := inClass (top 115) 0
theorem sc_Run___init__ : FnScope ["self", "frame", "lines", "marks"] ["self", "frame", "lines", "marks"] (defScope s_Run___init__) := ⟨rfl, rfl, rfl, by decide +kernel, rfl, by decide +kernel, by decide +kernel⟩
abbrev s_Run_worked_out : Stmt := inClass (top 115) 1
theorem sc_Run_worked_out : FnScope ["self", "items", "waiting", "kind", "number", "right"] ["self", "items"] (defScope s_Run_worked_out) := ⟨rfl, rfl, rfl, by decide +kernel, rfl, by decide +kernel, by decide +kernel⟩
abbrev s_Run_is_so : Stmt := inClass (top 115) 2
theorem sc_Run_is_so : FnScope ["self", "tests", "left", "by", "right", "one", "other"] ["self", "tests"] (defScope s_Run_is_so) := ⟨rfl, rfl, rfl, by decide +kernel, rfl, by decide +kernel, by decide +kernel⟩
abbrev s_Run_change : Stmt := inClass (top 115) 3
theorem sc_Run_change : FnScope ["self", "word", "parts", "many"] ["self", "word", "parts"] (defScope s_Run_change) := ⟨rfl, rfl, rfl, by decide +kernel, rfl, by decide +kernel, by decide +kernel⟩
abbrev s_Run_set_head : Stmt := inClass (top 115) 4
theorem sc_Run_set_head : FnScope ["self", "parts", "number"] ["self", "parts"] (defScope s_Run_set_head) := ⟨rfl, rfl, rfl, by decide +kernel, rfl, by decide +kernel, by decide +kernel⟩
abbrev s_Run_next_line : Stmt := inClass (top 115) 5
theorem sc_Run_next_line : FnScope ["self", "word", "parts"] ["self"] (defScope s_Run_next_line) := ⟨rfl, rfl, rfl, by decide +kernel, rfl, by decide +kernel, by decide +kernel⟩
abbrev s_Run_run : Stmt := inClass (top 115) 6
theorem sc_Run_run : FnScope ["self", "most"] ["self", "most"] (defScope s_Run_run) := ⟨rfl, rfl, rfl, by decide +kernel, rfl, by decide +kernel, by decide +kernel⟩
abbrev s_are_right : Stmt := top 127
theorem sc_are_right : FnScope ["marks", "most", "mark"] ["marks", "most"] (defScope s_are_right) := ⟨rfl, rfl, rfl, by decide +kernel, rfl, by decide +kernel, by decide +kernel⟩
abbrev s_fault_of : Stmt := top 128
theorem sc_fault_of : FnScope ["going", "most", "found", "e"] ["going", "most"] (defScope s_fault_of) := ⟨rfl, rfl, rfl, by decide +kernel, rfl, by decide +kernel, by decide +kernel⟩
abbrev s_work_of : Stmt := top 129
theorem sc_work_of : FnScope ["h", "most", "make", "hand", "standing", "marks", "text", "book", "rods", "rules", "lines", "forms", "rod", "frame", "going", "fault"] ["h", "most", "make", "hand", "standing", "marks", "text", "book"] (defScope s_work_of) := ⟨rfl, rfl, rfl, by decide +kernel, rfl, by decide +kernel, by decide +kernel⟩
abbrev s_work : Stmt := top 130
theorem sc_work : FnScope ["h", "most", "make", "hand", "standing", "marks", "text", "book", "found", "e"] ["h", "most", "make", "hand", "standing", "marks", "text", "book"] (defScope s_work) := ⟨rfl, rfl, rfl, by decide +kernel, rfl, by decide +kernel, by decide +kernel⟩
structure Txt (K : PySem.W.Frag) (mg : Str → Option Value) (cFault cRunFault cTooLong cBeadFrame cReader cLines cRun : Addr) : Prop where
  n_ValueError : mg "ValueError" = none
  n_abs : mg "abs" = none
  n_all : mg "all" = none
  n_enumerate : mg "enumerate" = none
  n_int : mg "int" = none
  n_len : mg "len" = none
  n_list : mg "list" = none
  n_ord : mg "ord" = none
  n_range : mg "range" = none
  n_tuple : mg "tuple" = none
  n_zip : mg "zip" = none
  c_NO_ROD : GI mg "NO_ROD" (1)
  c_NO_ROOM : GI mg "NO_ROOM" (2)
  c_OUT_OF_RANGE : GI mg "OUT_OF_RANGE" (3)
  c_FAILED : GI mg "FAILED" (4)
  c_WRONG : GI mg "WRONG" (5)
  c_NUMBERS_A_ROD : GI mg "NUMBERS_A_ROD" (7)
  c_DECKS : GI mg "DECKS" (3)
  c_MOST_RODS : GI mg "MOST_RODS" (64)
  c_LEAST_RATIO : GI mg "LEAST_RATIO" (2)
  c_MOST_RATIO : GI mg "MOST_RATIO" (20)
  c_MOST_BEADS : GI mg "MOST_BEADS" (15)
  c_MOST_WORTH : GI mg "MOST_WORTH" (63)
  c_MOST_OF_ROD : GI mg "MOST_OF_ROD" (255)
  c_NUMBERS_A_STROKE : GI mg "NUMBERS_A_STROKE" (7)
  c_MOST_STROKES : GI mg "MOST_STROKES" (32)
  c_MOST_COST : GI mg "MOST_COST" (255)
  c_DIRECTIONS : GT K mg "DIRECTIONS" [.int 1, .int 2]
  c_MOST_DIGIT : GI mg "MOST_DIGIT" (19)
  c_MOST_STEPS_hands : GI mg "MOST_STEPS_hands" (10)
  c_CARRY : GT K mg "CARRY" [.int 0, .int 0, .int 0]
  c_MOST_STEPS_beads : GI mg "MOST_STEPS_beads" (65536)
  c_TO_BEAM : GI mg "TO_BEAM" (1)
  c_RULE : GI mg "RULE" (11)
  c_MOST_BRACKETS : GI mg "MOST_BRACKETS" (16)
  c_LINE_FEED : GI mg "LINE_FEED" (10)
  c_BLANK : GI mg "BLANK" (32)
  c_DIGITS : GT K mg "DIGITS" [.int 48, .int 49, .int 50, .int 51, .int 52, .int 53, .int 54, .int 55, .int 56, .int 57]
  c_NOUGHT : GI mg "NOUGHT" (48)
  c_MOST_DIGITS : GI mg "MOST_DIGITS" (4)
  c_HEADS : GT K mg "HEADS" [.int 97, .int 98, .int 99, .int 100, .int 101, .int 102, .int 103, .int 104]
  c_MARKS : GT K mg "MARKS" [.int 65, .int 66, .int 67, .int 68, .int 69, .int 70, .int 71, .int 72]
  c_ROUND : GI mg "ROUND" (40)
  c_SQUARE : GI mg "SQUARE" (91)
  c_OPENERS : GT K mg "OPENERS" [.int 40, .int 91]
  c_CLOSERS : GK K mg "CLOSERS" [(40, 41), (91, 93)]
  c_TIMES : GI mg "TIMES" (42)
  c_PLUS : GI mg "PLUS" (43)
  c_MINUS : GI mg "MINUS" (45)
  c_OPERATORS : GT K mg "OPERATORS" [.int 42, .int 43, .int 45]
  c_LESS : GI mg "LESS" (60)
  c_EQUAL : GI mg "EQUAL" (61)
  c_GREATER : GI mg "GREATER" (62)
  c_NUMBER : GI mg "NUMBER" (0)
  c_HEAD : GI mg "HEAD" (1)
  c_MARK : GI mg "MARK" (2)
  c_DIGIT : GI mg "DIGIT" (3)
  c_ADD : GI mg "ADD" (0)
  c_TAKE : GI mg "TAKE" (1)
  c_SET : GI mg "SET" (2)
  c_IF : GI mg "IF" (3)
  c_ELSE : GI mg "ELSE" (4)
  c_END : GI mg "END" (5)
  c_WHILE : GI mg "WHILE" (6)
  c_STOP : GI mg "STOP" (7)
  c_FAIL : GI mg "FAIL" (8)
  c_MOST_OPEN : GI mg "MOST_OPEN" (16)
  c_FAR : GI mg "FAR" (9999)
  c_MOST_HEAD : GI mg "MOST_HEAD" (99)
  c_MANY_HEADS : GI mg "MANY_HEADS" (8)
  c_OPS : GK K mg "OPS" [(0, 0), (1, 1)]
  c_MOST_BYTES : GI mg "MOST_BYTES" (4096)
  c_MANY_MARKS : GI mg "MANY_MARKS" (8)
  c_MOST_MARK : GI mg "MOST_MARK" (63)
  c_MOST_STEPS_methods : GI mg "MOST_STEPS_methods" (16777216)
  c_BAD_CALL : GI mg "BAD_CALL" (-1)
  c_NOT_IN_FORM : GI mg "NOT_IN_FORM" (-3)
  c_FAULTY : GI mg "FAULTY" (-5)
  c_TEXT_TOO_LONG : GI mg "TEXT_TOO_LONG" (-6)
  c_RUN_TOO_LONG : GI mg "RUN_TOO_LONG" (-8)
  c_RUN_FAULT : GI mg "RUN_FAULT" (-9)
  g_Fault : mg "Fault" = some (.ref cFault)
  ox_Fault : OexC K cFault
  xc_Fault : XfC K cFault
  na_Fault_rule : PySem.W.findIn K (.ref cFault) "rule" = some none
  na_Fault_place : PySem.W.findIn K (.ref cFault) "place" = some none
  d_Fault___init__ : XniAt K cFault "Fault.__init__" s_Fault___init__ ["self", "rule", "place"]
  g_RunFault : mg "RunFault" = some (.ref cRunFault)
  ox_RunFault : OexC K cRunFault
  xc_RunFault : XfC K cRunFault
  na_RunFault_kind : PySem.W.findIn K (.ref cRunFault) "kind" = some none
  d_RunFault___init__ : XniAt K cRunFault "RunFault.__init__" s_RunFault___init__ ["self", "kind"]
  g_TooLong : mg "TooLong" = some (.ref cTooLong)
  x_TooLong : PySem.W.excIn K cTooLong [.type "ValueError", .type "Exception", .type "BaseException", .type "object"] "ValueError.__new__" = true
  k_TooLong : PySem.W.keepIn K (.ref cTooLong) = true
  b_TooLong : PySem.W.subIn K (.ref cTooLong) (.type "BaseException") = some true
  t_TooLong : PySem.W.typeIn K (.ref cTooLong) = some (.type "type")
  g_BeadFrame : mg "BeadFrame" = some (.ref cBeadFrame)
  cl_BeadFrame : Cls K cBeadFrame
  na_BeadFrame_rods : NoAttr K cBeadFrame "rods"
  na_BeadFrame_forms : NoAttr K cBeadFrame "forms"
  na_BeadFrame_places : NoAttr K cBeadFrame "places"
  na_BeadFrame_moving : NoAttr K cBeadFrame "moving"
  na_BeadFrame_strokes : NoAttr K cBeadFrame "strokes"
  na_BeadFrame_rules : NoAttr K cBeadFrame "rules"
  na_BeadFrame_pushed : NoAttr K cBeadFrame "pushed"
  na_BeadFrame_hand_at : NoAttr K cBeadFrame "hand_at"
  na_BeadFrame_acts : NoAttr K cBeadFrame "acts"
  na_BeadFrame_cost : NoAttr K cBeadFrame "cost"
  d_BeadFrame___init__ : IniAt K cBeadFrame "BeadFrame.__init__" s_BeadFrame___init__ ["self", "rods", "forms", "hand", "rules", "standing", "rod"]
  d_BeadFrame_shown : MetAt K cBeadFrame "shown" "BeadFrame.shown" s_BeadFrame_shown ["self", "rod"]
  d_BeadFrame_want_rod : MetAt K cBeadFrame "want_rod" "BeadFrame.want_rod" s_BeadFrame_want_rod ["self", "rod"]
  d_BeadFrame_digit : MetAt K cBeadFrame "digit" "BeadFrame.digit" s_BeadFrame_digit ["self", "rod"]
  d_BeadFrame_change : MetAt K cBeadFrame "change" "BeadFrame.change" s_BeadFrame_change ["self", "op", "many", "rod"]
  d_BeadFrame_sum_digit : MetAt K cBeadFrame "sum_digit" "BeadFrame.sum_digit" s_BeadFrame_sum_digit ["self", "op", "digit", "rod", "steps"]
  d_BeadFrame_carried : MetAt K cBeadFrame "carried" "BeadFrame.carried" s_BeadFrame_carried ["self", "op", "rod"]
  d_BeadFrame_told_rule : MetAt K cBeadFrame "told_rule" "BeadFrame.told_rule" s_BeadFrame_told_rule ["self", "op", "digit", "rod"]
  d_BeadFrame_act : MetAt K cBeadFrame "act" "BeadFrame.act" s_BeadFrame_act ["self", "rod", "step"]
  d_BeadFrame_push : MetAt K cBeadFrame "push" "BeadFrame.push" s_BeadFrame_push ["self", "rod", "move", "many"]
  g_Reader : mg "Reader" = some (.ref cReader)
  cl_Reader : Cls K cReader
  na_Reader_text : NoAttr K cReader "text"
  na_Reader_at : NoAttr K cReader "at"
  d_Reader___init__ : IniAt K cReader "Reader.__init__" s_Reader___init__ ["self", "text"]
  d_Reader_sees : MetAt K cReader "sees" "Reader.sees" s_Reader_sees ["self", "some"]
  d_Reader_next_of : MetAt K cReader "next_of" "Reader.next_of" s_Reader_next_of ["self", "some"]
  d_Reader_word : MetAt K cReader "word" "Reader.word" s_Reader_word ["self", "word"]
  g_Lines : mg "Lines" = some (.ref cLines)
  cl_Lines : Cls K cLines
  na_Lines_words : NoAttr K cLines "words"
  na_Lines_parts : NoAttr K cLines "parts"
  na_Lines_goals : NoAttr K cLines "goals"
  na_Lines_open_ones : NoAttr K cLines "open_ones"
  d_Lines___init__ : IniAt K cLines "Lines.__init__" s_Lines___init__ ["self"]
  d_Lines_put : MetAt K cLines "put" "Lines.put" s_Lines_put ["self", "word", "parts"]
  d_Lines_may_have_else : MetAt K cLines "may_have_else" "Lines.may_have_else" s_Lines_may_have_else ["self"]
  d_Lines_opened : MetAt K cLines "opened" "Lines.opened" s_Lines_opened ["self", "word", "parts"]
  d_Lines_put_else : MetAt K cLines "put_else" "Lines.put_else" s_Lines_put_else ["self"]
  d_Lines_put_end : MetAt K cLines "put_end" "Lines.put_end" s_Lines_put_end ["self"]
  g_Run : mg "Run" = some (.ref cRun)
  cl_Run : Cls K cRun
  na_Run_frame : NoAttr K cRun "frame"
  na_Run_lines : NoAttr K cRun "lines"
  na_Run_marks : NoAttr K cRun "marks"
  na_Run_heads : NoAttr K cRun "heads"
  na_Run_at : NoAttr K cRun "at"
  na_Run_steps : NoAttr K cRun "steps"
  d_Run___init__ : IniAt K cRun "Run.__init__" s_Run___init__ ["self", "frame", "lines", "marks"]
  d_Run_worked_out : MetAt K cRun "worked_out" "Run.worked_out" s_Run_worked_out ["self", "items"]
  d_Run_is_so : MetAt K cRun "is_so" "Run.is_so" s_Run_is_so ["self", "tests"]
  d_Run_change : MetAt K cRun "change" "Run.change" s_Run_change ["self", "word", "parts"]
  d_Run_set_head : MetAt K cRun "set_head" "Run.set_head" s_Run_set_head ["self", "parts"]
  d_Run_next_line : MetAt K cRun "next_line" "Run.next_line" s_Run_next_line ["self"]
  d_Run_run : MetAt K cRun "run" "Run.run" s_Run_run ["self", "most"]
  d_rods_of : DefAt K mg "rods_of" s_rods_of ["make"]
  d_are_decks : DefAt K mg "are_decks" s_are_decks ["rod"]
  d_worth_of : DefAt K mg "worth_of" s_worth_of ["pushed", "worths"]
  d_rank_of : DefAt K mg "rank_of" s_rank_of ["pushed"]
  d_ways_of : DefAt K mg "ways_of" s_ways_of ["beads"]
  d_forms_of : DefAt K mg "forms_of" s_forms_of ["rod"]
  d_rod_rule : DefAt K mg "rod_rule" s_rod_rule ["rod"]
  d_want_make : DefAt K mg "want_make" s_want_make ["make"]
  d_want_standing : DefAt K mg "want_standing" s_want_standing ["rods", "standing"]
  d_places_of : DefAt K mg "places_of" s_places_of ["rods"]
  d_pushed_on : DefAt K mg "pushed_on" s_pushed_on ["standing", "rod"]
  d_digit_shown : DefAt K mg "digit_shown" s_digit_shown ["rods", "forms", "standing", "rod"]
  d_is_in_form : DefAt K mg "is_in_form" s_is_in_form ["rods", "forms", "standing"]
  d_strokes_of : DefAt K mg "strokes_of" s_strokes_of ["hand"]
  d_is_deck : DefAt K mg "is_deck" s_is_deck ["deck", "direction", "most"]
  d_has_second : DefAt K mg "has_second" s_has_second ["stroke"]
  d_is_stroke : DefAt K mg "is_stroke" s_is_stroke ["stroke"]
  d_want_hand : DefAt K mg "want_hand" s_want_hand ["hand"]
  d_steps_of : DefAt K mg "steps_of" s_steps_of ["row"]
  d_is_step : DefAt K mg "is_step" s_is_step ["step"]
  d_is_rule : DefAt K mg "is_rule" s_is_rule ["row"]
  d_rules_of : DefAt K mg "rules_of" s_rules_of ["book"]
  d_bytes_of : DefAt K mg "bytes_of" s_bytes_of ["word"]
  d_number_from : DefAt K mg "number_from" s_number_from ["reader", "byte"]
  d_operand : DefAt K mg "operand" s_operand ["reader", "byte"]
  d_open_brackets : DefAt K mg "open_brackets" s_open_brackets ["waiting"]
  d_read_operand : DefAt K mg "read_operand" s_read_operand ["reader", "found", "waiting"]
  d_close : DefAt K mg "close" s_close ["found", "waiting"]
  d_binds : DefAt K mg "binds" s_binds ["byte"]
  d_read_operator : DefAt K mg "read_operator" s_read_operator ["reader", "found", "waiting"]
  d_read_closers : DefAt K mg "read_closers" s_read_closers ["reader", "found", "waiting"]
  d_expression : DefAt K mg "expression" s_expression ["reader", "ends"]
  d_compared : DefAt K mg "compared" s_compared ["reader"]
  d_condition : DefAt K mg "condition" s_condition ["reader"]
  d_first_bytes : DefAt K mg "first_bytes" s_first_bytes ["lines"]
  d_read_change : DefAt K mg "read_change" s_read_change ["reader", "lines", "word", "rest"]
  d_read_set_or_stop : DefAt K mg "read_set_or_stop" s_read_set_or_stop ["reader", "lines"]
  d_read_else_or_end : DefAt K mg "read_else_or_end" s_read_else_or_end ["reader", "lines"]
  d_read_line : DefAt K mg "read_line" s_read_line ["reader", "lines"]
  d_lines_of : DefAt K mg "lines_of" s_lines_of ["text"]
  d_in_range : DefAt K mg "in_range" s_in_range ["number"]
  d_joined : DefAt K mg "joined" s_joined ["byte", "left", "right"]
  d_are_right : DefAt K mg "are_right" s_are_right ["marks", "most"]
  d_fault_of : DefAt K mg "fault_of" s_fault_of ["going", "most"]
  d_work_of : DefAt K mg "work_of" s_work_of ["h", "most", "make", "hand", "standing", "marks", "text", "book"]
  d_work : DefAt K mg "work" s_work ["h", "most", "make", "hand", "standing", "marks", "text", "book"]
  veInit : PySem.W.findCls K (.type "ValueError") (.type "type") "__init__" = some (.val (.builtin "ValueError.__init__"))
  xm_Fault_Fault : PySem.W.exmOne K (.ref cFault) (.ref cFault) = some true
  xm_Fault_RunFault : PySem.W.exmOne K (.ref cFault) (.ref cRunFault) = some false
  xm_Fault_TooLong : PySem.W.exmOne K (.ref cFault) (.ref cTooLong) = some false
  xm_RunFault_Fault : PySem.W.exmOne K (.ref cRunFault) (.ref cFault) = some false
  xm_RunFault_RunFault : PySem.W.exmOne K (.ref cRunFault) (.ref cRunFault) = some true
  xm_RunFault_TooLong : PySem.W.exmOne K (.ref cRunFault) (.ref cTooLong) = some false
  xm_TooLong_Fault : PySem.W.exmOne K (.ref cTooLong) (.ref cFault) = some false
  xm_TooLong_RunFault : PySem.W.exmOne K (.ref cTooLong) (.ref cRunFault) = some false
  xm_TooLong_TooLong : PySem.W.exmOne K (.ref cTooLong) (.ref cTooLong) = some true
/-! ### objects by their fields -/
theorem lk_eq {k : Str} {v : V} {l : List (Str × V)} : ((k, v) :: l).lookup k = some v := by
  rw [List.lookup_cons, beq_self_eq_true]
theorem lk_ne {k k' : Str} {v : V} {l : List (Str × V)} (h : k ≠ k') : ((k', v) :: l).lookup k = l.lookup k := by
  rw [List.lookup_cons, beq_eq_false_iff_ne.mpr h]
theorem pf_eq {k : Str} {v x : V} {r : List (Str × V)} : putF k v ((k, x) :: r) = (k, v) :: r := by
  show (if k = k then _ else _) = _
  rw [if_pos rfl]
theorem pf_ne {k k' : Str} {v x : V} {r : List (Str × V)} (h : k' ≠ k) : putF k v ((k', x) :: r) = (k', x) :: putF k v r := by
  show (if k' = k then _ else _) = _
  rw [if_neg h]
/-- a fault's own fields -/
def fxd (r p : Int) : List (Str × V) := [("place", .int p), ("rule", .int r)]
theorem fxd_rule (r p : Int) : (fxd r p).lookup ("rule" : Str) = some (.int r) := by
  unfold fxd
  rw [lk_ne (by decide +kernel), lk_eq]
theorem fxd_place (r p : Int) : (fxd r p).lookup ("place" : Str) = some (.int p) := by
  unfold fxd
  rw [lk_eq]
def spFault (C : Addr) : Sp := fun vs H Q _ => ∃ a r p, vs = [.ref a, .int r, .int p] ∧ H a = some (exo a C none) ∧
  ∀ H' d, H' a = some (exo a C (some d)) → H' d = some (exd d (fxd r p)) → H d = none → (∀ b o, b ≠ a → H b = some o → H' b = some o) → Q .non H'
theorem fault_in {C : Addr} {r p : Int} {H1 : Hp} {Q : XK} (h : ∀ d H', Same H1 H' → H' d = some (.xd (fxd r p)) → Q (.ref C) (some d) H') :
    ([V.int r, V.int p] : List V).length ≤ 1000 ∧ ∀ a, H1 a = none → spFault C (.ref a :: ([V.int r, V.int p] ++ [])) (upd H1 a (exo a C none))
      (fun v H2 => v = .non ∧ ∃ (d : Addr) (fs : List (Str × V)), H2 a = some (exo a C (some d)) ∧ H2 d = some (exd d fs) ∧ H1 d = none ∧ Q (.ref C) (some d) (upd (del H2 a) d (.xd fs))) (fun _ _ _ => False) := by
  refine ⟨(by decide : 2 ≤ 1000), fun a ha => ⟨a, r, p, rfl, upd_same, fun H' d h1 h2 h3 h4 => ?_⟩⟩
  have hda : d ≠ a := fun z => by rw [z, upd_same] at h3; cases h3
  rw [upd_ne hda] at h3
  refine ⟨rfl, d, _, h1, h2, h3, h d _ (fun b o e => ?_) upd_same⟩
  have hba : b ≠ a := ne_of_none e ha
  rw [upd_ne (ne_of_none e h3), del_ne hba]
  exact h4 b o hba (by rw [upd_ne hba]; exact e)
/-- what a fault wishes -/
def FE (C : Addr) (E : XK) (H : Hp) (S : List Addr) (r p : Int) : Prop := ∀ d H', Chg S H H' → H' d = some (.xd (fxd r p)) → E (.ref C) (some d) H'
theorem FE.of {C : Addr} {E : XK} {H H1 : Hp} {S : List Addr} {r p : Int} (h : FE C E H S r p) (c : Chg S H H1) : ∀ d H', Same H1 H' → H' d = some (.xd (fxd r p)) → E (.ref C) (some d) H' := fun d H' s e => h d H' (c.trans (chgS s)) e
theorem FE.sub {C : Addr} {E : XK} {H H1 : Hp} {S S' : List Addr} {r p : Int} (h : FE C E H S r p) (c : Chg S H H1) (hs : ∀ x ∈ S', x ∈ S) : FE C E H1 S' r p := fun d H' s e => h d H' (c.trans (s.mono hs)) e
/-! ### Reader -/
def fR (t : Addr) (p : Int) : List (Str × V) := [("text", .ref t), ("at", .int p)]
theorem fR_text (t p) : (fR t p).lookup ("text" : Str) = some (.ref t) := lk_eq
theorem fR_at (t p) : (fR t p).lookup ("at" : Str) = some (.int p) := by
  unfold fR
  rw [lk_ne (by decide +kernel), lk_eq]
theorem fR_no (t p) {m : Str} (h1 : m ≠ "text") (h2 : m ≠ "at") : (fR t p).lookup m = none := by
  unfold fR
  rw [lk_ne h1, lk_ne h2]; rfl
theorem fR_put (t : Addr) (p q : Int) : putF "at" (.int q) (fR t p) = fR t q := by
  unfold fR
  rw [pf_ne (by decide +kernel), pf_eq]
structure Rdr where
  r : Addr
  dx : Addr
  t : Addr
  l : List Int
/-- the reader stands at p; b is what is left -/
structure RdAt (K : PySem.W.Frag) (C : Addr) (X : Rdr) (H : Hp) (b : List Int) (p : Nat) : Prop where
  obj : H X.r = some (.ins C X.dx (fR X.t (p : Int)))
  txt : Fz K H X.t (vis X.l)
  rest : X.l.drop p = b
  len : p + b.length = X.l.length
  small : X.l.length ≤ 5000
theorem RdAt.chg {K : PySem.W.Frag} {C : Addr} {X : Rdr} {H H' : Hp} {b : List Int} {p : Nat} {S : List Addr} (h : RdAt K C X H b p) (c : Chg S H H') (n : X.r ∉ S) : RdAt K C X H' b p :=
  ⟨c.1 _ _ n h.obj, h.txt.chg c, h.rest, h.len, h.small⟩
theorem RdAt.at_nil {K : PySem.W.Frag} {C : Addr} {X : Rdr} {H : Hp} {p : Nat} (h : RdAt K C X H [] p) : p = X.l.length := by
  have := h.len
  simpa using this
theorem RdAt.at_cons {K : PySem.W.Frag} {C : Addr} {X : Rdr} {H : Hp} {c : Int} {b : List Int} {p : Nat} (h : RdAt K C X H (c :: b) p) : X.l[p]? = some c ∧ X.l.drop (p + 1) = b ∧ p < X.l.length ∧ p + 1 + b.length = X.l.length := by
  have h1 := h.rest
  have h2 := h.len
  rw [List.length_cons] at h2
  have e : X.l[p]? = some c := by
    have := congrArg (fun l => l[0]?) h1
    simpa [List.getElem?_drop] using this
  refine ⟨e, ?_, by omega, by omega⟩
  rw [← List.drop_drop, h1]
  rfl
/-- one byte on -/
theorem RdAt.next {K : PySem.W.Frag} {C : Addr} {X : Rdr} {H : Hp} {c : Int} {b : List Int} {p : Nat} (h : RdAt K C X H (c :: b) p) : RdAt K C X (upd H X.r (.ins C X.dx (fR X.t ((p + 1 : Nat) : Int)))) b (p + 1) := by
  obtain ⟨_, h2, _, h4⟩ := h.at_cons
  have c : Chg [X.r] H (upd H X.r (.ins C X.dx (fR X.t ((p + 1 : Nat) : Int)))) := (Chg.refl H).set (by simp) h.obj (by intro z; exact z)
  exact ⟨upd_same, h.txt.chg c, h2, h4, h.small⟩
section
variable {P : Program} {w : World} {K : PySem.W.Frag} {mg : Str → Option Value} {base : Heap} {cFault cRunFault cTooLong cBeadFrame cReader cLines cRun : Addr}
theorem ok_Fault___init__ (T : Txt K mg cFault cRunFault cTooLong cBeadFrame cReader cLines cRun) : Xf P w K mg base 1 "Fault" cFault ["self", "rule", "place"] (spFault cFault) := by
  refine xf_mk T.g_Fault T.ox_Fault T.d_Fault___init__ fun f fd F => F.ok sc_Fault___init__ (fun vs H Q E h => ?_) (fun cdv A outer s H vs Q E hr h => ?_)
  · obtain ⟨a, r, p, rfl, _⟩ := h
    rfl
  · obtain ⟨a, r, p, rfl, ha, k⟩ := h
    refine ⟨_, (pss_cons (ps_expr (pe_veinit rfl T.n_ValueError T.veInit (pa_cons (pv 0) (pa_cons pe_str pa_nil)))) (pss_cons (ps_ost (pv 0) (pv 1)) (pss_one (ps_ost (pv 0) (pv 2))))), ?_⟩
    refine ⟨_, rfl, a, cFault, _, rfl, (by decide : 1 ≤ 1000), T.ox_Fault, ha, ?_⟩
    refine ⟨_, rfl, _, rfl, a, cFault, rfl, T.ox_Fault, T.na_Fault_rule, .inl ⟨ha, fun dx nx ne => ?_⟩⟩
    refine ⟨_, rfl, _, rfl, a, cFault, rfl, T.ox_Fault, T.na_Fault_place, .inr ⟨dx, _, upd_same, by rw [upd_ne ne, upd_same], (by show 1 ≤ 900; decide), ?_⟩⟩
    refine k _ dx ?_ upd_same nx fun b o hb e => ?_
    · rw [upd_ne (Ne.symm ne), upd_same]
    · rw [upd_ne (ne_of_none e nx), upd_ne hb, upd_ne (ne_of_none e nx)]
      exact e
def spReader (C : Addr) : Sp := fun vs H Q _ => ∃ x t dx, vs = [.ref x, .ref t] ∧ H x = some (.ins C dx []) ∧ ∀ H', (∀ b o, b ≠ x → H b = some o → H' b = some o) → H' x = some (.ins C dx (fR t 0)) → Q .non H'
theorem ok_Reader___init__ (T : Txt K mg cFault cRunFault cTooLong cBeadFrame cReader cLines cRun) : Kf P w K mg base CX0 1 "Reader" cReader ["self", "text"] (spReader cReader) := by
  refine kf_mk T.g_Reader T.d_Reader___init__ fun f fd F => F.ok sc_Reader___init__ (fun vs H Q E h => ?_) (fun cdv A outer s H vs Q E hr h => ?_)
  · obtain ⟨x, t, dx, rfl, _⟩ := h
    rfl
  · obtain ⟨x, t, dx, rfl, hx, k⟩ := h
    refine ⟨_, (pss_cons (ps_put (pv 0) (pv 1)) (pss_one (ps_put (pv 0) pe_int))), ?_⟩
    refine ⟨_, rfl, _, rfl, x, cReader, dx, [], rfl, ⟨hx, T.cl_Reader, T.na_Reader_text, (by decide : 0 < 1000)⟩, ?_⟩
    refine ⟨_, rfl, x, cReader, dx, _, rfl, ⟨upd_same, T.cl_Reader, T.na_Reader_at, (by decide : 1 < 1000)⟩, ?_⟩
    refine k _ (fun b o hb e => ?_) ?_
    · rw [upd_ne hb, upd_ne hb]; exact e
    · rw [upd_same]
      have e : putF "at" (.int 0) (putF "text" (.ref t) []) = fR t 0 := by
        show putF "at" (.int 0) [("text", .ref t)] = fR t 0
        rw [pf_ne (by decide +kernel)]; rfl
      rw [e]
def spSees (K : PySem.W.Frag) (C : Addr) : Sp := fun vs H Q _ => ∃ (X : Rdr) (a : Addr) (b : List Int) (p : Nat) (l : List Int), vs = [.ref X.r, .ref a] ∧ RdAt K C X H b p ∧ (SqL K H a (vis l) ∨ SqT K H a (vis l)) ∧ Q (.bl (sees b l)) H
theorem RdAt.fat {X : Rdr} {H : Hp} {b : List Int} {p : Nat} (T : Txt K mg cFault cRunFault cTooLong cBeadFrame cReader cLines cRun) (h : RdAt K cReader X H b p) : Fld K H X.r "at" (.int (p : Int)) := ⟨_, _, _, h.obj, T.cl_Reader, T.na_Reader_at, fR_at _ _⟩
theorem RdAt.ftext {X : Rdr} {H : Hp} {b : List Int} {p : Nat} (T : Txt K mg cFault cRunFault cTooLong cBeadFrame cReader cLines cRun) (h : RdAt K cReader X H b p) : Fld K H X.r "text" (.ref X.t) := ⟨_, _, _, h.obj, T.cl_Reader, T.na_Reader_text, fR_text _ _⟩
theorem ok_Reader_sees (T : Txt K mg cFault cRunFault cTooLong cBeadFrame cReader cLines cRun) : Mf P w K mg base CX0 1 cReader "sees" ["self", "some"] (spSees K cReader) := by
  refine mf_mk T.cl_Reader T.d_Reader_sees fun f fd F => F.ok sc_Reader_sees (fun vs H Q E h => ?_) (fun cdv A outer s H vs Q E hr h => ?_)
  · obtain ⟨X, a, b, p, l, rfl, _⟩ := h
    rfl
  · obtain ⟨X, a, b, p, l, rfl, R, hl, k⟩ := h
    refine ⟨_, (pss_one (ps_ret (pe_and (pe_cmpR op_lt (pe_get (pv 0)) (pe_callB call_len_seq (by rfl) T.n_len PySem.boot_len (pa_cons (pe_get (pv 0)) pa_nil)) (nomark _)) (pe_one (pe_cmpR op_in_seq (pe_ix ix_list (pe_get (pv 0)) (pe_get (pv 0)) (fun _ _ => rfl)) (pv 1) rfl))))), ?_⟩
    refine ⟨_, rfl, _, _, rfl, R.fat T, _, rfl, _, _, rfl, R.ftext T, X.t, _, rfl, .inl R.txt.sq, _, _, rfl, rfl, _, rfl, ?_⟩
    have hlen : (vis X.l).length = X.l.length := List.length_map ..
    cases b with
    | nil =>
      have e := R.at_nil
      refine ite2 (fun c => ?_) (fun _ => k)
      exact absurd (of_decide_eq_true c) (by omega)
    | cons c b =>
      obtain ⟨e1, _, e3, _⟩ := R.at_cons
      refine ite2 (fun _ => ?_) (fun n => absurd (decide_eq_true (by omega)) n)
      have hv : (vis X.l)[p]? = some (.int c) := by rw [List.getElem?_map, e1]; rfl
      refine ⟨_, rfl, _, _, rfl, R.ftext T, _, rfl, _, _, rfl, R.fat T, X.t, _, _, _, rfl, rfl, R.txt.sq, atI_nat hv, _, rfl, a, vis l, rfl, hl, rfl, flat_ints l, ?_⟩
      show Q (.bl (inV (.int c) (vis l))) H
      rw [inV_ints]
      exact k
def spNext (K : PySem.W.Frag) (C F : Addr) : Sp := fun vs H Q E => ∃ (X : Rdr) (a : Addr) (b : List Int) (p : Nat) (l : List Int), vs = [.ref X.r, .ref a] ∧ RdAt K C X H b p ∧ (SqL K H a (vis l) ∨ SqT K H a (vis l)) ∧
  (∀ k, nx b p l = .bad k → FE F E H [X.r] 11 k) ∧ ∀ c b1 p1, nx b p l = .ok (c, b1, p1) → ∀ H', Chg [X.r] H H' → RdAt K C X H' b1 p1 → Q (.int c) H'
theorem ok_Reader_next_of (T : Txt K mg cFault cRunFault cTooLong cBeadFrame cReader cLines cRun) : Mf P w K mg base (L2.CX P w) 3 cReader "next_of" ["self", "some"] (spNext K cReader cFault) := by
  refine mf_mk T.cl_Reader T.d_Reader_next_of fun f fd F => F.okX sc_Reader_next_of (fun vs H Q E h => ?_) (fun cdv A outer s H vs Q E hr h => ?_)
  · obtain ⟨X, a, b, p, l, rfl, _⟩ := h
    rfl
  · obtain ⟨X, a, b, p, l, rfl, R, hl, kE, k⟩ := h
    refine ⟨_, (pss_cons (ps_if (pt_not (pt_val (pe_mf (ok_Reader_sees T) (hr.mono (by decide)) pass0 (pv 0) (by exact (pa_cons (pv 1) pa_nil))))) (pss_one (ps_raise rfl (takes_of rfl rfl rfl rfl) (pmk_xf (ok_Fault___init__ T) (hr.mono (by decide)) (by exact (pa_cons (pe_gi T.c_RULE) (pa_cons (pe_get (pv 0)) pa_nil)))))) pss_nil) (pss_cons (ps_augF (pv 0) pe_int) (pss_one (ps_ret (pe_ix ix_list (pe_get (pv 0)) (pe_op op_sub (pe_get (pv 0)) pe_int) (fun _ _ => rfl)))))), ?_⟩
    refine ⟨_, rfl, _, rfl, ⟨_, _, R.obj, fR_no _ _ (by decide +kernel) (by decide +kernel)⟩, _, rfl, X, a, b, p, l, rfl, R, hl, _, rfl, ?_⟩
    have hlen : (vis X.l).length = X.l.length := List.length_map ..
    cases b with
    | nil =>
      refine ite2 (fun _ => ?_) (fun n => absurd rfl n)
      refine ⟨_, rfl, _, _, rfl, R.fat T, fault_in ((kE p rfl).of (Chg.refl H))⟩
    | cons c b =>
      obtain ⟨e1, _, e3, _⟩ := R.at_cons
      have hs : sees (c :: b) l = l.contains c := rfl
      cases hc : l.contains c with
      | false =>
        refine ite2 (fun _ => ?_) (fun n => absurd (by rw [hs, hc]; rfl) n)
        refine ⟨_, rfl, _, _, rfl, R.fat T, fault_in ((kE p ?_).of (Chg.refl H))⟩
        show (if l.contains c = true then _ else _) = _
        rw [hc]; rfl
      | true =>
        refine ite2 (fun n => absurd n (by rw [hs, hc]; decide)) (fun _ => ?_)
        refine ⟨_, rfl, _, _, rfl, R.fat T, _, _, _, _, rfl, ⟨R.obj, T.cl_Reader, T.na_Reader_at, (by decide : 2 < 1000)⟩, ?_⟩
        have ep : putF "at" (.int ((p : Int) + 1)) (fR X.t (p : Int)) = fR X.t ((p + 1 : Nat) : Int) := by rw [fR_put]; rfl
        rw [ep]
        have R1 := R.next
        have hv : (vis X.l)[p]? = some (.int c) := by rw [List.getElem?_map, e1]; rfl
        refine ⟨_, rfl, _, _, rfl, R1.ftext T, _, rfl, _, _, rfl, R1.fat T, _, _, rfl, rfl, X.t, _, _, _, rfl, rfl, R1.txt.sq, at_of (j := p) (by omega) hv, ?_⟩
        refine k c b (p + 1) ?_ _ ((Chg.refl H).set (by simp) R.obj (by intro z; exact z)) R1
        show (if l.contains c = true then _ else _) = _
        rw [hc]; rfl
end
end Ab
/-! ## The walk: E -/
namespace Ab
open PySem PySem.Spec PyProof.Rows L2
theorem sq_chg {K : PySem.W.Frag} {S : List Addr} {H H' : Hp} {a : Addr} {xs : List V} (h : SqL K H a xs) (c : Chg S H H') (n : a ∉ S) : SqL K H' a xs := by
  rcases h with (h | ⟨o, h⟩) | h
  · exact .inl (.inl (c.1 _ _ n h))
  · exact .inl (.inr ⟨o, c.2 _ _ trivial h⟩)
  · exact .inr h
/-- a list that the reader's moves leave -/
theorem RdAt.sq {K : PySem.W.Frag} {C : Addr} {X : Rdr} {H H' : Hp} {b : List Int} {p : Nat} {a : Addr} {xs : List V} (R : RdAt K C X H b p) (h : SqL K H a xs) (c : Chg [X.r] H H') : SqL K H' a xs := by
  have key : ∀ {o : HO}, H a = some o → (∀ C dx fs, o ≠ .ins C dx fs) → a ∉ [X.r] := fun {o} e n m => by
    have : a = X.r := by simpa using m
    rw [this, R.obj] at e
    cases e
    exact n _ _ _ rfl
  rcases h with (h | ⟨o, h⟩) | h
  · exact .inl (.inl (c.1 _ _ (key h (by intro _ _ _ z; cases z)) h))
  · exact .inl (.inr ⟨o, c.2 _ _ trivial h⟩)
  · exact .inr h
theorem RdAt.ne {K : PySem.W.Frag} {C : Addr} {X : Rdr} {H : Hp} {b : List Int} {p : Nat} {a : Addr} {xs : List V} (R : RdAt K C X H b p) (h : H a = some (.lst xs)) : a ≠ X.r := ne_of h R.obj (by intro z; cases z)
/-- the items of an expression, as tuples -/
def Its (K : PySem.W.Frag) (H : Hp) (vs : List V) (its : Items) : Prop := Paired (fun (v : V) (it : Int × Int) => ∃ q, v = .ref q ∧ SqT K H q [.int it.1, .int it.2]) vs its
theorem Its.chg {K : PySem.W.Frag} {S : List Addr} {H H' : Hp} {vs : List V} {its : Items} (h : Its K H vs its) (c : Chg S H H') : Its K H' vs its :=
  Paired.mapP h fun v it ⟨q, e, t⟩ => ⟨q, e, c.tup t⟩
theorem its_nil {K : PySem.W.Frag} {H : Hp} : Its K H [] [] := Paired.nil
theorem Its.len {K : PySem.W.Frag} {H : Hp} {vs : List V} {its : Items} (h : Its K H vs its) : vs.length = its.length := Paired.length h
theorem Its.app {K : PySem.W.Frag} {H : Hp} {vs ws : List V} {its jts : Items} (h : Its K H vs its) (h2 : Its K H ws jts) : Its K H (vs ++ ws) (its ++ jts) := by
  unfold Its at h ⊢
  induction h with
  | nil => exact h2
  | cons a b ih => exact .cons a ih
theorem Its.snoc {K : PySem.W.Frag} {H : Hp} {vs : List V} {its : Items} {q : Addr} {k n : Int} (h : Its K H vs its) (t : SqT K H q [.int k, .int n]) : Its K H (vs ++ [.ref q]) (its ++ [(k, n)]) :=
  h.app (.cons ⟨q, rfl, t⟩ .nil)
def codes (z : Str) : List Int := z.cps.toList.map fun c => ((c : Nat) : Int)
theorem codes_len (z : Str) : (codes z).length = z.cps.size := by unfold codes; simp
theorem codes_take {z : Str} {i c : Nat} (h : z.cps[i]? = some c) : vis ((codes z).take (i + 1)) = vis ((codes z).take i) ++ [.int (c : Int)] := by
  have e : (codes z)[i]? = some (c : Int) := by
    unfold codes
    rw [List.getElem?_map]
    have : z.cps.toList[i]? = some c := by simpa using h
    rw [this]; rfl
  rw [List.take_add_one, e]
  show List.map V.int _ = _
  rw [List.map_append]
  rfl
theorem drop_cons {A : Type} {l : List A} {i : Nat} {x : A} (h : l[i]? = some x) : l.drop i = x :: l.drop (i + 1) := by
  obtain ⟨h1, h2⟩ := List.getElem?_eq_some_iff.mp h
  rw [List.drop_eq_getElem_cons h1, h2]
theorem vis_at {l : List Int} {i : Nat} {v : V} (h : (vis l)[i]? = some v) : ∃ c, l[i]? = some c ∧ v = .int c := by
  rw [List.getElem?_map] at h
  cases e : l[i]? with
  | none => rw [e] at h; cases h
  | some c => rw [e] at h; exact ⟨c, rfl, (Option.some.inj h).symm⟩
theorem vis_snoc (l : List Int) (c : Int) : vis (l ++ [c]) = vis l ++ [.int c] := by simp
theorem vis_len (l : List Int) : (vis l).length = l.length := List.length_map ..
/-- a stack's list: the last put is the last -/
abbrev stk (w : List Int) : List V := vis w.reverse
theorem stk_cons (c : Int) (w : List Int) : stk (c :: w) = stk w ++ [.int c] := by simp
theorem stk_len (w : List Int) : (stk w).length = w.length := by simp
theorem stk_last (c : Int) (w : List Int) : (stk (c :: w))[(stk (c :: w)).length - 1]? = some (.int c) := by
  rw [stk_cons]; simp
theorem stk_drop (c : Int) (w : List Int) : (stk (c :: w)).dropLast = stk w := by
  rw [stk_cons]; simp
theorem opens_rev (w : List Int) : (w.reverse.filter fun c => openersL.contains c) = (opens w).reverse := by
  unfold opens
  rw [List.filter_reverse]
section
variable {P : Program} {w : World} {K : PySem.W.Frag} {mg : Str → Option Value} {base : Heap} {cFault cRunFault cTooLong cBeadFrame cReader cLines cRun : Addr}
theorem RdAt.ins {C : Addr} {X : Rdr} {H : Hp} {b : List Int} {p : Nat} {m : Str} (h : RdAt K C X H b p) (h1 : m ≠ "text" := by decide +kernel) (h2 : m ≠ "at" := by decide +kernel) : Ins H X.r C m := ⟨_, _, h.obj, fR_no _ _ h1 h2⟩
/-! ### word -/
def spWord (K : PySem.W.Frag) (C F : Addr) : Sp := fun vs H Q E => ∃ (X : Rdr) (a : Addr) (b : List Int) (p : Nat) (l : List Int), vs = [.ref X.r, .ref a] ∧ RdAt K C X H b p ∧ SqL K H a (vis l) ∧
  (∀ k, word l b p = .bad k → FE F E H [X.r] 11 k) ∧ ∀ b1 p1, word l b p = .ok (b1, p1) → ∀ H', Chg [X.r] H H' → RdAt K C X H' b1 p1 → Q .non H'
theorem ok_Reader_word (T : Txt K mg cFault cRunFault cTooLong cBeadFrame cReader cLines cRun) : Mf P w K mg base (L2.CX P w) 4 cReader "word" ["self", "word"] (spWord K cReader cFault) := by
  refine mf_mk T.cl_Reader T.d_Reader_word fun f fd F => F.okX sc_Reader_word (fun vs H Q E h => ?_) (fun cdv A outer s H vs Q E hr h => ?_)
  · obtain ⟨X, a, b, p, l, rfl, _⟩ := h
    rfl
  · obtain ⟨X, a, b, p, l, rfl, R, hl, kE, k⟩ := h
    refine ⟨_, (pss_one (ps_for (passes_of rfl) rfl (pi_list (pv 1)) (pg_name (i := 2) sc_Reader_word.nd rfl (Or.inl rfl)) (pss_one (ps_expr (pe_mf (ok_Reader_next_of T) (hr.mono (by decide)) (passE (takes_of rfl rfl rfl rfl)) (pv 0) (by exact (pa_cons (pe_lst (pa_cons (pv 2) pa_nil)) pa_nil))))))), ?_⟩
    refine ⟨_, rfl, a, rfl, ⟨_, hl⟩, for_list (K := K) (a := a) (xs := vis l) (fun i σ H' => ∃ v b' p', σ = [some (.ref X.r), some (.ref a), v] ∧ Chg [X.r] H H' ∧ RdAt K cReader X H' b' p' ∧ word (l.drop i) b' p' = word l b p)
      ⟨none, b, p, rfl, Chg.refl H, R, rfl⟩ (fun i σ H' _ ⟨_, _, _, _, c, _, _⟩ => R.sq hl c) ?_ ?_⟩
    · rintro i y σ H' hi ⟨v, b', p', rfl, c, R', hw⟩
      obtain ⟨z, hz, rfl⟩ := vis_at hi
      rw [drop_cons hz, word] at hw
      refine ⟨_, rfl, X.r, rfl, R'.ins, _, rfl, sz (show 1 ≤ 100000 by decide), fun q hq => ?_⟩
      have c1 : Chg [] H' (upd H' q (.lst [.int z])) := (Chg.refl H').new hq
      have c2 : Chg [X.r] H (upd H' q (.lst [.int z])) := c.trans (c1.mono (by simp))
      refine ⟨X, q, b', p', [z], rfl, R'.chg c1 (by simp), .inl (SqL.of upd_same), fun kk e => ?_, fun z1 b1 p1 e H2 c3 R2 => ?_⟩
      · rw [e] at hw
        exact (kE kk hw.symm).sub c2 (by simp)
      · rw [e] at hw
        exact ⟨_, b1, p1, rfl, c2.trans c3, R2, hw⟩
    · rintro σ H' ⟨v, b', p', rfl, c, R', hw⟩
      rw [show (vis l).length = l.length from vis_len l, List.drop_length, word] at hw
      exact k b' p' hw.symm H' c R'
/-! ### bytes_of -/
def spBytes : Sp := fun vs H Q _ => ∃ z : Str, vs = [.str z] ∧ z.cps.size ≤ 5000 ∧ ∀ H' p, Same H H' → H p = none → H' p = some (.lst (vis (codes z))) → Q (.ref p) H'
theorem ok_bytes_of (T : Txt K mg cFault cRunFault cTooLong cBeadFrame cReader cLines cRun) : Df P w K mg base CX0 1 "bytes_of" ["word"] spBytes := by
  refine df_mk T.d_bytes_of fun f fd F => F.ok sc_bytes_of (fun vs H Q E h => ?_) (fun cdv A outer s H vs Q E hr h => ?_)
  · obtain ⟨z, rfl, _⟩ := h
    rfl
  · obtain ⟨z, rfl, hz, k⟩ := h
    refine ⟨_, (pss_one (ps_ret (pe_lc (own := [("sign", 1)]) (g := gName 1) (tt := tYes) rfl sc_bytes_of.nd (pi_str (pv 0)) (blkOk_by (N := ["word", "sign"]) (sc := defScope s_bytes_of) (by decide +kernel)) (fun _ _ _ _ _ => pg_name (i := 1) sc_bytes_of.nd rfl (Or.inl rfl)) (fun _ _ _ _ _ => pts_nil) (fun _ _ _ _ _ => (pe_callB call_ord (by rfl) T.n_ord (by decide +kernel) (pa_cons (pv 1) pa_nil)))))), ?_⟩
    refine ⟨_, rfl, z, rfl, fun D hD => ?_⟩
    refine lc_it (walk_str (z := z)) (fun i H' => Same H H' ∧ H' D = some (.lst (vis ((codes z).take i)))) ⟨fun b o e => by rw [upd_ne (ne_of_none e hD)]; exact e, upd_same⟩ (fun _ _ _ _ => trivial) ?_ ?_
    · rintro i x H1 H2 hi ⟨s1, h1⟩ ⟨rfl, c, hc, rfl⟩
      refine ⟨rfl, ?_⟩
      refine ⟨_, rfl, ⟨#[c]⟩, rfl, rfl, _, h1, ?_, fun b o e => ?_, ?_⟩
      · rw [vis_len, List.length_take, codes_len]
        exact Nat.lt_of_le_of_lt (Nat.min_le_left _ _) (Nat.lt_of_lt_of_le hi (Nat.le_trans hz (by decide)))
      · rw [upd_ne (ne_of_none e hD)]
        exact s1 b o e
      · rw [upd_same, codes_take hc]
        rfl
    · rintro H1 ⟨s1, h1⟩
      refine k H1 D s1 hD ?_
      rw [h1, ← codes_len, List.take_length]
/-! ### number_from -/
def spNum (K : PySem.W.Frag) (C : Addr) : Sp := fun vs H Q E => ∃ (X : Rdr) (c : Int) (b : List Int) (p : Nat), vs = [.ref X.r, .int c] ∧ RdAt K C X H b p ∧
  ∀ H', Chg [X.r] H H' → RdAt K C X H' (num 3 (c - 48) b p).2.1 (num 3 (c - 48) b p).2.2 → Q (.int (num 3 (c - 48) b p).1) H'
theorem sees_nx {b : List Int} {p : Nat} {l : List Int} (h : sees b l = true) : ∃ c b1, b = c :: b1 ∧ nx b p l = .ok (c, b1, p + 1) ∧ l.contains c = true := by
  cases b with
  | nil => cases h
  | cons c b =>
    have h : l.contains c = true := h
    exact ⟨c, b, rfl, if_pos h, h⟩
theorem num_stop {f : Nat} {n : Int} {b : List Int} {p : Nat} (h : sees b digitsL = false) : num f n b p = (n, b, p) := by
  cases f with
  | zero => rfl
  | succ f =>
    unfold num
    split
    · cases b with
      | nil => rfl
      | cons c b =>
        have h : digitsL.contains c = false := h
        dsimp only
        rw [h]; rfl
    · rfl
theorem num_low {f : Nat} {n : Int} {b : List Int} {p : Nat} (h : ¬ 0 < n) : num f n b p = (n, b, p) := by
  cases f with
  | zero => rfl
  | succ f => unfold num; rw [if_neg h]
theorem num_go {f : Nat} {n c : Int} {b : List Int} {p : Nat} (h : 0 < n) (hc : digitsL.contains c = true) : num (f + 1) n (c :: b) p = num f (n * 10 + c - 48) b (p + 1) := by
  rw [num, if_pos h, if_pos hc]
theorem ok_number_from (T : Txt K mg cFault cRunFault cTooLong cBeadFrame cReader cLines cRun) : Df P w K mg base (L2.CX P w) 4 "number_from" ["reader", "byte"] (spNum K cReader) := by
  refine df_mk T.d_number_from fun f fd F => F.okX sc_number_from (fun vs H Q E h => ?_) (fun cdv A outer s H vs Q E hr h => ?_)
  · obtain ⟨X, c, b, p, rfl, _⟩ := h
    rfl
  · obtain ⟨X, c, b, p, rfl, R, k⟩ := h
    refine ⟨_, (pss_cons (ps_par rfl sc_number_from.nd (i := 2) (j := 3) rfl rfl (by decide) rfl rfl (pa_cons (pe_op op_sub (pv 1) (pe_gi T.c_NOUGHT)) (pa_cons pe_int pa_nil)) (by rfl)) (pss_cons (ps_while (passes_of rfl) (PW.pt (pw_and (pt_cmpR op_gt (pv 2) pe_int (nomark _)) (pw_and (pt_cmpR op_lt (pv 3) (pe_gi T.c_MOST_DIGITS) (nomark _)) (pw_and1 (pt_val (pe_mf (ok_Reader_sees T) (hr.mono (by decide)) pass0 (pv 0) (by exact (pa_cons (pe_gt T.c_DIGITS) pa_nil)))))))) (pss_cons (ps_set (i := 2) sc_number_from.nd rfl (Or.inl rfl) (pe_op op_sub (pe_op op_add (pe_op op_mul (pv 2) pe_int) (pe_mf (ok_Reader_next_of T) (hr.mono (by decide)) (passE (takes_of rfl rfl rfl rfl)) (pv 0) (by exact (pa_cons (pe_gt T.c_DIGITS) pa_nil)))) (pe_gi T.c_NOUGHT))) (pss_one (ps_aug (i := 3) sc_number_from.nd rfl (Or.inl rfl) pe_int ip_add)))) (pss_one (ps_ret (pv 2))))), ?_⟩
    refine ⟨_, rfl, _, _, rfl, rfl, _, _, rfl, ?_⟩
    refine ⟨fun m σ H' => ∃ n b' p', σ = [some (.ref X.r), some (.int c), some (.int n), some (.int (4 - (m : Int)))] ∧ m ≤ 3 ∧ Chg [X.r] H H' ∧ RdAt K cReader X H' b' p' ∧ num m n b' p' = num 3 (c - 48) b p,
      ⟨3, c - 48, b, p, rfl, Nat.le_refl _, Chg.refl H, R, rfl⟩, ?_⟩
    rintro m σ H' ⟨n, b', p', rfl, hm, ch, R', hn⟩
    have out : num m n b' p' = (n, b', p') → Q (.int n) H' := fun e => by
      rw [e] at hn
      have := k H' ch
      rw [← hn] at this
      exact this R'
    refine ⟨_, rfl, _, _, rfl, rfl, _, rfl, ?_⟩
    refine ite2 (fun h1 => ?_) (fun h1 => ?_)
    · have h1 : 0 < n := of_decide_eq_true h1
      refine ⟨_, rfl, _, _, rfl, rfl, _, rfl, ?_⟩
      refine ite2 (fun h2 => ?_) (fun h2 => ?_)
      · have h2 : 4 - (m : Int) < 4 := of_decide_eq_true h2
        refine ⟨_, rfl, X.r, rfl, R'.ins, fun dA hdA => ?_⟩
        refine ⟨X, dA, b', p', digitsL, rfl, R', .inr (hdA _), _, rfl, ?_⟩
        refine ite2 (fun h3 => ?_) (fun h3 => ?_)
        · obtain ⟨d, b1, rfl, e1, hd⟩ := sees_nx (p := p') h3
          obtain ⟨m, rfl⟩ : ∃ j, m = j + 1 := ⟨m - 1, by omega⟩
          refine ⟨fun σ' H2 => ∃ n' b2 p2, σ' = [some (.ref X.r), some (.int c), some (.int n'), some (.int (4 - (m : Int)))] ∧ Chg [X.r] H H2 ∧ RdAt K cReader X H2 b2 p2 ∧ num m n' b2 p2 = num 3 (c - 48) b p,
            fun σ' H2 ⟨n', b2, p2, e, c2, R2, e2⟩ => ⟨m, Nat.lt_succ_self _, n', b2, p2, e, by omega, c2, R2, e2⟩, ?_⟩
          refine ⟨_, rfl, _, _, rfl, rfl, .inr ⟨by decide, by decide⟩, ?_⟩
          refine ⟨_, rfl, X.r, rfl, R'.ins, fun dB hdB => ?_⟩
          refine ⟨X, dB, d :: b1, p', digitsL, rfl, R', .inr (hdB _), fun kk e => ?_, fun d2 b2 p2 e H2 c2 R2 => ?_⟩
          · rw [e1] at e; cases e
          · rw [e1] at e
            cases e
            refine ⟨_, _, rfl, rfl, _, _, rfl, rfl, ?_⟩
            refine ⟨_, rfl, _, _, rfl, rfl, ?_⟩
            refine ⟨n * 10 + d - 48, b1, p' + 1, ?_, ch.trans c2, R2, ?_⟩
            · show [some (V.ref X.r), some (.int c), some (.int (n * 10 + d - 48)), some (.int (4 - ((m + 1 : Nat) : Int) + 1))] = _
              have : 4 - ((m + 1 : Nat) : Int) + 1 = 4 - (m : Int) := by omega
              rw [this]
            · rw [← hn, num_go h1 hd]
        · exact ⟨_, rfl, out (num_stop (Bool.eq_false_iff.mpr h3))⟩
      · have h2 : ¬ 4 - (m : Int) < 4 := fun z => h2 (decide_eq_true z)
        obtain rfl : m = 0 := by omega
        exact ⟨_, rfl, out rfl⟩
    · have h1 : ¬ 0 < n := fun z => h1 (decide_eq_true z)
      exact ⟨_, rfl, out (num_low h1)⟩
/-! ### operand -/
def spOperand (K : PySem.W.Frag) (C : Addr) : Sp := fun vs H Q E => ∃ (X : Rdr) (c : Int) (b : List Int) (p : Nat), vs = [.ref X.r, .int c] ∧ RdAt K C X H b p ∧
  ∀ H' q, Chg [X.r] H H' → RdAt K C X H' (operand c b p).2.1 (operand c b p).2.2 → H q = none → H' q = some (.tup [.int (operand c b p).1.1, .int (operand c b p).1.2]) → Q (.ref q) H'
theorem ok_operand (T : Txt K mg cFault cRunFault cTooLong cBeadFrame cReader cLines cRun) : Df P w K mg base (L2.CX P w) 5 "operand" ["reader", "byte"] (spOperand K cReader) := by
  refine df_mk T.d_operand fun f fd F => F.okX sc_operand (fun vs H Q E h => ?_) (fun cdv A outer s H vs Q E hr h => ?_)
  · obtain ⟨X, c, b, p, rfl, _⟩ := h
    rfl
  · obtain ⟨X, c, b, p, rfl, R, k⟩ := h
    refine ⟨_, (pss_cons (ps_if (pt_cmpR op_in_seq (pv 1) (pe_gt T.c_DIGITS) rfl) (pss_one (ps_ret (pe_tup (pa_cons (pe_gi T.c_NUMBER) (pa_cons (pe_df (ok_number_from T) (hr.mono (by decide)) (passE (takes_of rfl rfl rfl rfl)) (by exact (pa_cons (pv 0) (pa_cons (pv 1) pa_nil)))) pa_nil))))) pss_nil) (pss_cons (ps_if (pt_cmpR op_in_seq (pv 1) (pe_gt T.c_HEADS) rfl) (pss_one (ps_ret (pe_tup (pa_cons (pe_gi T.c_HEAD) (pa_cons (pe_op op_sub (pv 1) (pe_ix ix_tup (pe_gt T.c_HEADS) pe_int (fun _ _ => rfl))) pa_nil))))) pss_nil) (pss_one (ps_ret (pe_tup (pa_cons (pe_gi T.c_MARK) (pa_cons (pe_op op_sub (pv 1) (pe_ix ix_tup (pe_gt T.c_MARKS) pe_int (fun _ _ => rfl))) pa_nil))))))), ?_⟩
    refine ⟨_, rfl, fun aD hD => ⟨aD, vis digitsL, rfl, .inr (hD _), rfl, flat_ints digitsL, _, rfl, ?_⟩⟩
    unfold operand at k
    refine ite2 (fun h1 => ?_) (fun h1 => ?_)
    · have h1 : digitsL.contains c = true := by rw [← inV_ints]; exact h1
      rw [if_pos h1] at k
      refine ⟨_, rfl, _, rfl, X, c, b, p, rfl, R, fun H' c1 R1 => ?_⟩
      refine ⟨sz (by decide : 2 ≤ 100000), fun q hq => ?_⟩
      exact k _ q (c1.new hq) (R1.chg ((Chg.refl H').new hq (S := [])) (by simp)) (c1.none hq (fun m => by
        have : q = X.r := by simpa using m
        rw [this, R1.obj] at hq; cases hq)) upd_same
    · have h1 : ¬ digitsL.contains c = true := by rw [← inV_ints]; exact h1
      rw [if_neg h1] at k
      refine ⟨_, rfl, fun aD hD => ⟨aD, vis headsL, rfl, .inr (hD _), rfl, flat_ints headsL, _, rfl, ?_⟩⟩
      refine ite2 (fun h2 => ?_) (fun h2 => ?_)
      · have h2 : headsL.contains c = true := by rw [← inV_ints]; exact h2
        rw [if_pos h2] at k
        refine ⟨_, rfl, fun aH hH => ⟨aH, vis headsL, _, _, rfl, rfl, hH _, atI_nat (j := 0) rfl, _, _, rfl, rfl, ?_⟩⟩
        refine ⟨sz (by decide : 2 ≤ 100000), fun q hq => ?_⟩
        exact k _ q ((Chg.refl H).new hq) (R.chg ((Chg.refl H).new hq (S := [])) (by simp)) hq upd_same
      · have h2 : ¬ headsL.contains c = true := by rw [← inV_ints]; exact h2
        rw [if_neg h2] at k
        refine ⟨_, rfl, fun aH hH => ⟨aH, vis marksL, _, _, rfl, rfl, hH _, atI_nat (j := 0) rfl, _, _, rfl, rfl, ?_⟩⟩
        refine ⟨sz (by decide : 2 ≤ 100000), fun q hq => ?_⟩
        exact k _ q ((Chg.refl H).new hq) (R.chg ((Chg.refl H).new hq (S := [])) (by simp)) hq upd_same
/-! ### open_brackets -/
def spOpen (K : PySem.W.Frag) : Sp := fun vs H Q _ => ∃ (a : Addr) (l : List Int), vs = [.ref a] ∧ SqL K H a (vis l) ∧ l.length ≤ 50000 ∧ ∀ H' q, Same H H' → H q = none → H' q = some (.lst (vis (l.filter fun c => openersL.contains c))) → Q (.ref q) H'
theorem ok_open_brackets (T : Txt K mg cFault cRunFault cTooLong cBeadFrame cReader cLines cRun) : Df P w K mg base CX0 1 "open_brackets" ["waiting"] (spOpen K) := by
  refine df_mk T.d_open_brackets fun f fd F => F.ok sc_open_brackets (fun vs H Q E h => ?_) (fun cdv A outer s H vs Q E hr h => ?_)
  · obtain ⟨a, l, rfl, _⟩ := h
    rfl
  · obtain ⟨a, l, rfl, hl, hz, k⟩ := h
    refine ⟨_, (pss_one (ps_ret (pe_lc (own := [("byte", 1)]) (g := gName 1) (tt := (tTest (tOp (rIn K false) (tVar 1) (tGT K (vis openersL))))) rfl sc_open_brackets.nd (pi_list (pv 0)) (blkOk_by (N := ["waiting", "byte"]) (sc := defScope s_open_brackets) (by decide +kernel)) (fun _ _ _ _ _ => pg_name (i := 1) sc_open_brackets.nd rfl (Or.inl rfl)) (fun _ _ _ _ _ => (pts_one (pt_cmpR op_in_seq (pv 1) (pe_gt T.c_OPENERS) rfl))) (fun _ _ _ _ _ => (pv 1))))), ?_⟩
    refine ⟨_, rfl, a, rfl, ⟨_, hl⟩, fun D hD => ?_⟩
    refine lc_list (K := K) (a := a) (xs := vis l) (fun i H' => Same H H' ∧ H' D = some (.lst (vis ((l.take i).filter fun c => openersL.contains c)))) ⟨fun b o e => by rw [upd_ne (ne_of_none e hD)]; exact e, upd_same⟩ (fun i H' _ h => h.1.seq hl) ?_ ?_
    · rintro i x H1 hi ⟨s1, h1⟩
      obtain ⟨c, hc, rfl⟩ := vis_at hi
      have et : l.take (i + 1) = l.take i ++ [c] := by rw [List.take_add_one, hc]; rfl
      refine ⟨rfl, ?_⟩
      refine ⟨_, rfl, fun aD hA => ⟨aD, vis openersL, rfl, .inr (hA _), rfl, flat_ints openersL, _, rfl, ?_⟩⟩
      show if inV (.int c) (vis openersL) = true then _ else _
      rw [inV_ints]
      refine ite2 (fun h2 => ?_) (fun h2 => ?_)
      · refine ⟨_, rfl, _, h1, ?_, fun b o e => ?_, ?_⟩
        · rw [vis_len]
          have h3 : ((l.take i).filter fun c => openersL.contains c).length ≤ (l.take i).length := List.length_filter_le ..
          rw [List.length_take] at h3
          exact szl (by omega)
        · rw [upd_ne (ne_of_none e hD)]
          exact s1 b o e
        · have e2 : ([c].filter fun c => openersL.contains c) = [c] := by rw [List.filter_cons, if_pos h2]; rfl
          rw [upd_same, et, List.filter_append, e2]
          exact congrArg (fun z => some (HO.lst z)) (vis_snoc _ c).symm
      · refine ⟨s1, ?_⟩
        have e2 : ([c].filter fun c => openersL.contains c) = [] := by rw [List.filter_cons, if_neg h2]; rfl
        rw [h1, et, List.filter_append, e2, List.append_nil]
    · rintro H1 ⟨s1, h1⟩
      refine k H1 D s1 hD ?_
      rw [h1, vis_len, List.take_length]
/-! ### binds -/
def spBinds : Sp := fun vs H Q _ => ∃ c : Int, vs = [.int c] ∧ ∀ H', Same H H' → Q (.int (binds c)) H'
theorem ok_binds (T : Txt K mg cFault cRunFault cTooLong cBeadFrame cReader cLines cRun) : Df P w K mg base CX0 1 "binds" ["byte"] spBinds := by
  refine df_mk T.d_binds fun f fd F => F.ok sc_binds (fun vs H Q E h => ?_) (fun cdv A outer s H vs Q E hr h => ?_)
  · obtain ⟨c, rfl, _⟩ := h
    rfl
  · obtain ⟨c, rfl, k⟩ := h
    refine ⟨_, (pss_one (ps_ret (pe_dget2 (hu_of hr) (pe_disp (pps_cons (pe_gi T.c_TIMES) pe_int (pps_cons (pe_gi T.c_PLUS) pe_int (pps_cons (pe_gi T.c_MINUS) pe_int pps_nil))) (by rfl) (by rfl) (fun z => by cases z) (by decide)) (pv 0) pe_int ⟨rfl, rfl, rfl, rfl⟩))), ?_⟩
    intro p hp
    refine ⟨upd_same, [(.inl 42, .int 2), (.inl 43, .int 1), (.inl 45, .int 1)], rfl, (by show 3 ≤ 15; decide), ?_⟩
    refine ⟨p, rfl, .inl ⟨_, .inl upd_same⟩, _, rfl, _, DGet.k (k := Sum.inl c) upd_same, ?_⟩
    have e : (valV (mergeK [] [(.inl 42, .int 2), (.inl 43, .int 1), (.inl 45, .int 1)]) (Sum.inl c : Key)).getD (.int 0) = .int (binds c) := by
      have em : mergeK [] [((.inl 42 : Key), V.int 2), (.inl 43, .int 1), (.inl 45, .int 1)] = [(.inl 42, .int 2), (.inl 43, .int 1), (.inl 45, .int 1)] := by decide +kernel
      rw [em]
      unfold valV binds
      by_cases h1 : c = 42
      · subst h1; rfl
      · by_cases h2 : c = 43
        · subst h2; rfl
        · by_cases h3 : c = 45
          · subst h3; rfl
          · simp [List.find?, h1, h2, h3, Ne.symm h1, Ne.symm h2, Ne.symm h3]
    show Q ((valV _ (Sum.inl c : Key)).getD (.int 0)) _
    rw [e]
    refine k _ fun b o hb => ?_
    rw [upd_ne (ne_of_none hb hp), upd_ne (ne_of_none hb hp)]
    exact hb
end
end Ab
/-! ## The walk: E, its loops -/
namespace Ab
open PySem PySem.Spec PyProof.Rows L2
theorem rdOp_cons (c : Int) (b w : List Int) (p : Nat) : rdOp (c :: b) w p = if (canBegin w).contains c = true then
      (if openersL.contains c = true then rdOp b (c :: w) (p + 1) else .ok ((operand c b (p + 1)).1, w, (operand c b (p + 1)).2)) else .bad p := rfl
theorem vis_app (a b : List Int) : vis (a ++ b) = vis a ++ vis b := List.map_append
theorem mem3 {r F W x : Addr} (h : x ∈ [r, F, W]) : x = r ∨ x = F ∨ x = W := by simpa using h
theorem not3 {r F W x : Addr} (h1 : x ≠ r) (h2 : x ≠ F) (h3 : x ≠ W) : x ∉ [r, F, W] := fun h => by
  rcases mem3 h with h | h | h
  · exact h1 h
  · exact h2 h
  · exact h3 h
section
variable {P : Program} {w : World} {K : PySem.W.Frag} {mg : Str → Option Value} {base : Heap} {cFault cRunFault cTooLong cBeadFrame cReader cLines cRun : Addr}
/-! ### read_operand -/
def spRdOp (K : PySem.W.Frag) (C F : Addr) : Sp := fun vs H Q E => ∃ (X : Rdr) (fa wa : Addr) (b : List Int) (p : Nat) (vf : List V) (w : List Int), vs = [.ref X.r, .ref fa, .ref wa] ∧ RdAt K C X H b p ∧ H fa = some (.lst vf) ∧ H wa = some (.lst (stk w)) ∧ fa ≠ wa ∧
  vf.length + w.length + 2 * b.length ≤ 30000 ∧ (∀ k, rdOp b w p = .bad k → FE F E H [X.r, fa, wa] 11 k) ∧
  ∀ it w1 b1 p1, rdOp b w p = .ok (it, w1, b1, p1) → ∀ H' q, Chg [X.r, fa, wa] H H' → RdAt K C X H' b1 p1 → H' q = some (.tup [.int it.1, .int it.2]) → H' fa = some (.lst (vf ++ [.ref q])) → H' wa = some (.lst (stk w1)) → Q .non H'
theorem ok_read_operand (T : Txt K mg cFault cRunFault cTooLong cBeadFrame cReader cLines cRun) : Df P w K mg base (L2.CX P w) 6 "read_operand" ["reader", "found", "waiting"] (spRdOp K cReader cFault) := by
  refine df_mk T.d_read_operand fun f fd F => F.okX sc_read_operand (fun vs H Q E h => ?_) (fun cdv A outer s H vs Q E hr h => ?_)
  · obtain ⟨X, fa, wa, b, p, vf, wl, rfl, _⟩ := h
    rfl
  · obtain ⟨X, fa, wa, b, p, vf, wl, rfl, R, hf, hw, hfw, hsz, kE, k⟩ := h
    refine ⟨_, (pss_cons (ps_set (i := 3) sc_read_operand.nd rfl (Or.inl rfl) (pe_gi T.c_ROUND)) (pss_cons (ps_while (passes_of rfl) (pt_cmpR op_in_seq (pv 3) (pe_gt T.c_OPENERS) rfl) (pss_cons (ps_set (i := 4) sc_read_operand.nd rfl (Or.inl rfl) (pe_cmpR op_lt (pe_callB call_len_seq (by rfl) T.n_len PySem.boot_len (pa_cons (pe_df (ok_open_brackets T) (hr.mono (by decide)) pass0 (by exact (pa_cons (pv 2) pa_nil))) pa_nil)) (pe_gi T.c_MOST_BRACKETS) (nomark _))) (pss_cons (ps_set (i := 3) sc_read_operand.nd rfl (Or.inl rfl) (pe_mf (ok_Reader_next_of T) (hr.mono (by decide)) (passE (takes_of rfl rfl rfl rfl)) (pv 0) (by exact (pa_cons (pe_op op_catT (pe_op op_catT (pe_op op_catT (pe_gt T.c_DIGITS) (pe_gt T.c_HEADS)) (pe_gt T.c_MARKS)) (pe_ifExp (pt_val (pv 4)) (pe_gt T.c_OPENERS) (pe_tup pa_nil))) pa_nil)))) (pss_one (ps_if (pt_cmpR op_in_seq (pv 3) (pe_gt T.c_OPENERS) rfl) (pss_one (ps_expr (pe_bm PySem.F.plainAttrs_list PySem.F.slot_list_append PySem.F.type_list_append mt_append (pv 2) (pa_cons (pv 3) pa_nil)))) pss_nil))))) (pss_one (ps_expr (pe_bm PySem.F.plainAttrs_list PySem.F.slot_list_append PySem.F.type_list_append mt_append (pv 1) (pa_cons (pe_df (ok_operand T) (hr.mono (by decide)) (passE (takes_of rfl rfl rfl rfl)) (by exact (pa_cons (pv 0) (pa_cons (pv 3) pa_nil)))) pa_nil)))))), ?_⟩
    have nfr := R.ne hf
    have nwr := R.ne hw
    refine ⟨fun m σ H' => ∃ c b' p' w' v, σ = [some (.ref X.r), some (.ref fa), some (.ref wa), some (.int c), v] ∧ Chg [X.r, fa, wa] H H' ∧ RdAt K cReader X H' b' p' ∧ H' fa = some (.lst vf) ∧ H' wa = some (.lst (stk w')) ∧
        vf.length + w'.length + 2 * b'.length ≤ 30000 ∧ (openersL.contains c = true → rdOp b' w' p' = rdOp b wl p ∧ m = b'.length + 1) ∧ (openersL.contains c = false → rdOp b wl p = .ok ((operand c b' p').1, w', (operand c b' p').2)),
      ⟨b.length + 1, 40, b, p, wl, none, rfl, Chg.refl H, R, hf, hw, hsz, fun _ => ⟨rfl, rfl⟩, fun z => absurd z (by decide)⟩, ?_⟩
    rintro m σ H' ⟨c, b', p', w', v, rfl, ch, R', hf', hw', hsz', y1, y2⟩
    refine ⟨_, rfl, fun aO hO => ⟨aO, vis openersL, rfl, .inr (hO _), rfl, flat_ints openersL, _, rfl, ?_⟩⟩
    refine ite2 (fun h1 => ?_) (fun h1 => ?_)
    · have h1 : openersL.contains c = true := by rw [← inV_ints]; exact h1
      obtain ⟨e1, rfl⟩ := y1 h1
      refine ⟨fun σ' H2 => ∃ c2 b2 p2 w2 v2, σ' = [some (.ref X.r), some (.ref fa), some (.ref wa), some (.int c2), v2] ∧ Chg [X.r, fa, wa] H H2 ∧ RdAt K cReader X H2 b2 p2 ∧ H2 fa = some (.lst vf) ∧ H2 wa = some (.lst (stk w2)) ∧
        vf.length + w2.length + 2 * b2.length ≤ 30000 ∧ b2.length < b'.length ∧ (openersL.contains c2 = true → rdOp b2 w2 p2 = rdOp b wl p) ∧ (openersL.contains c2 = false → rdOp b wl p = .ok ((operand c2 b2 p2).1, w2, (operand c2 b2 p2).2)),
        fun σ' H2 ⟨c2, b2, p2, w2, v2, e, c3, R2, hf2, hw2, hs2, hl, z1, z2⟩ => ?_, ?_⟩
      · by_cases ho : openersL.contains c2 = true
        · exact ⟨b2.length + 1, by omega, c2, b2, p2, w2, v2, e, c3, R2, hf2, hw2, hs2, fun h => ⟨z1 h, rfl⟩, z2⟩
        · exact ⟨0, by omega, c2, b2, p2, w2, v2, e, c3, R2, hf2, hw2, hs2, fun h => absurd h ho, z2⟩
      · -- the body
        refine ⟨_, rfl, wa, w'.reverse, rfl, SqL.of hw', (by rw [List.length_reverse]; omega), fun H1 q s1 n1 hq => ?_⟩
        rw [opens_rev] at hq
        refine ⟨q, _, rfl, .inl (SqL.of hq), _, _, rfl, rfl, ?_⟩
        have hlen : (((vis (opens w').reverse).length : Nat) : Int) = (((opens w').length : Nat) : Int) := by rw [vis_len, List.length_reverse]
        have R1 : RdAt K cReader X H1 b' p' := R'.chg (S := []) (chgS s1) (by simp)
        have kb : decide ((((vis (opens w').reverse).length : Nat) : Int) < 16) = decide ((opens w').length < 16) := by
          rw [hlen]; exact decide_eq_decide.mpr (by omega)
        refine ⟨_, rfl, X.r, rfl, R1.ins, fun aD hD aH hH => ?_⟩
        -- what may begin: the four tuples together; then the byte
        have fin : ∀ a H2, Same H1 H2 → SqT K H2 a (vis (canBegin w')) → spNext K cReader cFault [.ref X.r, .ref a] H2 (fun x H3 => tIfS (tTest (tOp (rIn K false) (tVar 3) (tGT K (vis openersL)))) (tDrop (tBM K "list" rAppend (tVar 2) (tCons (tVar 3) tNil))) tNext
              { nx := fun σ' H2 => ∃ c2 b2 p2 w2 v2, σ' = [some (.ref X.r), some (.ref fa), some (.ref wa), some (.int c2), v2] ∧ Chg [X.r, fa, wa] H H2 ∧ RdAt K cReader X H2 b2 p2 ∧ H2 fa = some (.lst vf) ∧ H2 wa = some (.lst (stk w2)) ∧
                  vf.length + w2.length + 2 * b2.length ≤ 30000 ∧ b2.length < b'.length ∧ (openersL.contains c2 = true → rdOp b2 w2 p2 = rdOp b wl p) ∧ (openersL.contains c2 = false → rdOp b wl p = .ok ((operand c2 b2 p2).1, w2, (operand c2 b2 p2).2)), rt := Q }
              [some (.ref X.r), some (.ref fa), some (.ref wa), some x, some (.bl (decide ((((vis (opens w').reverse).length : Nat) : Int) < 16)))] H3) E := by
          intro a H2 s2 ha
          have c2 : Chg [X.r, fa, wa] H H2 := ch.trans ((chgS s1).trans (chgS s2))
          have R2 : RdAt K cReader X H2 b' p' := R1.chg (S := []) (chgS s2) (by simp)
          refine ⟨X, a, b', p', canBegin w', rfl, R2, .inr ha, fun kk e => ?_, fun c3 b3 p3 e H3 c4 R3 => ?_⟩
          · refine (kE kk ?_).sub c2 (by simp)
            rw [← e1]
            cases b' with
            | nil => rw [nx] at e; cases e; rfl
            | cons d b' =>
              have e : (if (canBegin w').contains d = true then Ab.R.ok (d, b', p' + 1) else Ab.R.bad p') = .bad kk := e
              rw [rdOp_cons]
              split at e
              · cases e
              · rename_i n
                cases e
                rw [if_neg n]
          · cases b' with
            | nil => rw [nx] at e; cases e
            | cons d b' =>
              have e : (if (canBegin w').contains d = true then Ab.R.ok (d, b', p' + 1) else Ab.R.bad p') = .ok (c3, b3, p3) := e
              split at e
              · rename_i hcb
                cases e
                have hf3 : H3 fa = some (.lst vf) := c4.1 _ _ (by simpa using nfr) (s2 _ _ (s1 _ _ hf'))
                have hw3 : H3 wa = some (.lst (stk w')) := c4.1 _ _ (by simpa using nwr) (s2 _ _ (s1 _ _ hw'))
                have c5 : Chg [X.r, fa, wa] H H3 := c2.trans (c4.mono (by simp))
                rw [rdOp_cons, if_pos hcb] at e1
                have lb : (c3 :: b3).length = b3.length + 1 := rfl
                refine ⟨_, rfl, fun aP hP => ⟨aP, vis openersL, rfl, .inr (hP _), rfl, flat_ints openersL, _, rfl, ?_⟩⟩
                refine ite2 (fun h2 => ?_) (fun h2 => ?_)
                · have h2 : openersL.contains c3 = true := by rw [← inV_ints]; exact h2
                  rw [if_pos h2] at e1
                  refine ⟨_, rfl, .inl ⟨rfl, _, SqL.of hw3⟩, _, rfl, wa, _, _, rfl, rfl, hw3, (by rw [stk_len]; exact szl (by omega)), ?_⟩
                  refine ⟨c3, b3, p' + 1, c3 :: w', _, rfl, c5.set (by simp) hw3 (by intro z; exact z), R3.chg ((Chg.refl H3).set (S := [wa]) (by simp) hw3 (by intro z; exact z)) (by simpa using Ne.symm nwr), ?_, ?_, ?_, by omega, fun _ => e1, fun z => absurd h2 (by rw [z]; decide)⟩
                  · rw [upd_ne hfw]; exact hf3
                  · rw [upd_same, stk_cons]
                  · show vf.length + (w'.length + 1) + 2 * b3.length ≤ 30000
                    omega
                · have h2 : openersL.contains c3 = false := Bool.eq_false_iff.mpr (fun z => h2 (by rw [← inV_ints] at z; exact z))
                  rw [if_neg (by rw [h2]; decide)] at e1
                  exact ⟨c3, b3, p' + 1, w', _, rfl, c5, R3, hf3, hw3, by omega, by omega, fun z => absurd z (by rw [h2]; decide), fun _ => e1.symm⟩
              · cases e
        refine ⟨aD, aH, vis digitsL, vis headsL, rfl, rfl, hD _, hH _, (fun z => by cases z), sz (by decide), (fun z => by cases z), fun _ p1 hp1 aM hM => ?_⟩
        refine ⟨p1, aM, vis digitsL ++ vis headsL, vis marksL, rfl, rfl, SqT.of upd_same, hM _, (fun z => by cases z), sz (by decide), (fun z => by cases z), fun _ p2 hp2 => ?_⟩
        have t1 : Same H1 (upd H1 p1 (.tup (vis digitsL ++ vis headsL))) := fun b o e => by rw [upd_ne (ne_of_none e hp1)]; exact e
        have t2 : Same H1 (upd (upd H1 p1 (.tup (vis digitsL ++ vis headsL))) p2 (.tup (vis digitsL ++ vis headsL ++ vis marksL))) := fun b o e => by rw [upd_ne (ne_of_none (t1 b o e) hp2)]; exact t1 b o e
        refine ⟨_, rfl, _, rfl, ?_⟩
        refine ite2 (fun cc => ?_) (fun cc => ?_)
        · intro aO hO
          rw [kb] at cc
          refine ⟨p2, aO, vis digitsL ++ vis headsL ++ vis marksL, vis openersL, rfl, rfl, SqT.of upd_same, hO _, (fun z => by cases z), sz (by decide), (fun z => by cases z), fun _ p3 hp3 => ?_⟩
          refine fin p3 _ (fun b o e => by rw [upd_ne (ne_of_none (t2 b o e) hp3)]; exact t2 b o e) ?_
          unfold canBegin
          rw [if_pos (of_decide_eq_true cc)]
          exact SqT.of (by rw [upd_same, vis_app, vis_app, vis_app])
        · rw [kb] at cc
          refine ⟨Nat.zero_le _, fun p3 hp3 => ?_⟩
          have n23 : p2 ≠ p3 := fun z => by
            rw [← z, upd_same] at hp3
            cases hp3
          refine ⟨p2, p3, vis digitsL ++ vis headsL ++ vis marksL, [], rfl, rfl, SqT.of (by rw [upd_ne n23, upd_same]), SqT.of upd_same, (fun z => by cases z), sz (by decide), fun _ => ?_, fun z => absurd rfl z⟩
          refine fin p2 _ (fun b o e => by rw [upd_ne (ne_of_none (t2 b o e) hp3)]; exact t2 b o e) ?_
          unfold canBegin
          rw [if_neg (fun z => cc (decide_eq_true z)), List.append_nil]
          exact SqT.of (by rw [upd_ne n23, upd_same, vis_app, vis_app])
    · -- behind the loop
      have h1 : openersL.contains c = false := Bool.eq_false_iff.mpr (fun z => h1 (by rw [← inV_ints] at z; exact z))
      have e1 := y2 h1
      refine ⟨_, rfl, .inl ⟨rfl, _, SqL.of hf'⟩, _, rfl, _, rfl, X, c, b', p', rfl, R', fun H2 q c2 R2 nq hq => ?_⟩
      have hf2 : H2 fa = some (.lst vf) := c2.1 _ _ (by simpa using nfr) hf'
      have hw2 : H2 wa = some (.lst (stk w')) := c2.1 _ _ (by simpa using nwr) hw'
      have c3 : Chg [X.r, fa, wa] H H2 := ch.trans (c2.mono (by simp))
      refine ⟨fa, _, _, rfl, rfl, hf2, szl (by omega), ?_⟩
      refine k _ _ _ _ e1 _ q (c3.set (by simp) hf2 (by intro z; exact z)) (R2.chg ((Chg.refl H2).set (S := [fa]) (by simp) hf2 (by intro z; exact z)) (by simpa using Ne.symm nfr)) ?_ upd_same ?_
      · rw [upd_ne (fun z => by rw [z, hf2] at hq; cases hq)]; exact hq
      · rw [upd_ne (Ne.symm hfw)]; exact hw2
/-! ### close -/
def spClose (K : PySem.W.Frag) : Sp := fun vs H Q _ => ∃ (fa wa : Addr) (vf : List V) (fd : Items) (w : List Int), vs = [.ref fa, .ref wa] ∧ H fa = some (.lst vf) ∧ Its K H vf fd ∧ H wa = some (.lst (stk w)) ∧ fa ≠ wa ∧ vf.length + w.length ≤ 40000 ∧ opens w ≠ [] ∧
  ∀ H' vf', Chg [fa, wa] H H' → H' fa = some (.lst vf') → Its K H' vf' (clos fd w).1 → H' wa = some (.lst (stk (clos fd w).2)) → Q .non H'
theorem clos_cons (fd : Items) (c : Int) (w : List Int) : clos fd (c :: w) = if openersL.contains c = true then (if c = 91 then fd ++ [(3, 0)] else fd, w) else clos (fd ++ [(c, 0)]) w := rfl
theorem opens_cons (c : Int) (w : List Int) : opens (c :: w) = if openersL.contains c = true then c :: opens w else opens w := List.filter_cons
theorem ok_close (T : Txt K mg cFault cRunFault cTooLong cBeadFrame cReader cLines cRun) : Df P w K mg base CX0 1 "close" ["found", "waiting"] (spClose K) := by
  refine df_mk T.d_close fun f fd F => F.ok sc_close (fun vs H Q E h => ?_) (fun cdv A outer s H vs Q E hr h => ?_)
  · obtain ⟨fa, wa, vf, fd, wl, rfl, _⟩ := h
    rfl
  · obtain ⟨fa, wa, vf, fd, wl, rfl, hf, hi, hw, hfw, hsz, ho, k⟩ := h
    refine ⟨_, (pss_cons (ps_set (i := 2) sc_close.nd rfl (Or.inl rfl) (pe_bm0 PySem.F.plainAttrs_list PySem.F.slot_list_pop PySem.F.type_list_pop mt_pop (pv 1))) (pss_cons (ps_while PassesOwn.never (pt_cmpR op_notIn_seq (pv 2) (pe_gt T.c_OPENERS) rfl) (pss_cons (ps_expr (pe_bm PySem.F.plainAttrs_list PySem.F.slot_list_append PySem.F.type_list_append mt_append (pv 0) (pa_cons (pe_tup (pa_cons (pv 2) (pa_cons pe_int pa_nil))) pa_nil))) (pss_one (ps_set (i := 2) sc_close.nd rfl (Or.inl rfl) (pe_bm0 PySem.F.plainAttrs_list PySem.F.slot_list_pop PySem.F.type_list_pop mt_pop (pv 1)))))) (pss_one (ps_if (pt_cmpR op_eq (pv 2) (pe_gi T.c_SQUARE) (nomark _)) (pss_one (ps_expr (pe_bm PySem.F.plainAttrs_list PySem.F.slot_list_append PySem.F.type_list_append mt_append (pv 0) (pa_cons (pe_tup (pa_cons (pe_gi T.c_DIGIT) (pa_cons pe_int pa_nil))) pa_nil)))) pss_nil)))), ?_⟩
    cases wl with
    | nil => exact absurd rfl ho
    | cons c wl =>
      refine ⟨_, rfl, .inl ⟨rfl, _, SqL.of hw⟩, wa, _, _, rfl, rfl, hw, stk_last c wl, ?_⟩
      rw [stk_drop]
      have lw : (c :: wl).length = wl.length + 1 := rfl
      refine ⟨fun m σ H' => ∃ c' w' vf' fd', σ = [some (.ref fa), some (.ref wa), some (.int c')] ∧ Chg [fa, wa] H H' ∧ H' fa = some (.lst vf') ∧ Its K H' vf' fd' ∧ H' wa = some (.lst (stk w')) ∧ vf'.length + w'.length ≤ 40000 ∧ opens (c' :: w') ≠ [] ∧ clos fd' (c' :: w') = clos fd (c :: wl) ∧ m = w'.length,
        ⟨_, c, wl, vf, fd, rfl, (Chg.refl H).set (by simp) hw (by intro z; exact z), by rw [upd_ne hfw]; exact hf, hi.chg ((Chg.refl H).set (S := [wa]) (by simp) hw (by intro z; exact z)), upd_same, by omega, ho, rfl, rfl⟩, ?_⟩
      rintro m σ H' ⟨c', w', vf', fd', rfl, ch, hf', hi', hw', hsz', ho', e1, rfl⟩
      refine ⟨_, rfl, fun aO hO => ⟨aO, vis openersL, rfl, .inr (hO _), rfl, flat_ints openersL, _, rfl, ?_⟩⟩
      have hneg : (if true = true then !inV (.int c') (vis openersL) else inV (.int c') (vis openersL)) = !openersL.contains c' := by
        rw [if_pos rfl, inV_ints]
      show if (if true = true then !inV (.int c') (vis openersL) else inV (.int c') (vis openersL)) = true then _ else _
      rw [hneg]
      cases hc : openersL.contains c' with
      | false =>
        rw [clos_cons, if_neg (by rw [hc]; decide)] at e1
        rw [opens_cons, if_neg (by rw [hc]; decide)] at ho'
        refine ite2 (fun _ => ?_) (fun n => absurd rfl n)
        refine ⟨fun σ' H2 => ∃ c2 w2 vf2 fd2, σ' = [some (.ref fa), some (.ref wa), some (.int c2)] ∧ Chg [fa, wa] H H2 ∧ H2 fa = some (.lst vf2) ∧ Its K H2 vf2 fd2 ∧ H2 wa = some (.lst (stk w2)) ∧ vf2.length + w2.length ≤ 40000 ∧ opens (c2 :: w2) ≠ [] ∧ clos fd2 (c2 :: w2) = clos fd (c :: wl) ∧ w2.length < w'.length,
          fun σ' H2 ⟨c2, w2, vf2, fd2, a1, a2, a3, a4, a5, a6, a7, a8, a9⟩ => ⟨w2.length, a9, c2, w2, vf2, fd2, a1, a2, a3, a4, a5, a6, a7, a8, rfl⟩, ?_⟩
        refine ⟨_, rfl, .inl ⟨rfl, _, SqL.of hf'⟩, _, rfl, sz (show 2 ≤ 100000 by decide), fun q hq => ?_⟩
        have nfq : fa ≠ q := fun z => by rw [z, hq] at hf'; cases hf'
        have nwq : wa ≠ q := fun z => by rw [z, hq] at hw'; cases hw'
        refine ⟨fa, _, _, rfl, rfl, by rw [upd_ne nfq]; exact hf', szl (by omega), ?_⟩
        cases w' with
        | nil => exact absurd rfl ho'
        | cons d w' =>
          have c2 : Chg [fa, wa] H (upd (upd H' q (.tup [.int c', .int 0])) fa (.lst (vf' ++ [.ref q]))) := (ch.new hq).set (by simp) (by rw [upd_ne nfq]; exact hf') (by intro z; exact z)
          have hw2 : (upd (upd H' q (.tup [.int c', .int 0])) fa (.lst (vf' ++ [.ref q]))) wa = some (.lst (stk (d :: w'))) := by rw [upd_ne (Ne.symm hfw), upd_ne nwq]; exact hw'
          have hi2 : Its K (upd (upd H' q (.tup [.int c', .int 0])) fa (.lst (vf' ++ [.ref q]))) (vf' ++ [.ref q]) (fd' ++ [(c', 0)]) :=
            (hi'.chg (S := [fa]) (((Chg.refl H').new hq).set (by simp) (by rw [upd_ne nfq]; exact hf') (by intro z; exact z))).snoc (SqT.of (by rw [upd_ne (Ne.symm nfq), upd_same]))
          refine ⟨_, rfl, .inl ⟨rfl, _, SqL.of hw2⟩, wa, _, _, rfl, rfl, hw2, stk_last d w', ?_⟩
          rw [stk_drop]
          have l1 : (d :: w').length = w'.length + 1 := rfl
          refine ⟨d, w', _, _, rfl, c2.set (by simp) hw2 (by intro z; exact z), by rw [upd_ne hfw, upd_same], hi2.chg ((Chg.refl _).set (S := [wa]) (by simp) hw2 (by intro z; exact z)), upd_same, ?_, ho', e1, by omega⟩
          rw [List.length_append, List.length_singleton]
          omega
      | true =>
        rw [clos_cons, if_pos hc] at e1
        refine ite2 (fun n => absurd n (by decide)) (fun _ => ?_)
        refine ⟨_, rfl, rfl, _, rfl, ?_⟩
        rw [← e1] at k
        by_cases h91 : c' = 91
        · rw [if_pos h91] at k
          refine ite2 (fun _ => ?_) (fun n => absurd (decide_eq_true (by rw [h91])) n)
          refine ⟨_, rfl, .inl ⟨rfl, _, SqL.of hf'⟩, sz (show 2 ≤ 100000 by decide), fun q hq => ?_⟩
          have nfq : fa ≠ q := fun z => by rw [z, hq] at hf'; cases hf'
          have nwq : wa ≠ q := fun z => by rw [z, hq] at hw'; cases hw'
          refine ⟨fa, _, _, rfl, rfl, by rw [upd_ne nfq]; exact hf', szl (by omega), ?_⟩
          refine k _ _ ((ch.new hq).set (by simp) (by rw [upd_ne nfq]; exact hf') (by intro z; exact z)) upd_same ?_ (by rw [upd_ne (Ne.symm hfw), upd_ne nwq]; exact hw')
          exact (hi'.chg (S := [fa]) (((Chg.refl H').new hq).set (by simp) (by rw [upd_ne nfq]; exact hf') (by intro z; exact z))).snoc (SqT.of (by rw [upd_ne (Ne.symm nfq), upd_same]))
        · rw [if_neg h91] at k
          refine ite2 (fun n => absurd (V.int.inj (of_decide_eq_true n)) h91) (fun _ => ?_)
          exact k _ _ ch hf' hi' hw'
/-! ### read_operator -/
def spRdOr (K : PySem.W.Frag) (C F : Addr) : Sp := fun vs H Q E => ∃ (X : Rdr) (fa wa : Addr) (b : List Int) (p : Nat) (vf : List V) (fd : Items) (w : List Int), vs = [.ref X.r, .ref fa, .ref wa] ∧ RdAt K C X H b p ∧ H fa = some (.lst vf) ∧ Its K H vf fd ∧ H wa = some (.lst (stk w)) ∧ fa ≠ wa ∧
  vf.length + w.length ≤ 40000 ∧ (∀ k, rdOr b fd w p = .bad k → FE F E H [X.r, fa, wa] 11 k) ∧
  ∀ fd1 w1 b1 p1, rdOr b fd w p = .ok (fd1, w1, b1, p1) → ∀ H' vf', Chg [X.r, fa, wa] H H' → RdAt K C X H' b1 p1 → H' fa = some (.lst vf') → Its K H' vf' fd1 → H' wa = some (.lst (stk w1)) → Q .non H'
theorem ok_read_operator (T : Txt K mg cFault cRunFault cTooLong cBeadFrame cReader cLines cRun) : Df P w K mg base (L2.CX P w) 4 "read_operator" ["reader", "found", "waiting"] (spRdOr K cReader cFault) := by
  refine df_mk T.d_read_operator fun f fd F => F.okX sc_read_operator (fun vs H Q E h => ?_) (fun cdv A outer s H vs Q E hr h => ?_)
  · obtain ⟨X, fa, wa, b, p, vf, fd, wl, rfl, _⟩ := h
    rfl
  · obtain ⟨X, fa, wa, b, p, vf, fd, wl, rfl, R, hf, hi, hw, hfw, hsz, kE, k⟩ := h
    refine ⟨_, (pss_cons (ps_set (i := 3) sc_read_operator.nd rfl (Or.inl rfl) (pe_mf (ok_Reader_next_of T) (hr.mono (by decide)) (passE (takes_of rfl rfl rfl rfl)) (pv 0) (by exact (pa_cons (pe_gt T.c_OPERATORS) pa_nil)))) (pss_cons (ps_while (passes_of rfl) (PW.pt (pw_and (pt_cmpR (op_neE hr.units0) (pv 2) (pe_lst pa_nil) (nomark _)) (pw_and1 (pt_cmpR op_ge (pe_df (ok_binds T) (hr.mono (by decide)) pass0 (by exact (pa_cons (pe_ix ix_list (pv 2) (pe_un un_neg pe_int) (fun _ _ => rfl)) pa_nil))) (pe_df (ok_binds T) (hr.mono (by decide)) pass0 (by exact (pa_cons (pv 3) pa_nil))) (nomark _))))) (pss_one (ps_expr (pe_bm PySem.F.plainAttrs_list PySem.F.slot_list_append PySem.F.type_list_append mt_append (pv 1) (pa_cons (pe_tup (pa_cons (pe_bm0 PySem.F.plainAttrs_list PySem.F.slot_list_pop PySem.F.type_list_pop mt_pop (pv 2)) (pa_cons pe_int pa_nil))) pa_nil))))) (pss_one (ps_expr (pe_bm PySem.F.plainAttrs_list PySem.F.slot_list_append PySem.F.type_list_append mt_append (pv 2) (pa_cons (pv 3) pa_nil)))))), ?_⟩
    have nfr := R.ne hf
    have nwr := R.ne hw
    refine ⟨_, rfl, X.r, rfl, R.ins, fun aP hP => ⟨X, aP, b, p, opsL, rfl, R, .inr (hP _), fun kk e => ?_, fun y b1 p1 e H1 c1 R1 => ?_⟩⟩
    · refine (kE kk ?_).sub (Chg.refl H) (by simp)
      unfold rdOr
      rw [e]
    · have e1 : rdOr b fd wl p = .ok ((unw y fd wl).1, y :: (unw y fd wl).2, b1, p1) := by
        unfold rdOr
        rw [e]
      have k := k _ _ _ _ e1
      have ch1 : Chg [X.r, fa, wa] H H1 := c1.mono (by simp)
      refine ⟨fun m σ H' => ∃ w' vf' fd', σ = [some (.ref X.r), some (.ref fa), some (.ref wa), some (.int y)] ∧ Chg [X.r, fa, wa] H H' ∧ RdAt K cReader X H' b1 p1 ∧ H' fa = some (.lst vf') ∧ Its K H' vf' fd' ∧ H' wa = some (.lst (stk w')) ∧ vf'.length + w'.length ≤ 40000 ∧ unw y fd' w' = unw y fd wl ∧ m = w'.length,
        ⟨_, wl, vf, fd, rfl, ch1, R1, c1.1 _ _ (by simpa using nfr) hf, hi.chg c1, c1.1 _ _ (by simpa using nwr) hw, hsz, rfl, rfl⟩, ?_⟩
      rintro m σ H' ⟨w', vf', fd', rfl, ch, R', hf', hi', hw', hsz', e2, rfl⟩
      have out : ∀ H2, Same H' H2 → unw y fd' w' = (fd', w') → tDrop (tBM K "list" rAppend (tVar 2) (tCons (tVar 3) tNil)) { nx := fun _ H' => Q .non H', rt := Q } [some (.ref X.r), some (.ref fa), some (.ref wa), some (.int y)] H2 := by
        intro H2 s2 e3
        have hf2 := s2 _ _ hf'
        have hw2 := s2 _ _ hw'
        rw [← e2, e3] at k
        refine ⟨_, rfl, .inl ⟨rfl, _, SqL.of hw2⟩, _, rfl, wa, _, _, rfl, rfl, hw2, (by rw [stk_len]; exact szl (by omega)), ?_⟩
        have cW : Chg [wa] H2 (upd H2 wa (.lst (stk w' ++ [.int y]))) := (Chg.refl H2).set (by simp) hw2 (by intro z; exact z)
        refine k _ vf' ((ch.trans (chgS s2)).trans (cW.mono (by simp))) ((R'.chg (S := []) (chgS s2) (by simp)).chg cW (by simpa using Ne.symm nwr)) (by rw [upd_ne hfw]; exact hf2) ((hi'.chg (S := []) (chgS s2)).chg cW) (by rw [upd_same, stk_cons])
      refine ⟨_, rfl, Nat.zero_le _, fun q0 hq0 => ?_⟩
      have s0 : Same H' (upd H' q0 (.lst [])) := fun b o e => by rw [upd_ne (ne_of_none e hq0)]; exact e
      refine ⟨wa, q0, stk w', rfl, rfl, SqL.of (s0 _ _ hw'), SqL.of upd_same, _, rfl, ?_⟩
      cases w' with
      | nil =>
        refine ite2 (fun n => absurd n (by decide)) (fun _ => ?_)
        exact out _ s0 rfl
      | cons c w' =>
        have hemp : (!(stk (c :: w')).isEmpty) = true := by rw [stk_cons]; simp
        refine ite2 (fun _ => ?_) (fun n => absurd hemp n)
        have hat : atI (stk (c :: w')) (-1) = some (.int c) := by rw [stk_cons]; exact atI_last _ _
        refine ⟨_, rfl, _, rfl, wa, _, _, _, rfl, rfl, SqL.of (s0 _ _ hw'), hat, c, rfl, fun H1 s1 => ?_⟩
        refine ⟨_, rfl, y, rfl, fun H2 s2 => ⟨_, _, rfl, rfl, _, rfl, ?_⟩⟩
        have s3 : Same H' H2 := s0.trans (s1.trans s2)
        have hu : unw y fd' (c :: w') = if binds y ≤ binds c then unw y (fd' ++ [(c, 0)]) w' else (fd', c :: w') := rfl
        refine ite2 (fun h2 => ?_) (fun h2 => ?_)
        · have h2 : binds y ≤ binds c := of_decide_eq_true h2
          rw [hu, if_pos h2] at e2
          have lw : (c :: w').length = w'.length + 1 := rfl
          refine ⟨fun σ' H2 => ∃ w2 vf2 fd2, σ' = [some (.ref X.r), some (.ref fa), some (.ref wa), some (.int y)] ∧ Chg [X.r, fa, wa] H H2 ∧ RdAt K cReader X H2 b1 p1 ∧ H2 fa = some (.lst vf2) ∧ Its K H2 vf2 fd2 ∧ H2 wa = some (.lst (stk w2)) ∧ vf2.length + w2.length ≤ 40000 ∧ unw y fd2 w2 = unw y fd wl ∧ w2.length < (c :: w').length,
            fun σ' H2 ⟨w2, vf2, fd2, a1, a2, a3, a4, a5, a6, a7, a8, a9⟩ => ⟨w2.length, a9, w2, vf2, fd2, a1, a2, a3, a4, a5, a6, a7, a8, rfl⟩, ?_⟩
          have hf2 := s3 _ _ hf'
          have hw2 := s3 _ _ hw'
          refine ⟨_, rfl, .inl ⟨rfl, _, SqL.of hf2⟩, _, rfl, .inl ⟨rfl, _, SqL.of hw2⟩, wa, _, _, rfl, rfl, hw2, stk_last c w', ?_⟩
          rw [stk_drop]
          refine ⟨sz (show 2 ≤ 100000 by decide), fun q hq => ?_⟩
          have hf3 : (upd H2 wa (.lst (stk w'))) fa = some (.lst vf') := by rw [upd_ne hfw]; exact hf2
          have nfq : fa ≠ q := fun z => by rw [z, hq] at hf3; cases hf3
          have nwq : wa ≠ q := fun z => by
            rw [← z, upd_same] at hq
            cases hq
          have cW : Chg [wa] H2 (upd H2 wa (.lst (stk w'))) := (Chg.refl H2).set (by simp) hw2 (by intro z; exact z)
          refine ⟨fa, _, _, rfl, rfl, by rw [upd_ne nfq]; exact hf3, szl (by omega), ?_⟩
          have cF : Chg [X.r, fa, wa] H2 (upd (upd (upd H2 wa (.lst (stk w'))) q (.tup [.int c, .int 0])) fa (.lst (vf' ++ [.ref q]))) := ((cW.mono (by simp)).new hq).set (by simp) (by rw [upd_ne nfq]; exact hf3) (by intro z; exact z)
          have cF2 : Chg [fa, wa] H2 (upd (upd (upd H2 wa (.lst (stk w'))) q (.tup [.int c, .int 0])) fa (.lst (vf' ++ [.ref q]))) := ((cW.mono (by simp)).new hq).set (by simp) (by rw [upd_ne nfq]; exact hf3) (by intro z; exact z)
          refine ⟨w', _, _, rfl, ch.trans ((chgS s3).trans cF), (R'.chg (S := []) (chgS s3) (by simp)).chg cF2 (by simp; exact ⟨Ne.symm nfr, Ne.symm nwr⟩), upd_same, ((hi'.chg (S := []) (chgS s3)).chg cF2).snoc (SqT.of (by rw [upd_ne (Ne.symm nfq), upd_same])), by rw [upd_ne (Ne.symm hfw), upd_ne nwq, upd_same], ?_, e2, by omega⟩
          rw [List.length_append, List.length_singleton]
          omega
        · have h2 : ¬ binds y ≤ binds c := fun z => h2 (decide_eq_true z)
          exact out _ s3 (by rw [hu, if_neg h2])
end
end Ab
/-! ## The walk: E as a whole; tests -/
namespace Ab
open PySem PySem.Spec PyProof.Rows L2
theorem rdCl_cons (c : Int) (b : List Int) (fd : Items) (w : List Int) (p : Nat) : rdCl (c :: b) fd w p = match (opens w).head? with
    | none => (fd, w, c :: b, p)
    | some o => if c = closer o then rdCl b (clos fd w).1 (clos fd w).2 (p + 1) else (fd, w, c :: b, p) := rfl
theorem opens_op {w : List Int} {o : Int} (h : o ∈ opens w) : openersL.contains o = true := by
  have := (List.mem_filter.mp h).2
  exact this
theorem closers_at {o : Int} (h : openersL.contains o = true) : ([(40, 41), (91, 93)] : List (Int × Int)).lookup o = some (closer o) := by
  have m : o ∈ openersL := by simpa using h
  have : o = 40 ∨ o = 91 := by simpa [openersL] using m
  rcases this with e | e <;> subst e <;> decide
theorem clos_sz : ∀ (w : List Int) (fd : Items), opens w ≠ [] → (clos fd w).1.length + (clos fd w).2.length ≤ fd.length + w.length
  | [], fd, h => absurd rfl h
  | c :: w, fd, h => by
    rw [clos]
    have l1 : (c :: w).length = w.length + 1 := rfl
    by_cases ho : openersL.contains c = true
    · rw [if_pos ho]
      by_cases h9 : c = 91
      · rw [if_pos h9]
        show (fd ++ [(3, 0)]).length + w.length ≤ _
        rw [List.length_append, List.length_singleton]
        omega
      · rw [if_neg h9]
        show fd.length + w.length ≤ _
        omega
    · rw [if_neg ho]
      rw [opens_cons, if_neg ho] at h
      have ih := clos_sz w (fd ++ [(c, 0)]) h
      rw [List.length_append, List.length_singleton] at ih
      omega
theorem unw_sz (y : Int) : ∀ (w : List Int) (fd : Items), (unw y fd w).1.length + (unw y fd w).2.length = fd.length + w.length
  | [], fd => rfl
  | c :: w, fd => by
    rw [unw]
    have l1 : (c :: w).length = w.length + 1 := rfl
    split
    · have ih := unw_sz y w (fd ++ [(c, 0)])
      rw [List.length_append, List.length_singleton] at ih
      omega
    · rfl
theorem num_b : ∀ (f : Nat) (n : Int) (b : List Int) (p : Nat), (num f n b p).2.1.length ≤ b.length := num_len
theorem rdOp_sz : ∀ {b w : List Int} {p : Nat} {it : Int × Int} {w1 b1 : List Int} {p1 : Nat}, rdOp b w p = .ok (it, w1, b1, p1) → w1.length + 1 + 2 * b1.length ≤ w.length + 2 * b.length
  | [], w, p, it, w1, b1, p1, h => by cases h
  | c :: b, w, p, it, w1, b1, p1, h => by
    rw [rdOp_cons] at h
    have l1 : (c :: b).length = b.length + 1 := rfl
    have l2 : (c :: w).length = w.length + 1 := rfl
    split at h
    · split at h
      · have := rdOp_sz h
        omega
      · have hl := operand_len c b (p + 1)
        have e := R.ok.inj h
        have e1 : w = w1 := congrArg (fun z => z.2.1) e
        have e2 : (operand c b (p + 1)).2.1 = b1 := congrArg (fun z => z.2.2.1) e
        rw [e2] at hl
        subst e1
        omega
    · cases h
theorem rdCl_sz : ∀ (b : List Int) (fd : Items) (w : List Int) (p : Nat), (rdCl b fd w p).1.length + (rdCl b fd w p).2.1.length + 2 * (rdCl b fd w p).2.2.1.length ≤ fd.length + w.length + 2 * b.length
  | [], fd, w, p => Nat.le_refl _
  | c :: b, fd, w, p => by
    rw [rdCl_cons]
    have l1 : (c :: b).length = b.length + 1 := rfl
    cases ho : (opens w).head? with
    | none => exact Nat.le_refl _
    | some o =>
      dsimp only
      split
      · have ih := rdCl_sz b (clos fd w).1 (clos fd w).2 (p + 1)
        have hc := clos_sz w fd (by intro z; rw [z] at ho; cases ho)
        omega
      · exact Nat.le_refl _
theorem rdOr_sz {b : List Int} {fd : Items} {w : List Int} {p : Nat} {fd1 : Items} {w1 b1 : List Int} {p1 : Nat} (h : rdOr b fd w p = .ok (fd1, w1, b1, p1)) : fd1.length + w1.length + 2 * b1.length + 1 ≤ fd.length + w.length + 2 * b.length := by
  obtain ⟨c, e, e1, e2⟩ := rdOr_ok h
  obtain ⟨e3, _, _⟩ := nx_ok e
  have := unw_sz c w fd
  subst e1 e2 e3
  have l1 : (c :: b1).length = b1.length + 1 := rfl
  have l2 : (c :: (unw c fd w).2).length = (unw c fd w).2.length + 1 := rfl
  omega
section
variable {P : Program} {w : World} {K : PySem.W.Frag} {mg : Str → Option Value} {base : Heap} {cFault cRunFault cTooLong cBeadFrame cReader cLines cRun : Addr}
/-! ### read_closers -/
def spRdCl (K : PySem.W.Frag) (C F : Addr) : Sp := fun vs H Q E => ∃ (X : Rdr) (fa wa : Addr) (b : List Int) (p : Nat) (vf : List V) (fd : Items) (w : List Int), vs = [.ref X.r, .ref fa, .ref wa] ∧ RdAt K C X H b p ∧ H fa = some (.lst vf) ∧ Its K H vf fd ∧ H wa = some (.lst (stk w)) ∧ fa ≠ wa ∧
  fd.length + w.length + 2 * b.length ≤ 30000 ∧
  ∀ H' vf', Chg [X.r, fa, wa] H H' → RdAt K C X H' (rdCl b fd w p).2.2.1 (rdCl b fd w p).2.2.2 → H' fa = some (.lst vf') → Its K H' vf' (rdCl b fd w p).1 → H' wa = some (.lst (stk (rdCl b fd w p).2.1)) → Q .non H'
theorem ok_read_closers (T : Txt K mg cFault cRunFault cTooLong cBeadFrame cReader cLines cRun) : Df P w K mg base (L2.CX P w) 4 "read_closers" ["reader", "found", "waiting"] (spRdCl K cReader cFault) := by
  refine df_mk T.d_read_closers fun f fd F => F.okX sc_read_closers (fun vs H Q E h => ?_) (fun cdv A outer s H vs Q E hr h => ?_)
  · obtain ⟨X, fa, wa, b, p, vf, fd, wl, rfl, _⟩ := h
    rfl
  · obtain ⟨X, fa, wa, b, p, vf, fd, wl, rfl, R, hf, hi, hw, hfw, hsz, k⟩ := h
    refine ⟨_, (pss_cons (ps_set (i := 3) sc_read_closers.nd rfl (Or.inl rfl) (pe_df (ok_open_brackets T) (hr.mono (by decide)) pass0 (by exact (pa_cons (pv 2) pa_nil)))) (pss_one (ps_while (passes_of rfl) (PW.pt (pw_and (pt_cmpR (op_neE hr.units0) (pv 3) (pe_lst pa_nil) (nomark _)) (pw_and1 (pt_val (pe_mf (ok_Reader_sees T) (hr.mono (by decide)) pass0 (pv 0) (by exact (pa_cons (pe_lst (pa_cons (pe_ix ix_kint (pe_gk T.c_CLOSERS) (pe_ix ix_list (pv 3) (pe_un un_neg pe_int) (fun _ _ => rfl)) (fun _ _ => rfl)) pa_nil)) pa_nil))))))) (pss_cons (ps_expr (pe_mf (ok_Reader_next_of T) (hr.mono (by decide)) (passE (takes_of rfl rfl rfl rfl)) (pv 0) (by exact (pa_cons (pe_lst (pa_cons (pe_ix ix_kint (pe_gk T.c_CLOSERS) (pe_ix ix_list (pv 3) (pe_un un_neg pe_int) (fun _ _ => rfl)) (fun _ _ => rfl)) pa_nil)) pa_nil)))) (pss_cons (ps_expr (pe_df (ok_close T) (hr.mono (by decide)) pass0 (by exact (pa_cons (pv 1) (pa_cons (pv 2) pa_nil))))) (pss_one (ps_set (i := 3) sc_read_closers.nd rfl (Or.inl rfl) (pe_df (ok_open_brackets T) (hr.mono (by decide)) pass0 (by exact (pa_cons (pv 2) pa_nil)))))))))), ?_⟩
    have nfr := R.ne hf
    have nwr := R.ne hw
    refine ⟨_, rfl, wa, wl.reverse, rfl, SqL.of hw, (by rw [List.length_reverse]; omega), fun H0 i s0 ni hi0 => ?_⟩
    rw [opens_rev] at hi0
    refine ⟨fun m σ H' => ∃ b' p' w' vf' fd' i, σ = [some (.ref X.r), some (.ref fa), some (.ref wa), some (.ref i)] ∧ Chg [X.r, fa, wa] H H' ∧ RdAt K cReader X H' b' p' ∧ H' fa = some (.lst vf') ∧ Its K H' vf' fd' ∧ H' wa = some (.lst (stk w')) ∧ H' i = some (.lst (vis (opens w').reverse)) ∧
        fd'.length + w'.length + 2 * b'.length ≤ 30000 ∧ rdCl b' fd' w' p' = rdCl b fd wl p ∧ m = b'.length,
      ⟨_, b, p, wl, vf, fd, i, rfl, chgS s0, R.chg (S := []) (chgS s0) (by simp), s0 _ _ hf, hi.chg (S := []) (chgS s0), s0 _ _ hw, hi0, hsz, rfl, rfl⟩, ?_⟩
    rintro m σ H' ⟨b', p', w', vf', fd', j, rfl, ch, R', hf', hi', hw', hj, hsz', e1, rfl⟩
    have out : ∀ H2, Same H' H2 → rdCl b' fd' w' p' = (fd', w', b', p') → Q .non H2 := by
      intro H2 s2 e
      have k := k H2 vf'
      rw [← e1, e] at k
      exact k (ch.trans (chgS s2)) (R'.chg (S := []) (chgS s2) (by simp)) (s2 _ _ hf') (hi'.chg (S := []) (chgS s2)) (s2 _ _ hw')
    refine ⟨_, rfl, Nat.zero_le _, fun q0 hq0 => ?_⟩
    have t0 : Same H' (upd H' q0 (.lst [])) := fun b o e => by rw [upd_ne (ne_of_none e hq0)]; exact e
    refine ⟨j, q0, _, rfl, rfl, SqL.of (t0 _ _ hj), SqL.of upd_same, _, rfl, ?_⟩
    cases ho : opens w' with
    | nil =>
      refine ite2 (fun n => absurd n (by decide)) (fun _ => ?_)
      refine out _ t0 ?_
      cases b' with
      | nil => rfl
      | cons c b' => rw [rdCl_cons, ho]; rfl
    | cons o r =>
      rw [ho] at hj
      have hov : openersL.contains o = true := opens_op (w := w') (by rw [ho]; exact List.mem_cons_self ..)
      have erev : vis (o :: r).reverse = vis r.reverse ++ [.int o] := by simp
      have hat : atI (vis (o :: r).reverse) (-1) = some (.int o) := by rw [erev]; exact atI_last _ _
      refine ite2 (fun _ => ?_) (fun n => absurd (by rw [erev]; simp) n)
      have R0 := R'.chg (S := []) (chgS t0) (by simp)
      refine ⟨_, rfl, X.r, rfl, R0.ins, fun aC hC => ?_⟩
      refine ⟨_, rfl, 1, rfl, j, _, _, _, rfl, rfl, SqL.of (t0 _ _ hj), hat, aC, _, _, _, rfl, rfl, hC, closers_at hov, sz (show 1 ≤ 100000 by decide), fun q1 hq1 => ?_⟩
      have t1 : Same H' (upd (upd H' q0 (.lst [])) q1 (.lst [.int (closer o)])) := fun b o e => by rw [upd_ne (ne_of_none (t0 _ _ e) hq1)]; exact t0 _ _ e
      have R1 := R'.chg (S := []) (chgS t1) (by simp)
      refine ⟨X, q1, b', p', [closer o], rfl, R1, .inl (SqL.of upd_same), _, rfl, ?_⟩
      refine ite2 (fun h3 => ?_) (fun h3 => ?_)
      · obtain ⟨d, b1, rfl, en, hd⟩ := sees_nx (p := p') h3
        have hd : d = closer o := by simpa using hd
        subst hd
        rw [rdCl_cons, ho] at e1
        have e1 : rdCl b1 (clos fd' w').1 (clos fd' w').2 (p' + 1) = rdCl b fd wl p := by
          rw [← e1]
          show _ = if closer o = closer o then _ else _
          rw [if_pos rfl]
        have lb : (closer o :: b1).length = b1.length + 1 := rfl
        refine ⟨fun σ' H2 => ∃ b2 p2 w2 vf2 fd2 i, σ' = [some (.ref X.r), some (.ref fa), some (.ref wa), some (.ref i)] ∧ Chg [X.r, fa, wa] H H2 ∧ RdAt K cReader X H2 b2 p2 ∧ H2 fa = some (.lst vf2) ∧ Its K H2 vf2 fd2 ∧ H2 wa = some (.lst (stk w2)) ∧ H2 i = some (.lst (vis (opens w2).reverse)) ∧
            fd2.length + w2.length + 2 * b2.length ≤ 30000 ∧ rdCl b2 fd2 w2 p2 = rdCl b fd wl p ∧ b2.length < (closer o :: b1).length,
          fun σ' H2 ⟨b2, p2, w2, vf2, fd2, i, a1, a2, a3, a4, a5, a6, a7, a8, a9, a10⟩ => ⟨b2.length, a10, b2, p2, w2, vf2, fd2, i, a1, a2, a3, a4, a5, a6, a7, a8, a9, rfl⟩, ?_⟩
        refine ⟨_, rfl, X.r, rfl, R1.ins, fun aD hD => ?_⟩
        refine ⟨_, rfl, 1, rfl, j, _, _, _, rfl, rfl, SqL.of (t1 _ _ hj), hat, aD, _, _, _, rfl, rfl, hD, closers_at hov, sz (show 1 ≤ 100000 by decide), fun q2 hq2 => ?_⟩
        have t2 : Same H' (upd (upd (upd H' q0 (.lst [])) q1 (.lst [.int (closer o)])) q2 (.lst [.int (closer o)])) := fun b o e => by rw [upd_ne (ne_of_none (t1 _ _ e) hq2)]; exact t1 _ _ e
        have R2 := R'.chg (S := []) (chgS t2) (by simp)
        refine ⟨X, q2, closer o :: b1, p', [closer o], rfl, R2, .inl (SqL.of upd_same), fun kk e => (by rw [en] at e; cases e), fun c3 b3 p3 e H3 c3' R3 => ?_⟩
        rw [en] at e
        cases e
        have hf3 : H3 fa = some (.lst vf') := c3'.1 _ _ (by simpa using nfr) (t2 _ _ hf')
        have hw3 : H3 wa = some (.lst (stk w')) := c3'.1 _ _ (by simpa using nwr) (t2 _ _ hw')
        have hi3 : Its K H3 vf' fd' := (hi'.chg (S := []) (chgS t2)).chg c3'
        have lv := hi'.len
        refine ⟨_, rfl, _, rfl, fa, wa, vf', fd', w', rfl, hf3, hi3, hw3, hfw, by omega, by rw [ho]; simp, fun H4 vf4 c4 hf4 hi4 hw4 => ?_⟩
        have csz := clos_sz w' fd' (by rw [ho]; simp)
        refine ⟨_, rfl, wa, (clos fd' w').2.reverse, rfl, SqL.of hw4, (by rw [List.length_reverse]; omega), fun H5 i5 s5 n5 hi5 => ?_⟩
        rw [opens_rev] at hi5
        refine ⟨b1, p' + 1, (clos fd' w').2, vf4, (clos fd' w').1, i5, rfl, ?_, ?_, s5 _ _ hf4, hi4.chg (S := []) (chgS s5), s5 _ _ hw4, hi5, by omega, e1, by omega⟩
        · exact ((ch.trans (chgS t2)).trans (c3'.mono (by simp))).trans ((c4.mono (by simp)).trans (chgS s5))
        · exact (R3.chg c4 (by simp; exact ⟨Ne.symm nfr, Ne.symm nwr⟩)).chg (S := []) (chgS s5) (by simp)
      · refine out _ t1 ?_
        cases b' with
        | nil => rfl
        | cons c b' =>
          rw [rdCl_cons, ho]
          show (if c = closer o then _ else _) = _
          rw [if_neg]
          intro z
          refine h3 ?_
          show ([closer o] : List Int).contains c = true
          simp [z]
/-! ### expression -/
def spExpr (K : PySem.W.Frag) (C F : Addr) : Sp := fun vs H Q E => ∃ (X : Rdr) (ea : Addr) (ends b : List Int) (p : Nat), vs = [.ref X.r, .ref ea] ∧ RdAt K C X H b p ∧ SqL K H ea (vis ends) ∧
  (∀ k, expr ends b p = .bad k → FE F E H [X.r] 11 k) ∧
  ∀ its b1 p1, expr ends b p = .ok (its, b1, p1) → ∀ H' q vf, Chg [X.r] H H' → RdAt K C X H' b1 p1 → H q = none → H' q = some (.lst vf) → Its K H' vf its → its.length ≤ 30000 → Q (.ref q) H'
theorem exL_succ2 (ends : List Int) (f : Nat) (fd : Items) (w b : List Int) (p : Nat) : exL ends (f + 1) fd w b p = match rdOp b w p with
    | .lost => .lost
    | .bad k => .bad k
    | .ok (it, w1, b1, p1) => if ((opens (rdCl b1 (fd ++ [it]) w1 p1).2.1).isEmpty && sees (rdCl b1 (fd ++ [it]) w1 p1).2.2.1 ends) = true then .ok ((rdCl b1 (fd ++ [it]) w1 p1).1 ++ rest (rdCl b1 (fd ++ [it]) w1 p1).2.1, (rdCl b1 (fd ++ [it]) w1 p1).2.2.1, (rdCl b1 (fd ++ [it]) w1 p1).2.2.2)
      else match rdOr (rdCl b1 (fd ++ [it]) w1 p1).2.2.1 (rdCl b1 (fd ++ [it]) w1 p1).1 (rdCl b1 (fd ++ [it]) w1 p1).2.1 (rdCl b1 (fd ++ [it]) w1 p1).2.2.2 with
        | .lost => .lost
        | .bad k => .bad k
        | .ok (fd3, w3, b3, p3) => exL ends f fd3 w3 b3 p3 := rfl
theorem rest_cons (c : Int) (w : List Int) : rest (c :: w) = (c, 0) :: rest w := rfl
theorem ok_expression (T : Txt K mg cFault cRunFault cTooLong cBeadFrame cReader cLines cRun) : Df P w K mg base (L2.CX P w) 7 "expression" ["reader", "ends"] (spExpr K cReader cFault) := by
  refine df_mk T.d_expression fun f fd F => F.okX sc_expression (fun vs H Q E h => ?_) (fun cdv A outer s H vs Q E hr h => ?_)
  · obtain ⟨X, ea, ends, b, p, rfl, _⟩ := h
    rfl
  · obtain ⟨X, ea, ends, b, p, rfl, R, he, kE, k⟩ := h
    refine ⟨_, (pss_cons (ps_par rfl sc_expression.nd (i := 2) (j := 3) rfl rfl (by decide) rfl rfl (pa_cons (pe_lst pa_nil) (pa_cons (pe_lst pa_nil) pa_nil)) (by rfl)) (pss_cons (ps_set (i := 4) sc_expression.nd rfl (Or.inl rfl) pe_bl) (pss_cons (ps_while (passes_of rfl) (pt_val (pv 4)) (pss_cons (ps_expr (pe_df (ok_read_operand T) (hr.mono (by decide)) (passE (takes_of rfl rfl rfl rfl)) (by exact (pa_cons (pv 0) (pa_cons (pv 2) (pa_cons (pv 3) pa_nil)))))) (pss_cons (ps_expr (pe_df (ok_read_closers T) (hr.mono (by decide)) (passE (takes_of rfl rfl rfl rfl)) (by exact (pa_cons (pv 0) (pa_cons (pv 2) (pa_cons (pv 3) pa_nil)))))) (pss_cons (ps_set (i := 4) sc_expression.nd rfl (Or.inl rfl) (pe_or (pe_cmpR (op_neE hr.units0) (pe_df (ok_open_brackets T) (hr.mono (by decide)) pass0 (by exact (pa_cons (pv 3) pa_nil))) (pe_lst pa_nil) (nomark _)) (pe_one (pe_not (pe_mf (ok_Reader_sees T) (hr.mono (by decide)) pass0 (pv 0) (by exact (pa_cons (pv 1) pa_nil))))))) (pss_one (ps_if (pt_val (pv 4)) (pss_one (ps_expr (pe_df (ok_read_operator T) (hr.mono (by decide)) (passE (takes_of rfl rfl rfl rfl)) (by exact (pa_cons (pv 0) (pa_cons (pv 2) (pa_cons (pv 3) pa_nil))))))) pss_nil)))))) (pss_cons (ps_while (passes_of rfl) (pt_cmpR (op_neE hr.units0) (pv 3) (pe_lst pa_nil) (nomark _)) (pss_one (ps_expr (pe_bm PySem.F.plainAttrs_list PySem.F.slot_list_append PySem.F.type_list_append mt_append (pv 2) (pa_cons (pe_tup (pa_cons (pe_bm0 PySem.F.plainAttrs_list PySem.F.slot_list_pop PySem.F.type_list_pop mt_pop (pv 3)) (pa_cons pe_int pa_nil))) pa_nil))))) (pss_one (ps_ret (pv 2))))))), ?_⟩
    refine ⟨Nat.zero_le _, fun fa hfa => ⟨Nat.zero_le _, fun wa hwa => ⟨_, _, rfl, ?_⟩⟩⟩
    have hfw : fa ≠ wa := fun z => by rw [z, upd_same] at hwa; cases hwa
    have hwa0 : H wa = none := by rw [upd_ne (Ne.symm hfw)] at hwa; exact hwa
    have s00 : Same H (upd (upd H fa (.lst [])) wa (.lst [])) := fun b o e => by rw [upd_ne (ne_of_none e hwa0), upd_ne (ne_of_none e hfa)]; exact e
    have nrf : X.r ≠ fa := ne_of_none R.obj hfa
    have nrw : X.r ≠ wa := ne_of_none R.obj hwa0
    have hb5 := R.len
    have hb6 := R.small
    -- what is found and what waits is new: to the caller the reader alone has moved
    have cx : ∀ {H'}, Chg [X.r, fa, wa] H H' → Chg [X.r] H H' := fun {H'} c => ⟨fun x o n e => c.1 x o (not3 (by simpa using n) (ne_of_none e hfa) (ne_of_none e hwa0)) e, c.2⟩
    have hnl : expr ends b p ≠ .lost := exL_fuel ends (b.length + 1) [] [] b p (Nat.lt_succ_self _)
    refine ⟨fun m σ H' => ∃ io b' p' w' vf' fd', σ = [some (.ref X.r), some (.ref ea), some (.ref fa), some (.ref wa), some (.bl io)] ∧ Chg [X.r, fa, wa] H H' ∧ RdAt K cReader X H' b' p' ∧ H' fa = some (.lst vf') ∧ Its K H' vf' fd' ∧ H' wa = some (.lst (stk w')) ∧
        fd'.length + w'.length + 2 * b'.length ≤ 25000 ∧ (io = true → exL ends m fd' w' b' p' = expr ends b p) ∧ (io = false → expr ends b p = .ok (fd' ++ rest w', b', p')),
      ⟨b.length + 1, true, b, p, [], [], [], rfl, chgS s00, R.chg (S := []) (chgS s00) (by simp), by rw [upd_ne hfw, upd_same], its_nil, upd_same, by show 0 + 0 + 2 * b.length ≤ 25000; omega, fun _ => rfl, fun z => by cases z⟩, ?_⟩
    rintro m σ H' ⟨io, b', p', w', vf', fd', rfl, ch, R', hf', hi', hw', hsz, z1, z2⟩
    refine ⟨_, rfl, _, rfl, ?_⟩
    cases io with
    | false =>
      refine ite2 (fun n => absurd n (by decide)) (fun _ => ?_)
      have e0 := z2 rfl
      -- what waits still, the last first
      refine ⟨fun m σ H2 => ∃ vf2 fd2 w2, σ = [some (.ref X.r), some (.ref ea), some (.ref fa), some (.ref wa), some (.bl false)] ∧ Chg [X.r, fa, wa] H H2 ∧ RdAt K cReader X H2 b' p' ∧ H2 fa = some (.lst vf2) ∧ Its K H2 vf2 fd2 ∧ H2 wa = some (.lst (stk w2)) ∧ fd2 ++ rest w2 = fd' ++ rest w' ∧ fd2.length + w2.length ≤ 25000 ∧ m = w2.length,
        ⟨_, vf', fd', w', rfl, ch, R', hf', hi', hw', rfl, by omega, rfl⟩, ?_⟩
      rintro m σ H2 ⟨vf2, fd2, w2, rfl, c2, R2, hf2, hi2, hw2, e2, hz2, rfl⟩
      refine ⟨_, rfl, Nat.zero_le _, fun q0 hq0 => ?_⟩
      have t0 : Same H2 (upd H2 q0 (.lst [])) := fun b o e => by rw [upd_ne (ne_of_none e hq0)]; exact e
      refine ⟨wa, q0, _, rfl, rfl, SqL.of (t0 _ _ hw2), SqL.of upd_same, _, rfl, ?_⟩
      cases w2 with
      | nil =>
        refine ite2 (fun n => absurd n (by decide)) (fun _ => ?_)
        have e3 : fd2 = fd' ++ rest w' := by rw [← e2]; simp [rest]
        refine ⟨_, rfl, ?_⟩
        exact k _ _ _ e0 _ fa vf2 (cx (c2.trans (chgS t0))) (R2.chg (S := []) (chgS t0) (by simp)) hfa (t0 _ _ hf2) (by rw [← e3]; exact hi2.chg (S := []) (chgS t0)) (by rw [← e3]; omega)
      | cons c w2 =>
        have lw : (c :: w2).length = w2.length + 1 := rfl
        refine ite2 (fun _ => ?_) (fun n => absurd (by rw [stk_cons]; simp) n)
        refine ⟨fun σ' H3 => ∃ vf3 fd3 w3, σ' = [some (.ref X.r), some (.ref ea), some (.ref fa), some (.ref wa), some (.bl false)] ∧ Chg [X.r, fa, wa] H H3 ∧ RdAt K cReader X H3 b' p' ∧ H3 fa = some (.lst vf3) ∧ Its K H3 vf3 fd3 ∧ H3 wa = some (.lst (stk w3)) ∧ fd3 ++ rest w3 = fd' ++ rest w' ∧ fd3.length + w3.length ≤ 25000 ∧ w3.length < (c :: w2).length,
          fun σ' H3 ⟨vf3, fd3, w3, a1, a2, a3, a4, a5, a6, a7, a8, a9⟩ => ⟨w3.length, a9, vf3, fd3, w3, a1, a2, a3, a4, a5, a6, a7, a8, rfl⟩, ?_⟩
        have hf3 := t0 _ _ hf2
        have hw3 := t0 _ _ hw2
        refine ⟨_, rfl, .inl ⟨rfl, _, SqL.of hf3⟩, _, rfl, .inl ⟨rfl, _, SqL.of hw3⟩, wa, _, _, rfl, rfl, hw3, stk_last c w2, ?_⟩
        rw [stk_drop]
        refine ⟨sz (show 2 ≤ 100000 by decide), fun q hq => ?_⟩
        have hf4 : (upd (upd H2 q0 (.lst [])) wa (.lst (stk w2))) fa = some (.lst vf2) := by rw [upd_ne hfw]; exact hf3
        have nfq : fa ≠ q := fun z => by rw [z, hq] at hf4; cases hf4
        have nwq : wa ≠ q := fun z => by rw [← z, upd_same] at hq; cases hq
        have lv := hi2.len
        refine ⟨fa, _, _, rfl, rfl, by rw [upd_ne nfq]; exact hf4, szl (by omega), ?_⟩
        have cF : Chg [fa, wa] H2 (upd (upd (upd (upd H2 q0 (.lst [])) wa (.lst (stk w2))) q (.tup [.int c, .int 0])) fa (.lst (vf2 ++ [.ref q]))) :=
          (((chgS t0).set (by simp) hw3 (by intro z; exact z)).new hq).set (by simp) (by rw [upd_ne nfq]; exact hf4) (by intro z; exact z)
        refine ⟨_, fd2 ++ [(c, 0)], w2, rfl, c2.trans (cF.mono (by simp)), R2.chg cF (by simp; exact ⟨nrf, nrw⟩), upd_same, (hi2.chg cF).snoc (SqT.of (by rw [upd_ne (Ne.symm nfq), upd_same])), by rw [upd_ne (Ne.symm hfw), upd_ne nwq, upd_same], ?_, ?_, by omega⟩
        · rw [← e2, rest_cons]; simp
        · rw [List.length_append, List.length_singleton]; omega
    | true =>
      refine ite2 (fun _ => ?_) (fun n => absurd rfl n)
      have e0 := z1 rfl
      cases m with
      | zero => exact absurd e0.symm hnl
      | succ m =>
        rw [exL_succ2] at e0
        refine ⟨fun σ' H2 => ∃ io b2 p2 w2 vf2 fd2, σ' = [some (.ref X.r), some (.ref ea), some (.ref fa), some (.ref wa), some (.bl io)] ∧ Chg [X.r, fa, wa] H H2 ∧ RdAt K cReader X H2 b2 p2 ∧ H2 fa = some (.lst vf2) ∧ Its K H2 vf2 fd2 ∧ H2 wa = some (.lst (stk w2)) ∧
            fd2.length + w2.length + 2 * b2.length ≤ 25000 ∧ (io = true → exL ends m fd2 w2 b2 p2 = expr ends b p) ∧ (io = false → expr ends b p = .ok (fd2 ++ rest w2, b2, p2)),
          fun σ' H2 ⟨io, b2, p2, w2, vf2, fd2, a1, a2, a3, a4, a5, a6, a7, a8, a9⟩ => ⟨m, Nat.lt_succ_self _, io, b2, p2, w2, vf2, fd2, a1, a2, a3, a4, a5, a6, a7, a8, a9⟩, ?_⟩
        have lv := hi'.len
        refine ⟨_, rfl, _, rfl, _, rfl, X, fa, wa, b', p', vf', w', rfl, R', hf', hw', hfw, by omega, fun kk e => ?_, fun it w1 b1 p1 e H1 q1 c1 R1 hq1 hf1 hw1 => ?_⟩
        · rw [e] at e0
          exact fun d H'' c' hd => kE kk e0.symm d H'' (cx (ch.trans c')) hd
        · rw [e] at e0
          dsimp only at e0
          have ssz := rdOp_sz e
          have lf1 : (fd' ++ [it]).length = fd'.length + 1 := by rw [List.length_append, List.length_singleton]
          refine ⟨_, rfl, _, rfl, _, rfl, X, fa, wa, b1, p1, _, fd' ++ [it], w1, rfl, R1, hf1, (hi'.chg c1).snoc (SqT.of hq1), hw1, hfw, by omega, fun H2 vf2 c2 R2 hf2 hi2 hw2 => ?_⟩
          have csz := rdCl_sz b1 (fd' ++ [it]) w1 p1
          revert e0 csz R2 hi2 hw2
          generalize rdCl b1 (fd' ++ [it]) w1 p1 = z
          obtain ⟨fd2, w2, b2, p2⟩ := z
          intro e0 R2 hi2 hw2 csz
          dsimp only at R2 hi2 hw2 e0 csz
          have c3 : Chg [X.r, fa, wa] H H2 := (ch.trans c1).trans c2
          refine ⟨_, rfl, wa, w2.reverse, rfl, SqL.of hw2, (by rw [List.length_reverse]; omega), fun H3 i3 s3 n3 hi3 => ?_⟩
          rw [opens_rev] at hi3
          refine ⟨Nat.zero_le _, fun q0 hq0 => ?_⟩
          have t0 : Same H2 (upd H3 q0 (.lst [])) := fun b o e => by rw [upd_ne (ne_of_none (s3 _ _ e) hq0)]; exact s3 _ _ e
          have ni3 : i3 ≠ q0 := fun z => by rw [z, hq0] at hi3; cases hi3
          refine ⟨i3, q0, _, rfl, rfl, SqL.of (by rw [upd_ne ni3]; exact hi3), SqL.of upd_same, _, rfl, ?_⟩
          have R3 := R2.chg (S := []) (chgS t0) (by simp)
          have hf3 := t0 _ _ hf2
          have hw3 := t0 _ _ hw2
          have hi4 := hi2.chg (S := []) (chgS t0)
          have c4 : Chg [X.r, fa, wa] H (upd H3 q0 (.lst [])) := c3.trans (chgS t0)
          -- on: an operator
          have onw : ((opens w2).isEmpty && sees b2 ends) = false → ∀ H4, Same (upd H3 q0 (.lst [])) H4 → tIfS (tB (tVar 4)) (tDrop (tCall (spRdOr K cReader cFault) [] E (tCons (tVar 0) (tCons (tVar 2) (tCons (tVar 3) tNil))))) tNext
              { nx := fun σ' H2 => ∃ io b2 p2 w2 vf2 fd2, σ' = [some (.ref X.r), some (.ref ea), some (.ref fa), some (.ref wa), some (.bl io)] ∧ Chg [X.r, fa, wa] H H2 ∧ RdAt K cReader X H2 b2 p2 ∧ H2 fa = some (.lst vf2) ∧ Its K H2 vf2 fd2 ∧ H2 wa = some (.lst (stk w2)) ∧
                  fd2.length + w2.length + 2 * b2.length ≤ 25000 ∧ (io = true → exL ends m fd2 w2 b2 p2 = expr ends b p) ∧ (io = false → expr ends b p = .ok (fd2 ++ rest w2, b2, p2)), rt := Q }
              [some (.ref X.r), some (.ref ea), some (.ref fa), some (.ref wa), some (.bl true)] H4 := by
            intro hne H4 s4
            rw [hne, if_neg (by decide)] at e0
            have lv2 := hi2.len
            refine ⟨_, rfl, _, rfl, ?_⟩
            refine ite2 (fun _ => ?_) (fun n => absurd rfl n)
            refine ⟨_, rfl, _, rfl, _, rfl, X, fa, wa, b2, p2, vf2, fd2, w2, rfl, R3.chg (S := []) (chgS s4) (by simp), s4 _ _ hf3, hi4.chg (S := []) (chgS s4), s4 _ _ hw3, hfw, by omega, fun kk e => ?_, fun fd5 w5 b5 p5 e H5 vf5 c5 R5 hf5 hi5 hw5 => ?_⟩
            · rw [e] at e0
              exact fun d H'' c' hd => kE kk e0.symm d H'' (cx ((c4.trans (chgS s4)).trans c')) hd
            · rw [e] at e0
              have osz := rdOr_sz e
              exact ⟨true, b5, p5, w5, vf5, fd5, rfl, (c4.trans (chgS s4)).trans c5, R5, hf5, hi5, hw5, by omega, fun _ => e0, fun z => by cases z⟩
          cases ho : opens w2 with
          | cons o r =>
            refine ite2 (fun _ => ?_) (fun n => absurd (by simp) n)
            exact onw (by rw [ho]; rfl) _ (Same.refl _)
          | nil =>
            refine ite2 (fun n => absurd n (by decide)) (fun _ => ?_)
            have he3 : SqL K (upd H3 q0 (.lst [])) ea (vis ends) := R.sq he (cx c4)
            refine ⟨_, rfl, X.r, rfl, R3.ins, _, rfl, X, ea, b2, p2, ends, rfl, R3, .inl he3, _, rfl, ?_⟩
            cases hs : sees b2 ends with
            | false => exact onw (by rw [hs, Bool.and_false]) _ (Same.refl _)
            | true =>
              rw [ho, hs, if_pos (by decide)] at e0
              refine ⟨_, rfl, _, rfl, ?_⟩
              refine ite2 (fun n => absurd n (by decide)) (fun _ => ?_)
              exact ⟨false, b2, p2, w2, vf2, fd2, rfl, c4, R3, hf3, hi4, hw3, by omega, fun z => (by cases z), fun _ => e0.symm⟩
end
end Ab
/-! ## The walk: tests -/
namespace Ab
open PySem PySem.Spec PyProof.Rows L2
/-- at l a list of items, l being one of N -/
def ItL (K : PySem.W.Frag) (N : Addr → Prop) (H : Hp) (l : Addr) (its : Items) : Prop := N l ∧ ∃ vf, H l = some (.lst vf) ∧ Its K H vf its
theorem ItL.chg {K : PySem.W.Frag} {N : Addr → Prop} {S : List Addr} {H H' : Hp} {l : Addr} {its : Items} (h : ItL K N H l its) (c : Chg S H H') (n : l ∉ S) : ItL K N H' l its := by
  obtain ⟨h1, vf, h2, h3⟩ := h
  exact ⟨h1, vf, c.1 _ _ n h2, h3.chg c⟩
theorem ItL.imp {K : PySem.W.Frag} {N N' : Addr → Prop} {H : Hp} {l : Addr} {its : Items} (h : ItL K N H l its) (n : ∀ l, N l → N' l) : ItL K N' H l its := ⟨n _ h.1, h.2⟩
abbrev triV (y : Bool × Bool × Bool) : List V := [.bl y.1, .bl y.2.1, .bl y.2.2]
def TestAt (K : PySem.W.Frag) (N : Addr → Prop) (H : Hp) (v : V) (t : Items × (Bool × Bool × Bool) × Items) : Prop := ∃ q l y r, v = .ref q ∧ SqT K H q [.ref l, .ref y, .ref r] ∧ ItL K N H l t.1 ∧ SqT K H y (triV t.2.1) ∧ ItL K N H r t.2.2
def TestsAt (K : PySem.W.Frag) (N : Addr → Prop) (H : Hp) (vs : List V) (ts : Tests) : Prop := Paired (TestAt K N H) vs ts
theorem TestAt.chg {K : PySem.W.Frag} {N : Addr → Prop} {S : List Addr} {H H' : Hp} {v : V} {t} (h : TestAt K N H v t) (c : Chg S H H') (n : ∀ l, N l → (∃ vs, H l = some (.lst vs)) → l ∉ S) : TestAt K N H' v t := by
  obtain ⟨q, l, y, r, h1, h2, h3, h4, h5⟩ := h
  have k : ∀ {l its}, ItL K N H l its → l ∉ S := fun {l its} h => n l h.1 (by obtain ⟨_, vf, h2, _⟩ := h; exact ⟨_, h2⟩)
  exact ⟨q, l, y, r, h1, c.tup h2, h3.chg c (k h3), c.tup h4, h5.chg c (k h5)⟩
theorem TestsAt.chg {K : PySem.W.Frag} {N : Addr → Prop} {S : List Addr} {H H' : Hp} {vs : List V} {ts : Tests} (h : TestsAt K N H vs ts) (c : Chg S H H') (n : ∀ l, N l → (∃ vs, H l = some (.lst vs)) → l ∉ S) : TestsAt K N H' vs ts :=
  Paired.mapP h fun v t h => h.chg c n
theorem TestAt.imp {K : PySem.W.Frag} {N N' : Addr → Prop} {H : Hp} {v : V} {t} (h : TestAt K N H v t) (n : ∀ l, N l → N' l) : TestAt K N' H v t := by
  obtain ⟨q, l, y, r, h1, h2, h3, h4, h5⟩ := h
  exact ⟨q, l, y, r, h1, h2, h3.imp n, h4, h5.imp n⟩
theorem TestsAt.imp {K : PySem.W.Frag} {N N' : Addr → Prop} {H : Hp} {vs : List V} {ts : Tests} (h : TestsAt K N H vs ts) (n : ∀ l, N l → N' l) : TestsAt K N' H vs ts := Paired.mapP h fun v t h => h.imp n
theorem TestsAt.snoc {K : PySem.W.Frag} {N : Addr → Prop} {H : Hp} {vs : List V} {ts : Tests} {v : V} {t} (h : TestsAt K N H vs ts) (h2 : TestAt K N H v t) : TestsAt K N H (vs ++ [v]) (ts ++ [t]) := by
  unfold TestsAt at h ⊢
  induction h with
  | nil => exact .cons h2 .nil
  | cons a b ih => exact .cons a ih
theorem TestsAt.len {K : PySem.W.Frag} {N : Addr → Prop} {H : Hp} {vs : List V} {ts : Tests} (h : TestsAt K N H vs ts) : vs.length = ts.length := Paired.length h
section
variable {P : Program} {w : World} {K : PySem.W.Frag} {mg : Str → Option Value} {base : Heap} {cFault cRunFault cTooLong cBeadFrame cReader cLines cRun : Addr}
/-! ### compared -/
def spCompared (K : PySem.W.Frag) (C F : Addr) : Sp := fun vs H Q E => ∃ (X : Rdr) (b : List Int) (p : Nat), vs = [.ref X.r] ∧ RdAt K C X H b p ∧ (∀ k, cmp b p = .bad k → FE F E H [X.r] 11 k) ∧
  ∀ y b1 p1, cmp b p = .ok (y, b1, p1) → ∀ H' q, Chg [X.r] H H' → RdAt K C X H' b1 p1 → H q = none → H' q = some (.tup (triV y)) → Q (.ref q) H'
theorem cmp_cons2 (c : Int) (b : List Int) (p : Nat) : cmp (c :: b) p = if c = 61 then .ok ((false, true, false), b, p + 1)
    else if c = 62 then (match b with
      | [] => .ok ((false, false, true), [], p + 1)
      | d :: b1 => if d = 61 then .ok ((false, true, true), b1, p + 2) else .ok ((false, false, true), d :: b1, p + 1))
    else if c = 60 then (match b with
      | [] => .ok ((true, false, false), [], p + 1)
      | d :: b1 => if d = 61 then .ok ((true, true, false), b1, p + 2) else if d = 62 then .ok ((true, false, true), b1, p + 2) else .ok ((true, false, false), d :: b1, p + 1))
    else .bad p := rfl
theorem new1 {X : Rdr} {C : Addr} {H H' : Hp} {b : List Int} {p : Nat} {q : Addr} (R : RdAt K C X H' b p) (c : Chg [X.r] H H') (h : H' q = none) : H q = none := c.none h (fun m => by
  have : q = X.r := by simpa using m
  rw [this, R.obj] at h; cases h)
theorem ok_compared (T : Txt K mg cFault cRunFault cTooLong cBeadFrame cReader cLines cRun) : Df P w K mg base (L2.CX P w) 4 "compared" ["reader"] (spCompared K cReader cFault) := by
  refine df_mk T.d_compared fun f fd F => F.okX sc_compared (fun vs H Q E h => ?_) (fun cdv A outer s H vs Q E hr h => ?_)
  · obtain ⟨X, b, p, rfl, _⟩ := h
    rfl
  · obtain ⟨X, b, p, rfl, R, kE, k⟩ := h
    refine ⟨_, (pss_cons (ps_set (i := 1) sc_compared.nd rfl (Or.inl rfl) (pe_mf (ok_Reader_next_of T) (hr.mono (by decide)) (passE (takes_of rfl rfl rfl rfl)) (pv 0) (by exact (pa_cons (pe_lst (pa_cons (pe_gi T.c_LESS) (pa_cons (pe_gi T.c_EQUAL) (pa_cons (pe_gi T.c_GREATER) pa_nil)))) pa_nil)))) (pss_cons (ps_if (pt_cmpR op_eq (pv 1) (pe_gi T.c_EQUAL) (nomark _)) (pss_one (ps_ret (pe_tup (pa_cons pe_bl (pa_cons pe_bl (pa_cons pe_bl pa_nil)))))) pss_nil) (pss_cons (ps_if (pt_cmpR op_eq (pv 1) (pe_gi T.c_GREATER) (nomark _)) (pss_cons (ps_set (i := 2) sc_compared.nd rfl (Or.inl rfl) (pe_mf (ok_Reader_sees T) (hr.mono (by decide)) pass0 (pv 0) (by exact (pa_cons (pe_lst (pa_cons (pe_gi T.c_EQUAL) pa_nil)) pa_nil)))) (pss_cons (ps_if (pt_val (pv 2)) (pss_one (ps_expr (pe_mf (ok_Reader_next_of T) (hr.mono (by decide)) (passE (takes_of rfl rfl rfl rfl)) (pv 0) (by exact (pa_cons (pe_lst (pa_cons (pe_gi T.c_EQUAL) pa_nil)) pa_nil))))) pss_nil) (pss_one (ps_ret (pe_tup (pa_cons pe_bl (pa_cons (pv 2) (pa_cons pe_bl pa_nil)))))))) pss_nil) (pss_cons (ps_if (pt_val (pe_mf (ok_Reader_sees T) (hr.mono (by decide)) pass0 (pv 0) (by exact (pa_cons (pe_lst (pa_cons (pe_gi T.c_EQUAL) (pa_cons (pe_gi T.c_GREATER) pa_nil))) pa_nil)))) (pss_one (ps_ret (pe_ifExp (pt_cmpR op_eq (pe_mf (ok_Reader_next_of T) (hr.mono (by decide)) (passE (takes_of rfl rfl rfl rfl)) (pv 0) (by exact (pa_cons (pe_lst (pa_cons (pe_gi T.c_EQUAL) (pa_cons (pe_gi T.c_GREATER) pa_nil))) pa_nil))) (pe_gi T.c_EQUAL) (nomark _)) (pe_tup (pa_cons pe_bl (pa_cons pe_bl (pa_cons pe_bl pa_nil)))) (pe_tup (pa_cons pe_bl (pa_cons pe_bl (pa_cons pe_bl pa_nil))))))) pss_nil) (pss_one (ps_ret (pe_tup (pa_cons pe_bl (pa_cons pe_bl (pa_cons pe_bl pa_nil)))))))))), ?_⟩
    -- a triple is made, handed back
    have done : ∀ (y : Bool × Bool × Bool) (b1 : List Int) (p1 : Nat) (σ : L2.St) H1, cmp b p = .ok (y, b1, p1) → Chg [X.r] H H1 → RdAt K cReader X H1 b1 p1 → (triV y).length ≤ sizeLine ∧ ∀ q, H1 q = none → Q (.ref q) (upd H1 q (.tup (triV y))) :=
      fun y b1 p1 σ H1 e c R1 => ⟨sz (show 3 ≤ 100000 by decide), fun q hq => k y b1 p1 e _ q (c.new hq) (R1.chg ((Chg.refl H1).new hq (S := [])) (by simp)) (new1 R1 c hq) upd_same⟩
    refine ⟨_, rfl, X.r, rfl, R.ins, sz (show 3 ≤ 100000 by decide), fun q0 hq0 => ?_⟩
    have c0 : Chg [] H (upd H q0 (.lst [.int 60, .int 61, .int 62])) := (Chg.refl H).new hq0
    have R0 := R.chg c0 (by simp)
    refine ⟨X, q0, b, p, [60, 61, 62], rfl, R0, .inl (SqL.of upd_same), fun kk e => ?_, fun c b1 p1 e H1 c1 R1 => ?_⟩
    · refine (kE kk ?_).sub (c0.mono (by simp)) (by simp)
      cases b with
      | nil => rw [nx] at e; cases e; rfl
      | cons c b =>
        have e : (if ([60, 61, 62] : List Int).contains c = true then Ab.R.ok (c, b, p + 1) else Ab.R.bad p) = Ab.R.bad kk := e
        split at e
        · cases e
        · rename_i n
          cases e
          have n : ¬ (c = 60 ∨ c = 61 ∨ c = 62) := by simpa using n
          rw [cmp_cons2, if_neg (by omega), if_neg (by omega), if_neg (by omega)]
    · obtain ⟨rfl, rfl, hc⟩ := nx_ok e
      have hc : c = 60 ∨ c = 61 ∨ c = 62 := by simpa using hc
      have ch1 : Chg [X.r] H H1 := (c0.mono (by simp)).trans c1
      have ec := cmp_cons2 c b1 p
      refine ⟨_, rfl, rfl, _, rfl, ?_⟩
      by_cases h61 : c = 61
      · refine ite2 (fun _ => ?_) (fun n => absurd (decide_eq_true (by rw [h61])) n)
        rw [if_pos h61] at ec
        exact done (false, true, false) _ _ [] _ ec ch1 R1
      · refine ite2 (fun n => absurd (V.int.inj (of_decide_eq_true n)) h61) (fun _ => ?_)
        rw [if_neg h61] at ec
        refine ⟨_, rfl, rfl, _, rfl, ?_⟩
        by_cases h62 : c = 62
        · refine ite2 (fun _ => ?_) (fun n => absurd (decide_eq_true (by rw [h62])) n)
          rw [if_pos h62] at ec
          refine ⟨_, rfl, X.r, rfl, R1.ins, sz (show 1 ≤ 100000 by decide), fun q1 hq1 => ?_⟩
          have d1 : Chg [] H1 (upd H1 q1 (.lst [.int 61])) := (Chg.refl H1).new hq1
          have R2 := R1.chg d1 (by simp)
          have ch2 : Chg [X.r] H (upd H1 q1 (.lst [.int 61])) := ch1.trans (d1.mono (by simp))
          refine ⟨X, q1, b1, p + 1, [61], rfl, R2, .inl (SqL.of upd_same), ?_⟩
          refine ⟨_, rfl, _, rfl, ?_⟩
          cases hs : sees b1 [61] with
          | true =>
            obtain ⟨d, b2, rfl, en, hd⟩ := sees_nx (p := p + 1) hs
            have hd : d = 61 := by simpa using hd
            subst hd
            dsimp only at ec
            rw [if_pos rfl] at ec
            refine ite2 (fun _ => ?_) (fun n => absurd rfl n)
            refine ⟨_, rfl, X.r, rfl, R2.ins, sz (show 1 ≤ 100000 by decide), fun q2 hq2 => ?_⟩
            have d2 : Chg [] (upd H1 q1 (.lst [.int 61])) (upd (upd H1 q1 (.lst [.int 61])) q2 (.lst [.int 61])) := (Chg.refl _).new hq2
            have R3 := R2.chg d2 (by simp)
            refine ⟨X, q2, 61 :: b2, p + 1, [61], rfl, R3, .inl (SqL.of upd_same), fun kk e => (by rw [en] at e; cases e), fun c3 b3 p3 e H3 c3' R4 => ?_⟩
            rw [en] at e
            cases e
            refine ⟨_, rfl, ?_⟩
            exact done (false, true, true) _ _ [] _ ec ((ch2.trans (d2.mono (by simp))).trans c3') R4
          | false =>
            refine ite2 (fun n => absurd n (by decide)) (fun _ => ?_)
            refine ⟨_, rfl, ?_⟩
            refine done (false, false, true) b1 (p + 1) [] _ ?_ ch2 R2
            rw [ec]
            cases b1 with
            | nil => rfl
            | cons d b2 =>
              dsimp only
              rw [if_neg]
              intro z
              subst z
              exact absurd hs (by rw [show sees (61 :: b2) [61] = ([61] : List Int).contains 61 from rfl]; decide)
        · refine ite2 (fun n => absurd (V.int.inj (of_decide_eq_true n)) h62) (fun _ => ?_)
          have h60 : c = 60 := by omega
          rw [if_neg h62, if_pos h60] at ec
          refine ⟨_, rfl, X.r, rfl, R1.ins, sz (show 2 ≤ 100000 by decide), fun q1 hq1 => ?_⟩
          have d1 : Chg [] H1 (upd H1 q1 (.lst [.int 61, .int 62])) := (Chg.refl H1).new hq1
          have R2 := R1.chg d1 (by simp)
          have ch2 : Chg [X.r] H (upd H1 q1 (.lst [.int 61, .int 62])) := ch1.trans (d1.mono (by simp))
          refine ⟨X, q1, b1, p + 1, [61, 62], rfl, R2, .inl (SqL.of upd_same), _, rfl, ?_⟩
          cases hs : sees b1 [61, 62] with
          | true =>
            obtain ⟨d, b2, rfl, en, hd⟩ := sees_nx (p := p + 1) hs
            have hd : d = 61 ∨ d = 62 := by simpa using hd
            dsimp only at ec
            refine ite2 (fun _ => ?_) (fun n => absurd rfl n)
            refine ⟨_, rfl, X.r, rfl, R2.ins, sz (show 2 ≤ 100000 by decide), fun q2 hq2 => ?_⟩
            have d2 : Chg [] (upd H1 q1 (.lst [.int 61, .int 62])) (upd (upd H1 q1 (.lst [.int 61, .int 62])) q2 (.lst [.int 61, .int 62])) := (Chg.refl _).new hq2
            have R3 := R2.chg d2 (by simp)
            refine ⟨X, q2, d :: b2, p + 1, [61, 62], rfl, R3, .inl (SqL.of upd_same), fun kk e => (by rw [en] at e; cases e), fun c3 b3 p3 e H3 c3' R4 => ?_⟩
            rw [en] at e
            cases e
            have ch4 := (ch2.trans (d2.mono (by simp))).trans c3'
            refine ⟨rfl, _, rfl, ?_⟩
            by_cases hd1 : d = 61
            · refine ite2 (fun _ => ?_) (fun n => absurd (decide_eq_true (by rw [hd1])) n)
              rw [if_pos hd1] at ec
              exact done (true, true, false) _ _ [] _ ec ch4 R4
            · refine ite2 (fun n => absurd (V.int.inj (of_decide_eq_true n)) hd1) (fun _ => ?_)
              rw [if_neg hd1, if_pos (by omega)] at ec
              exact done (true, false, true) _ _ [] _ ec ch4 R4
          | false =>
            refine ite2 (fun n => absurd n (by decide)) (fun _ => ?_)
            refine done (true, false, false) b1 (p + 1) [] _ ?_ ch2 R2
            rw [ec]
            cases b1 with
            | nil => rfl
            | cons d b2 =>
              have hn : ¬ (d = 61 ∨ d = 62) := by
                intro z
                rw [show sees (d :: b2) [61, 62] = ([61, 62] : List Int).contains d from rfl] at hs
                have : ([61, 62] : List Int).contains d = true := by simpa using z
                rw [this] at hs
                cases hs
              dsimp only
              rw [if_neg (by omega), if_neg (by omega)]
/-! ### condition -/
def spCondition (K : PySem.W.Frag) (C F : Addr) : Sp := fun vs H Q E => ∃ (X : Rdr) (b : List Int) (p : Nat), vs = [.ref X.r] ∧ RdAt K C X H b p ∧ (∀ k, cond b p = .bad k → FE F E H [X.r] 11 k) ∧
  ∀ ts b1 p1, cond b p = .ok (ts, b1, p1) → ∀ H' q vs, Chg [X.r] H H' → RdAt K C X H' b1 p1 → H q = none → H' q = some (.lst vs) → TestsAt K (fun l => H l = none) H' vs ts → Q (.ref q) H'
theorem and_codes : codes (Str.ofString " and ") = andL := by decide +kernel
theorem cdL_succ (f : Nat) (ts : Tests) (b : List Int) (p : Nat) : cdL (f + 1) ts b p = match expr [60, 61, 62] b p with
    | .lost => .lost
    | .bad k => .bad k
    | .ok (l, b1, p1) => match cmp b1 p1 with
      | .lost => .lost
      | .bad k => .bad k
      | .ok (y, b2, p2) => match expr [32, 10] b2 p2 with
        | .lost => .lost
        | .bad k => .bad k
        | .ok (r, b3, p3) => if sees b3 [32] = true then (match word andL b3 p3 with
            | .lost => .lost
            | .bad k => .bad k
            | .ok (b4, p4) => cdL f (ts ++ [(l, y, r)]) b4 p4)
          else .ok (ts ++ [(l, y, r)], b3, p3) := rfl
theorem ok_condition (T : Txt K mg cFault cRunFault cTooLong cBeadFrame cReader cLines cRun) (hnl : ∀ b p, cond b p ≠ .lost) : Df P w K mg base (L2.CX P w) 8 "condition" ["reader"] (spCondition K cReader cFault) := by
  refine df_mk T.d_condition fun f fd F => F.okX sc_condition (fun vs H Q E h => ?_) (fun cdv A outer s H vs Q E hr h => ?_)
  · obtain ⟨X, b, p, rfl, _⟩ := h
    rfl
  · obtain ⟨X, b, p, rfl, R, kE, k⟩ := h
    refine ⟨_, (pss_cons (ps_set (i := 1) sc_condition.nd rfl (Or.inl rfl) (pe_lst pa_nil)) (pss_cons (ps_set (i := 2) sc_condition.nd rfl (Or.inl rfl) pe_bl) (pss_cons (ps_while (passes_of rfl) (pt_val (pv 2)) (pss_cons (ps_set (i := 3) sc_condition.nd rfl (Or.inl rfl) (pe_df (ok_expression T) (hr.mono (by decide)) (passE (takes_of rfl rfl rfl rfl)) (by exact (pa_cons (pv 0) (pa_cons (pe_lst (pa_cons (pe_gi T.c_LESS) (pa_cons (pe_gi T.c_EQUAL) (pa_cons (pe_gi T.c_GREATER) pa_nil)))) pa_nil))))) (pss_cons (ps_set (i := 4) sc_condition.nd rfl (Or.inl rfl) (pe_df (ok_compared T) (hr.mono (by decide)) (passE (takes_of rfl rfl rfl rfl)) (by exact (pa_cons (pv 0) pa_nil)))) (pss_cons (ps_expr (pe_bm PySem.F.plainAttrs_list PySem.F.slot_list_append PySem.F.type_list_append mt_append (pv 1) (pa_cons (pe_tup (pa_cons (pv 3) (pa_cons (pv 4) (pa_cons (pe_df (ok_expression T) (hr.mono (by decide)) (passE (takes_of rfl rfl rfl rfl)) (by exact (pa_cons (pv 0) (pa_cons (pe_lst (pa_cons (pe_gi T.c_BLANK) (pa_cons (pe_gi T.c_LINE_FEED) pa_nil))) pa_nil)))) pa_nil)))) pa_nil))) (pss_cons (ps_set (i := 2) sc_condition.nd rfl (Or.inl rfl) (pe_mf (ok_Reader_sees T) (hr.mono (by decide)) pass0 (pv 0) (by exact (pa_cons (pe_lst (pa_cons (pe_gi T.c_BLANK) pa_nil)) pa_nil)))) (pss_one (ps_if (pt_val (pv 2)) (pss_one (ps_expr (pe_mf (ok_Reader_word T) (hr.mono (by decide)) (passE (takes_of rfl rfl rfl rfl)) (pv 0) (by exact (pa_cons (pe_df (ok_bytes_of T) (hr.mono (by decide)) pass0 (by exact (pa_cons pe_str pa_nil))) pa_nil))))) pss_nil))))))) (pss_one (ps_ret (pv 1)))))), ?_⟩
    refine ⟨Nat.zero_le _, fun fa hfa => ?_⟩
    have s0 : Same H (upd H fa (.lst [])) := fun b o e => by rw [upd_ne (ne_of_none e hfa)]; exact e
    have nrf : X.r ≠ fa := ne_of_none R.obj hfa
    have hb5 := R.len
    have hb6 := R.small
    have cx : ∀ {H'}, Chg [X.r, fa] H H' → Chg [X.r] H H' := fun {H'} c => ⟨fun x o n e => c.1 x o (by simp only [List.mem_cons, List.not_mem_nil, or_false, not_or]; exact ⟨by simpa using n, ne_of_none e hfa⟩) e, c.2⟩
    refine ⟨fun m σ H' => ∃ io b' p' ts' vs' v1 v2, σ = [some (.ref X.r), some (.ref fa), some (.bl io), v1, v2] ∧ Chg [X.r, fa] H H' ∧ RdAt K cReader X H' b' p' ∧ H' fa = some (.lst vs') ∧ TestsAt K (fun l => H l = none ∧ l ≠ fa) H' vs' ts' ∧ ts'.length + b'.length ≤ 10000 ∧
        (io = true → cdL m ts' b' p' = cond b p) ∧ (io = false → cond b p = .ok (ts', b', p')),
      ⟨b.length + 1, true, b, p, [], [], none, none, rfl, chgS s0, R.chg (S := []) (chgS s0) (by simp), upd_same, Paired.nil, by show 0 + b.length ≤ 10000; omega, fun _ => rfl, fun z => by cases z⟩, ?_⟩
    rintro m σ H' ⟨io, b', p', ts', vs', v1, v2, rfl, ch, R', hf', ht', hsz, z1, z2⟩
    refine ⟨_, rfl, _, rfl, ?_⟩
    cases io with
    | false =>
      refine ite2 (fun n => absurd n (by decide)) (fun _ => ?_)
      refine ⟨_, rfl, ?_⟩
      exact k ts' b' p' (z2 rfl) H' fa vs' (cx ch) R' hfa hf' (ht'.imp fun l h => h.1)
    | true =>
      refine ite2 (fun _ => ?_) (fun n => absurd rfl n)
      have e0 := z1 rfl
      cases m with
      | zero => exact absurd e0.symm (hnl b p)
      | succ m =>
        rw [cdL_succ] at e0
        refine ⟨fun σ' H2 => ∃ io b2 p2 ts2 vs2 v1 v2, σ' = [some (.ref X.r), some (.ref fa), some (.bl io), v1, v2] ∧ Chg [X.r, fa] H H2 ∧ RdAt K cReader X H2 b2 p2 ∧ H2 fa = some (.lst vs2) ∧ TestsAt K (fun l => H l = none ∧ l ≠ fa) H2 vs2 ts2 ∧ ts2.length + b2.length ≤ 10000 ∧
            (io = true → cdL m ts2 b2 p2 = cond b p) ∧ (io = false → cond b p = .ok (ts2, b2, p2)),
          fun σ' H2 ⟨io, b2, p2, ts2, vs2, v1, v2, a1, a2, a3, a4, a5, a6, a7, a8⟩ => ⟨m, Nat.lt_succ_self _, io, b2, p2, ts2, vs2, v1, v2, a1, a2, a3, a4, a5, a6, a7, a8⟩, ?_⟩
        -- the left side
        refine ⟨_, rfl, sz (show 3 ≤ 100000 by decide), fun q0 hq0 => ?_⟩
        have t0 : Same H' (upd H' q0 (.lst [.int 60, .int 61, .int 62])) := fun b o e => by rw [upd_ne (ne_of_none e hq0)]; exact e
        have c0 : Chg [X.r, fa] H (upd H' q0 (.lst [.int 60, .int 61, .int 62])) := ch.trans (chgS t0)
        refine ⟨X, q0, [60, 61, 62], b', p', rfl, R'.chg (S := []) (chgS t0) (by simp), SqL.of upd_same, fun kk e => ?_, fun it1 b1 p1 e H1 q1 vf1 c1 R1 n1 hq1 hi1 hl1 => ?_⟩
        · rw [e] at e0
          exact fun d H'' c' hd => kE kk e0.symm d H'' (cx (c0.trans (c'.mono (by simp)))) hd
        rw [e] at e0
        dsimp only at e0
        have l1 := expr_len e
        have c1' : Chg [X.r, fa] H H1 := c0.trans (c1.mono (by simp))
        have hf1 : H1 fa = some (.lst vs') := c1.1 _ _ (by simpa using Ne.symm nrf) (t0 _ _ hf')
        have ht1 : TestsAt K (fun l => H l = none ∧ l ≠ fa) H1 vs' ts' := (ht'.chg (S := []) (chgS t0) (fun l _ _ => by simp)).chg c1 (fun l h _ m => by
          have : l = X.r := by simpa using m
          rw [this, R.obj] at h; cases h.1)
        have nq1 : H q1 = none ∧ q1 ≠ fa := ⟨c0.none n1 (fun m => by
            simp only [List.mem_cons, List.not_mem_nil, or_false] at m
            rcases m with m | m
            · rw [m] at n1; rw [t0 _ _ R'.obj] at n1; cases n1
            · rw [m, t0 _ _ hf'] at n1; cases n1), fun z => by rw [z, t0 _ _ hf'] at n1; cases n1⟩
        have I1 : ItL K (fun l => H l = none ∧ l ≠ fa) H1 q1 it1 := ⟨nq1, vf1, hq1, hi1⟩
        -- by what
        refine ⟨_, rfl, X, b1, p1, rfl, R1, fun kk e => ?_, fun y b2 p2 e H2 q2 c2 R2 n2 hq2 => ?_⟩
        · rw [e] at e0
          exact fun d H'' c' hd => kE kk e0.symm d H'' (cx (c1'.trans (c'.mono (by simp)))) hd
        rw [e] at e0
        dsimp only at e0
        have l2 := cmp_len e
        have c2' : Chg [X.r, fa] H H2 := c1'.trans (c2.mono (by simp))
        have nX : ∀ l, (H l = none ∧ l ≠ fa) → l ∉ [X.r] := fun l h m => by
          have : l = X.r := by simpa using m
          rw [this, R.obj] at h; cases h.1
        have hf2 : H2 fa = some (.lst vs') := c2.1 _ _ (by simpa using Ne.symm nrf) hf1
        have ht2 := ht1.chg c2 (fun l h _ => nX l h)
        have I2 := I1.chg c2 (nX q1 nq1)
        -- the right side
        refine ⟨_, rfl, .inl ⟨rfl, _, SqL.of hf2⟩, _, rfl, _, rfl, _, rfl, sz (show 2 ≤ 100000 by decide), fun q3 hq3 => ?_⟩
        have t3 : Same H2 (upd H2 q3 (.lst [.int 32, .int 10])) := fun b o e => by rw [upd_ne (ne_of_none e hq3)]; exact e
        have c3 : Chg [X.r, fa] H (upd H2 q3 (.lst [.int 32, .int 10])) := c2'.trans (chgS t3)
        refine ⟨X, q3, [32, 10], b2, p2, rfl, R2.chg (S := []) (chgS t3) (by simp), SqL.of upd_same, fun kk e => ?_, fun it4 b4 p4 e H4 q4 vf4 c4 R4 n4 hq4 hi4 hl4 => ?_⟩
        · rw [e] at e0
          exact fun d H'' c' hd => kE kk e0.symm d H'' (cx (c3.trans (c'.mono (by simp)))) hd
        rw [e] at e0
        dsimp only at e0
        have l4 := expr_len e
        have c4' : Chg [X.r, fa] H H4 := c3.trans (c4.mono (by simp))
        have hf4 : H4 fa = some (.lst vs') := c4.1 _ _ (by simpa using Ne.symm nrf) (t3 _ _ hf2)
        have nq4 : H q4 = none ∧ q4 ≠ fa := ⟨c3.none n4 (fun m => by
            simp only [List.mem_cons, List.not_mem_nil, or_false] at m
            rcases m with m | m
            · rw [m] at n4; rw [t3 _ _ R2.obj] at n4; cases n4
            · rw [m, t3 _ _ hf2] at n4; cases n4), fun z => by rw [z, t3 _ _ hf2] at n4; cases n4⟩
        have I4 : ItL K (fun l => H l = none ∧ l ≠ fa) H4 q4 it4 := ⟨nq4, vf4, hq4, hi4⟩
        have I24 := (I2.chg (S := []) (chgS t3) (by simp)).chg c4 (nX q1 nq1)
        have ht4 := (ht2.chg (S := []) (chgS t3) (fun l _ _ => by simp)).chg c4 (fun l h _ => nX l h)
        have hy4 : SqT K H4 q2 (triV y) := (chgS t3 |>.trans (c4.mono (by simp)) : Chg [X.r] H2 H4).tup (SqT.of hq2)
        refine ⟨sz (show 3 ≤ 100000 by decide), fun q5 hq5 => ?_⟩
        have nf5 : fa ≠ q5 := fun z => by rw [z, hq5] at hf4; cases hf4
        have lt := ht4.len
        refine ⟨fa, _, _, rfl, rfl, by rw [upd_ne nf5]; exact hf4, szl (by omega), ?_⟩
        have cF : Chg [fa] H4 (upd (upd H4 q5 (.tup [.ref q1, .ref q2, .ref q4])) fa (.lst (vs' ++ [.ref q5]))) := ((Chg.refl H4).new hq5).set (by simp) (by rw [upd_ne nf5]; exact hf4) (by intro z; exact z)
        have nF : ∀ l, (H l = none ∧ l ≠ fa) → l ∉ [fa] := fun l h => by simpa using h.2
        have ht5 : TestsAt K (fun l => H l = none ∧ l ≠ fa) (upd (upd H4 q5 (.tup [.ref q1, .ref q2, .ref q4])) fa (.lst (vs' ++ [.ref q5]))) (vs' ++ [.ref q5]) (ts' ++ [(it1, y, it4)]) :=
          (ht4.chg cF (fun l h _ => nF l h)).snoc ⟨q5, q1, q2, q4, rfl, SqT.of (by rw [upd_ne (Ne.symm nf5), upd_same]), I24.chg cF (nF q1 nq1), cF.tup hy4, I4.chg cF (nF q4 nq4)⟩
        have hf5 : (upd (upd H4 q5 (.tup [.ref q1, .ref q2, .ref q4])) fa (.lst (vs' ++ [.ref q5]))) fa = some (.lst (vs' ++ [.ref q5])) := upd_same
        have R5 := R4.chg cF (by simpa using nrf)
        have c5 := c4'.trans (cF.mono (by simp))
        have l5 : (ts' ++ [(it1, y, it4)]).length = ts'.length + 1 := by rw [List.length_append, List.length_singleton]
        revert ht5 hf5 R5 c5
        generalize (upd (upd H4 q5 (.tup [.ref q1, .ref q2, .ref q4])) fa (.lst (vs' ++ [.ref q5]))) = H5
        intro ht5 hf5 R5 c5
        -- is there more
        refine ⟨_, rfl, X.r, rfl, R5.ins, sz (show 1 ≤ 100000 by decide), fun q6 hq6 => ?_⟩
        have t6 : Same H5 (upd H5 q6 (.lst [.int 32])) := fun b o e => by rw [upd_ne (ne_of_none e hq6)]; exact e
        have R6 := R5.chg (S := []) (chgS t6) (by simp)
        have c6 : Chg [X.r, fa] H (upd H5 q6 (.lst [.int 32])) := c5.trans (chgS t6)
        refine ⟨X, q6, b4, p4, [32], rfl, R6, .inl (SqL.of upd_same), ?_⟩
        refine ⟨_, rfl, _, rfl, ?_⟩
        cases hs : sees b4 [32] with
        | false =>
          rw [hs, if_neg (by decide)] at e0
          refine ite2 (fun n => absurd n (by decide)) (fun _ => ?_)
          exact ⟨false, b4, p4, _, _, _, _, rfl, c6, R6, t6 _ _ hf5, ht5.chg (S := []) (chgS t6) (fun l _ _ => by simp), by omega, fun z => (by cases z), fun _ => e0.symm⟩
        | true =>
          rw [hs, if_pos rfl] at e0
          refine ite2 (fun _ => ?_) (fun n => absurd rfl n)
          refine ⟨_, rfl, X.r, rfl, R6.ins, Str.ofString " and ", rfl, (by decide +kernel), fun H7 q7 s7 n7 hq7 => ?_⟩
          rw [and_codes] at hq7
          have R7 := R6.chg (S := []) (chgS s7) (by simp)
          have c7 := c6.trans (chgS s7)
          refine ⟨X, q7, b4, p4, andL, rfl, R7, SqL.of hq7, fun kk e => ?_, fun b8 p8 e H8 c8 R8 => ?_⟩
          · rw [e] at e0
            exact fun d H'' c' hd => kE kk e0.symm d H'' (cx (c7.trans (c'.mono (by simp)))) hd
          · rw [e] at e0
            have l8 := word_len e
            refine ⟨true, b8, p8, _, _, _, _, rfl, c7.trans (c8.mono (by simp)), R8, c8.1 _ _ (by simpa using Ne.symm nrf) (s7 _ _ (t6 _ _ hf5)), ((ht5.chg (S := []) (chgS t6) (fun l _ _ => by simp)).chg (S := []) (chgS s7) (fun l _ _ => by simp)).chg c8 (fun l h _ => nX l h), by omega, fun _ => e0, fun z => by cases z⟩
end
end Ab
/-! ## The walk: Lines -/
namespace Ab
open PySem PySem.Spec PyProof.Rows L2
def Refs (vs : List V) : Prop := ∀ v ∈ vs, ∃ q, v = V.ref q
theorem paired_refs {A : Type} {F : V → A → Prop} (hF : ∀ v a, F v a → ∃ q, v = V.ref q) : ∀ {vs : List V} {l : List A}, Paired F vs l → Refs vs := by
  intro vs l h
  induction h with
  | nil => intro v hv; cases hv
  | cons a b ih =>
    intro v hv
    rcases List.mem_cons.mp hv with e | m
    · rw [e]; exact hF _ _ a
    · exact ih v m
theorem Its.refs {K : PySem.W.Frag} {H : Hp} {vs : List V} {its : Items} (h : Its K H vs its) : Refs vs := paired_refs (fun v a ⟨q, e, _⟩ => ⟨q, e⟩) h
theorem TestsAt.refs {K : PySem.W.Frag} {N : Addr → Prop} {H : Hp} {vs : List V} {ts : Tests} (h : TestsAt K N H vs ts) : Refs vs := paired_refs (fun v a ⟨q, _, _, _, e, _⟩ => ⟨q, e⟩) h
/-- the lists that N lets in are none of S -/
def Off (N : Addr → Prop) (H : Hp) (S : List Addr) : Prop := ∀ l vs, N l → H l = some (.lst vs) → Refs vs → l ∉ S
theorem ItL.off {K : PySem.W.Frag} {N : Addr → Prop} {H H' : Hp} {S : List Addr} {l : Addr} {its : Items} (h : ItL K N H l its) (c : Chg S H H') (o : Off N H S) : ItL K N H' l its := by
  obtain ⟨h1, vf, h2, h3⟩ := h
  exact ⟨h1, vf, c.1 _ _ (o l vf h1 h2 h3.refs) h2, h3.chg c⟩
theorem TestsAt.off {K : PySem.W.Frag} {N : Addr → Prop} {H H' : Hp} {S : List Addr} {vs : List V} {ts : Tests} (h : TestsAt K N H vs ts) (c : Chg S H H') (o : Off N H S) : TestsAt K N H' vs ts :=
  Paired.mapP h fun v t ⟨q, l, y, r, h1, h2, h3, h4, h5⟩ => ⟨q, l, y, r, h1, c.tup h2, h3.off c o, c.tup h4, h5.off c o⟩
def PartAt (K : PySem.W.Frag) (N : Addr → Prop) (H : Hp) (v : V) : Part → Prop
  | .two x y => ∃ q l r, v = .ref q ∧ SqT K H q [.ref l, .ref r] ∧ ItL K N H l x ∧ ItL K N H r y
  | .set k x => ∃ q l, v = .ref q ∧ SqT K H q [.int k, .ref l] ∧ ItL K N H l x
  | .tests ts => ∃ q l vs, v = .ref q ∧ SqT K H q [.ref l] ∧ N l ∧ H l = some (.lst vs) ∧ TestsAt K N H vs ts
  | .nil => ∃ q, v = .ref q ∧ SqT K H q []
theorem PartAt.off {K : PySem.W.Frag} {N : Addr → Prop} {H H' : Hp} {S : List Addr} {v : V} {x : Part} (h : PartAt K N H v x) (c : Chg S H H') (o : Off N H S) : PartAt K N H' v x := by
  cases x with
  | two x y =>
    obtain ⟨q, l, r, h1, h2, h3, h4⟩ := h
    exact ⟨q, l, r, h1, c.tup h2, h3.off c o, h4.off c o⟩
  | set k x =>
    obtain ⟨q, l, h1, h2, h3⟩ := h
    exact ⟨q, l, h1, c.tup h2, h3.off c o⟩
  | tests ts =>
    obtain ⟨q, l, vs, h1, h2, h3, h4, h5⟩ := h
    exact ⟨q, l, vs, h1, c.tup h2, h3, c.1 _ _ (o l vs h3 h4 h5.refs) h4, h5.off c o⟩
  | nil =>
    obtain ⟨q, h1, h2⟩ := h
    exact ⟨q, h1, c.tup h2⟩
theorem PartAt.imp {K : PySem.W.Frag} {N N' : Addr → Prop} {H : Hp} {v : V} {x : Part} (h : PartAt K N H v x) (n : ∀ l, N l → N' l) : PartAt K N' H v x := by
  cases x with
  | two x y =>
    obtain ⟨q, l, r, h1, h2, h3, h4⟩ := h
    exact ⟨q, l, r, h1, h2, h3.imp n, h4.imp n⟩
  | set k x =>
    obtain ⟨q, l, h1, h2, h3⟩ := h
    exact ⟨q, l, h1, h2, h3.imp n⟩
  | tests ts =>
    obtain ⟨q, l, vs, h1, h2, h3, h4, h5⟩ := h
    exact ⟨q, l, vs, h1, h2, n _ h3, h4, h5.imp n⟩
  | nil => exact h
def nvs (l : List Nat) : List V := l.map fun (n : Nat) => V.int (n : Int)
theorem paired_snoc {A : Type} {F : V → A → Prop} {v : V} {x : A} (hx : F v x) : ∀ {vs : List V} {l : List A}, Paired F vs l → Paired F (vs ++ [v]) (l ++ [x]) := by
  intro vs l h
  induction h with
  | nil => exact .cons hx .nil
  | cons a b ih => exact .cons a ih
theorem nvs_len (l : List Nat) : (nvs l).length = l.length := List.length_map ..
theorem nvs_snoc (l : List Nat) (n : Nat) : nvs (l ++ [n]) = nvs l ++ [.int (n : Int)] := by simp [nvs]
theorem nvs_set (l : List Nat) (i n : Nat) : nvs (l.set i n) = (nvs l).set i (.int (n : Int)) := by simp [nvs]
theorem nvs_at {l : List Nat} {i n : Nat} (h : l[i]? = some n) : (nvs l)[i]? = some (.int (n : Int)) := by
  unfold nvs
  rw [List.getElem?_map, h]; rfl
def optV : Option Nat → V
  | none => .non
  | some m => .int (m : Int)
def OpAt (H : Hp) (v : V) (x : Nat × Option Nat) : Prop := ∃ a, v = .ref a ∧ H a = some (.lst [.int (x.1 : Int), optV x.2])
structure Lno where
  a : Addr
  dx : Addr
  w : Addr
  p : Addr
  g : Addr
  o : Addr
def fL (L : Lno) : List (Str × V) := [("words", .ref L.w), ("parts", .ref L.p), ("goals", .ref L.g), ("open_ones", .ref L.o)]
theorem fL_words (L) : (fL L).lookup ("words" : Str) = some (.ref L.w) := lk_eq
theorem fL_parts (L) : (fL L).lookup ("parts" : Str) = some (.ref L.p) := by
  unfold fL
  rw [lk_ne (by decide +kernel), lk_eq]
theorem fL_goals (L) : (fL L).lookup ("goals" : Str) = some (.ref L.g) := by
  unfold fL
  rw [lk_ne (by decide +kernel), lk_ne (by decide +kernel), lk_eq]
theorem fL_open (L) : (fL L).lookup ("open_ones" : Str) = some (.ref L.o) := by
  unfold fL
  rw [lk_ne (by decide +kernel), lk_ne (by decide +kernel), lk_ne (by decide +kernel), lk_eq]
theorem fL_no (L) {m : Str} (h1 : m ≠ "words") (h2 : m ≠ "parts") (h3 : m ≠ "goals") (h4 : m ≠ "open_ones") : (fL L).lookup m = none := by
  unfold fL
  rw [lk_ne h1, lk_ne h2, lk_ne h3, lk_ne h4]; rfl
/-- the four lists and the reader: what no part's list is -/
def N5 (r : Addr) (L : Lno) : Addr → Prop := fun l => l ∉ [r, L.w, L.p, L.g, L.o]
/-- Lines as they stand: behind the heap H0, which stands as it was -/
structure LnAt (K : PySem.W.Frag) (C : Addr) (H0 : Hp) (r : Addr) (L : Lno) (H : Hp) (s : LS) : Prop where
  base : Same H0 H
  new : ∀ x ∈ [r, L.a, L.w, L.p, L.g, L.o], H0 x = none
  obj : H L.a = some (.ins C L.dx (fL L))
  ra : r ≠ L.a
  rdr : ∃ C dx fs, H r = some (.ins C dx fs)
  nd : L.w ≠ L.p ∧ L.w ≠ L.g ∧ L.w ≠ L.o ∧ L.p ≠ L.g ∧ L.p ≠ L.o ∧ L.g ≠ L.o
  ws : H L.w = some (.lst (nvs s.ws))
  gs : H L.g = some (.lst (nvs s.gs))
  ps : ∃ vp, H L.p = some (.lst vp) ∧ Paired (PartAt K (N5 r L) H) vp s.ps
  os : ∃ vo, H L.o = some (.lst vo.reverse) ∧ Paired (OpAt H) vo s.os ∧ vo.Nodup ∧ ∀ a, V.ref a ∈ vo → a ∉ [L.w, L.p, L.g, L.o] ∧ H0 a = none
  gl : s.gs.length = s.ws.length
  pl : s.ps.length = s.ws.length
  sm : s.os.length ≤ 5000
theorem op_chg {S : List Addr} {H H' : Hp} (c : Chg S H H') : ∀ {vo : List V} {os : List (Nat × Option Nat)}, Paired (OpAt H) vo os → (∀ a, V.ref a ∈ vo → a ∉ S) → Paired (OpAt H') vo os := by
  intro vo os h
  induction h with
  | nil => intro _; exact .nil
  | @cons v x vs xs a b ih =>
    intro n
    obtain ⟨q, rfl, hq⟩ := a
    exact .cons ⟨q, rfl, c.1 _ _ (n q (List.mem_cons_self ..)) hq⟩ (ih fun a ha => n a (List.mem_cons_of_mem _ ha))
theorem op_lst {H : Hp} : ∀ {vo : List V} {os : List (Nat × Option Nat)}, Paired (OpAt H) vo os → ∀ a, V.ref a ∈ vo → ∃ i m, H a = some (.lst [.int i, m]) := by
  intro vo os h
  induction h with
  | nil => intro a ha; cases ha
  | @cons v x vs xs p b ih =>
    intro a ha
    obtain ⟨q, rfl, hq⟩ := p
    rcases List.mem_cons.mp ha with e | m
    · cases e; exact ⟨_, _, hq⟩
    · exact ih a m
section
variable {K : PySem.W.Frag} {C : Addr} {H0 H H' : Hp} {r : Addr} {L : Lno} {s : LS}
theorem LnAt.off {S : List Addr} (h : ∀ x ∈ S, x ∈ [r, L.w, L.p, L.g, L.o]) : Off (N5 r L) H S := fun l vs n _ _ m => n (h l m)
/-- what moves the reader alone leaves the lines -/
theorem LnAt.chg (h : LnAt K C H0 r L H s) (c : Chg [r] H H') (hr : ∃ C dx fs, H' r = some (.ins C dx fs)) : LnAt K C H0 r L H' s := by
  obtain ⟨C0, d0, f0, er⟩ := h.rdr
  have k : ∀ {a xs}, H a = some (.lst xs) → a ∉ [r] := fun {a xs} e m => by
    have : a = r := by simpa using m
    rw [this, er] at e; cases e
  obtain ⟨vp, p1, p2⟩ := h.ps
  obtain ⟨vo, o1, o2, o3, o4⟩ := h.os
  exact {
    base := fun b o e => c.1 b o (fun m => by
      have : b = r := by simpa using m
      rw [this, h.new r (by simp)] at e; cases e) (h.base b o e)
    new := h.new
    obj := c.1 _ _ (by simpa using Ne.symm h.ra) h.obj
    ra := h.ra
    rdr := hr
    nd := h.nd
    ws := c.1 _ _ (k h.ws) h.ws
    gs := c.1 _ _ (k h.gs) h.gs
    ps := ⟨vp, c.1 _ _ (k p1) p1, Paired.mapP p2 fun v x hx => hx.off c (LnAt.off (by simp))⟩
    os := ⟨vo, c.1 _ _ (k o1) o1, op_chg c o2 (fun a ha => by
      obtain ⟨i, m, e⟩ := op_lst o2 a ha
      exact k e), o3, o4⟩
    gl := h.gl
    pl := h.pl
    sm := h.sm }
theorem LnAt.same (h : LnAt K C H0 r L H s) (c : Same H H') : LnAt K C H0 r L H' s := by
  obtain ⟨C0, d0, f0, er⟩ := h.rdr
  exact h.chg (chgS c) ⟨C0, d0, f0, c _ _ er⟩
/-- the goals alone change -/
theorem LnAt.goals (h : LnAt K C H0 r L H s) (g : List Nat) (hg : g.length = s.gs.length) : LnAt K C H0 r L (upd H L.g (.lst (nvs g))) { s with gs := g } := by
  have c : Chg [L.g] H (upd H L.g (.lst (nvs g))) := (Chg.refl H).set (by simp) h.gs (by intro z; exact z)
  obtain ⟨C0, d0, f0, er⟩ := h.rdr
  obtain ⟨n1, n2, n3, n4, n5, n6⟩ := h.nd
  obtain ⟨vp, p1, p2⟩ := h.ps
  obtain ⟨vo, o1, o2, o3, o4⟩ := h.os
  exact {
    base := fun b o e => by rw [upd_ne (ne_of_none e (h.new L.g (by simp)))]; exact h.base b o e
    new := h.new
    obj := by rw [upd_ne (ne_of h.obj h.gs (by intro z; cases z))]; exact h.obj
    ra := h.ra
    rdr := ⟨C0, d0, f0, by rw [upd_ne (ne_of er h.gs (by intro z; cases z))]; exact er⟩
    nd := h.nd
    ws := by rw [upd_ne n2]; exact h.ws
    gs := upd_same
    ps := ⟨vp, by rw [upd_ne n4]; exact p1, Paired.mapP p2 fun v x hx => hx.off c (LnAt.off (by simp))⟩
    os := ⟨vo, by rw [upd_ne (Ne.symm n6)]; exact o1, op_chg c o2 (fun a ha m => (o4 a ha).1 (by have : a = L.g := by simpa using m
                                                                                                 simp [this])), o3, o4⟩
    gl := hg.trans h.gl
    pl := h.pl
    sm := h.sm }
/-- a line more: words, parts, goals -/
theorem LnAt.put3 (h : LnAt K C H0 r L H s) {k : Nat} {v : V} {x : Part} {vp : List V} (hp : H L.p = some (.lst vp)) (hv : PartAt K (N5 r L) H v x) :
    LnAt K C H0 r L (upd (upd (upd H L.w (.lst (nvs s.ws ++ [.int (k : Int)]))) L.p (.lst (vp ++ [v]))) L.g (.lst (nvs s.gs ++ [.int ((s.ws.length + 1 : Nat) : Int)]))) (s.put k x) := by
  obtain ⟨C0, d0, f0, er⟩ := h.rdr
  obtain ⟨n1, n2, n3, n4, n5, n6⟩ := h.nd
  obtain ⟨vp', p1, p2⟩ := h.ps
  obtain ⟨vo, o1, o2, o3, o4⟩ := h.os
  have e := p1.symm.trans hp
  cases e
  have c : Chg [L.w, L.p, L.g] H (upd (upd (upd H L.w (.lst (nvs s.ws ++ [.int (k : Int)]))) L.p (.lst (vp ++ [v]))) L.g (.lst (nvs s.gs ++ [.int ((s.ws.length + 1 : Nat) : Int)]))) :=
    (((Chg.refl H).set (by simp) h.ws (by intro z; exact z)).set (by simp) (by rw [upd_ne (Ne.symm n1)]; exact p1) (by intro z; exact z)).set (by simp) (by rw [upd_ne (Ne.symm n4), upd_ne (Ne.symm n2)]; exact h.gs) (by intro z; exact z)
  have nl : ∀ {a C dx fs}, H a = some (.ins C dx fs) → a ∉ [L.w, L.p, L.g] := fun {a C dx fs} e m => by
    rcases mem3 m with z | z | z
    · rw [z, h.ws] at e; cases e
    · rw [z, p1] at e; cases e
    · rw [z, h.gs] at e; cases e
  exact {
    base := fun b o e => c.1 b o (fun m => by
      rcases mem3 m with z | z | z
      · rw [z, h.new L.w (by simp)] at e; cases e
      · rw [z, h.new L.p (by simp)] at e; cases e
      · rw [z, h.new L.g (by simp)] at e; cases e) (h.base b o e)
    new := h.new
    obj := c.1 _ _ (nl h.obj) h.obj
    ra := h.ra
    rdr := ⟨C0, d0, f0, c.1 _ _ (nl er) er⟩
    nd := h.nd
    ws := by
      rw [upd_ne n2, upd_ne n1, upd_same]
      exact congrArg (fun z => some (HO.lst z)) (nvs_snoc s.ws k).symm
    gs := by
      rw [upd_same]
      exact congrArg (fun z => some (HO.lst z)) (nvs_snoc s.gs _).symm
    ps := ⟨vp ++ [v], by rw [upd_ne n4, upd_same], by
      have o := LnAt.off (r := r) (L := L) (H := H) (S := [L.w, L.p, L.g]) (by simp)
      have q := Paired.mapP p2 (G := PartAt K (N5 r L) (upd (upd (upd H L.w (.lst (nvs s.ws ++ [.int (k : Int)]))) L.p (.lst (vp ++ [v]))) L.g (.lst (nvs s.gs ++ [.int ((s.ws.length + 1 : Nat) : Int)])))) fun v x hx => hx.off c o
      have q2 := hv.off c o
      exact paired_snoc q2 q⟩
    os := ⟨vo, c.1 _ _ (not3 (Ne.symm n3) (Ne.symm n5) (Ne.symm n6)) o1, op_chg c o2 (fun a ha m => (o4 a ha).1 (by
      rcases mem3 m with z | z | z <;> simp [z])), o3, o4⟩
    gl := by
      show (s.gs ++ [_]).length = (s.ws ++ [_]).length
      rw [List.length_append, List.length_append, h.gl]; rfl
    pl := by
      show (s.ps ++ [_]).length = (s.ws ++ [_]).length
      rw [List.length_append, List.length_append, h.pl]; rfl
    sm := h.sm }
/-- an open one more -/
theorem LnAt.push (h : LnAt K C H0 r L H s) {vo : List V} {n : Addr} (ho : H L.o = some (.lst vo)) (hn : H n = none) (hs : s.os.length < 5000) (i : Nat) :
    LnAt K C H0 r L (upd (upd H n (.lst [.int (i : Int), .non])) L.o (.lst (vo ++ [.ref n]))) { s with os := (i, none) :: s.os } := by
  obtain ⟨C0, d0, f0, er⟩ := h.rdr
  obtain ⟨n1, n2, n3, n4, n5, n6⟩ := h.nd
  obtain ⟨vp, p1, p2⟩ := h.ps
  obtain ⟨vo', o1, o2, o3, o4⟩ := h.os
  have e := o1.symm.trans ho
  have e := HO.lst.inj (Option.some.inj e)
  subst e
  have no : n ≠ L.o := fun z => by rw [z, o1] at hn; cases hn
  have c : Chg [L.o] H (upd (upd H n (.lst [.int (i : Int), .non])) L.o (.lst (vo'.reverse ++ [.ref n]))) := ((Chg.refl H).new hn).set (by simp) (by rw [upd_ne (Ne.symm no)]; exact o1) (by intro z; exact z)
  have hn0 : H0 n = none := by
    cases q : H0 n with
    | none => rfl
    | some o => rw [h.base n o q] at hn; cases hn
  have nl : ∀ {a C dx fs}, H a = some (.ins C dx fs) → a ∉ [L.o] := fun {a C dx fs} e m => by
    have z : a = L.o := by simpa using m
    rw [z, o1] at e; cases e
  exact {
    base := fun b o e => c.1 b o (fun m => by
      have z : b = L.o := by simpa using m
      rw [z, h.new L.o (by simp)] at e; cases e) (h.base b o e)
    new := h.new
    obj := c.1 _ _ (nl h.obj) h.obj
    ra := h.ra
    rdr := ⟨C0, d0, f0, c.1 _ _ (nl er) er⟩
    nd := h.nd
    ws := c.1 _ _ (by simpa using n3) h.ws
    gs := c.1 _ _ (by simpa using n6) h.gs
    ps := ⟨vp, c.1 _ _ (by simpa using n5) p1, Paired.mapP p2 fun v x hx => hx.off c (LnAt.off (by simp))⟩
    os := ⟨.ref n :: vo', by rw [upd_same, List.reverse_cons], .cons ⟨n, rfl, by rw [upd_ne no, upd_same]; rfl⟩ (op_chg c o2 (fun a ha m => (o4 a ha).1 (by
        have : a = L.o := by simpa using m
        simp [this]))), List.nodup_cons.mpr ⟨fun m => (by
          obtain ⟨j, m2, e⟩ := op_lst o2 n m
          rw [hn] at e; cases e), o3⟩, fun a ha => by
        rcases List.mem_cons.mp ha with e | m
        · cases e
          refine ⟨fun m => ?_, hn0⟩
          simp only [List.mem_cons, List.not_mem_nil, or_false] at m
          rcases m with z | z | z | z
          · rw [z, h.ws] at hn; cases hn
          · rw [z, p1] at hn; cases hn
          · rw [z, h.gs] at hn; cases hn
          · exact no z
        · exact o4 a m⟩
    gl := h.gl
    pl := h.pl
    sm := hs }
/-- the last open one goes -/
theorem LnAt.pop (h : LnAt K C H0 r L H s) {x : Nat × Option Nat} {rs : List (Nat × Option Nat)} (hx : s.os = x :: rs) : ∃ a vo, H L.o = some (.lst (vo ++ [.ref a])) ∧ H a = some (.lst [.int (x.1 : Int), optV x.2]) ∧
    LnAt K C H0 r L (upd H L.o (.lst vo)) { s with os := rs } ∧ a ≠ L.o := by
  obtain ⟨C0, d0, f0, er⟩ := h.rdr
  obtain ⟨n1, n2, n3, n4, n5, n6⟩ := h.nd
  obtain ⟨vp, p1, p2⟩ := h.ps
  obtain ⟨vo', o1, o2, o3, o4⟩ := h.os
  have hsm := h.sm
  rw [hx] at o2 hsm
  cases o2 with
  | @cons v _ vs _ pa pb =>
    obtain ⟨a, rfl, ha⟩ := pa
    have c : Chg [L.o] H (upd H L.o (.lst vs.reverse)) := (Chg.refl H).set (by simp) o1 (by intro z; exact z)
    have nl : ∀ {a C dx fs}, H a = some (.ins C dx fs) → a ∉ [L.o] := fun {a C dx fs} e m => by
      have z : a = L.o := by simpa using m
      rw [z, o1] at e; cases e
    refine ⟨a, vs.reverse, by rw [o1, List.reverse_cons], ha, ?_, fun z => (o4 a (List.mem_cons_self ..)).1 (by simp [z])⟩
    exact {
      base := fun b o e => c.1 b o (fun m => by
        have z : b = L.o := by simpa using m
        rw [z, h.new L.o (by simp)] at e; cases e) (h.base b o e)
      new := h.new
      obj := c.1 _ _ (nl h.obj) h.obj
      ra := h.ra
      rdr := ⟨C0, d0, f0, c.1 _ _ (nl er) er⟩
      nd := h.nd
      ws := c.1 _ _ (by simpa using n3) h.ws
      gs := c.1 _ _ (by simpa using n6) h.gs
      ps := ⟨vp, c.1 _ _ (by simpa using n5) p1, Paired.mapP p2 fun v x hx => hx.off c (LnAt.off (by simp))⟩
      os := ⟨vs, upd_same, op_chg c pb (fun b hb m => (o4 b (List.mem_cons_of_mem _ hb)).1 (by
          have : b = L.o := by simpa using m
          simp [this])), (List.nodup_cons.mp o3).2, fun b hb => o4 b (List.mem_cons_of_mem _ hb)⟩
      gl := h.gl
      pl := h.pl
      sm := by
        have : (x :: rs).length = rs.length + 1 := rfl
        show rs.length ≤ 5000
        omega }
/-- the last open one has its else -/
theorem LnAt.mid (h : LnAt K C H0 r L H s) {b : Nat} {mm : Option Nat} {rs : List (Nat × Option Nat)} (hx : s.os = (b, mm) :: rs) (k : Nat) : ∃ a vo, H L.o = some (.lst (vo ++ [.ref a])) ∧ H a = some (.lst [.int (b : Int), optV mm]) ∧
    LnAt K C H0 r L (upd H a (.lst [.int (b : Int), .int (k : Int)])) { s with os := (b, some k) :: rs } := by
  obtain ⟨C0, d0, f0, er⟩ := h.rdr
  obtain ⟨n1, n2, n3, n4, n5, n6⟩ := h.nd
  obtain ⟨vp, p1, p2⟩ := h.ps
  obtain ⟨vo', o1, o2, o3, o4⟩ := h.os
  have hsm := h.sm
  rw [hx] at o2 hsm
  cases o2 with
  | @cons v _ vs _ pa pb =>
    obtain ⟨a, rfl, ha⟩ := pa
    obtain ⟨na, na0⟩ := o4 a (List.mem_cons_self ..)
    have c : Chg [a] H (upd H a (.lst [.int (b : Int), .int (k : Int)])) := (Chg.refl H).set (by simp) ha (by intro z; exact z)
    have na : a ≠ L.w ∧ a ≠ L.p ∧ a ≠ L.g ∧ a ≠ L.o := by simpa using na
    have nl : ∀ {d C dx fs}, H d = some (.ins C dx fs) → d ∉ [a] := fun {d C dx fs} e m => by
      have z : d = a := by simpa using m
      rw [z, ha] at e; cases e
    refine ⟨a, vs.reverse, by rw [o1, List.reverse_cons], ha, ?_⟩
    exact {
      base := fun d o e => c.1 d o (fun m => by
        have z : d = a := by simpa using m
        rw [z, na0] at e; cases e) (h.base d o e)
      new := h.new
      obj := c.1 _ _ (nl h.obj) h.obj
      ra := h.ra
      rdr := ⟨C0, d0, f0, c.1 _ _ (nl er) er⟩
      nd := h.nd
      ws := c.1 _ _ (by simpa using Ne.symm na.1) h.ws
      gs := c.1 _ _ (by simpa using Ne.symm na.2.2.1) h.gs
      ps := ⟨vp, c.1 _ _ (by simpa using Ne.symm na.2.1) p1, Paired.mapP p2 fun v x hx => hx.off c (fun l vs' _ e rf m => by
        have z : l = a := by simpa using m
        rw [z, ha] at e
        cases e
        obtain ⟨q, e⟩ := rf (.int (b : Int)) (List.mem_cons_self ..)
        cases e)⟩
      os := ⟨.ref a :: vs, by rw [upd_ne (Ne.symm na.2.2.2), o1], .cons ⟨a, rfl, upd_same⟩ (op_chg c pb (fun d hd m => by
          have z : d = a := by simpa using m
          rw [z] at hd
          exact (List.nodup_cons.mp o3).1 hd)), o3, o4⟩
      gl := h.gl
      pl := h.pl
      sm := hsm }
end
end Ab
/-! ## The walk: Lines' methods -/
namespace Ab
open PySem PySem.Spec PyProof.Rows L2
/-- all but plain lists stands as it was -/
def KL (H H' : Hp) : Prop := ∀ b o, (∀ xs, o ≠ .lst xs) → H b = some o → H' b = some o
theorem KL.refl (H : Hp) : KL H H := fun _ _ _ h => h
theorem KL.trans {H H1 H2 : Hp} (a : KL H H1) (b : KL H1 H2) : KL H H2 := fun x o n h => b x o n (a x o n h)
theorem Same.kl {H H' : Hp} (a : Same H H') : KL H H' := fun x o _ h => a x o h
theorem KL.set {H H' : Hp} {p : Addr} {xs : List V} {u : HO} (a : KL H H') (h : H' p = some (.lst xs)) : KL H (upd H' p u) := fun b o n e => by
  have q := a b o n e
  rw [upd_ne (fun z => by rw [z, h] at q; cases q; exact n xs rfl)]; exact q
theorem KL.new {H H' : Hp} {p : Addr} {u : HO} (a : KL H H') (h : H' p = none) : KL H (upd H' p u) := fun b o n e => by
  have q := a b o n e
  rw [upd_ne (ne_of_none q h)]; exact q
theorem RdAt.kl {K : PySem.W.Frag} {C : Addr} {X : Rdr} {H H' : Hp} {b : List Int} {p : Nat} (h : RdAt K C X H b p) (c : KL H H') : RdAt K C X H' b p :=
  ⟨c _ _ (by intro _ z; cases z) h.obj, by
    rcases h.txt with ⟨o, e⟩ | e
    · exact .inl ⟨o, c _ _ (by intro _ z; cases z) e⟩
    · exact .inr e, h.rest, h.len, h.small⟩
theorem upd_none {H : Hp} {a b : Addr} {o : HO} (h : upd H a o b = none) : b ≠ a ∧ H b = none := by
  by_cases e : b = a
  · rw [e, upd_same] at h; cases h
  · rw [upd_ne e] at h; exact ⟨e, h⟩
theorem mem4 {x a b c d : Addr} (h : x ∈ [a, b, c, d]) : x = a ∨ x = b ∨ x = c ∨ x = d := by simpa using h
theorem ixn_nat {n j : Nat} (h : j < n) : ixN n (j : Int) = some j := by
  unfold ixN
  rw [if_pos (by omega), if_pos (by omega)]; rfl
theorem ixn_last (n : Nat) : ixN (n + 1) (-1) = some n := by
  unfold ixN
  rw [if_neg (by omega), if_pos (by omega)]
  congr 1
  omega
section
variable {P : Program} {w : World} {K : PySem.W.Frag} {mg : Str → Option Value} {base : Heap} {cFault cRunFault cTooLong cBeadFrame cReader cLines cRun : Addr}
def spLines (C : Addr) : Sp := fun vs H Q _ => ∃ x dx, vs = [.ref x] ∧ H x = some (.ins C dx []) ∧ ∀ H' L, L.a = x → L.dx = dx → (∀ b o, b ≠ x → H b = some o → H' b = some o) → H' x = some (.ins C dx (fL L)) →
  (∀ y ∈ [L.w, L.p, L.g, L.o], H y = none) → (∀ y ∈ [L.w, L.p, L.g, L.o], H' y = some (.lst [])) → (L.w ≠ L.p ∧ L.w ≠ L.g ∧ L.w ≠ L.o ∧ L.p ≠ L.g ∧ L.p ≠ L.o ∧ L.g ≠ L.o) → Q .non H'
theorem ok_Lines___init__ (T : Txt K mg cFault cRunFault cTooLong cBeadFrame cReader cLines cRun) : Kf P w K mg base CX0 1 "Lines" cLines ["self"] (spLines cLines) := by
  refine kf_mk T.g_Lines T.d_Lines___init__ fun f fd F => F.ok sc_Lines___init__ (fun vs H Q E h => ?_) (fun cdv A outer s H vs Q E hr h => ?_)
  · obtain ⟨x, dx, rfl, _⟩ := h
    rfl
  · obtain ⟨x, dx, rfl, hx, k⟩ := h
    refine ⟨_, (pss_cons (ps_put (pv 0) (pe_lst pa_nil)) (pss_cons (ps_put (pv 0) (pe_lst pa_nil)) (pss_cons (ps_put (pv 0) (pe_lst pa_nil)) (pss_one (ps_put (pv 0) (pe_lst pa_nil)))))), ?_⟩
    refine ⟨Nat.zero_le _, fun w hw => ?_⟩
    have xw : x ≠ w := ne_of_none hx hw
    refine ⟨_, rfl, x, cLines, dx, [], rfl, ⟨by rw [upd_ne xw]; exact hx, T.cl_Lines, T.na_Lines_words, (by decide : 0 < 1000)⟩, ?_⟩
    refine ⟨Nat.zero_le _, fun p hp => ?_⟩
    obtain ⟨px, hp⟩ := upd_none hp
    obtain ⟨pw, hp⟩ := upd_none hp
    refine ⟨_, rfl, x, cLines, dx, _, rfl, ⟨(upd_ne (Ne.symm px)).trans upd_same, T.cl_Lines, T.na_Lines_parts, (by decide : 1 < 1000)⟩, ?_⟩
    refine ⟨Nat.zero_le _, fun g hg => ?_⟩
    obtain ⟨gx, hg⟩ := upd_none hg
    obtain ⟨gp, hg⟩ := upd_none hg
    obtain ⟨_, hg⟩ := upd_none hg
    obtain ⟨gw, hg⟩ := upd_none hg
    refine ⟨_, rfl, x, cLines, dx, _, rfl, ⟨(upd_ne (Ne.symm gx)).trans upd_same, T.cl_Lines, T.na_Lines_goals, (by decide : 2 < 1000)⟩, ?_⟩
    refine ⟨Nat.zero_le _, fun o ho => ?_⟩
    obtain ⟨ox, ho⟩ := upd_none ho
    obtain ⟨og, ho⟩ := upd_none ho
    obtain ⟨_, ho⟩ := upd_none ho
    obtain ⟨op, ho⟩ := upd_none ho
    obtain ⟨_, ho⟩ := upd_none ho
    obtain ⟨ow, ho⟩ := upd_none ho
    refine ⟨_, rfl, x, cLines, dx, _, rfl, ⟨(upd_ne (Ne.symm ox)).trans upd_same, T.cl_Lines, T.na_Lines_open_ones, (by decide : 3 < 1000)⟩, ?_⟩
    refine k _ ⟨x, dx, w, p, g, o⟩ rfl rfl (fun b u hb e => ?_) ?_ (fun y hy => ?_) (fun y hy => ?_) ⟨Ne.symm pw, Ne.symm gw, Ne.symm ow, Ne.symm gp, Ne.symm op, Ne.symm og⟩
    · rw [upd_ne hb, upd_ne (ne_of_none e ho), upd_ne hb, upd_ne (ne_of_none e hg), upd_ne hb, upd_ne (ne_of_none e hp), upd_ne hb, upd_ne (ne_of_none e hw)]; exact e
    · rw [upd_same]
      have e : putF "open_ones" (.ref o) (putF "goals" (.ref g) (putF "parts" (.ref p) (putF "words" (.ref w) []))) = fL ⟨x, dx, w, p, g, o⟩ := by
        show putF "open_ones" (.ref o) (putF "goals" (.ref g) (putF "parts" (.ref p) [("words", .ref w)])) = _
        rw [pf_ne (by decide +kernel)]
        show putF "open_ones" (.ref o) (putF "goals" (.ref g) [("words", .ref w), ("parts", .ref p)]) = _
        rw [pf_ne (by decide +kernel), pf_ne (by decide +kernel)]
        show putF "open_ones" (.ref o) [("words", .ref w), ("parts", .ref p), ("goals", .ref g)] = _
        rw [pf_ne (by decide +kernel), pf_ne (by decide +kernel), pf_ne (by decide +kernel)]
        rfl
      rw [e]
    · rcases mem4 hy with z | z | z | z <;> rw [z] <;> assumption
    · rcases mem4 hy with z | z | z | z
      · rw [z]; simp only [upd_ne (Ne.symm xw), upd_ne (Ne.symm ow), upd_ne (Ne.symm gw), upd_ne (Ne.symm pw), upd_same]
      · rw [z]; simp only [upd_ne px, upd_ne (Ne.symm op), upd_ne (Ne.symm gp), upd_same]
      · rw [z]; simp only [upd_ne gx, upd_ne (Ne.symm og), upd_same]
      · rw [z]; simp only [upd_ne ox, upd_same]
theorem LnAt.fw (T : Txt K mg cFault cRunFault cTooLong cBeadFrame cReader cLines cRun) {H0 : Hp} {r : Addr} {L : Lno} {H : Hp} {s : LS} (h : LnAt K cLines H0 r L H s) : Fld K H L.a "words" (.ref L.w) := ⟨_, _, _, h.obj, T.cl_Lines, T.na_Lines_words, fL_words _⟩
theorem LnAt.fp (T : Txt K mg cFault cRunFault cTooLong cBeadFrame cReader cLines cRun) {H0 : Hp} {r : Addr} {L : Lno} {H : Hp} {s : LS} (h : LnAt K cLines H0 r L H s) : Fld K H L.a "parts" (.ref L.p) := ⟨_, _, _, h.obj, T.cl_Lines, T.na_Lines_parts, fL_parts _⟩
theorem LnAt.fg (T : Txt K mg cFault cRunFault cTooLong cBeadFrame cReader cLines cRun) {H0 : Hp} {r : Addr} {L : Lno} {H : Hp} {s : LS} (h : LnAt K cLines H0 r L H s) : Fld K H L.a "goals" (.ref L.g) := ⟨_, _, _, h.obj, T.cl_Lines, T.na_Lines_goals, fL_goals _⟩
theorem LnAt.fo (T : Txt K mg cFault cRunFault cTooLong cBeadFrame cReader cLines cRun) {H0 : Hp} {r : Addr} {L : Lno} {H : Hp} {s : LS} (h : LnAt K cLines H0 r L H s) : Fld K H L.a "open_ones" (.ref L.o) := ⟨_, _, _, h.obj, T.cl_Lines, T.na_Lines_open_ones, fL_open _⟩
theorem LnAt.ins {C : Addr} {H0 : Hp} {r : Addr} {L : Lno} {H : Hp} {s : LS} {m : Str} (h : LnAt K C H0 r L H s) (h1 : m ≠ "words" := by decide +kernel) (h2 : m ≠ "parts" := by decide +kernel) (h3 : m ≠ "goals" := by decide +kernel) (h4 : m ≠ "open_ones" := by decide +kernel) : Ins H L.a C m := ⟨_, _, h.obj, fL_no _ h1 h2 h3 h4⟩
def spPut (K : PySem.W.Frag) (C : Addr) : Sp := fun vs H Q _ => ∃ (H0 : Hp) (r : Addr) (L : Lno) (s : LS) (n : Nat) (v : V) (x : Part), vs = [.ref L.a, .int (n : Int), v] ∧ LnAt K C H0 r L H s ∧ PartAt K (N5 r L) H v x ∧ s.ws.length ≤ 50000 ∧
  ∀ H', KL H H' → LnAt K C H0 r L H' (s.put n x) → Q .non H'
theorem ok_Lines_put (T : Txt K mg cFault cRunFault cTooLong cBeadFrame cReader cLines cRun) : Mf P w K mg base CX0 1 cLines "put" ["self", "word", "parts"] (spPut K cLines) := by
  refine mf_mk T.cl_Lines T.d_Lines_put fun f fd F => F.ok sc_Lines_put (fun vs H Q E h => ?_) (fun cdv A outer s H vs Q E hr h => ?_)
  · obtain ⟨H0, r, L, s, n, v, x, rfl, _⟩ := h
    rfl
  · obtain ⟨H0, r, L, s, n, v, x, rfl, h, hv, hs, k⟩ := h
    refine ⟨_, (pss_cons (ps_expr (pe_bm PySem.F.plainAttrs_list PySem.F.slot_list_append PySem.F.type_list_append mt_append (pe_get (pv 0)) (pa_cons (pv 1) pa_nil))) (pss_cons (ps_expr (pe_bm PySem.F.plainAttrs_list PySem.F.slot_list_append PySem.F.type_list_append mt_append (pe_get (pv 0)) (pa_cons (pv 2) pa_nil))) (pss_one (ps_expr (pe_bm PySem.F.plainAttrs_list PySem.F.slot_list_append PySem.F.type_list_append mt_append (pe_get (pv 0)) (pa_cons (pe_callB call_len_seq (by rfl) T.n_len PySem.boot_len (pa_cons (pe_get (pv 0)) pa_nil)) pa_nil)))))), ?_⟩
    obtain ⟨vp, p1, p2⟩ := h.ps
    obtain ⟨n1, n2, n3, n4, n5, n6⟩ := h.nd
    have lw := nvs_len s.ws
    have lp := Paired.length p2
    have e1 := h.pl
    have e2 := h.gl
    refine ⟨_, rfl, _, _, rfl, h.fw T, .inl ⟨rfl, _, SqL.of h.ws⟩, _, rfl, L.w, _, _, rfl, rfl, h.ws, szl (by omega), ?_⟩
    have aw : L.a ≠ L.w := ne_of h.obj h.ws (by intro z; cases z)
    have ap : L.a ≠ L.p := ne_of h.obj p1 (by intro z; cases z)
    have f1 : Fld K (upd H L.w (.lst (nvs s.ws ++ [.int (n : Int)]))) L.a "parts" (.ref L.p) := ⟨_, _, _, (upd_ne aw).trans h.obj, T.cl_Lines, T.na_Lines_parts, fL_parts _⟩
    have g1 : (upd H L.w (.lst (nvs s.ws ++ [.int (n : Int)]))) L.p = some (.lst vp) := (upd_ne (Ne.symm n1)).trans p1
    refine ⟨_, rfl, _, _, rfl, f1, Or.inl ⟨rfl, _, SqL.of g1⟩, _, rfl, L.p, _, _, rfl, rfl, g1, szl (by omega), ?_⟩
    have o2 : (upd (upd H L.w (.lst (nvs s.ws ++ [.int (n : Int)]))) L.p (.lst (vp ++ [v]))) L.a = some (.ins cLines L.dx (fL L)) := (upd_ne ap).trans ((upd_ne aw).trans h.obj)
    have g2 : (upd (upd H L.w (.lst (nvs s.ws ++ [.int (n : Int)]))) L.p (.lst (vp ++ [v]))) L.g = some (.lst (nvs s.gs)) := (upd_ne (Ne.symm n4)).trans ((upd_ne (Ne.symm n2)).trans h.gs)
    have w2 : (upd (upd H L.w (.lst (nvs s.ws ++ [.int (n : Int)]))) L.p (.lst (vp ++ [v]))) L.w = some (.lst (nvs s.ws ++ [.int (n : Int)])) := (upd_ne n1).trans upd_same
    refine ⟨_, rfl, _, _, rfl, ⟨_, _, _, o2, T.cl_Lines, T.na_Lines_goals, fL_goals _⟩, Or.inl ⟨rfl, _, SqL.of g2⟩, _, rfl, _, _, rfl, ⟨_, _, _, o2, T.cl_Lines, T.na_Lines_words, fL_words _⟩, L.w, _, rfl, .inl (SqL.of w2), L.g, _, _, rfl, rfl, g2, szl (by rw [nvs_len]; omega), ?_⟩
    have e3 : (((nvs s.ws ++ [V.int (n : Int)]).length : Nat) : Int) = ((s.ws.length + 1 : Nat) : Int) := by rw [List.length_append, lw]; rfl
    rw [e3]
    exact k _ (((KL.refl H).set h.ws).set g1 |>.set g2) (h.put3 p1 hv)
def spMay (K : PySem.W.Frag) (C : Addr) : Sp := fun vs H Q _ => ∃ (H0 : Hp) (r : Addr) (L : Lno) (s : LS), vs = [.ref L.a] ∧ LnAt K C H0 r L H s ∧ Ob s ∧ ∀ H', Same H H' → Q (.bl s.may) H'
theorem ok_Lines_may_have_else (T : Txt K mg cFault cRunFault cTooLong cBeadFrame cReader cLines cRun) : Mf P w K mg base CX0 1 cLines "may_have_else" ["self"] (spMay K cLines) := by
  refine mf_mk T.cl_Lines T.d_Lines_may_have_else fun f fd F => F.ok sc_Lines_may_have_else (fun vs H Q E h => ?_) (fun cdv A outer s H vs Q E hr h => ?_)
  · obtain ⟨H0, r, L, s, rfl, _⟩ := h
    rfl
  · obtain ⟨H0, r, L, s, rfl, h, hob, k⟩ := h
    refine ⟨_, (pss_one (ps_ret (pe_and (pe_cmpR (op_neE hr.units0) (pe_get (pv 0)) (pe_lst pa_nil) (nomark _)) (pe_and (pe_cmpR op_eq (pe_ix ix_list (pe_get (pv 0)) (pe_ix ix_list (pe_ix ix_list (pe_get (pv 0)) (pe_un un_neg pe_int) (fun _ _ => rfl)) pe_int (fun _ _ => rfl)) (fun _ _ => rfl)) (pe_gi T.c_IF) (nomark _)) (pe_one (pe_cmpR op_isN (pe_ix ix_list (pe_ix ix_list (pe_get (pv 0)) (pe_un un_neg pe_int) (fun _ _ => rfl)) pe_int (fun _ _ => rfl)) pe_non (nomark _))))))), ?_⟩
    have s0 : ∀ {q : Addr}, H q = none → Same H (upd H q (.lst [])) := fun hq b o e => by rw [upd_ne (ne_of_none e hq)]; exact e
    cases ho : s.os with
    | nil =>
      obtain ⟨vo, o1, o2, o3, o4⟩ := h.os
      rw [ho] at o2
      cases o2
      refine ⟨_, rfl, _, _, rfl, h.fo T, Nat.zero_le _, fun q hq => ?_⟩
      refine ⟨L.o, q, [], rfl, rfl, SqL.of (s0 hq _ _ o1), SqL.of upd_same, false, rfl, ?_⟩
      refine ite2 (fun n => absurd n (by decide)) (fun _ => ?_)
      have e : s.may = false := by unfold LS.may; rw [ho]
      rw [← e]
      exact k _ (s0 hq)
    | cons y rs =>
      obtain ⟨bb, mm⟩ := y
      obtain ⟨hb, hm⟩ := hob _ (by rw [ho]; exact List.mem_cons_self ..)
      obtain ⟨a, vo, o1, ha, _, _⟩ := h.pop ho
      refine ⟨_, rfl, _, _, rfl, h.fo T, Nat.zero_le _, fun q hq => ?_⟩
      have h1 := h.same (s0 hq)
      have o1' := s0 hq _ _ o1
      have ha' := s0 hq _ _ ha
      refine ⟨L.o, q, _, rfl, rfl, SqL.of o1', SqL.of upd_same, true, by cases vo <;> rfl, ?_⟩
      refine ite2 (fun _ => ?_) (fun n => absurd rfl n)
      obtain ⟨kk, hk⟩ : ∃ kk, s.ws[bb]? = some kk := ⟨_, List.getElem?_eq_getElem hb⟩
      refine ⟨_, rfl, _, _, rfl, h1.fw T, _, rfl, _, _, rfl, h1.fo T, _, rfl, L.o, _, _, _, rfl, rfl, SqL.of o1', atI_last _ _, a, _, 0, _, rfl, rfl, SqL.of ha', rfl, L.w, _, _, _, rfl, rfl, SqL.of h1.ws, atI_nat (nvs_at hk), rfl, _, rfl, ?_⟩
      have em : s.may = (decide (kk = 3) && decide (optV mm = .non)) := by
        unfold LS.may
        rw [ho]
        cases mm with
        | some m => simp [optV]
        | none =>
          show (s.ws[bb]? == some 3) = _
          rw [hk]
          by_cases z : kk = 3 <;> simp [z, optV]
      by_cases h3 : kk = 3
      · subst h3
        refine ite2 (fun _ => ?_) (fun n => absurd rfl n)
        refine ⟨_, rfl, _, _, rfl, h1.fo T, _, rfl, L.o, _, _, _, rfl, rfl, SqL.of o1', atI_last _ _, a, _, 1, _, rfl, rfl, SqL.of ha', rfl, rfl, ?_⟩
        rw [em] at k
        exact k _ (s0 hq)
      · refine ite2 (fun n => absurd (of_decide_eq_true n) (fun z => h3 (by have := V.int.inj z; omega))) (fun _ => ?_)
        rw [em, decide_eq_false h3] at k
        exact k _ (s0 hq)
def spOpened (K : PySem.W.Frag) (C : Addr) : Sp := fun vs H Q _ => ∃ (H0 : Hp) (r : Addr) (L : Lno) (s : LS) (n : Nat) (v : V) (x : Part), vs = [.ref L.a, .int (n : Int), v] ∧ LnAt K C H0 r L H s ∧ PartAt K (N5 r L) H v x ∧ s.ws.length ≤ 50000 ∧ s.os.length < 5000 ∧
  ∀ H', KL H H' → LnAt K C H0 r L H' (s.opened n x) → Q .non H'
theorem ok_Lines_opened (T : Txt K mg cFault cRunFault cTooLong cBeadFrame cReader cLines cRun) : Mf P w K mg base CX0 2 cLines "opened" ["self", "word", "parts"] (spOpened K cLines) := by
  refine mf_mk T.cl_Lines T.d_Lines_opened fun f fd F => F.ok sc_Lines_opened (fun vs H Q E h => ?_) (fun cdv A outer s H vs Q E hr h => ?_)
  · obtain ⟨H0, r, L, s, n, v, x, rfl, _⟩ := h
    rfl
  · obtain ⟨H0, r, L, s, n, v, x, rfl, h, hv, hs, ho, k⟩ := h
    refine ⟨_, (pss_cons (ps_expr (pe_bm PySem.F.plainAttrs_list PySem.F.slot_list_append PySem.F.type_list_append mt_append (pe_get (pv 0)) (pa_cons (pe_lst (pa_cons (pe_callB call_len_seq (by rfl) T.n_len PySem.boot_len (pa_cons (pe_get (pv 0)) pa_nil)) (pa_cons pe_non pa_nil))) pa_nil))) (pss_one (ps_expr (pe_mf (ok_Lines_put T) (hr.mono (by decide)) pass0 (pv 0) (by exact (pa_cons (pv 1) (pa_cons (pv 2) pa_nil))))))), ?_⟩
    obtain ⟨vo, o1, o2, o3, o4⟩ := h.os
    have lo := Paired.length o2
    refine ⟨_, rfl, _, _, rfl, h.fo T, Or.inl ⟨rfl, _, SqL.of o1⟩, _, rfl, _, _, rfl, h.fw T, L.w, _, rfl, .inl (SqL.of h.ws), sz (show 2 ≤ 100000 by decide), fun q hq => ?_⟩
    have oq : L.o ≠ q := ne_of_none o1 hq
    rw [nvs_len]
    have ho1 : (upd H q (.lst [.int (s.ws.length : Int), .non])) L.o = some (.lst vo.reverse) := (upd_ne oq).trans o1
    refine ⟨L.o, _, _, rfl, rfl, ho1, szl (by rw [List.length_reverse, lo]; omega), ?_⟩
    have h1 := h.push o1 hq ho s.ws.length
    have hv1 : PartAt K (N5 r L) (upd (upd H q (.lst [.int (s.ws.length : Int), .non])) L.o (.lst (vo.reverse ++ [.ref q]))) v x :=
      hv.off (((Chg.refl H).new hq).set (S := [L.o]) (by simp) ho1 (by intro z; exact z)) (LnAt.off (by simp))
    refine ⟨_, rfl, L.a, rfl, h1.ins, _, rfl, _, rfl, H0, r, L, _, n, v, x, rfl, h1, hv1, hs, fun H' c h2 => ?_⟩
    exact k H' (((KL.refl H).new hq).set ho1 |>.trans c) h2
def spPutElse (K : PySem.W.Frag) (C : Addr) : Sp := fun vs H Q _ => ∃ (H0 : Hp) (r : Addr) (L : Lno) (s : LS), vs = [.ref L.a] ∧ LnAt K C H0 r L H s ∧ s.ws.length ≤ 50000 ∧ s.os ≠ [] ∧ Ob s ∧
  ∀ H', KL H H' → LnAt K C H0 r L H' s.putElse → Q .non H'
theorem ok_Lines_put_else (T : Txt K mg cFault cRunFault cTooLong cBeadFrame cReader cLines cRun) : Mf P w K mg base CX0 2 cLines "put_else" ["self"] (spPutElse K cLines) := by
  refine mf_mk T.cl_Lines T.d_Lines_put_else fun f fd F => F.ok sc_Lines_put_else (fun vs H Q E h => ?_) (fun cdv A outer s H vs Q E hr h => ?_)
  · obtain ⟨H0, r, L, s, rfl, _⟩ := h
    rfl
  · obtain ⟨H0, r, L, s, rfl, h, hs, ho, hob, k⟩ := h
    refine ⟨_, (pss_cons (ps_asg (pe_callB call_len_seq (by rfl) T.n_len PySem.boot_len (pa_cons (pe_get (pv 0)) pa_nil)) (pg_sub (pe_ix ix_list (pe_get (pv 0)) (pe_un un_neg pe_int) (fun _ _ => rfl)) pe_int set_list)) (pss_cons (ps_expr (pe_mf (ok_Lines_put T) (hr.mono (by decide)) pass0 (pv 0) (by exact (pa_cons (pe_gi T.c_ELSE) (pa_cons (pe_tup pa_nil) pa_nil))))) (pss_one (ps_asg (pe_callB call_len_seq (by rfl) T.n_len PySem.boot_len (pa_cons (pe_get (pv 0)) pa_nil)) (pg_sub (pe_get (pv 0)) (pe_ix ix_list (pe_ix ix_list (pe_get (pv 0)) (pe_un un_neg pe_int) (fun _ _ => rfl)) pe_int (fun _ _ => rfl)) set_list))))), ?_⟩
    obtain ⟨ws, ps, gs, os⟩ := s
    dsimp only at hs ho
    cases os with
    | nil => exact absurd rfl ho
    | cons y rs =>
      obtain ⟨bb, mm⟩ := y
      obtain ⟨hb, hm⟩ := hob _ (List.mem_cons_self ..)
      dsimp only at hb hm
      obtain ⟨a, vo, o1, ha, h1⟩ := h.mid rfl ws.length
      refine ⟨_, rfl, _, _, rfl, h.fw T, L.w, _, rfl, .inl (SqL.of h.ws), _, rfl, _, _, rfl, h.fo T, _, rfl, L.o, _, _, _, rfl, rfl, SqL.of o1, atI_last _ _, a, _, 1, 1, rfl, rfl, ha, rfl, ?_⟩
      rw [nvs_len]
      have kl1 : KL H (upd H a (.lst [.int (bb : Int), .int (ws.length : Int)])) := (KL.refl H).set ha
      revert h1 kl1
      show LnAt K cLines H0 r L (upd H a (.lst [.int (bb : Int), .int (ws.length : Int)])) ⟨ws, ps, gs, (bb, some ws.length) :: rs⟩ → _
      show _ → _ → (fun H3 => _) (upd H a (.lst [.int (bb : Int), .int (ws.length : Int)]))
      generalize upd H a (.lst [.int (bb : Int), .int (ws.length : Int)]) = H1
      intro h1 kl1
      refine ⟨_, rfl, L.a, rfl, h1.ins, Nat.zero_le _, fun q hq => ?_⟩
      have s2 : Same H1 (upd H1 q (.tup [])) := fun b o e => by rw [upd_ne (ne_of_none e hq)]; exact e
      refine ⟨H0, r, L, _, 4, .ref q, .nil, rfl, h1.same s2, ⟨q, rfl, SqT.of upd_same⟩, hs, fun H2 c h2 => ?_⟩
      obtain ⟨a2, vo2, o2, ha2, _⟩ := h2.pop rfl
      have lg : gs.length = ws.length := h.gl
      refine ⟨_, rfl, _, _, rfl, h2.fw T, L.w, _, rfl, .inl (SqL.of h2.ws), _, rfl, _, _, rfl, h2.fg T, _, rfl, _, _, rfl, h2.fo T, _, rfl, L.o, _, _, _, rfl, rfl, SqL.of o2, atI_last _ _, a2, _, 0, _, rfl, rfl, SqL.of ha2, rfl, L.g, _, _, bb, rfl, rfl, h2.gs, ixn_nat (j := bb) ?_, ?_⟩
      · rw [nvs_len]
        show bb < (gs ++ [_]).length
        rw [List.length_append]
        omega
      · rw [nvs_len, ← nvs_set]
        exact k _ ((kl1.trans (Same.kl s2)).trans (c.set h2.gs)) (h2.goals _ (List.length_set ..))
def spPutEnd (K : PySem.W.Frag) (C : Addr) : Sp := fun vs H Q _ => ∃ (H0 : Hp) (r : Addr) (L : Lno) (s : LS), vs = [.ref L.a] ∧ LnAt K C H0 r L H s ∧ s.ws.length ≤ 50000 ∧ s.os ≠ [] ∧ Ob s ∧
  ∀ H', KL H H' → LnAt K C H0 r L H' s.putEnd → Q .non H'
theorem ok_Lines_put_end (T : Txt K mg cFault cRunFault cTooLong cBeadFrame cReader cLines cRun) : Mf P w K mg base CX0 2 cLines "put_end" ["self"] (spPutEnd K cLines) := by
  refine mf_mk T.cl_Lines T.d_Lines_put_end fun f fd F => F.ok sc_Lines_put_end (fun vs H Q E h => ?_) (fun cdv A outer s H vs Q E hr h => ?_)
  · obtain ⟨H0, r, L, s, rfl, _⟩ := h
    rfl
  · obtain ⟨H0, r, L, s, rfl, h, hs, ho, hob, k⟩ := h
    refine ⟨_, (pss_cons (ps_asg (pe_bm0 PySem.F.plainAttrs_list PySem.F.slot_list_pop PySem.F.type_list_pop mt_pop (pe_get (pv 0))) (pg_unl rfl (pgs_cons (pg_name (i := 1) sc_Lines_put_end.nd rfl (Or.inl rfl)) (pgs_cons (pg_name (i := 2) sc_Lines_put_end.nd rfl (Or.inl rfl)) pgs_nil)))) (pss_cons (ps_expr (pe_mf (ok_Lines_put T) (hr.mono (by decide)) pass0 (pv 0) (by exact (pa_cons (pe_gi T.c_END) (pa_cons (pe_tup pa_nil) pa_nil))))) (pss_cons (ps_if (pt_cmpR op_eq (pe_ix ix_list (pe_get (pv 0)) (pv 1) (fun _ _ => rfl)) (pe_gi T.c_WHILE) (nomark _)) (pss_one (ps_asg (pv 1) (pg_sub (pe_get (pv 0)) (pe_un un_neg pe_int) set_list))) pss_nil) (pss_one (ps_if (pt_cmpR op_isN (pv 2) pe_non (nomark _)) (pss_one (ps_asg (pe_callB call_len_seq (by rfl) T.n_len PySem.boot_len (pa_cons (pe_get (pv 0)) pa_nil)) (pg_sub (pe_get (pv 0)) (pv 1) set_list))) (pss_one (ps_asg (pe_callB call_len_seq (by rfl) T.n_len PySem.boot_len (pa_cons (pe_get (pv 0)) pa_nil)) (pg_sub (pe_get (pv 0)) (pv 2) set_list)))))))), ?_⟩
    obtain ⟨ws, ps, gs, os⟩ := s
    dsimp only at hs ho
    cases os with
    | nil => exact absurd rfl ho
    | cons y rs =>
      obtain ⟨bb, mm⟩ := y
      obtain ⟨hb, hm⟩ := hob _ (List.mem_cons_self ..)
      dsimp only at hb hm
      obtain ⟨a, vo, o1, ha, h1⟩ := h.pop rfl
      refine ⟨_, rfl, _, _, rfl, h.fo T, Or.inl ⟨rfl, _, SqL.of o1⟩, L.o, _, _, rfl, rfl, o1, by simp, a, [.int (bb : Int), optV mm], rfl, SqL.of ((upd_ne h1.2).trans ha), rfl, ?_⟩
      have h1 := h1.1
      have kl1 : KL H (upd H L.o (.lst vo)) := (KL.refl H).set o1
      rw [List.dropLast_concat]
      revert h1 kl1
      generalize upd H L.o (.lst vo) = H1
      intro h1 kl1
      have lg : gs.length = ws.length := h.gl
      refine ⟨_, _, rfl, _, _, rfl, rfl, ?_⟩
      refine ⟨_, rfl, L.a, rfl, h1.ins, Nat.zero_le _, fun q hq => ?_⟩
      have s2 : Same H1 (upd H1 q (.tup [])) := fun b o e => by rw [upd_ne (ne_of_none e hq)]; exact e
      refine ⟨H0, r, L, _, 5, .ref q, .nil, rfl, h1.same s2, ⟨q, rfl, SqT.of upd_same⟩, hs, fun H2 c h2 => ?_⟩
      have kl2 : KL H H2 := (kl1.trans (Same.kl s2)).trans c
      obtain ⟨kk, hk⟩ : ∃ kk, (ws ++ [5])[bb]? = some kk := ⟨_, List.getElem?_eq_getElem (by rw [List.length_append]; omega)⟩
      refine ⟨_, rfl, _, _, rfl, h2.fw T, _, rfl, L.w, _, _, _, rfl, rfl, SqL.of h2.ws, atI_nat (nvs_at hk), rfl, _, rfl, ?_⟩
      cases mm with
      | none =>
        by_cases h6 : kk = 6
        · subst h6
          refine ite2 (fun _ => ?_) (fun n => absurd rfl n)
          have e6 : (⟨ws ++ [5], ps ++ [.nil], gs ++ [ws.length + 1], rs⟩ : LS).gs.length = gs.length + 1 := by show (gs ++ [_]).length = _; rw [List.length_append]; rfl
          refine ⟨_, rfl, _, rfl, _, _, rfl, h2.fg T, _, rfl, L.g, _, _, gs.length, rfl, rfl, h2.gs, by rw [nvs_len]; exact e6 ▸ ixn_last gs.length, ?_⟩
          rw [← nvs_set]
          have h3 := h2.goals ((gs ++ [ws.length + 1]).set gs.length bb) (List.length_set ..)
          have kl3 := kl2.set (u := .lst (nvs ((gs ++ [ws.length + 1]).set gs.length bb))) h2.gs
          have hg3 : ((gs ++ [ws.length + 1]).set gs.length bb).length = ws.length + 1 := by rw [List.length_set, List.length_append, lg]; rfl
          have eput : (⟨ws, ps, gs, (bb, none) :: rs⟩ : LS).putEnd = ⟨ws ++ [5], ps ++ [.nil], ((gs ++ [ws.length + 1]).set gs.length bb).set bb (ws.length + 1), rs⟩ := by
            unfold LS.putEnd LS.put
            dsimp only
            rw [hk]
            simp
          revert h3 kl3 hg3 eput
          show LnAt K cLines H0 r L (upd H2 L.g (.lst (nvs ((gs ++ [ws.length + 1]).set gs.length bb)))) ⟨ws ++ [5], ps ++ [.nil], (gs ++ [ws.length + 1]).set gs.length bb, rs⟩ → _
          show _ → _ → _ → _ → (fun H3 => _) (upd H2 L.g (.lst (nvs ((gs ++ [ws.length + 1]).set gs.length bb))))
          generalize upd H2 L.g (.lst (nvs ((gs ++ [ws.length + 1]).set gs.length bb))) = H3
          generalize (gs ++ [ws.length + 1]).set gs.length bb = g3
          intro h3 kl3 hg3 eput
          refine ⟨_, rfl, rfl, _, rfl, ?_⟩
          refine ite2 (fun _ => ?_) (fun n => absurd rfl n)
          refine ⟨_, rfl, _, _, rfl, h3.fw T, L.w, _, rfl, .inl (SqL.of h3.ws), _, rfl, _, _, rfl, h3.fg T, _, rfl, L.g, _, _, bb, rfl, rfl, h3.gs, ixn_nat (j := bb) ?_, ?_⟩
          · rw [nvs_len]
            show _ < g3.length
            omega
          · rw [nvs_len, ← nvs_set]
            have q := h3.goals (g3.set bb (ws.length + 1)) (List.length_set ..)
            have e : ((ws ++ [5]).length : Nat) = ws.length + 1 := by rw [List.length_append]; rfl
            show Q .non (upd H3 L.g (.lst (nvs (g3.set bb (ws ++ [5]).length))))
            rw [e]
            refine k _ (kl3.set h3.gs) ?_
            rw [eput]
            exact q
        · refine ite2 (fun n => absurd (V.int.inj (of_decide_eq_true n)) (fun z => h6 (by omega))) (fun _ => ?_)
          have h3 := h2
          have kl3 := kl2
          have hg3 : (gs ++ [ws.length + 1]).length = ws.length + 1 := by rw [List.length_append, lg]; rfl
          have eput : (⟨ws, ps, gs, (bb, none) :: rs⟩ : LS).putEnd = ⟨ws ++ [5], ps ++ [.nil], (gs ++ [ws.length + 1]).set bb (ws.length + 1), rs⟩ := by
            unfold LS.putEnd LS.put
            dsimp only
            rw [hk]
            simp [h6]
          revert h3 kl3 hg3 eput
          show LnAt K cLines H0 r L H2 ⟨ws ++ [5], ps ++ [.nil], gs ++ [ws.length + 1], rs⟩ → _
          generalize gs ++ [ws.length + 1] = g3
          generalize H2 = H3
          intro h3 kl3 hg3 eput
          refine ⟨_, rfl, rfl, _, rfl, ?_⟩
          refine ite2 (fun _ => ?_) (fun n => absurd rfl n)
          refine ⟨_, rfl, _, _, rfl, h3.fw T, L.w, _, rfl, .inl (SqL.of h3.ws), _, rfl, _, _, rfl, h3.fg T, _, rfl, L.g, _, _, bb, rfl, rfl, h3.gs, ixn_nat (j := bb) ?_, ?_⟩
          · rw [nvs_len]
            show _ < g3.length
            omega
          · rw [nvs_len, ← nvs_set]
            have q := h3.goals (g3.set bb (ws.length + 1)) (List.length_set ..)
            have e : ((ws ++ [5]).length : Nat) = ws.length + 1 := by rw [List.length_append]; rfl
            show Q .non (upd H3 L.g (.lst (nvs (g3.set bb (ws ++ [5]).length))))
            rw [e]
            refine k _ (kl3.set h3.gs) ?_
            rw [eput]
            exact q
      | some mi =>
        have hmi : mi < ws.length := hm mi rfl
        by_cases h6 : kk = 6
        · subst h6
          refine ite2 (fun _ => ?_) (fun n => absurd rfl n)
          have e6 : (⟨ws ++ [5], ps ++ [.nil], gs ++ [ws.length + 1], rs⟩ : LS).gs.length = gs.length + 1 := by show (gs ++ [_]).length = _; rw [List.length_append]; rfl
          refine ⟨_, rfl, _, rfl, _, _, rfl, h2.fg T, _, rfl, L.g, _, _, gs.length, rfl, rfl, h2.gs, by rw [nvs_len]; exact e6 ▸ ixn_last gs.length, ?_⟩
          rw [← nvs_set]
          have h3 := h2.goals ((gs ++ [ws.length + 1]).set gs.length bb) (List.length_set ..)
          have kl3 := kl2.set (u := .lst (nvs ((gs ++ [ws.length + 1]).set gs.length bb))) h2.gs
          have hg3 : ((gs ++ [ws.length + 1]).set gs.length bb).length = ws.length + 1 := by rw [List.length_set, List.length_append, lg]; rfl
          have eput : (⟨ws, ps, gs, (bb, some mi) :: rs⟩ : LS).putEnd = ⟨ws ++ [5], ps ++ [.nil], ((gs ++ [ws.length + 1]).set gs.length bb).set mi (ws.length + 1), rs⟩ := by
            unfold LS.putEnd LS.put
            dsimp only
            rw [hk]
            simp
          revert h3 kl3 hg3 eput
          show LnAt K cLines H0 r L (upd H2 L.g (.lst (nvs ((gs ++ [ws.length + 1]).set gs.length bb)))) ⟨ws ++ [5], ps ++ [.nil], (gs ++ [ws.length + 1]).set gs.length bb, rs⟩ → _
          show _ → _ → _ → _ → (fun H3 => _) (upd H2 L.g (.lst (nvs ((gs ++ [ws.length + 1]).set gs.length bb))))
          generalize upd H2 L.g (.lst (nvs ((gs ++ [ws.length + 1]).set gs.length bb))) = H3
          generalize (gs ++ [ws.length + 1]).set gs.length bb = g3
          intro h3 kl3 hg3 eput
          refine ⟨_, rfl, rfl, _, rfl, ?_⟩
          refine ite2 (fun n => absurd (of_decide_eq_true n) (by intro z; cases z)) (fun _ => ?_)
          refine ⟨_, rfl, _, _, rfl, h3.fw T, L.w, _, rfl, .inl (SqL.of h3.ws), _, rfl, _, _, rfl, h3.fg T, _, rfl, L.g, _, _, mi, rfl, rfl, h3.gs, ixn_nat (j := mi) ?_, ?_⟩
          · rw [nvs_len]
            show _ < g3.length
            omega
          · rw [nvs_len, ← nvs_set]
            have q := h3.goals (g3.set mi (ws.length + 1)) (List.length_set ..)
            have e : ((ws ++ [5]).length : Nat) = ws.length + 1 := by rw [List.length_append]; rfl
            show Q .non (upd H3 L.g (.lst (nvs (g3.set mi (ws ++ [5]).length))))
            rw [e]
            refine k _ (kl3.set h3.gs) ?_
            rw [eput]
            exact q
        · refine ite2 (fun n => absurd (V.int.inj (of_decide_eq_true n)) (fun z => h6 (by omega))) (fun _ => ?_)
          have h3 := h2
          have kl3 := kl2
          have hg3 : (gs ++ [ws.length + 1]).length = ws.length + 1 := by rw [List.length_append, lg]; rfl
          have eput : (⟨ws, ps, gs, (bb, some mi) :: rs⟩ : LS).putEnd = ⟨ws ++ [5], ps ++ [.nil], (gs ++ [ws.length + 1]).set mi (ws.length + 1), rs⟩ := by
            unfold LS.putEnd LS.put
            dsimp only
            rw [hk]
            simp [h6]
          revert h3 kl3 hg3 eput
          show LnAt K cLines H0 r L H2 ⟨ws ++ [5], ps ++ [.nil], gs ++ [ws.length + 1], rs⟩ → _
          generalize gs ++ [ws.length + 1] = g3
          generalize H2 = H3
          intro h3 kl3 hg3 eput
          refine ⟨_, rfl, rfl, _, rfl, ?_⟩
          refine ite2 (fun n => absurd (of_decide_eq_true n) (by intro z; cases z)) (fun _ => ?_)
          refine ⟨_, rfl, _, _, rfl, h3.fw T, L.w, _, rfl, .inl (SqL.of h3.ws), _, rfl, _, _, rfl, h3.fg T, _, rfl, L.g, _, _, mi, rfl, rfl, h3.gs, ixn_nat (j := mi) ?_, ?_⟩
          · rw [nvs_len]
            show _ < g3.length
            omega
          · rw [nvs_len, ← nvs_set]
            have q := h3.goals (g3.set mi (ws.length + 1)) (List.length_set ..)
            have e : ((ws ++ [5]).length : Nat) = ws.length + 1 := by rw [List.length_append]; rfl
            show Q .non (upd H3 L.g (.lst (nvs (g3.set mi (ws ++ [5]).length))))
            rw [e]
            refine k _ (kl3.set h3.gs) ?_
            rw [eput]
            exact q
end
end Ab
/-! ## The walk: a method's lines -/
namespace Ab
open PySem PySem.Spec PyProof.Rows L2
/-- a fault, wherever the heap stands -/
def FX (C : Addr) (E : XK) (r p : Int) : Prop := ∀ d H', H' d = some (.xd (fxd r p)) → E (.ref C) (some d) H'
theorem FX.fe {C : Addr} {E : XK} {H : Hp} {S : List Addr} {r p : Int} (h : FX C E r p) : FE C E H S r p := fun d H' _ e => h d H' e
theorem nx_in {b : List Int} {p : Nat} {l : List Int} {c : Int} {b1 : List Int} {p1 : Nat} (e : nx b p l = .ok (c, b1, p1)) : l.contains c = true := by
  cases b with
  | nil => cases e
  | cons c' b =>
    have e : (if l.contains c' = true then (Ab.R.ok (c', b, p + 1)) else .bad p) = .ok (c, b1, p1) := e
    by_cases z : l.contains c' = true
    · rw [if_pos z] at e; cases e; exact z
    · rw [if_neg z] at e; cases e
theorem empty_len {A B : Type} {l : List A} {m : List B} (e : l.length = m.length) : l.isEmpty = m.isEmpty := by
  cases l with
  | nil =>
    cases m with
    | nil => rfl
    | cons a m => cases e
  | cons a l =>
    cases m with
    | nil => cases e
    | cons b m => rfl
section
variable {P : Program} {w : World} {K : PySem.W.Frag} {mg : Str → Option Value} {base : Heap} {cFault cRunFault cTooLong cBeadFrame cReader cLines cRun : Addr}
theorem LnAt.n5 {C : Addr} {H0 H : Hp} {r : Addr} {L : Lno} {s : LS} {q : Addr} (h : LnAt K C H0 r L H s) (hq : H q = none) : N5 r L q := by
  obtain ⟨_, _, _, e⟩ := h.rdr
  obtain ⟨_, p1, _⟩ := h.ps
  obtain ⟨_, o1, _⟩ := h.os
  intro m
  simp only [List.mem_cons, List.not_mem_nil, or_false] at m
  rcases m with z | z | z | z | z
  · rw [z, e] at hq; cases hq
  · rw [z, h.ws] at hq; cases hq
  · rw [z, p1] at hq; cases hq
  · rw [z, h.gs] at hq; cases hq
  · rw [z, o1] at hq; cases hq
/-- expressions' lists keep -/
def IK (K : PySem.W.Frag) (N : Addr → Prop) (H H' : Hp) : Prop := ∀ l its, ItL K N H l its → ItL K N H' l its
theorem IK.of {N : Addr → Prop} {H H' : Hp} {S : List Addr} (c : Chg S H H') (o : ∀ l, N l → l ∉ S) : IK K N H H' := fun l its h => h.chg c (o l h.1)
section
variable {X : Rdr} {b : List Int} {p : Nat} {H0 : Hp} {L : Lno} {s : LS} {H : Hp} {σ : L2.St} {E : XK} {D : L2.Ends} {i : Nat} {te : TE} {z : Str} {zs : List Int}
theorem same_lst {H : Hp} {q : Addr} {o : HO} (hq : H q = none) : Same H (upd H q o) := fun b o e => by rw [upd_ne (ne_of_none e hq)]; exact e
theorem n5r {l : Addr} (n : N5 X.r L l) : l ∉ [X.r] := fun m => n (by
  have : l = X.r := by simpa using m
  simp [this])
/-- reader.word(bytes_of(..)) -/
theorem st_word (R : RdAt K cReader X H b p) (h : LnAt K cLines H0 X.r L H s) (hi : σ[i]? = some (some (.ref X.r))) (hte : ∀ Q : VK, Q (.str z) H → te σ H Q) (hz : z.cps.size ≤ 5000) (ec : codes z = zs)
    (kE : ∀ k, word zs b p = .bad k → FX cFault E 11 k)
    (k : ∀ b1 p1, word zs b p = .ok (b1, p1) → ∀ H', RdAt K cReader X H' b1 p1 → LnAt K cLines H0 X.r L H' s → IK K (N5 X.r L) H H' → D.nx σ H') :
    tDrop (tMf cReader "word" (spWord K cReader cFault) E (tVar i) (tCons (tCall spBytes [] E0 (tCons te tNil)) tNil)) D σ H := by
  refine ⟨_, hi, X.r, rfl, R.ins, hte _ ⟨z, rfl, hz, fun H1 q s1 n1 hq => ?_⟩⟩
  rw [ec] at hq
  have R1 := R.chg (S := []) (chgS s1) (by simp)
  refine ⟨X, q, b, p, zs, rfl, R1, SqL.of hq, fun kk e => (kE kk e).fe, fun b2 p2 e H2 c2 R2 => ?_⟩
  have c : Chg [X.r] H H2 := (chgS s1).trans c2
  exact k b2 p2 e H2 R2 (h.chg c ⟨_, _, _, R2.obj⟩) (IK.of c fun l => n5r)
/-- reader.word([c]) -/
theorem st_word1 {c : Int} (R : RdAt K cReader X H b p) (h : LnAt K cLines H0 X.r L H s) (hi : σ[i]? = some (some (.ref X.r)))
    (kE : ∀ k, word [c] b p = .bad k → FX cFault E 11 k)
    (k : ∀ b1 p1, word [c] b p = .ok (b1, p1) → ∀ H', RdAt K cReader X H' b1 p1 → LnAt K cLines H0 X.r L H' s → IK K (N5 X.r L) H H' → D.nx σ H') :
    tDrop (tMf cReader "word" (spWord K cReader cFault) E (tVar i) (tCons (tLst (tCons (tC (.int c)) tNil)) tNil)) D σ H := by
  refine ⟨_, hi, X.r, rfl, R.ins, sz (show 1 ≤ 100000 by decide), fun q hq => ?_⟩
  have s1 : Same H (upd H q (.lst [.int c])) := same_lst hq
  have R1 := R.chg (S := []) (chgS s1) (by simp)
  refine ⟨X, q, b, p, [c], rfl, R1, SqL.of upd_same, fun kk e => (kE kk e).fe, fun b2 p2 e H2 c2 R2 => ?_⟩
  have c : Chg [X.r] H H2 := (chgS s1).trans c2
  exact k b2 p2 e H2 R2 (h.chg c ⟨_, _, _, R2.obj⟩) (IK.of c fun l => n5r)
/-- expression(reader, [c]) -/
theorem st_expr {c : Int} {Q : VK} (R : RdAt K cReader X H b p) (h : LnAt K cLines H0 X.r L H s) (hi : σ[i]? = some (some (.ref X.r)))
    (kE : ∀ k, expr [c] b p = .bad k → FX cFault E 11 k)
    (k : ∀ its b1 p1, expr [c] b p = .ok (its, b1, p1) → ∀ H' q, RdAt K cReader X H' b1 p1 → LnAt K cLines H0 X.r L H' s → IK K (N5 X.r L) H H' → ItL K (N5 X.r L) H' q its → Q (.ref q) H') :
    tCall (spExpr K cReader cFault) [] E (tCons (tVar i) (tCons (tLst (tCons (tC (.int c)) tNil)) tNil)) σ H Q := by
  refine ⟨_, hi, sz (show 1 ≤ 100000 by decide), fun q hq => ?_⟩
  have s1 : Same H (upd H q (.lst [.int c])) := same_lst hq
  have R1 := R.chg (S := []) (chgS s1) (by simp)
  have h1 := h.same s1
  refine ⟨X, q, [c], b, p, rfl, R1, SqL.of upd_same, fun kk e => (kE kk e).fe, fun its b2 p2 e H2 q2 vf c2 R2 n2 hq2 hi2 _ => ?_⟩
  have c : Chg [X.r] H H2 := (chgS s1).trans c2
  exact k its b2 p2 e H2 q2 R2 (h.chg c ⟨_, _, _, R2.obj⟩) (IK.of c fun l => n5r) ⟨h1.n5 n2, vf, hq2, hi2⟩
/-- lines.put(w, ()) -/
theorem st_put0 {i n : Nat} (R : RdAt K cReader X H b p) (h : LnAt K cLines H0 X.r L H s) (hi : σ[i]? = some (some (.ref L.a))) (hs : s.ws.length ≤ 50000)
    (k : ∀ H', RdAt K cReader X H' b p → LnAt K cLines H0 X.r L H' (s.put n .nil) → D.nx σ H') :
    tDrop (tMf cLines "put" (spPut K cLines) E0 (tVar i) (tCons (tC (.int (n : Int))) (tCons (tTup tNil) tNil))) D σ H := by
  refine ⟨_, hi, L.a, rfl, h.ins, Nat.zero_le _, fun q hq => ?_⟩
  have s1 : Same H (upd H q (.tup [])) := same_lst hq
  refine ⟨H0, X.r, L, s, n, .ref q, .nil, rfl, h.same s1, ⟨q, rfl, SqT.of upd_same⟩, hs, fun H2 c h2 => ?_⟩
  exact k H2 ((R.chg (S := []) (chgS s1) (by simp)).kl c) h2
/-- reader.next_of(bytes_of(..)) -/
theorem st_next {Q : VK} (R : RdAt K cReader X H b p) (h : LnAt K cLines H0 X.r L H s) (hi : σ[i]? = some (some (.ref X.r))) (hte : ∀ Q : VK, (∀ H1, Same H H1 → Q (.str z) H1) → te σ H Q) (hz : z.cps.size ≤ 5000) (ec : codes z = zs)
    (kE : ∀ k, nx b p zs = .bad k → FX cFault E 11 k)
    (k : ∀ c b1 p1, nx b p zs = .ok (c, b1, p1) → ∀ H', RdAt K cReader X H' b1 p1 → LnAt K cLines H0 X.r L H' s → Q (.int c) H') :
    tMf cReader "next_of" (spNext K cReader cFault) E (tVar i) (tCons (tCall spBytes [] E0 (tCons te tNil)) tNil) σ H Q := by
  refine ⟨_, hi, X.r, rfl, R.ins, hte _ fun H1 s1 => ⟨z, rfl, hz, fun H2 q s2 n1 hq => ?_⟩⟩
  rw [ec] at hq
  have c2 : Chg [] H H2 := (chgS s1).trans (chgS s2)
  have R1 := R.chg c2 (by simp)
  refine ⟨X, q, b, p, zs, rfl, R1, .inl (SqL.of hq), fun kk e => (kE kk e).fe, fun c b2 p2 e H3 c3 R2 => ?_⟩
  exact k c b2 p2 e H3 R2 (h.chg ((c2.mono (by simp)).trans c3) ⟨_, _, _, R2.obj⟩)
end
def spFirst (K : PySem.W.Frag) (C : Addr) : Sp := fun vs H Q _ => ∃ (H0 : Hp) (r : Addr) (L : Lno) (s : LS), vs = [.ref L.a] ∧ LnAt K C H0 r L H s ∧ ∀ H' p, Same H H' → H p = none → H' p = some (.lst (vis s.first)) → Q (.ref p) H'
theorem ok_first_bytes (T : Txt K mg cFault cRunFault cTooLong cBeadFrame cReader cLines cRun) : Df P w K mg base CX0 2 "first_bytes" ["lines"] (spFirst K cLines) := by
  refine df_mk T.d_first_bytes fun f fd F => F.ok sc_first_bytes (fun vs H Q E h => ?_) (fun cdv A outer s H vs Q E hr h => ?_)
  · obtain ⟨H0, r, L, s, rfl, _⟩ := h
    rfl
  · obtain ⟨H0, r, L, s, rfl, h, k⟩ := h
    refine ⟨_, (pss_cons (ps_set (i := 1) sc_first_bytes.nd rfl (Or.inl rfl) pe_str) (pss_cons (ps_if (pt_cmpR op_lt (pe_callB call_len_seq (by rfl) T.n_len PySem.boot_len (pa_cons (pe_get (pv 0)) pa_nil)) (pe_gi T.c_MOST_OPEN) (nomark _)) (pss_one (ps_set (i := 1) sc_first_bytes.nd rfl (Or.inl rfl) (pe_op op_add_str (pv 1) pe_str))) pss_nil) (pss_cons (ps_if (pt_cmpR (op_neE hr.units0) (pe_get (pv 0)) (pe_lst pa_nil) (nomark _)) (pss_one (ps_set (i := 1) sc_first_bytes.nd rfl (Or.inl rfl) (pe_op op_add_str (pv 1) pe_str))) pss_nil) (pss_one (ps_ret (pe_df (ok_bytes_of T) (hr.mono (by decide)) pass0 (by exact (pa_cons (pv 1) pa_nil)))))))), ?_⟩
    obtain ⟨vo, o1, o2, o3, o4⟩ := h.os
    have lo : vo.reverse.length = s.os.length := by rw [List.length_reverse]; exact Paired.length o2
    have ev : vo.reverse.isEmpty = s.os.isEmpty := empty_len lo
    refine ⟨_, rfl, _, _, rfl, h.fo T, L.o, _, rfl, .inl (SqL.of o1), _, _, rfl, rfl, _, rfl, ?_⟩
    rw [lo]
    have e1 : ∀ z zs, codes z = zs → zs = s.first → z.cps.size ≤ 5000 → ∀ q, H q = none → spBytes ([.str z] ++ []) (upd H q (.lst [])) Q E0 := fun z zs ez ef hz q hq => ⟨z, rfl, hz, fun H' a s1 n1 hq1 => by
      rw [ez, ef] at hq1
      exact k H' a (fun b o e => s1 b o (same_lst hq b o e)) (by
        by_cases z : a = q
        · rw [z]; exact hq
        · rw [upd_ne z] at n1; exact n1) hq1⟩
    by_cases h16 : s.os.length < 16
    · refine ite2 (fun _ => ?_) (fun n => absurd (decide_eq_true (by omega)) n)
      refine ⟨_, rfl, _, _, rfl, rfl, by decide, ?_⟩
      refine ⟨_, rfl, _, _, rfl, h.fo T, Nat.zero_le _, fun q hq => ⟨L.o, q, _, rfl, rfl, SqL.of (same_lst hq _ _ o1), SqL.of upd_same, _, rfl, ?_⟩⟩
      rw [ev]
      cases he : s.os.isEmpty with
      | true =>
        refine ite2 (fun n => absurd n (by decide)) (fun _ => ?_)
        exact ⟨_, rfl, e1 _ [97, 116, 115, 102, 105, 119] (by decide +kernel) (by unfold LS.first; rw [if_pos h16, he]; rfl) (by decide +kernel) q hq⟩
      | false =>
        refine ite2 (fun _ => ?_) (fun n => absurd rfl n)
        refine ⟨_, rfl, _, _, rfl, rfl, by decide, ?_⟩
        exact ⟨_, rfl, e1 _ [97, 116, 115, 102, 105, 119, 101] (by decide +kernel) (by unfold LS.first; rw [if_pos h16, he]; rfl) (by decide +kernel) q hq⟩
    · refine ite2 (fun n => absurd (of_decide_eq_true n) (by omega)) (fun _ => ?_)
      refine ⟨_, rfl, _, _, rfl, h.fo T, Nat.zero_le _, fun q hq => ⟨L.o, q, _, rfl, rfl, SqL.of (same_lst hq _ _ o1), SqL.of upd_same, _, rfl, ?_⟩⟩
      rw [ev]
      cases he : s.os.isEmpty with
      | true =>
        refine ite2 (fun n => absurd n (by decide)) (fun _ => ?_)
        exact ⟨_, rfl, e1 _ [97, 116, 115, 102] (by decide +kernel) (by unfold LS.first; rw [if_neg h16, he]; rfl) (by decide +kernel) q hq⟩
      | false =>
        refine ite2 (fun _ => ?_) (fun n => absurd rfl n)
        refine ⟨_, rfl, _, _, rfl, rfl, by decide, ?_⟩
        exact ⟨_, rfl, e1 _ [97, 116, 115, 102, 101] (by decide +kernel) (by unfold LS.first; rw [if_neg h16, he]; rfl) (by decide +kernel) q hq⟩
/-- what a reading of a line's rest owes -/
def LQ (K : PySem.W.Frag) (C D F : Addr) (H0 : Hp) (X : Rdr) (L : Lno) (E : XK) (x : RL) (Q : VK) : Prop :=
  (∀ k, x = .bad k → FX F E 11 k) ∧ ∀ s2 b1 p1, x = .ok (s2, b1, p1) → ∀ H', RdAt K C X H' b1 p1 → LnAt K D H0 X.r L H' s2 → Q .non H'
theorem at_codes : codes (Str.ofString " at ") = [32, 97, 116, 32] := by decide +kernel
def spChange (K : PySem.W.Frag) (C D F : Addr) : Sp := fun vs H Q E => ∃ (X : Rdr) (b : List Int) (p : Nat) (H0 : Hp) (L : Lno) (s : LS) (n : Nat) (z : Str), vs = [.ref X.r, .ref L.a, .int (n : Int), .str z] ∧ RdAt K C X H b p ∧ LnAt K D H0 X.r L H s ∧
  s.ws.length ≤ 50000 ∧ z.cps.size ≤ 5000 ∧ LQ K C D F H0 X L E (rdChange s n (codes z) b p) Q
theorem ok_read_change (T : Txt K mg cFault cRunFault cTooLong cBeadFrame cReader cLines cRun) : Df P w K mg base (L2.CX P w) 8 "read_change" ["reader", "lines", "word", "rest"] (spChange K cReader cLines cFault) := by
  refine df_mk T.d_read_change fun f fd F => F.okX sc_read_change (fun vs H Q E h => ?_) (fun cdv A outer s H vs Q E hr h => ?_)
  · obtain ⟨X, b, p, H0, L, s, n, z, rfl, _⟩ := h
    rfl
  · obtain ⟨X, b, p, H0, L, s, n, z, rfl, R, h, hs, hz, kE, k⟩ := h
    refine ⟨_, (pss_cons (ps_expr (pe_mf (ok_Reader_word T) (hr.mono (by decide)) (passE (takes_of rfl rfl rfl rfl)) (pv 0) (by exact (pa_cons (pe_df (ok_bytes_of T) (hr.mono (by decide)) pass0 (by exact (pa_cons (pv 3) pa_nil))) pa_nil)))) (pss_cons (ps_set (i := 4) sc_read_change.nd rfl (Or.inl rfl) (pe_df (ok_expression T) (hr.mono (by decide)) (passE (takes_of rfl rfl rfl rfl)) (by exact (pa_cons (pv 0) (pa_cons (pe_lst (pa_cons (pe_gi T.c_BLANK) pa_nil)) pa_nil))))) (pss_cons (ps_expr (pe_mf (ok_Reader_word T) (hr.mono (by decide)) (passE (takes_of rfl rfl rfl rfl)) (pv 0) (by exact (pa_cons (pe_df (ok_bytes_of T) (hr.mono (by decide)) pass0 (by exact (pa_cons pe_str pa_nil))) pa_nil)))) (pss_one (ps_expr (pe_mf (ok_Lines_put T) (hr.mono (by decide)) pass0 (pv 1) (by exact (pa_cons (pv 2) (pa_cons (pe_tup (pa_cons (pv 4) (pa_cons (pe_df (ok_expression T) (hr.mono (by decide)) (passE (takes_of rfl rfl rfl rfl)) (by exact (pa_cons (pv 0) (pa_cons (pe_lst (pa_cons (pe_gi T.c_LINE_FEED) pa_nil)) pa_nil)))) pa_nil))) pa_nil))))))))), ?_⟩
    unfold rdChange at kE k
    refine st_word R h rfl (fun Q q => ⟨_, rfl, q⟩) hz rfl (fun kk e => kE kk (by rw [e])) fun b1 p1 e H1 R1 h1 i1 => ?_
    rw [e] at kE k
    dsimp only at kE k
    refine st_expr R1 h1 rfl (fun kk e => kE kk (by rw [e])) fun its b2 p2 e H2 q2 R2 h2 i2 t2 => ?_
    rw [e] at kE k
    dsimp only at kE k
    refine st_word R2 h2 rfl (fun Q q => q) (by decide +kernel) at_codes (fun kk e => kE kk (by rw [e])) fun b3 p3 e H3 R3 h3 i3 => ?_
    rw [e] at kE k
    dsimp only at kE k
    refine ⟨_, rfl, L.a, rfl, h3.ins, _, rfl, _, rfl, ?_⟩
    refine st_expr R3 h3 rfl (fun kk e => kE kk (by rw [e])) fun jts b4 p4 e H4 q4 R4 h4 i4 t4 => ?_
    rw [e] at k
    dsimp only at k
    refine ⟨sz (show 2 ≤ 100000 by decide), fun q hq => ?_⟩
    have s1 : Same H4 (upd H4 q (.tup [.ref q2, .ref q4])) := same_lst hq
    have c1 := IK.of (K := K) (N := N5 X.r L) (S := []) (chgS s1) (by simp)
    refine ⟨H0, X.r, L, s, n, .ref q, .two its jts, rfl, h4.same s1, ⟨q, q2, q4, rfl, SqT.of upd_same, c1 _ _ (i4 _ _ (i3 _ _ t2)), c1 _ _ t4⟩, hs, fun H5 c h5 => ?_⟩
    exact k _ _ _ rfl H5 ((R4.chg (S := []) (chgS s1) (by simp)).kl c) h5
def spSet (K : PySem.W.Frag) (C D F : Addr) : Sp := fun vs H Q E => ∃ (X : Rdr) (b : List Int) (p : Nat) (H0 : Hp) (L : Lno) (s : LS), vs = [.ref X.r, .ref L.a] ∧ RdAt K C X H b p ∧ LnAt K D H0 X.r L H s ∧
  s.ws.length ≤ 50000 ∧ LQ K C D F H0 X L E (rdSet s b p) Q
theorem ok_read_set_or_stop (T : Txt K mg cFault cRunFault cTooLong cBeadFrame cReader cLines cRun) : Df P w K mg base (L2.CX P w) 8 "read_set_or_stop" ["reader", "lines"] (spSet K cReader cLines cFault) := by
  refine df_mk T.d_read_set_or_stop fun f fd F => F.okX sc_read_set_or_stop (fun vs H Q E h => ?_) (fun cdv A outer s H vs Q E hr h => ?_)
  · obtain ⟨X, b, p, H0, L, s, rfl, _⟩ := h
    rfl
  · obtain ⟨X, b, p, H0, L, s, rfl, R, h, hs, kE, k⟩ := h
    refine ⟨_, (pss_one (ps_if (pt_cmpR op_eq (pe_mf (ok_Reader_next_of T) (hr.mono (by decide)) (passE (takes_of rfl rfl rfl rfl)) (pv 0) (by exact (pa_cons (pe_df (ok_bytes_of T) (hr.mono (by decide)) pass0 (by exact (pa_cons pe_str pa_nil))) pa_nil))) (pe_callB call_ord (by rfl) T.n_ord (by decide +kernel) (pa_cons pe_str pa_nil)) (nomark _)) (pss_cons (ps_expr (pe_mf (ok_Reader_word T) (hr.mono (by decide)) (passE (takes_of rfl rfl rfl rfl)) (pv 0) (by exact (pa_cons (pe_df (ok_bytes_of T) (hr.mono (by decide)) pass0 (by exact (pa_cons pe_str pa_nil))) pa_nil)))) (pss_one (ps_expr (pe_mf (ok_Lines_put T) (hr.mono (by decide)) pass0 (pv 1) (by exact (pa_cons (pe_gi T.c_STOP) (pa_cons (pe_tup pa_nil) pa_nil))))))) (pss_cons (ps_expr (pe_mf (ok_Reader_word T) (hr.mono (by decide)) (passE (takes_of rfl rfl rfl rfl)) (pv 0) (by exact (pa_cons (pe_df (ok_bytes_of T) (hr.mono (by decide)) pass0 (by exact (pa_cons pe_str pa_nil))) pa_nil)))) (pss_cons (ps_set (i := 2) sc_read_set_or_stop.nd rfl (Or.inl rfl) (pe_op op_sub (pe_mf (ok_Reader_next_of T) (hr.mono (by decide)) (passE (takes_of rfl rfl rfl rfl)) (pv 0) (by exact (pa_cons (pe_gt T.c_HEADS) pa_nil))) (pe_ix ix_tup (pe_gt T.c_HEADS) pe_int (fun _ _ => rfl)))) (pss_cons (ps_expr (pe_mf (ok_Reader_word T) (hr.mono (by decide)) (passE (takes_of rfl rfl rfl rfl)) (pv 0) (by exact (pa_cons (pe_lst (pa_cons (pe_gi T.c_BLANK) pa_nil)) pa_nil)))) (pss_one (ps_expr (pe_mf (ok_Lines_put T) (hr.mono (by decide)) pass0 (pv 1) (by exact (pa_cons (pe_gi T.c_SET) (pa_cons (pe_tup (pa_cons (pv 2) (pa_cons (pe_df (ok_expression T) (hr.mono (by decide)) (passE (takes_of rfl rfl rfl rfl)) (by exact (pa_cons (pv 0) (pa_cons (pe_lst (pa_cons (pe_gi T.c_LINE_FEED) pa_nil)) pa_nil)))) pa_nil))) pa_nil))))))))))), ?_⟩
    unfold rdSet at kE k
    refine st_next R h rfl (fun Q q => q H fun _ _ e => e) (by decide +kernel) (show codes (Str.ofString "et") = [101, 116] by decide +kernel) (fun kk e => kE kk (by rw [e])) fun c b1 p1 e H1 R1 h1 => ?_
    rw [e] at kE k
    dsimp only at kE k
    refine ⟨_, rfl, (by decide +kernel), rfl, _, rfl, ?_⟩
    by_cases hc : c = 116
    · subst hc
      rw [if_pos rfl] at kE k
      refine ite2 (fun _ => ?_) (fun n => absurd (by decide +kernel) n)
      refine st_word R1 h1 rfl (fun Q q => q) (by decide +kernel) (show codes (Str.ofString "op") = [111, 112] by decide +kernel) (fun kk e => kE kk (by rw [e])) fun b2 p2 e H2 R2 h2 i2 => ?_
      rw [e] at k
      dsimp only at k
      exact st_put0 (n := 7) R2 h2 rfl hs fun H3 R3 h3 => k _ _ _ rfl H3 R3 h3
    · rw [if_neg hc] at kE k
      refine ite2 (fun n => absurd (V.int.inj (of_decide_eq_true n)) hc) (fun _ => ?_)
      refine st_word R1 h1 rfl (fun Q q => q) (by decide +kernel) (show codes (Str.ofString "t ") = [116, 32] by decide +kernel) (fun kk e => kE kk (by rw [e])) fun b2 p2 e H2 R2 h2 i2 => ?_
      rw [e] at kE k
      dsimp only at kE k
      refine ⟨_, rfl, X.r, rfl, R2.ins, fun ta hta => ?_⟩
      refine ⟨X, ta, b2, p2, headsL, rfl, R2, .inr (hta _), fun kk e => (kE kk (by rw [e])).fe, fun hd b3 p3 e H3 c3 R3 => ?_⟩
      rw [e] at kE k
      dsimp only at kE k
      have h3 := h2.chg c3 ⟨_, _, _, R3.obj⟩
      refine fun tb htb => ⟨tb, _, 0, .int 97, rfl, rfl, htb _, rfl, ?_⟩
      refine ⟨hd, 97, rfl, rfl, ?_⟩
      refine st_word1 R3 h3 rfl (fun kk e => kE kk (by rw [e])) fun b4 p4 e H4 R4 h4 i4 => ?_
      rw [e] at kE k
      dsimp only at kE k
      refine ⟨_, rfl, L.a, rfl, h4.ins, _, rfl, ?_⟩
      refine st_expr R4 h4 rfl (fun kk e => kE kk (by rw [e])) fun its b5 p5 e H5 q5 R5 h5 i5 t5 => ?_
      rw [e] at k
      dsimp only at k
      refine ⟨sz (show 2 ≤ 100000 by decide), fun q hq => ?_⟩
      have s1 : Same H5 (upd H5 q (.tup [.int (hd - 97), .ref q5])) := same_lst hq
      have c1 := IK.of (K := K) (N := N5 X.r L) (S := []) (chgS s1) (by simp)
      refine ⟨H0, X.r, L, s, 2, .ref q, .set (hd - 97) its, rfl, h5.same s1, ⟨q, q5, rfl, SqT.of upd_same, c1 _ _ t5⟩, hs, fun H6 c h6 => ?_⟩
      exact k _ _ _ rfl H6 ((R5.chg (S := []) (chgS s1) (by simp)).kl c) h6
def spElse (K : PySem.W.Frag) (C D F : Addr) : Sp := fun vs H Q E => ∃ (X : Rdr) (b : List Int) (p : Nat) (H0 : Hp) (L : Lno) (s : LS), vs = [.ref X.r, .ref L.a] ∧ RdAt K C X H b p ∧ LnAt K D H0 X.r L H s ∧
  s.ws.length ≤ 50000 ∧ Ob s ∧ s.os ≠ [] ∧ LQ K C D F H0 X L E (rdElse s b p) Q
theorem ok_read_else_or_end (T : Txt K mg cFault cRunFault cTooLong cBeadFrame cReader cLines cRun) : Df P w K mg base (L2.CX P w) 5 "read_else_or_end" ["reader", "lines"] (spElse K cReader cLines cFault) := by
  refine df_mk T.d_read_else_or_end fun f fd F => F.okX sc_read_else_or_end (fun vs H Q E h => ?_) (fun cdv A outer s H vs Q E hr h => ?_)
  · obtain ⟨X, b, p, H0, L, s, rfl, _⟩ := h
    rfl
  · obtain ⟨X, b, p, H0, L, s, rfl, R, h, hs, hob, ho, kE, k⟩ := h
    refine ⟨_, (pss_one (ps_if (pt_cmpR op_eq (pe_mf (ok_Reader_next_of T) (hr.mono (by decide)) (passE (takes_of rfl rfl rfl rfl)) (pv 0) (by exact (pa_cons (pe_df (ok_bytes_of T) (hr.mono (by decide)) pass0 (by exact (pa_cons (pe_ifExp (pt_val (pe_mf0 (ok_Lines_may_have_else T) (hr.mono (by decide)) pass0 (pv 1))) pe_str pe_str) pa_nil))) pa_nil))) (pe_callB call_ord (by rfl) T.n_ord (by decide +kernel) (pa_cons pe_str pa_nil)) (nomark _)) (pss_cons (ps_expr (pe_mf (ok_Reader_word T) (hr.mono (by decide)) (passE (takes_of rfl rfl rfl rfl)) (pv 0) (by exact (pa_cons (pe_df (ok_bytes_of T) (hr.mono (by decide)) pass0 (by exact (pa_cons pe_str pa_nil))) pa_nil)))) (pss_one (ps_expr (pe_mf0 (ok_Lines_put_end T) (hr.mono (by decide)) pass0 (pv 1))))) (pss_cons (ps_expr (pe_mf (ok_Reader_word T) (hr.mono (by decide)) (passE (takes_of rfl rfl rfl rfl)) (pv 0) (by exact (pa_cons (pe_df (ok_bytes_of T) (hr.mono (by decide)) pass0 (by exact (pa_cons pe_str pa_nil))) pa_nil)))) (pss_one (ps_expr (pe_mf0 (ok_Lines_put_else T) (hr.mono (by decide)) pass0 (pv 1))))))), ?_⟩
    unfold rdElse at kE k
    have en : ∃ z : Str, (if s.may = true then z = "nl" else z = "n") ∧ z.cps.size ≤ 5000 ∧ codes z = (if s.may = true then [110, 108] else [110]) := by
      by_cases hm : s.may = true
      · exact ⟨"nl", by rw [if_pos hm], by decide +kernel, by rw [if_pos hm]; decide +kernel⟩
      · exact ⟨"n", by rw [if_neg hm], by decide +kernel, by rw [if_neg hm]; decide +kernel⟩
    obtain ⟨z, ez, lz, cz⟩ := en
    refine st_next (z := z) R h rfl (fun Q q => ?_) lz cz (fun kk e => kE kk (by rw [e])) fun c b1 p1 e H1 R1 h1 => ?_
    · refine ⟨_, rfl, L.a, rfl, h.ins, H0, X.r, L, s, rfl, h, hob, fun H' s1 => ⟨_, rfl, ?_⟩⟩
      refine ite2 (fun c => ?_) (fun c => ?_)
      · rw [if_pos c] at ez
        subst ez
        exact q _ s1
      · rw [if_neg c] at ez
        subst ez
        exact q _ s1
    rw [e] at kE k
    dsimp only at kE k
    refine ⟨_, rfl, (by decide +kernel), rfl, _, rfl, ?_⟩
    by_cases hc : c = 110
    · subst hc
      rw [if_pos rfl] at kE k
      refine ite2 (fun _ => ?_) (fun n => absurd (by decide +kernel) n)
      refine st_word R1 h1 rfl (fun Q q => q) (by decide +kernel) (show codes (Str.ofString "d") = [100] by decide +kernel) (fun kk e => kE kk (by rw [e])) fun b2 p2 e H2 R2 h2 i2 => ?_
      rw [e] at k
      dsimp only at k
      refine ⟨_, rfl, L.a, rfl, h2.ins, H0, X.r, L, s, rfl, h2, hs, ho, hob, fun H3 c h3 => ?_⟩
      exact k _ _ _ rfl H3 (R2.kl c) h3
    · rw [if_neg hc] at kE k
      refine ite2 (fun n => absurd (V.int.inj (of_decide_eq_true n)) hc) (fun _ => ?_)
      refine st_word R1 h1 rfl (fun Q q => q) (by decide +kernel) (show codes (Str.ofString "se") = [115, 101] by decide +kernel) (fun kk e => kE kk (by rw [e])) fun b2 p2 e H2 R2 h2 i2 => ?_
      rw [e] at k
      dsimp only at k
      refine ⟨_, rfl, L.a, rfl, h2.ins, H0, X.r, L, s, rfl, h2, hs, ho, hob, fun H3 c h3 => ?_⟩
      exact k _ _ _ rfl H3 (R2.kl c) h3
theorem st_tests {X : Rdr} {b : List Int} {p : Nat} {H0 : Hp} {L : Lno} {s : LS} {H : Hp} {σ : L2.St} {E : XK} {D : L2.Ends} {i j n : Nat}
    (R : RdAt K cReader X H b p) (h : LnAt K cLines H0 X.r L H s) (hi : σ[i]? = some (some (.ref L.a))) (hj : σ[j]? = some (some (.ref X.r))) (hs : s.ws.length ≤ 50000) (ho : s.os.length < 5000)
    (kE : ∀ k, cond b p = .bad k → FX cFault E 11 k)
    (k : ∀ ts b1 p1, cond b p = .ok (ts, b1, p1) → ∀ H', RdAt K cReader X H' b1 p1 → LnAt K cLines H0 X.r L H' (s.opened n (.tests ts)) → D.nx σ H') :
    tDrop (tMf cLines "opened" (spOpened K cLines) E0 (tVar i) (tCons (tC (.int (n : Int))) (tCons (tTup (tCons (tCall (spCondition K cReader cFault) [] E (tCons (tVar j) tNil)) tNil)) tNil))) D σ H := by
  refine ⟨_, hi, L.a, rfl, h.ins, _, hj, X, b, p, rfl, R, fun kk e => (kE kk e).fe, fun ts b1 p1 e H1 q1 vs c1 R1 n1 hq1 ht => ?_⟩
  have h1 := h.chg c1 ⟨_, _, _, R1.obj⟩
  have t1 := ht.imp fun l hl => h.n5 hl
  refine ⟨sz (show 1 ≤ 100000 by decide), fun q hq => ?_⟩
  have s1 : Same H1 (upd H1 q (.tup [.ref q1])) := same_lst hq
  refine ⟨H0, X.r, L, s, n, .ref q, .tests ts, rfl, h1.same s1, ⟨q, q1, vs, rfl, SqT.of upd_same, h.n5 n1, s1 _ _ hq1, t1.chg (S := []) (chgS s1) (by simp)⟩, hs, ho, fun H2 c h2 => ?_⟩
  exact k ts b1 p1 e H2 ((R1.chg (S := []) (chgS s1) (by simp)).kl c) h2
def spLine (K : PySem.W.Frag) (C D F : Addr) : Sp := fun vs H Q E => ∃ (X : Rdr) (b : List Int) (p : Nat) (H0 : Hp) (L : Lno) (s : LS), vs = [.ref X.r, .ref L.a] ∧ RdAt K C X H b p ∧ LnAt K D H0 X.r L H s ∧
  s.ws.length ≤ 50000 ∧ Ob s ∧ LQ K C D F H0 X L E (rdLine s b p) Q
theorem ok_read_line (T : Txt K mg cFault cRunFault cTooLong cBeadFrame cReader cLines cRun) (hnl : ∀ b p, cond b p ≠ .lost) : Df P w K mg base (L2.CX P w) 9 "read_line" ["reader", "lines"] (spLine K cReader cLines cFault) := by
  refine df_mk T.d_read_line fun f fd F => F.okX sc_read_line (fun vs H Q E h => ?_) (fun cdv A outer s H vs Q E hr h => ?_)
  · obtain ⟨X, b, p, H0, L, s, rfl, _⟩ := h
    rfl
  · obtain ⟨X, b, p, H0, L, s, rfl, R, h, hs, hob, kE, k⟩ := h
    have ok_condition := fun (T : Txt K mg cFault cRunFault cTooLong cBeadFrame cReader cLines cRun) => ok_condition (P := P) (w := w) (base := base) T hnl
    refine ⟨_, (pss_cons (ps_set (i := 2) sc_read_line.nd rfl (Or.inl rfl) (pe_mf (ok_Reader_next_of T) (hr.mono (by decide)) (passE (takes_of rfl rfl rfl rfl)) (pv 0) (by exact (pa_cons (pe_df (ok_first_bytes T) (hr.mono (by decide)) pass0 (by exact (pa_cons (pv 1) pa_nil))) pa_nil)))) (pss_cons (ps_if (pt_cmpR op_eq (pv 2) (pe_callB call_ord (by rfl) T.n_ord (by decide +kernel) (pa_cons pe_str pa_nil)) (nomark _)) (pss_one (ps_expr (pe_df (ok_read_change T) (hr.mono (by decide)) (passE (takes_of rfl rfl rfl rfl)) (by exact (pa_cons (pv 0) (pa_cons (pv 1) (pa_cons (pe_gi T.c_ADD) (pa_cons pe_str pa_nil)))))))) (pss_one (ps_if (pt_cmpR op_eq (pv 2) (pe_callB call_ord (by rfl) T.n_ord (by decide +kernel) (pa_cons pe_str pa_nil)) (nomark _)) (pss_one (ps_expr (pe_df (ok_read_change T) (hr.mono (by decide)) (passE (takes_of rfl rfl rfl rfl)) (by exact (pa_cons (pv 0) (pa_cons (pv 1) (pa_cons (pe_gi T.c_TAKE) (pa_cons pe_str pa_nil)))))))) (pss_one (ps_if (pt_cmpR op_eq (pv 2) (pe_callB call_ord (by rfl) T.n_ord (by decide +kernel) (pa_cons pe_str pa_nil)) (nomark _)) (pss_one (ps_expr (pe_df (ok_read_set_or_stop T) (hr.mono (by decide)) (passE (takes_of rfl rfl rfl rfl)) (by exact (pa_cons (pv 0) (pa_cons (pv 1) pa_nil)))))) (pss_one (ps_if (pt_cmpR op_eq (pv 2) (pe_callB call_ord (by rfl) T.n_ord (by decide +kernel) (pa_cons pe_str pa_nil)) (nomark _)) (pss_cons (ps_expr (pe_mf (ok_Reader_word T) (hr.mono (by decide)) (passE (takes_of rfl rfl rfl rfl)) (pv 0) (by exact (pa_cons (pe_df (ok_bytes_of T) (hr.mono (by decide)) pass0 (by exact (pa_cons pe_str pa_nil))) pa_nil)))) (pss_one (ps_expr (pe_mf (ok_Lines_put T) (hr.mono (by decide)) pass0 (pv 1) (by exact (pa_cons (pe_gi T.c_FAIL) (pa_cons (pe_tup pa_nil) pa_nil))))))) (pss_one (ps_if (pt_cmpR op_eq (pv 2) (pe_callB call_ord (by rfl) T.n_ord (by decide +kernel) (pa_cons pe_str pa_nil)) (nomark _)) (pss_cons (ps_expr (pe_mf (ok_Reader_word T) (hr.mono (by decide)) (passE (takes_of rfl rfl rfl rfl)) (pv 0) (by exact (pa_cons (pe_df (ok_bytes_of T) (hr.mono (by decide)) pass0 (by exact (pa_cons pe_str pa_nil))) pa_nil)))) (pss_one (ps_expr (pe_mf (ok_Lines_opened T) (hr.mono (by decide)) pass0 (pv 1) (by exact (pa_cons (pe_gi T.c_IF) (pa_cons (pe_tup (pa_cons (pe_df (ok_condition T) (hr.mono (by decide)) (passE (takes_of rfl rfl rfl rfl)) (by exact (pa_cons (pv 0) pa_nil))) pa_nil)) pa_nil))))))) (pss_one (ps_if (pt_cmpR op_eq (pv 2) (pe_callB call_ord (by rfl) T.n_ord (by decide +kernel) (pa_cons pe_str pa_nil)) (nomark _)) (pss_cons (ps_expr (pe_mf (ok_Reader_word T) (hr.mono (by decide)) (passE (takes_of rfl rfl rfl rfl)) (pv 0) (by exact (pa_cons (pe_df (ok_bytes_of T) (hr.mono (by decide)) pass0 (by exact (pa_cons pe_str pa_nil))) pa_nil)))) (pss_one (ps_expr (pe_mf (ok_Lines_opened T) (hr.mono (by decide)) pass0 (pv 1) (by exact (pa_cons (pe_gi T.c_WHILE) (pa_cons (pe_tup (pa_cons (pe_df (ok_condition T) (hr.mono (by decide)) (passE (takes_of rfl rfl rfl rfl)) (by exact (pa_cons (pv 0) pa_nil))) pa_nil)) pa_nil))))))) (pss_one (ps_expr (pe_df (ok_read_else_or_end T) (hr.mono (by decide)) (passE (takes_of rfl rfl rfl rfl)) (by exact (pa_cons (pv 0) (pa_cons (pv 1) pa_nil))))))))))))))))) (pss_one (ps_expr (pe_mf (ok_Reader_word T) (hr.mono (by decide)) (passE (takes_of rfl rfl rfl rfl)) (pv 0) (by exact (pa_cons (pe_lst (pa_cons (pe_gi T.c_LINE_FEED) pa_nil)) pa_nil))))))), ?_⟩
    unfold rdLine at kE k
    refine ⟨_, rfl, X.r, rfl, R.ins, _, rfl, H0, X.r, L, s, rfl, h, fun H1 q1 s1 n1 hq1 => ?_⟩
    have R1 := R.chg (S := []) (chgS s1) (by simp)
    refine ⟨X, q1, b, p, s.first, rfl, R1, .inl (SqL.of hq1), fun kk e => (kE kk (by rw [e])).fe, fun c b1 p1 e H2 c2 R2 => ?_⟩
    have h2 := (h.same s1).chg c2 ⟨_, _, _, R2.obj⟩
    have hc : s.first.contains c = true := nx_in e
    rw [e] at kE k
    dsimp only at kE k
    have kB : ∀ kk, rdBody s c b1 p1 = .bad kk → FX cFault E 11 kk := fun kk e => kE kk (by rw [e])
    have kO : ∀ s2 b2 p2, rdBody s c b1 p1 = .ok (s2, b2, p2) → (∀ kk, word [10] b2 p2 = .bad kk → FX cFault E 11 kk) ∧ ∀ b3 p3, word [10] b2 p2 = .ok (b3, p3) → ∀ H', RdAt K cReader X H' b3 p3 → LnAt K cLines H0 X.r L H' s2 → Q .non H' := fun s2 b2 p2 e => by
      rw [e] at kE k
      dsimp only at kE k
      exact ⟨fun kk e => kE kk (by rw [e]), fun b3 p3 e => k _ _ _ (by rw [e])⟩
    clear kE k
    unfold rdBody at kB kO
    refine ⟨_, rfl, _, rfl, (by decide +kernel), rfl, _, rfl, ?_⟩
    by_cases h97 : c = 97
    · subst h97
      rw [if_pos rfl] at kB kO
      refine ite2 (fun _ => ?_) (fun n => absurd (by decide +kernel) n)
      refine ⟨_, rfl, _, rfl, X, b1, p1, H0, L, s, 0, "dd ", rfl, R2, h2, hs, (by decide +kernel), ?_⟩
      rw [show codes (Str.ofString "dd ") = [100, 100, 32] by decide +kernel]
      exact ⟨kB, fun s2 b2 p2 e H3 R3 h3 => st_word1 R3 h3 rfl (kO _ _ _ e).1 fun b3 p3 e3 H4 R4 h4 _ => (kO _ _ _ e).2 b3 p3 e3 H4 R4 h4⟩
    rw [if_neg h97] at kB kO
    refine ite2 (fun n => absurd (V.int.inj (of_decide_eq_true n)) h97) (fun _ => ?_)
    refine ⟨_, rfl, _, rfl, (by decide +kernel), rfl, _, rfl, ?_⟩
    by_cases h116 : c = 116
    · subst h116
      rw [if_pos rfl] at kB kO
      refine ite2 (fun _ => ?_) (fun n => absurd (by decide +kernel) n)
      refine ⟨_, rfl, _, rfl, X, b1, p1, H0, L, s, 1, "ake ", rfl, R2, h2, hs, (by decide +kernel), ?_⟩
      rw [show codes (Str.ofString "ake ") = [97, 107, 101, 32] by decide +kernel]
      exact ⟨kB, fun s2 b2 p2 e H3 R3 h3 => st_word1 R3 h3 rfl (kO _ _ _ e).1 fun b3 p3 e3 H4 R4 h4 _ => (kO _ _ _ e).2 b3 p3 e3 H4 R4 h4⟩
    rw [if_neg h116] at kB kO
    refine ite2 (fun n => absurd (V.int.inj (of_decide_eq_true n)) h116) (fun _ => ?_)
    refine ⟨_, rfl, _, rfl, (by decide +kernel), rfl, _, rfl, ?_⟩
    by_cases h115 : c = 115
    · subst h115
      rw [if_pos rfl] at kB kO
      refine ite2 (fun _ => ?_) (fun n => absurd (by decide +kernel) n)
      refine ⟨_, rfl, _, rfl, X, b1, p1, H0, L, s, rfl, R2, h2, hs, ?_⟩
      exact ⟨kB, fun s2 b2 p2 e H3 R3 h3 => st_word1 R3 h3 rfl (kO _ _ _ e).1 fun b3 p3 e3 H4 R4 h4 _ => (kO _ _ _ e).2 b3 p3 e3 H4 R4 h4⟩
    rw [if_neg h115] at kB kO
    refine ite2 (fun n => absurd (V.int.inj (of_decide_eq_true n)) h115) (fun _ => ?_)
    refine ⟨_, rfl, _, rfl, (by decide +kernel), rfl, _, rfl, ?_⟩
    by_cases h102 : c = 102
    · subst h102
      rw [if_pos rfl] at kB kO
      refine ite2 (fun _ => ?_) (fun n => absurd (by decide +kernel) n)
      refine st_word R2 h2 rfl (fun Q q => q) (by decide +kernel) (show codes (Str.ofString "ail") = [97, 105, 108] by decide +kernel) (fun kk e => kB kk (by rw [e])) fun b2 p2 e H3 R3 h3 _ => ?_
      rw [e] at kO
      have kO := kO _ _ _ rfl
      refine st_put0 (n := 8) R3 h3 rfl hs fun H4 R4 h4 => ?_
      exact st_word1 R4 h4 rfl kO.1 fun b3 p3 e3 H5 R5 h5 _ => kO.2 b3 p3 e3 H5 R5 h5
    rw [if_neg h102] at kB kO
    refine ite2 (fun n => absurd (V.int.inj (of_decide_eq_true n)) h102) (fun _ => ?_)
    refine ⟨_, rfl, _, rfl, (by decide +kernel), rfl, _, rfl, ?_⟩
    have hiw : c = 105 ∨ c = 119 → s.os.length < 5000 := fun hiw => by
      by_cases h16 : s.os.length < 16
      · omega
      · unfold LS.first at hc
        rw [if_neg h16] at hc
        exfalso
        rcases hiw with z | z
        · subst z
          cases z : s.os.isEmpty <;> rw [z] at hc <;> exact absurd hc (by decide)
        · subst z
          cases z : s.os.isEmpty <;> rw [z] at hc <;> exact absurd hc (by decide)
    by_cases h105 : c = 105
    · subst h105
      rw [if_pos rfl] at kB kO
      refine ite2 (fun _ => ?_) (fun n => absurd (by decide +kernel) n)
      unfold rdTests at kB kO
      refine st_word R2 h2 rfl (fun Q q => q) (by decide +kernel) (show codes (Str.ofString "f ") = [102, 32] by decide +kernel) (fun kk e => kB kk (by rw [e])) fun b2 p2 e H3 R3 h3 _ => ?_
      rw [e] at kB kO
      dsimp only at kB kO
      refine st_tests (n := 3) R3 h3 rfl rfl hs (hiw (.inl rfl)) (fun kk e => kB kk (by rw [e])) fun ts b3 p3 e H4 R4 h4 => ?_
      rw [e] at kO
      have kO := kO _ _ _ rfl
      exact st_word1 R4 h4 rfl kO.1 fun b3 p3 e3 H5 R5 h5 _ => kO.2 b3 p3 e3 H5 R5 h5
    rw [if_neg h105] at kB kO
    refine ite2 (fun n => absurd (V.int.inj (of_decide_eq_true n)) h105) (fun _ => ?_)
    refine ⟨_, rfl, _, rfl, (by decide +kernel), rfl, _, rfl, ?_⟩
    by_cases h119 : c = 119
    · subst h119
      rw [if_pos rfl] at kB kO
      refine ite2 (fun _ => ?_) (fun n => absurd (by decide +kernel) n)
      unfold rdTests at kB kO
      refine st_word R2 h2 rfl (fun Q q => q) (by decide +kernel) (show codes (Str.ofString "hile ") = [104, 105, 108, 101, 32] by decide +kernel) (fun kk e => kB kk (by rw [e])) fun b2 p2 e H3 R3 h3 _ => ?_
      rw [e] at kB kO
      dsimp only at kB kO
      refine st_tests (n := 6) R3 h3 rfl rfl hs (hiw (.inr rfl)) (fun kk e => kB kk (by rw [e])) fun ts b3 p3 e H4 R4 h4 => ?_
      rw [e] at kO
      have kO := kO _ _ _ rfl
      exact st_word1 R4 h4 rfl kO.1 fun b3 p3 e3 H5 R5 h5 _ => kO.2 b3 p3 e3 H5 R5 h5
    rw [if_neg h119] at kB kO
    refine ite2 (fun n => absurd (V.int.inj (of_decide_eq_true n)) h119) (fun _ => ?_)
    have ho : s.os ≠ [] := fun z => by
      unfold LS.first at hc
      rw [z] at hc
      have : c = 97 ∨ c = 116 ∨ c = 115 ∨ c = 102 ∨ c = 105 ∨ c = 119 := by simpa using hc
      omega
    refine ⟨_, rfl, _, rfl, X, b1, p1, H0, L, s, rfl, R2, h2, hs, hob, ho, ?_⟩
    exact ⟨kB, fun s2 b2 p2 e H3 R3 h3 => st_word1 R3 h3 rfl (kO _ _ _ e).1 fun b3 p3 e3 H4 R4 h4 _ => (kO _ _ _ e).2 b3 p3 e3 H4 R4 h4⟩
end
end Ab
/-! ## The walk: lines_of, method -/
namespace Ab
open PySem PySem.Spec PyProof.Rows L2
theorem lnL_succ (f : Nat) (s : LS) (b : List Int) (p : Nat) : lnL (f + 1) s b p = if b.isEmpty = true then (if s.os.isEmpty = true then .ok s else .bad p) else match rdLine s b p with
    | .lost => .lost
    | .bad k => .bad k
    | .ok (s2, b2, p2) => lnL f s2 b2 p2 := rfl
theorem lnL_fuel : ∀ (f : Nat) {s : LS} {b : List Int} {p : Nat}, Mid s b → b.length < f → lnL f s b p ≠ .lost
  | 0, s, b, p, _, h => absurd h (Nat.not_lt_zero _)
  | f + 1, s, b, p, m, h => by
    rw [lnL_succ]
    cases hb : b.isEmpty with
    | true =>
      rw [if_pos rfl]
      cases s.os.isEmpty <;> intro z <;> cases z
    | false =>
      rw [if_neg (by decide)]
      obtain ⟨n, k⟩ := rdLine_step (p := p) m hb
      cases e : rdLine s b p with
      | lost => exact absurd e n
      | bad k => intro z; cases z
      | ok x =>
        obtain ⟨s2, b2, p2⟩ := x
        obtain ⟨m2, l2, _⟩ := k s2 b2 p2 e
        exact lnL_fuel f m2 (by omega)
section
variable {P : Program} {w : World} {K : PySem.W.Frag} {mg : Str → Option Value} {base : Heap} {cFault cRunFault cTooLong cBeadFrame cReader cLines cRun : Addr}
def spLinesOf (K : PySem.W.Frag) (C D F : Addr) : Sp := fun vs H Q E => ∃ (t : Addr) (l : List Int), vs = [.ref t] ∧ Fz K H t (vis l) ∧ Good l ∧ l.length ≤ 5000 ∧
  (∀ k, linesOf l = .bad k → FX F E 11 k) ∧ ∀ s, linesOf l = .ok s → ∀ H' r L, LnAt K D H r L H' s → Q (.ref L.a) H'
theorem ok_lines_of (T : Txt K mg cFault cRunFault cTooLong cBeadFrame cReader cLines cRun) (hnl : ∀ b p, cond b p ≠ .lost) : Df P w K mg base (L2.CX P w) 10 "lines_of" ["text"] (spLinesOf K cReader cLines cFault) := by
  refine df_mk T.d_lines_of fun f fd F => F.okX sc_lines_of (fun vs H Q E h => ?_) (fun cdv A outer s H vs Q E hr h => ?_)
  · obtain ⟨t, l, rfl, _⟩ := h
    rfl
  · obtain ⟨t, l, rfl, ht, gl, hl, kE, k⟩ := h
    have ok_read_line := fun (T : Txt K mg cFault cRunFault cTooLong cBeadFrame cReader cLines cRun) => ok_read_line (P := P) (w := w) (base := base) T hnl
    refine ⟨_, (pss_cons (ps_par rfl sc_lines_of.nd (i := 1) (j := 2) rfl rfl (by decide) rfl rfl (pa_cons (pe_kf (ok_Reader___init__ T) (hr.mono (by decide)) pass0 (by exact (pa_cons (pv 0) pa_nil))) (pa_cons (pe_kf0 (ok_Lines___init__ T) (hr.mono (by decide)) pass0) pa_nil)) (by rfl)) (pss_cons (ps_while (passes_of rfl) (pt_cmpR op_lt (pe_get (pv 1)) (pe_callB call_len_seq (by rfl) T.n_len PySem.boot_len (pa_cons (pv 0) pa_nil)) (nomark _)) (pss_one (ps_expr (pe_df (ok_read_line T) (hr.mono (by decide)) (passE (takes_of rfl rfl rfl rfl)) (by exact (pa_cons (pv 1) (pa_cons (pv 2) pa_nil))))))) (pss_cons (ps_if (pt_cmpR (op_neE hr.units0) (pe_get (pv 2)) (pe_lst pa_nil) (nomark _)) (pss_one (ps_raise rfl (takes_of rfl rfl rfl rfl) (pmk_xf (ok_Fault___init__ T) (hr.mono (by decide)) (by exact (pa_cons (pe_gi T.c_RULE) (pa_cons (pe_callB call_len_seq (by rfl) T.n_len PySem.boot_len (pa_cons (pv 0) pa_nil)) pa_nil)))))) pss_nil) (pss_one (ps_ret (pv 2)))))), ?_⟩
    refine ⟨_, rfl, fun x dx hx hdx ne => ⟨x, t, dx, rfl, upd_same, fun H1 c1 e1 => ⟨rfl, fun y dy hy hdy ne2 => ⟨y, dy, rfl, upd_same, fun H2 L ea ed c2 eo nn nl nd => ⟨rfl, ?_⟩⟩⟩⟩⟩
    have s1 : Same H H1 := fun b o e => c1 b o (ne_of_none e hx) (by rw [upd_ne (ne_of_none e hx), upd_ne (ne_of_none e hdx)]; exact e)
    have s2 : Same H1 H2 := fun b o e => c2 b o (ne_of_none e hy) (by rw [upd_ne (ne_of_none e hy), upd_ne (ne_of_none e hdy)]; exact e)
    have s12 : Same H H2 := fun b o e => s2 b o (s1 b o e)
    have nH : ∀ {a}, H1 a = none → H a = none := fun {a} h => by
      cases q : H a with
      | none => rfl
      | some o => rw [s1 a o q] at h; cases h
    have lnl := lnL_fuel (l.length + 1) (p := 0) (mid_start gl) (Nat.lt_succ_self _)
    subst ea ed
    have n1 : ∀ a ∈ [L.w, L.p, L.g, L.o], H1 a = none := fun a ha => (upd_none (upd_none (nn a ha)).2).2
    have R0 : RdAt K cReader ⟨x, dx, t, l⟩ H2 l 0 := ⟨s2 _ _ e1, ht.chg (chgS s12 : Chg [] H H2), rfl, Nat.zero_add _, hl⟩
    have h0 : LnAt K cLines H x L H2 .empty := {
      base := s12
      new := fun a ha => by
        rcases List.mem_cons.mp ha with z | ha
        · rw [z]; exact hx
        · rcases List.mem_cons.mp ha with z | ha
          · rw [z]; exact nH hy
          · exact nH (n1 a ha)
      obj := eo
      ra := ne_of_none e1 hy
      rdr := ⟨_, _, _, s2 _ _ e1⟩
      nd := nd
      ws := nl L.w (by simp)
      gs := nl L.g (by simp)
      ps := ⟨[], nl L.p (by simp), .nil⟩
      os := ⟨[], nl L.o (by simp), .nil, List.nodup_nil, fun a ha => by cases ha⟩
      gl := rfl
      pl := rfl
      sm := Nat.zero_le _ }
    refine ⟨_, _, rfl, ?_⟩
    refine ⟨fun m σ H' => ∃ b p s, σ = [some (.ref t), some (.ref x), some (.ref L.a)] ∧ RdAt K cReader ⟨x, dx, t, l⟩ H' b p ∧ LnAt K cLines H x L H' s ∧ Mid s b ∧ s.ws.length + b.length ≤ 5000 ∧ lnL m s b p = linesOf l,
      ⟨l.length + 1, l, 0, .empty, rfl, R0, h0, mid_start gl, by show 0 + l.length ≤ 5000; omega, rfl⟩, ?_⟩
    rintro m σ H' ⟨b, p, s, rfl, R, h, md, hsz, em⟩
    have elen : (vis l).length = l.length := vis_len l
    have rl : p + b.length = l.length := R.len
    refine ⟨_, rfl, _, _, rfl, R.fat T, _, rfl, t, vis l, rfl, .inl R.txt.sq, _, _, rfl, rfl, _, rfl, ?_⟩
    cases m with
    | zero => exact absurd em.symm lnl
    | succ m =>
      rw [lnL_succ] at em
      cases b with
      | cons c b =>
        have hb : (c :: b).isEmpty = false := rfl
        rw [hb, if_neg (by decide)] at em
        rw [List.length_cons] at rl
        refine ite2 (fun _ => ?_) (fun n => absurd (decide_eq_true (by omega)) n)
        refine ⟨fun σ' H' => ∃ b p s, σ' = [some (.ref t), some (.ref x), some (.ref L.a)] ∧ RdAt K cReader ⟨x, dx, t, l⟩ H' b p ∧ LnAt K cLines H x L H' s ∧ Mid s b ∧ s.ws.length + b.length ≤ 5000 ∧ lnL m s b p = linesOf l,
          fun σ' H' ⟨b, p, s, a1, a2, a3, a4, a5, a6⟩ => ⟨m, Nat.lt_succ_self _, b, p, s, a1, a2, a3, a4, a5, a6⟩, ?_⟩
        obtain ⟨_, st⟩ := rdLine_step (p := p) md hb
        refine ⟨_, rfl, _, rfl, ⟨x, dx, t, l⟩, c :: b, p, H, L, s, rfl, R, h, by omega, md.ob, fun kk e => ?_, fun s2 b2 p2 e H3 R3 h3 => ?_⟩
        · rw [e] at em
          exact kE kk em.symm
        · rw [e] at em
          obtain ⟨m2, l2, w2⟩ := st s2 b2 p2 e
          exact ⟨b2, p2, s2, rfl, R3, h3, m2, by omega, em⟩
      | nil =>
        have em : (if s.os.isEmpty = true then Ab.R.ok s else .bad p) = linesOf l := em
        have rl : p = l.length := rl
        refine ite2 (fun n => absurd (of_decide_eq_true n) (by omega)) (fun _ => ?_)
        obtain ⟨vo, o1, o2, _, _⟩ := h.os
        refine ⟨_, rfl, _, _, rfl, h.fo T, Nat.zero_le _, fun q hq => ⟨L.o, q, _, rfl, rfl, SqL.of (same_lst hq _ _ o1), SqL.of upd_same, _, rfl, ?_⟩⟩
        have ev : vo.reverse.isEmpty = s.os.isEmpty := empty_len (by rw [List.length_reverse]; exact Paired.length o2)
        rw [ev]
        cases he : s.os.isEmpty with
        | true =>
          rw [he, if_pos rfl] at em
          refine ite2 (fun n => absurd n (by decide)) (fun _ => ?_)
          exact ⟨_, rfl, k s em.symm _ x L (h.same (same_lst hq))⟩
        | false =>
          rw [he, if_neg (by decide)] at em
          refine ite2 (fun _ => ?_) (fun n => absurd rfl n)
          refine ⟨_, rfl, t, vis l, rfl, .inl (R.txt.chg (chgS (same_lst hq) : Chg [] _ _)).sq, ?_⟩
          rw [elen, ← rl]
          exact fault_in fun d H' _ e => kE p em.symm d H' e
end
end Ab
/-! ## The walk: makes -/
namespace Ab
open PySem PySem.Spec PyProof.Rows L2
section
variable {P : Program} {w : World} {K : PySem.W.Frag} {mg : Str → Option Value} {base : Heap} {cFault cRunFault cTooLong cBeadFrame cReader cLines cRun : Addr}
/-! tests that leave the heap -/
section
variable {t u : TT} {σ : L2.St} {H : Hp} {p q : Bool}
theorem tOr_p (ht : ∀ Q : Bool → Hp → Prop, Q p H → t σ H Q) (hu : ∀ Q : Bool → Hp → Prop, Q q H → u σ H Q) (Q : Bool → Hp → Prop) (h : Q (p || q) H) : tOr t u σ H Q := by
  refine ht _ ?_
  cases p with
  | true => exact h
  | false => exact hu _ h
theorem tAnd_p (ht : ∀ Q : Bool → Hp → Prop, Q p H → t σ H Q) (hu : ∀ Q : Bool → Hp → Prop, Q q H → u σ H Q) (Q : Bool → Hp → Prop) (h : Q (p && q) H) : tAnd t u σ H Q := by
  refine ht _ ?_
  cases p with
  | true => exact hu _ h
  | false => exact h
theorem tNot_p (ht : ∀ Q : Bool → Hp → Prop, Q p H → t σ H Q) (Q : Bool → Hp → Prop) (h : Q (!p) H) : tNot t σ H Q := ht _ h
end
theorem ifS_p {c : TT} {a b u : TS} {D : L2.Ends} {σ : L2.St} {H : Hp} {p : Bool} (hc : ∀ Q : Bool → Hp → Prop, Q p H → c σ H Q) (h1 : p = true → a { D with nx := u D } σ H) (h2 : p = false → b { D with nx := u D } σ H) : tSeq (tIfS c a b) u D σ H := by
  refine hc _ ?_
  cases p with
  | true => exact h1 rfl
  | false => exact h2 rfl
theorem ifS_p1 {c : TT} {a b : TS} {D : L2.Ends} {σ : L2.St} {H : Hp} {p : Bool} (hc : ∀ Q : Bool → Hp → Prop, Q p H → c σ H Q) (h1 : p = true → a D σ H) (h2 : p = false → b D σ H) : tIfS c a b D σ H := by
  refine hc _ ?_
  cases p with
  | true => exact h1 rfl
  | false => exact h2 rfl
theorem bl_ne (a b : Bool) : (!decide (V.bl a = V.bl b)) = (a != b) := by
  cases a <;> cases b <;> decide
theorem vint_dec (x y : Nat) : decide (V.int (x : Int) = V.int (y : Int)) = decide (x = y) := by
  by_cases h : x = y
  · rw [h, decide_eq_true rfl, decide_eq_true rfl]
  · rw [decide_eq_false h, decide_eq_false (fun z => h (by have := V.int.inj z; omega))]
theorem nat_dec_lt (x y : Nat) : decide ((x : Int) < (y : Int)) = decide (x < y) := by
  by_cases h : x < y
  · rw [decide_eq_true h, decide_eq_true (by omega)]
  · rw [decide_eq_false h, decide_eq_false (by omega)]
theorem nat_dec_le (x y : Nat) : decide ((x : Int) ≤ (y : Int)) = decide (x ≤ y) := by
  by_cases h : x ≤ y
  · rw [decide_eq_true h, decide_eq_true (by omega)]
  · rw [decide_eq_false h, decide_eq_false (by omega)]
def v3 (p : P3) : List V := [.int (p.1 : Int), .int (p.2.1 : Int), .int (p.2.2 : Int)]
/-- a rod's tuple -/
def RodAt (K : PySem.W.Frag) (H : Hp) (v : V) (r : RodM) : Prop := ∃ a b c, v = .ref a ∧ SqT K H a [.int (r.q : Int), .ref b, .ref c] ∧ SqT K H b (v3 (r.b0, r.b1, r.b2)) ∧ SqT K H c (v3 (r.w0, r.w1, r.w2))
theorem RodAt.chg {S : List Addr} {H H' : Hp} {v : V} {r : RodM} (h : RodAt K H v r) (c : Chg S H H') : RodAt K H' v r := by
  obtain ⟨a, b, d, e, h1, h2, h3⟩ := h
  exact ⟨a, b, d, e, c.tup h1, c.tup h2, c.tup h3⟩
theorem rg7 : ∀ n : Nat, n ≤ 64 → RgC 0 ((7 * n : Nat) : Int) 7 n := by
  have h : ∀ n : Fin 65, Builtin.Range.small 0 ((7 * n.val : Nat) : Int) 7 = true ∧ Builtin.Range.rangeSize 0 ((7 * n.val : Nat) : Int) 7 = n.val := by decide +kernel
  intro n hn
  have := h ⟨n, by omega⟩
  exact ⟨by decide, by decide, this.1, this.2⟩
def spRods (K : PySem.W.Frag) : Sp := fun vs H Q _ => ∃ (t : Addr) (l : List Nat) (n : Nat), vs = [.ref t] ∧ Fz K H t (nvs l) ∧ l.length = 7 * n ∧ n ≤ 64 ∧
  ∀ H' p vr, Same H H' → H p = none → H' p = some (.lst vr) → Paired (RodAt K H') vr (rodsM l) → Q (.ref p) H'
theorem ok_rods_of (T : Txt K mg cFault cRunFault cTooLong cBeadFrame cReader cLines cRun) : Df P w K mg base CX0 1 "rods_of" ["make"] (spRods K) := by
  refine df_mk T.d_rods_of fun f fd F => F.ok sc_rods_of (fun vs H Q E h => ?_) (fun cdv A outer s H vs Q E hr h => ?_)
  · obtain ⟨t, l, n, rfl, _⟩ := h
    rfl
  · obtain ⟨t, l, n, rfl, ht, hn, hl, k⟩ := h
    refine ⟨_, (pss_cons (ps_set (i := 1) sc_rods_of.nd rfl (Or.inl rfl) (pe_lst pa_nil)) (pss_cons (ps_for PassesOwn.never rfl (pi_range3 rfl T.n_range (pa_cons pe_int (pa_cons (pe_callB call_len_seq (by rfl) T.n_len PySem.boot_len (pa_cons (pv 0) pa_nil)) (pa_cons (pe_gi T.c_NUMBERS_A_ROD) pa_nil)))) (pg_name (i := 2) sc_rods_of.nd rfl (Or.inl rfl)) (pss_cons (ps_set (i := 3) sc_rods_of.nd rfl (Or.inl rfl) (pe_tup (pa_cons (pe_ix ix_list (pv 0) (pe_op op_add (pv 2) pe_int) (fun _ _ => rfl)) (pa_cons (pe_ix ix_list (pv 0) (pe_op op_add (pv 2) pe_int) (fun _ _ => rfl)) (pa_cons (pe_ix ix_list (pv 0) (pe_op op_add (pv 2) pe_int) (fun _ _ => rfl)) pa_nil))))) (pss_cons (ps_set (i := 4) sc_rods_of.nd rfl (Or.inl rfl) (pe_tup (pa_cons (pe_ix ix_list (pv 0) (pe_op op_add (pv 2) pe_int) (fun _ _ => rfl)) (pa_cons (pe_ix ix_list (pv 0) (pe_op op_add (pv 2) pe_int) (fun _ _ => rfl)) (pa_cons (pe_ix ix_list (pv 0) (pe_op op_add (pv 2) pe_int) (fun _ _ => rfl)) pa_nil))))) (pss_one (ps_expr (pe_bm PySem.F.plainAttrs_list PySem.F.slot_list_append PySem.F.type_list_append mt_append (pv 1) (pa_cons (pe_tup (pa_cons (pe_ix ix_list (pv 0) (pv 2) (fun _ _ => rfl)) (pa_cons (pv 3) (pa_cons (pv 4) pa_nil)))) pa_nil))))))) (pss_one (ps_ret (pv 1))))), ?_⟩
    refine ⟨Nat.zero_le _, fun fa hfa => ?_⟩
    have c0 : Chg [fa] H (upd H fa (.lst [])) := chgS (same_lst hfa)
    have elen : (nvs l).length = l.length := nvs_len l
    have ntf : ∀ {H'}, Chg [fa] H H' → SqL K H' t (nvs l) := fun c => (ht.chg c).sq
    refine ⟨_, rfl, t, _, rfl, .inl (ntf c0), 0, _, 7, n, rfl, ?_, ?_⟩
    · rw [elen, hn]
      exact rg7 n hl
    refine for_it (walk_rangeC (lo := 0) (c := 7) (n := n)) (fun i σ H' => ∃ x2 x3 x4 vr, σ = [some (.ref t), some (.ref fa), x2, x3, x4] ∧ Chg [fa] H H' ∧ H' fa = some (.lst vr) ∧ Paired (RodAt K H') vr ((rodsM l).take i))
      ⟨none, none, none, [], rfl, c0, upd_same, .nil⟩ (fun _ _ _ _ _ => trivial) ?_ ?_
    · rintro i y σ H1 H2 hi ⟨x2, x3, x4, vr, rfl, c1, hf1, hp1⟩ ⟨eH, eY⟩
      subst eH eY
      have at_ : ∀ j, j < 7 → (nvs l)[7 * i + j]? = some (.int ((l.getD (7 * i + j) 0 : Nat) : Int)) := fun j hj => nvs_at (by
        rw [List.getD_eq_getElem?_getD, List.getElem?_eq_getElem (by omega)]; rfl)
      have q1 := ntf c1
      refine ⟨_, rfl, _, rfl, _, _, rfl, rfl, t, _, _, _, rfl, rfl, q1, at_of (j := 7 * i + 1) (by omega) (at_ 1 (by decide)), _, rfl, _, rfl, _, _, rfl, rfl, t, _, _, _, rfl, rfl, q1, at_of (j := 7 * i + 3) (by omega) (at_ 3 (by decide)), _, rfl, _, rfl, _, _, rfl, rfl, t, _, _, _, rfl, rfl, q1, at_of (j := 7 * i + 5) (by omega) (at_ 5 (by decide)), sz (show 3 ≤ 100000 by decide), fun b2 hb2 => ?_⟩
      have c2 : Chg [] H2 (upd H2 b2 (.tup (v3 (l.getD (7 * i + 1) 0, l.getD (7 * i + 3) 0, l.getD (7 * i + 5) 0)))) := chgS (same_lst hb2)
      have q2 := ntf (c1.trans (c2.mono (by simp)))
      refine ⟨_, rfl, _, rfl, _, _, rfl, rfl, t, _, _, _, rfl, rfl, q2, at_of (j := 7 * i + 2) (by omega) (at_ 2 (by decide)), _, rfl, _, rfl, _, _, rfl, rfl, t, _, _, _, rfl, rfl, q2, at_of (j := 7 * i + 4) (by omega) (at_ 4 (by decide)), _, rfl, _, rfl, _, _, rfl, rfl, t, _, _, _, rfl, rfl, q2, at_of (j := 7 * i + 6) (by omega) (at_ 6 (by decide)), sz (show 3 ≤ 100000 by decide), fun b3 hb3 => ?_⟩
      have n23 : b2 ≠ b3 := ne_of_none (upd_same (H := H2) (o := .tup (v3 (l.getD (7 * i + 1) 0, l.getD (7 * i + 3) 0, l.getD (7 * i + 5) 0)))) hb3
      have c3 : Chg [] H2 (upd (upd H2 b2 (.tup (v3 (l.getD (7 * i + 1) 0, l.getD (7 * i + 3) 0, l.getD (7 * i + 5) 0)))) b3 (.tup (v3 (l.getD (7 * i + 2) 0, l.getD (7 * i + 4) 0, l.getD (7 * i + 6) 0)))) := c2.trans (chgS (same_lst hb3))
      have q3 := ntf (c1.trans (c3.mono (by simp)))
      have t2 : SqT K (upd (upd H2 b2 (.tup (v3 (l.getD (7 * i + 1) 0, l.getD (7 * i + 3) 0, l.getD (7 * i + 5) 0)))) b3 (.tup (v3 (l.getD (7 * i + 2) 0, l.getD (7 * i + 4) 0, l.getD (7 * i + 6) 0)))) b2 (v3 (l.getD (7 * i + 1) 0, l.getD (7 * i + 3) 0, l.getD (7 * i + 5) 0)) := SqT.of ((upd_ne n23).trans upd_same)
      have t3 : SqT K (upd (upd H2 b2 (.tup (v3 (l.getD (7 * i + 1) 0, l.getD (7 * i + 3) 0, l.getD (7 * i + 5) 0)))) b3 (.tup (v3 (l.getD (7 * i + 2) 0, l.getD (7 * i + 4) 0, l.getD (7 * i + 6) 0)))) b3 (v3 (l.getD (7 * i + 2) 0, l.getD (7 * i + 4) 0, l.getD (7 * i + 6) 0)) := SqT.of upd_same
      have hf3 := c3.1 _ _ (by simp) hf1
      refine ⟨_, rfl, .inl ⟨rfl, _, SqL.of hf3⟩, _, rfl, _, rfl, t, _, _, _, rfl, rfl, q3, at_of (j := 7 * i + 0) (by omega) (at_ 0 (by decide)), _, rfl, _, rfl, sz (show 3 ≤ 100000 by decide), fun b4 hb4 => ?_⟩
      have nf : fa ≠ b4 := ne_of_none hf3 hb4
      have hf4 : (upd (upd (upd H2 b2 (.tup (v3 (l.getD (7 * i + 1) 0, l.getD (7 * i + 3) 0, l.getD (7 * i + 5) 0)))) b3 (.tup (v3 (l.getD (7 * i + 2) 0, l.getD (7 * i + 4) 0, l.getD (7 * i + 6) 0)))) b4 (.tup [.int ((l.getD (7 * i + 0) 0 : Nat) : Int), .ref b2, .ref b3])) fa = some (.lst vr) := (upd_ne nf).trans hf3
      have lp : vr.length ≤ 64 := by
        rw [Paired.length hp1, List.length_take]
        have := rodsM_len hn
        omega
      refine ⟨fa, _, _, rfl, rfl, hf4, szl (by omega), ?_⟩
      have c4 : Chg [fa] (upd (upd H2 b2 (.tup (v3 (l.getD (7 * i + 1) 0, l.getD (7 * i + 3) 0, l.getD (7 * i + 5) 0)))) b3 (.tup (v3 (l.getD (7 * i + 2) 0, l.getD (7 * i + 4) 0, l.getD (7 * i + 6) 0)))) (upd (upd (upd (upd H2 b2 (.tup (v3 (l.getD (7 * i + 1) 0, l.getD (7 * i + 3) 0, l.getD (7 * i + 5) 0)))) b3 (.tup (v3 (l.getD (7 * i + 2) 0, l.getD (7 * i + 4) 0, l.getD (7 * i + 6) 0)))) b4 (.tup [.int ((l.getD (7 * i + 0) 0 : Nat) : Int), .ref b2, .ref b3])) fa (.lst (vr ++ [.ref b4]))) := ((Chg.refl (upd (upd H2 b2 (.tup (v3 (l.getD (7 * i + 1) 0, l.getD (7 * i + 3) 0, l.getD (7 * i + 5) 0)))) b3 (.tup (v3 (l.getD (7 * i + 2) 0, l.getD (7 * i + 4) 0, l.getD (7 * i + 6) 0))))).new hb4).set (by simp) hf4 (by intro z; exact z)
      have c5 := (c3.mono (T := [fa]) (by simp)).trans c4
      refine ⟨_, _, _, _, rfl, c1.trans c5, upd_same, ?_⟩
      have er := rodsM_at hn hi
      rw [List.take_succ, er]
      refine paired_snoc ⟨b4, b2, b3, rfl, SqT.of ((upd_ne (Ne.symm nf)).trans upd_same), c4.tup t2, c4.tup t3⟩ (Paired.mapP hp1 fun v r h => h.chg c5)
    · rintro σ H1 ⟨x2, x3, x4, vr, rfl, c1, hf1, hp1⟩
      rw [List.take_of_length_le (by rw [rodsM_len hn]; exact Nat.le_refl _)] at hp1
      exact ⟨_, rfl, k H1 fa vr (fun b o e => c1.1 b o (by simpa using ne_of_none e hfa) e) hfa hf1 hp1⟩
def spDecks (K : PySem.W.Frag) : Sp := fun vs H Q _ => ∃ (v : V) (r : RodM), vs = [v] ∧ RodAt K H v r ∧ ∀ H', Same H H' → Q (.bl (decksM r)) H'
theorem ok_are_decks (T : Txt K mg cFault cRunFault cTooLong cBeadFrame cReader cLines cRun) : Df P w K mg base CX0 1 "are_decks" ["rod"] (spDecks K) := by
  refine df_mk T.d_are_decks fun f fd F => F.ok sc_are_decks (fun vs H Q E h => ?_) (fun cdv A outer s H vs Q E hr h => ?_)
  · obtain ⟨v, r, rfl, _⟩ := h
    rfl
  · obtain ⟨v, r, rfl, hv, k⟩ := h
    refine ⟨_, (pss_cons (ps_asg (pv 0) (pg_tup rfl (pgs_cons (pg_name (i := 1) sc_are_decks.nd rfl (Or.inl rfl)) (pgs_cons (pg_name (i := 2) sc_are_decks.nd rfl (Or.inl rfl)) (pgs_cons (pg_name (i := 3) sc_are_decks.nd rfl (Or.inl rfl)) pgs_nil))))) (pss_cons (ps_if (PW.pt (pw_or (pt_cmpR op_eq (pe_ix ix_tup (pv 2) pe_int (fun _ _ => rfl)) pe_int (nomark _)) (pw_or (PW.pt (pw_and (pt_cmpR op_gt (pe_ix ix_tup (pv 2) pe_int (fun _ _ => rfl)) pe_int (nomark _)) (pw_and1 (pt_cmpR op_eq (pe_ix ix_tup (pv 2) pe_int (fun _ _ => rfl)) pe_int (nomark _))))) (pw_or1 (pt_not (pt_chain op_le op_le (pe_gi T.c_LEAST_RATIO) (pv 1) (pe_gi T.c_MOST_RATIO))))))) (pss_one (ps_ret pe_bl)) pss_nil) (pss_cons (ps_for PassesOwn.never rfl (RZ.pi_zipA (by rfl) T.n_zip (pa_cons (pv 2) (pa_cons (pv 3) pa_nil))) (pg_tup rfl (pgs_cons (pg_name (i := 4) sc_are_decks.nd rfl (Or.inl rfl)) (pgs_cons (pg_name (i := 5) sc_are_decks.nd rfl (Or.inl rfl)) pgs_nil))) (pss_one (ps_if (PW.pt (pw_or (pt_cmpR op_ne (pe_cmpR op_eq (pv 4) pe_int (nomark _)) (pe_cmpR op_eq (pv 5) pe_int (nomark _)) (nomark _)) (pw_or (pt_cmpR op_gt (pv 4) (pe_gi T.c_MOST_BEADS) (nomark _)) (pw_or1 (pt_cmpR op_gt (pv 5) (pe_gi T.c_MOST_WORTH) (nomark _)))))) (pss_one (ps_ret pe_bl)) pss_nil))) (pss_one (ps_ret pe_bl))))), ?_⟩
    obtain ⟨q, b0, b1, b2, w0, w1, w2⟩ := r
    obtain ⟨a, b, c0, rfl, ha, hb, hc⟩ := hv
    refine ⟨_, rfl, a, _, rfl, ha, rfl, _, _, rfl, _, _, rfl, _, _, rfl, rfl, ?_⟩
    have ed : decksM ⟨q, b0, b1, b2, w0, w1, w2⟩ = if (decide (b0 = 0) || ((decide (0 < b2) && decide (b1 = 0)) || !(decide (2 ≤ q) && decide (q ≤ 20)))) = true then false else okP b0 w0 && (okP b1 w1 && okP b2 w2) := by
      unfold decksM
      dsimp only
      by_cases h : b0 = 0 ∨ (0 < b2 ∧ b1 = 0) ∨ ¬ (2 ≤ q ∧ q ≤ 20)
      · rw [if_pos h, if_pos (by simpa [Classical.or_iff_not_imp_left] using h)]
      · rw [if_neg h, if_neg (by simpa [Classical.or_iff_not_imp_left] using h)]
    rw [ed] at k
    dsimp only
    refine ifS_p (p := decide (b0 = 0) || ((decide (0 < b2) && decide (b1 = 0)) || !(decide (2 ≤ q) && decide (q ≤ 20)))) (tOr_p (fun Q h => ?_) (tOr_p (tAnd_p (fun Q h => ?_) (fun Q h => ?_)) (tNot_p fun Q h => ?_))) (fun c => ?_) (fun c => ?_)
    · refine ⟨_, rfl, b, _, 0, _, rfl, rfl, hb, rfl, rfl, _, rfl, ?_⟩
      rw [← vint_dec b0 0] at h
      exact h
    · refine ⟨_, rfl, b, _, 2, _, rfl, rfl, hb, rfl, _, _, rfl, rfl, _, rfl, ?_⟩
      rw [← nat_dec_lt 0 b2] at h
      exact h
    · refine ⟨_, rfl, b, _, 1, _, rfl, rfl, hb, rfl, rfl, _, rfl, ?_⟩
      rw [← vint_dec b1 0] at h
      exact h
    · refine ⟨_, rfl, _, _, rfl, rfl, _, rfl, ?_⟩
      rw [← nat_dec_le 2 q, ← nat_dec_le q 20] at h
      refine ite2 (fun c => ?_) (fun c => ?_)
      · refine ⟨_, _, rfl, rfl, _, rfl, ?_⟩
        rw [show decide ((((2 : Nat) : Int)) ≤ (q : Int)) = true from c, Bool.true_and] at h
        exact h
      · refine ⟨_, rfl, ?_⟩
        rw [show decide ((((2 : Nat) : Int)) ≤ (q : Int)) = false from Bool.eq_false_iff.mpr c, Bool.false_and] at h
        exact h
    · rw [if_pos c] at k
      exact k H (fun _ _ e => e)
    · rw [if_neg (by rw [c]; decide)] at k
      refine ⟨_, rfl, _, rfl, b, c0, _, _, rfl, .inr ⟨hb, hc, ?_⟩⟩
      refine RZ.for_zipT (K := K) (a := b) (b := c0) (xs := v3 (b0, b1, b2)) (ys := v3 (w0, w1, w2)) rfl (fun i σ H' => ∃ x4 x5, σ = [some (.ref a), some (.int (q : Int)), some (.ref b), some (.ref c0), x4, x5] ∧ Same H H' ∧ (([(b0, w0), (b1, w1), (b2, w2)] : List (Nat × Nat)).take i).all (fun z => okP z.1 z.2) = true)
        ⟨none, none, rfl, fun _ _ e => e, rfl⟩ (fun i σ H' ⟨_, _, _, s1, _⟩ => ⟨(chgS s1 : Chg [] H H').tup hb, (chgS s1 : Chg [] H H').tup hc⟩) ?_ ?_
      · rintro i x y Tt σ H1 hx hy ⟨x4, x5, rfl, s1, hall⟩ hT
        obtain ⟨bb, ww, rfl, rfl, ei⟩ : ∃ bb ww : Nat, x = .int (bb : Int) ∧ y = .int (ww : Int) ∧ ([(b0, w0), (b1, w1), (b2, w2)] : List (Nat × Nat))[i]? = some (bb, ww) := by
          match i, hx, hy with
          | 0, hx, hy => cases hx; cases hy; exact ⟨_, _, rfl, rfl, rfl⟩
          | 1, hx, hy => cases hx; cases hy; exact ⟨_, _, rfl, rfl, rfl⟩
          | 2, hx, hy => cases hx; cases hy; exact ⟨_, _, rfl, rfl, rfl⟩
          | n + 3, hx, hy => cases hx
        have s2 : Same H (upd H1 Tt (.tup [.int (bb : Int), .int (ww : Int)])) := fun b o e => same_lst hT b o (s1 b o e)
        have ep : (okP bb ww) = !((decide (bb = 0) != decide (ww = 0)) || (decide (15 < bb) || decide (63 < ww))) := by
          unfold okP
          by_cases h1 : bb ≤ 15 <;> by_cases h2 : ww ≤ 63 <;> cases decide (bb = 0) <;> cases decide (ww = 0) <;> simp [h1, h2] <;> omega
        refine ⟨Tt, _, rfl, SqT.of upd_same, rfl, _, _, rfl, _, _, rfl, rfl, ?_⟩
        refine ifS_p1 (p := (decide (bb = 0) != decide (ww = 0)) || (decide (15 < bb) || decide (63 < ww))) (tOr_p (fun Q h => ?_) (tOr_p (fun Q h => ?_) (fun Q h => ?_))) (fun c => ?_) (fun c => ?_)
        · refine ⟨_, rfl, rfl, _, rfl, rfl, rfl, _, rfl, ?_⟩
          rw [← vint_dec bb 0, ← vint_dec ww 0, ← bl_ne] at h
          exact h
        · refine ⟨_, rfl, _, _, rfl, rfl, _, rfl, ?_⟩
          rw [← nat_dec_lt 15 bb] at h
          exact h
        · refine ⟨_, rfl, _, _, rfl, rfl, _, rfl, ?_⟩
          rw [← nat_dec_lt 63 ww] at h
          exact h
        · rw [c] at ep
          have e : (okP b0 w0 && (okP b1 w1 && okP b2 w2)) = false := by
            match i, ei with
            | 0, ei => cases ei; rw [ep]; rfl
            | 1, ei => cases ei; rw [ep]; simp
            | 2, ei => cases ei; rw [ep]; simp
            | n + 3, ei => cases ei
          rw [e] at k
          exact k _ s2
        · rw [c] at ep
          refine ⟨_, _, rfl, s2, ?_⟩
          rw [List.take_succ, ei, List.all_append, hall]
          show (true && ((okP bb ww) && true)) = true
          rw [ep]; rfl
      · rintro σ H1 ⟨x4, x5, rfl, s1, hall⟩
        have e : (okP b0 w0 && (okP b1 w1 && okP b2 w2)) = true := by
          have h : (okP b0 w0 && (okP b1 w1 && (okP b2 w2 && true))) = true := hall
          rw [Bool.and_true] at h
          exact h
        rw [e] at k
        exact k _ s1
def spWorth (K : PySem.W.Frag) : Sp := fun vs H Q _ => ∃ (a b : Addr) (p w : P3), vs = [.ref a, .ref b] ∧ SqT K H a (v3 p) ∧ SqT K H b (v3 w) ∧ (p.1 ≤ 5000000000 ∧ p.2.1 ≤ 5000000000 ∧ p.2.2 ≤ 5000000000) ∧ (w.1 ≤ 5000000000 ∧ w.2.1 ≤ 5000000000 ∧ w.2.2 ≤ 5000000000) ∧ Q (.int ((p.1 * w.1 + p.2.1 * w.2.1 + p.2.2 * w.2.2 : Nat) : Int)) H
theorem ok_worth_of (T : Txt K mg cFault cRunFault cTooLong cBeadFrame cReader cLines cRun) : Df P w K mg base CX0 1 "worth_of" ["pushed", "worths"] (spWorth K) := by
  refine df_mk T.d_worth_of fun f fd F => F.ok sc_worth_of (fun vs H Q E h => ?_) (fun cdv A outer s H vs Q E hr h => ?_)
  · obtain ⟨a, b, p, w, rfl, _⟩ := h
    rfl
  · obtain ⟨a, b, p, w, rfl, ha, hb, hp, hw, k⟩ := h
    refine ⟨_, (pss_one (ps_ret (pe_op op_add (pe_op op_add (pe_op op_mul (pe_ix ix_tup (pv 0) pe_int (fun _ _ => rfl)) (pe_ix ix_tup (pv 1) pe_int (fun _ _ => rfl))) (pe_op op_mul (pe_ix ix_tup (pv 0) pe_int (fun _ _ => rfl)) (pe_ix ix_tup (pv 1) pe_int (fun _ _ => rfl)))) (pe_op op_mul (pe_ix ix_tup (pv 0) pe_int (fun _ _ => rfl)) (pe_ix ix_tup (pv 1) pe_int (fun _ _ => rfl)))))), ?_⟩
    have cm : ∀ {x y : Nat}, x ≤ 5000000000 → CMul (x : Int) (y : Int) := fun {x y} h => .inl ⟨by omega, by omega⟩
    refine ⟨_, rfl, a, _, 0, _, rfl, rfl, ha, rfl, _, rfl, b, _, 0, _, rfl, rfl, hb, rfl, _, _, rfl, rfl, cm hp.1, _, rfl, a, _, 1, _, rfl, rfl, ha, rfl, _, rfl, b, _, 1, _, rfl, rfl, hb, rfl, _, _, rfl, rfl, cm hp.2.1, _, _, rfl, rfl, _, rfl, a, _, 2, _, rfl, rfl, ha, rfl, _, rfl, b, _, 2, _, rfl, rfl, hb, rfl, _, _, rfl, rfl, cm hp.2.2, _, _, rfl, rfl, ?_⟩
    have e : ((p.1 * w.1 + p.2.1 * w.2.1 + p.2.2 * w.2.2 : Nat) : Int) = (p.1 : Int) * (w.1 : Int) + (p.2.1 : Int) * (w.2.1 : Int) + (p.2.2 : Int) * (w.2.2 : Int) := by
      rw [Int.natCast_add, Int.natCast_add, Int.natCast_mul, Int.natCast_mul, Int.natCast_mul]
    rw [e] at k
    exact k
def spRank (K : PySem.W.Frag) : Sp := fun vs H Q _ => ∃ (a : Addr) (p : P3), vs = [.ref a] ∧ SqT K H a (v3 p) ∧ ∀ q, H q = none → Q (.ref q) (upd H q (.tup (vis [(tot3 p : Int), -(p.1 : Int), -(p.2.1 : Int)])))
theorem ok_rank_of (T : Txt K mg cFault cRunFault cTooLong cBeadFrame cReader cLines cRun) : Df P w K mg base CX0 1 "rank_of" ["pushed"] (spRank K) := by
  refine df_mk T.d_rank_of fun f fd F => F.ok sc_rank_of (fun vs H Q E h => ?_) (fun cdv A outer s H vs Q E hr h => ?_)
  · obtain ⟨a, p, rfl, _⟩ := h
    rfl
  · obtain ⟨a, p, rfl, ha, k⟩ := h
    refine ⟨_, (pss_one (ps_ret (pe_tup (pa_cons (pe_op op_add (pe_op op_add (pe_ix ix_tup (pv 0) pe_int (fun _ _ => rfl)) (pe_ix ix_tup (pv 0) pe_int (fun _ _ => rfl))) (pe_ix ix_tup (pv 0) pe_int (fun _ _ => rfl))) (pa_cons (pe_un un_neg (pe_ix ix_tup (pv 0) pe_int (fun _ _ => rfl))) (pa_cons (pe_un un_neg (pe_ix ix_tup (pv 0) pe_int (fun _ _ => rfl))) pa_nil)))))), ?_⟩
    refine ⟨_, rfl, a, _, 0, _, rfl, rfl, ha, rfl, _, rfl, a, _, 1, _, rfl, rfl, ha, rfl, _, _, rfl, rfl, _, rfl, a, _, 2, _, rfl, rfl, ha, rfl, _, _, rfl, rfl, _, rfl, a, _, 0, _, rfl, rfl, ha, rfl, _, rfl, _, rfl, a, _, 1, _, rfl, rfl, ha, rfl, _, rfl, sz (show 3 ≤ 100000 by decide), fun q hq => ?_⟩
    have e : ((tot3 p : Nat) : Int) = (p.1 : Int) + (p.2.1 : Int) + (p.2.2 : Int) := by
      unfold tot3
      rw [Int.natCast_add, Int.natCast_add]
    have k := k q hq
    rw [e] at k
    exact k
def spWays (K : PySem.W.Frag) : Sp := fun vs H Q _ => ∃ (a : Addr) (p : P3), vs = [.ref a] ∧ SqT K H a (v3 p) ∧ (p.1 ≤ 15 ∧ p.2.1 ≤ 15 ∧ p.2.2 ≤ 15) ∧
  ∀ H' l vl, Same H H' → H l = none → H' l = some (.lst vl) → Paired (fun v p => ∃ q, v = .ref q ∧ SqT K H' q (v3 p)) vl (waysM p.1 p.2.1 p.2.2) → Q (.ref l) H'
theorem ok_ways_of (T : Txt K mg cFault cRunFault cTooLong cBeadFrame cReader cLines cRun) : Df P w K mg base CX0 1 "ways_of" ["beads"] (spWays K) := by
  refine df_mk T.d_ways_of fun f fd F => F.ok sc_ways_of (fun vs H Q E h => ?_) (fun cdv A outer s H vs Q E hr h => ?_)
  · obtain ⟨a, p, rfl, _⟩ := h
    rfl
  · obtain ⟨a, p, rfl, ha, hp, k⟩ := h
    refine ⟨_, (pss_cons (ps_set (i := 1) sc_ways_of.nd rfl (Or.inl rfl) (pe_lst pa_nil)) (pss_cons (ps_for PassesOwn.never rfl (pi_range1 rfl T.n_range (pa_cons (pe_op op_add (pe_ix ix_tup (pv 0) pe_int (fun _ _ => rfl)) pe_int) pa_nil)) (pg_name (i := 2) sc_ways_of.nd rfl (Or.inl rfl)) (pss_one (ps_for PassesOwn.never rfl (pi_range1 rfl T.n_range (pa_cons (pe_op op_add (pe_ix ix_tup (pv 0) pe_int (fun _ _ => rfl)) pe_int) pa_nil)) (pg_name (i := 3) sc_ways_of.nd rfl (Or.inl rfl)) (pss_one (ps_for PassesOwn.never rfl (pi_range1 rfl T.n_range (pa_cons (pe_op op_add (pe_ix ix_tup (pv 0) pe_int (fun _ _ => rfl)) pe_int) pa_nil)) (pg_name (i := 4) sc_ways_of.nd rfl (Or.inl rfl)) (pss_one (ps_expr (pe_bm PySem.F.plainAttrs_list PySem.F.slot_list_append PySem.F.type_list_append mt_append (pv 1) (pa_cons (pe_tup (pa_cons (pv 2) (pa_cons (pv 3) (pa_cons (pv 4) pa_nil)))) pa_nil))))))))) (pss_one (ps_ret (pv 1))))), ?_⟩
    refine ⟨Nat.zero_le _, fun fa hfa => ?_⟩
    have nfa : a ≠ fa ∨ True := .inr trivial
    have c0 : Chg [fa] H (upd H fa (.lst [])) := chgS (same_lst hfa)
    let R : Nat → Hp → List V → List P3 → Prop := fun n H' vl l => Chg [fa] H H' ∧ H' fa = some (.lst vl) ∧ Paired (fun v p => ∃ q, v = .ref q ∧ SqT K H' q (v3 p)) vl l ∧ l.length ≤ n
    have R0 : R 0 (upd H fa (.lst [])) [] [] := ⟨c0, upd_same, .nil, Nat.zero_le _⟩
    have sq : ∀ {H'}, Chg [fa] H H' → SqT K H' a (v3 p) := fun c => c.tup ha
    refine ⟨_, rfl, a, _, 0, _, rfl, rfl, sq c0, rfl, _, _, rfl, rfl, _, rfl, by show -(2 ^ 62) ≤ (p.1 : Int) + 1; omega, by show (p.1 : Int) + 1 < 2 ^ 62; omega, ?_⟩
    refine for_it (walk_range (lo := 0) (n := ((p.1 : Int) + 1).toNat)) (fun i σ H' => ∃ x2 x3 x4 vl, σ = [some (.ref a), some (.ref fa), x2, x3, x4] ∧ R (256 * i) H' vl ((List.range i).flatMap fun i => (List.range (p.2.1 + 1)).flatMap fun j => (List.range (p.2.2 + 1)).map fun k => (i, j, k)))
      ⟨none, none, none, [], rfl, R0⟩ (fun _ _ _ _ _ => trivial) ?_ ?_
    · rintro i y σ H1 H2 hi ⟨x2, x3, x4, vl, rfl, hR⟩ ⟨eH, eY⟩
      subst eH eY
      refine ⟨_, rfl, a, _, 1, _, rfl, rfl, sq hR.1, rfl, _, _, rfl, rfl, _, rfl, by show -(2 ^ 62) ≤ (p.2.1 : Int) + 1; omega, by show (p.2.1 : Int) + 1 < 2 ^ 62; omega, ?_⟩
      refine for_it (walk_range (lo := 0) (n := ((p.2.1 : Int) + 1).toNat)) (fun j σ H' => ∃ x3 x4 vl, σ = [some (.ref a), some (.ref fa), some (.int (0 + (i : Int))), x3, x4] ∧ R (256 * i + 16 * j) H' vl (((List.range i).flatMap fun i => (List.range (p.2.1 + 1)).flatMap fun j => (List.range (p.2.2 + 1)).map fun k => (i, j, k)) ++ (List.range j).flatMap fun j => (List.range (p.2.2 + 1)).map fun k => (i, j, k)))
        ⟨x3, x4, vl, rfl, by rw [List.range_zero, List.flatMap_nil, List.append_nil]; exact hR⟩ (fun _ _ _ _ _ => trivial) ?_ ?_
      · rintro j y σ H1 H2 hj ⟨x3, x4, vl, rfl, hR⟩ ⟨eH, eY⟩
        subst eH eY
        refine ⟨_, rfl, a, _, 2, _, rfl, rfl, sq hR.1, rfl, _, _, rfl, rfl, _, rfl, by show -(2 ^ 62) ≤ (p.2.2 : Int) + 1; omega, by show (p.2.2 : Int) + 1 < 2 ^ 62; omega, ?_⟩
        refine for_it (walk_range (lo := 0) (n := ((p.2.2 : Int) + 1).toNat)) (fun k σ H' => ∃ x4 vl, σ = [some (.ref a), some (.ref fa), some (.int (0 + (i : Int))), some (.int (0 + (j : Int))), x4] ∧ R (256 * i + 16 * j + k) H' vl (((List.range i).flatMap fun i => (List.range (p.2.1 + 1)).flatMap fun j => (List.range (p.2.2 + 1)).map fun k => (i, j, k)) ++ ((List.range j).flatMap fun j => (List.range (p.2.2 + 1)).map fun k => (i, j, k)) ++ (List.range k).map fun k => (i, j, k)))
          ⟨x4, vl, rfl, by rw [List.range_zero, List.map_nil, List.append_nil]; exact hR⟩ (fun _ _ _ _ _ => trivial) ?_ ?_
        · rintro k y σ H1 H2 hk ⟨x4, vl, rfl, cc, hf, hp2, hlen⟩ ⟨eH, eY⟩
          subst eH eY
          refine ⟨_, rfl, .inl ⟨rfl, _, SqL.of hf⟩, _, rfl, _, rfl, _, rfl, sz (show 3 ≤ 100000 by decide), fun q hq => ?_⟩
          have fq : fa ≠ q := fun z => by rw [z, hq] at hf; cases hf
          have hf2 : (upd H2 q (.tup [.int (0 + (i : Int)), .int (0 + (j : Int)), .int (0 + (k : Int))])) fa = some (.lst vl) := (upd_ne fq).trans hf
          refine ⟨fa, _, _, rfl, rfl, hf2, szl (by rw [Paired.length hp2]; omega), ?_⟩
          have c2 : Chg [fa] H2 (upd (upd H2 q (.tup [.int (0 + (i : Int)), .int (0 + (j : Int)), .int (0 + (k : Int))])) fa (.lst (vl ++ [.ref q]))) := ((Chg.refl H2).new hq).set (by simp) hf2 (by intro z; exact z)
          refine ⟨_, _, rfl, cc.trans c2, upd_same, ?_, ?_⟩
          · rw [show (List.range (k + 1)).map (fun k => (i, j, k)) = (List.range k).map (fun k => (i, j, k)) ++ [(i, j, k)] from by rw [List.range_succ, List.map_append]; rfl, ← List.append_assoc]
            refine paired_snoc ⟨q, rfl, ?_⟩ (Paired.mapP hp2 fun v p ⟨q, e, h⟩ => ⟨q, e, c2.tup h⟩)
            have e0 : v3 (i, j, k) = [.int (0 + (i : Int)), .int (0 + (j : Int)), .int (0 + (k : Int))] := by unfold v3; simp
            rw [e0]
            exact SqT.of ((upd_ne (Ne.symm fq)).trans upd_same)
          · have e := hlen
            rw [List.length_append, List.length_map, List.length_range] at e ⊢
            omega
        · rintro σ H1 ⟨x4, vl, rfl, hR⟩
          refine ⟨_, _, vl, rfl, ?_⟩
          have e : ((p.2.2 : Int) + 1).toNat = p.2.2 + 1 := by omega
          rw [e] at hR
          rw [show (List.range (j + 1)).flatMap (fun j => (List.range (p.2.2 + 1)).map fun k => (i, j, k)) = ((List.range j).flatMap fun j => (List.range (p.2.2 + 1)).map fun k => (i, j, k)) ++ (List.range (p.2.2 + 1)).map fun k => (i, j, k) from by rw [List.range_succ (n := j), List.flatMap_append]; simp, ← List.append_assoc]
          exact ⟨hR.1, hR.2.1, hR.2.2.1, by have := hR.2.2.2; omega⟩
      · rintro σ H1 ⟨x3, x4, vl, rfl, hR⟩
        refine ⟨_, _, _, vl, rfl, ?_⟩
        have e : ((p.2.1 : Int) + 1).toNat = p.2.1 + 1 := by omega
        rw [e] at hR
        rw [show (List.range (i + 1)).flatMap (fun i => (List.range (p.2.1 + 1)).flatMap fun j => (List.range (p.2.2 + 1)).map fun k => (i, j, k)) = ((List.range i).flatMap fun i => (List.range (p.2.1 + 1)).flatMap fun j => (List.range (p.2.2 + 1)).map fun k => (i, j, k)) ++ (List.range (p.2.1 + 1)).flatMap fun j => (List.range (p.2.2 + 1)).map fun k => (i, j, k) from by rw [List.range_succ (n := i), List.flatMap_append]; simp]
        exact ⟨hR.1, hR.2.1, hR.2.2.1, by have := hR.2.2.2; omega⟩
    · rintro σ H1 ⟨x2, x3, x4, vl, rfl, cc, hf, hp2, hlen⟩
      have e : ((p.1 : Int) + 1).toNat = p.1 + 1 := by omega
      rw [e] at hp2
      exact ⟨_, rfl, k H1 fa vl (fun b o e => cc.1 b o (by simpa using ne_of_none e hfa) e) hfa hf hp2⟩
end
end Ab
/-! ## The walk: forms, a make -/
namespace Ab
open PySem PySem.Spec PyProof.Rows L2
section
variable {P : Program} {w : World} {K : PySem.W.Frag} {mg : Str → Option Value} {base : Heap} {cFault cRunFault cTooLong cBeadFrame cReader cLines cRun : Addr}
/-- a rod's forms, as a dict -/
def FormAt (K : PySem.W.Frag) (H : Hp) (a : Addr) (q : Nat) (f : Forms) : Prop := ∃ kvs, H a = some (.dK kvs) ∧ (∀ d : Nat, match f d with
  | none => valV kvs (.inl (d : Int)) = none
  | some p => ∃ b, valV kvs (.inl (d : Int)) = some (.ref b) ∧ SqT K H b (v3 p)) ∧ kvs.length = cntF q f ∧ ∀ d, q ≤ d → f d = none
def fset (f : Forms) (c : Nat) (p : P3) : Forms := fun d => if d = c then some p else f d
theorem fset_same (f : Forms) (c : Nat) (p : P3) : fset f c p c = some p := if_pos rfl
theorem fset_ne (f : Forms) {c d : Nat} (p : P3) (h : d ≠ c) : fset f c p d = f d := if_neg h
theorem cnt_upd (f : Forms) (c : Nat) (p : P3) : ∀ q : Nat, cntF q (fset f c p) = cntF q f + (if c < q ∧ (f c).isSome = false then 1 else 0)
  | 0 => by rw [if_neg (by omega)]; rfl
  | q + 1 => by
    have ih := cnt_upd f c p q
    unfold cntF at ih ⊢
    rw [List.range_succ, List.countP_append, List.countP_append, ih]
    have e : ∀ g : Forms, List.countP (fun d => (g d).isSome) [q] = if (g q).isSome = true then 1 else 0 := fun g => by rw [List.countP_cons, List.countP_nil, Nat.zero_add]
    rw [e, e]
    by_cases hc : q = c
    · subst hc
      rw [fset_same, if_neg (show ¬ (q < q ∧ (f q).isSome = false) by omega), if_pos (show (some p).isSome = true from rfl)]
      cases hf : (f q).isSome with
      | true => rw [if_pos rfl, if_neg (fun z => by cases z.2)]
      | false => rw [if_neg (by decide), if_pos ⟨Nat.lt_succ_self _, rfl⟩]
    · rw [fset_ne f p hc]
      by_cases h : c < q ∧ (f c).isSome = false
      · rw [if_pos h, if_pos (show c < q + 1 ∧ (f c).isSome = false from ⟨by omega, h.2⟩)]; omega
      · rw [if_neg h, if_neg (show ¬ (c < q + 1 ∧ (f c).isSome = false) from fun z => h ⟨by omega, z.2⟩)]
        omega
theorem cnt_le (q : Nat) (f : Forms) : cntF q f ≤ q := by
  have := List.countP_le_length (p := fun d => (f d).isSome) (l := List.range q)
  rw [List.length_range] at this
  exact this
theorem FormAt.chg {S : List Addr} {H H' : Hp} {a : Addr} {q : Nat} {f : Forms} (h : FormAt K H a q f) (c : Chg S H H') (n : a ∉ S) : FormAt K H' a q f := by
  obtain ⟨kvs, e, h1, h2, h3⟩ := h
  refine ⟨kvs, c.1 _ _ n e, fun d => ?_, h2, h3⟩
  have q := h1 d
  cases hf : f d with
  | none => rw [hf] at q; exact q
  | some p =>
    rw [hf] at q
    obtain ⟨b, e1, e2⟩ := q
    exact ⟨b, e1, c.tup e2⟩
theorem FormAt.put {H : Hp} {a b : Addr} {q : Nat} {f : Forms} (h : FormAt K H a q f) {c : Nat} {p : P3} (hc : c < q) (hb : SqT K H b (v3 p)) {kvs} (e : H a = some (.dK kvs)) :
    FormAt K (upd H a (.dK (putK kvs (.inl (c : Int)) (.ref b)))) a q (fun d => if d = c then some p else f d) := by
  obtain ⟨kvs', e', h1, h2, h3⟩ := h
  have ek := e'.symm.trans e
  cases ek
  have ch : Chg [a] H (upd H a (.dK (putK kvs (.inl (c : Int)) (.ref b)))) := (Chg.refl H).set (by simp) e (by intro z; exact z)
  refine ⟨_, upd_same, fun d => ?_, ?_, fun d hd => ?_⟩
  · have q := h1 d
    rw [valV_put]
    dsimp only
    by_cases hd : d = c
    · subst hd
      rw [if_pos rfl, if_pos rfl]
      exact ⟨b, rfl, ch.tup hb⟩
    · have hk : ¬ ((.inl (d : Int) : Key) = .inl (c : Int)) := fun z => hd (by have := Sum.inl.inj z; omega)
      rw [if_neg hd, if_neg hk]
      cases hf : f d with
      | none => rw [hf] at q; exact q
      | some p =>
        rw [hf] at q
        obtain ⟨b, e1, e2⟩ := q
        exact ⟨b, e1, ch.tup e2⟩
  · show _ = cntF q (fset f c p)
    rw [cnt_upd]
    have q := h1 c
    cases hf : f c with
    | none =>
      rw [hf] at q
      rw [putK_new _ q, List.length_append, h2, if_pos ⟨hc, rfl⟩]; rfl
    | some p0 =>
      rw [hf] at q
      obtain ⟨b0, e1, _⟩ := q
      rw [if_neg (by simp)]
      unfold putK
      rw [valV_any, e1]
      simp only [Option.isSome_some, if_true, List.length_map]
      exact h2
  · show (if d = c then some p else f d) = none
    rw [if_neg (by omega)]
    exact h3 d hd
theorem lex_rank (p r : P3) : HT.lexLt [(tot3 p : Int), -(p.1 : Int), -(p.2.1 : Int)] [(tot3 r : Int), -(r.1 : Int), -(r.2.1 : Int)] = rankLt p r := by
  unfold rankLt
  rw [HT.lexLt_cons]
  by_cases h1 : tot3 p = tot3 r
  · rw [if_pos (by omega), HT.lexLt_cons, decide_eq_false (show ¬ tot3 p < tot3 r by omega), decide_eq_true h1, Bool.false_or, Bool.true_and]
    by_cases h2 : r.1 = p.1
    · rw [if_pos (by omega), HT.lexLt_cons, decide_eq_false (show ¬ r.1 < p.1 by omega), decide_eq_true h2, Bool.false_or, Bool.true_and]
      by_cases h3 : p.2.1 = r.2.1
      · rw [if_pos (by omega), decide_eq_false (show ¬ r.2.1 < p.2.1 by omega)]; rfl
      · rw [if_neg (by omega)]
        by_cases h4 : r.2.1 < p.2.1
        · rw [decide_eq_true h4, decide_eq_true (by omega)]
        · rw [decide_eq_false h4, decide_eq_false (by omega)]
    · rw [if_neg (by omega), decide_eq_false h2, Bool.false_and, Bool.or_false]
      by_cases h4 : r.1 < p.1
      · rw [decide_eq_true h4, decide_eq_true (by omega)]
      · rw [decide_eq_false h4, decide_eq_false (by omega)]
  · rw [if_neg (by omega), decide_eq_false h1, Bool.false_and, Bool.or_false]
    by_cases h4 : tot3 p < tot3 r
    · rw [decide_eq_true h4, decide_eq_true (by omega)]
    · rw [decide_eq_false h4, decide_eq_false (by omega)]
theorem ways_mem {b0 b1 b2 : Nat} {p : P3} (hp : p ∈ waysM b0 b1 b2) : p.1 ≤ b0 ∧ p.2.1 ≤ b1 ∧ p.2.2 ≤ b2 := by
  unfold waysM at hp
  obtain ⟨i, hi, hp⟩ := List.mem_flatMap.mp hp
  obtain ⟨j, hj, hp⟩ := List.mem_flatMap.mp hp
  obtain ⟨k, hk, rfl⟩ := List.mem_map.mp hp
  have := List.mem_range.mp hi
  have := List.mem_range.mp hj
  have := List.mem_range.mp hk
  dsimp only
  omega
theorem paired_at {A : Type} {F : V → A → Prop} : ∀ {vs : List V} {l : List A}, Paired F vs l → ∀ {i : Nat} {v : V}, vs[i]? = some v → ∃ x, l[i]? = some x ∧ F v x := by
  intro vs l h
  induction h with
  | nil => intro i v e; cases e
  | cons a b ih =>
    intro i v e
    cases i with
    | zero => cases e; exact ⟨_, rfl, a⟩
    | succ i => exact ih e
def spForms (K : PySem.W.Frag) : Sp := fun vs H Q _ => ∃ (v : V) (r : RodM), vs = [v] ∧ RodAt K H v r ∧ decksM r = true ∧ ∀ H' p, Same H H' → H p = none → FormAt K H' p r.q (formsM r) → Q (.ref p) H'
theorem ok_forms_of (T : Txt K mg cFault cRunFault cTooLong cBeadFrame cReader cLines cRun) : Df P w K mg base CX0 2 "forms_of" ["rod"] (spForms K) := by
  refine df_mk T.d_forms_of fun f fd F => F.ok sc_forms_of (fun vs H Q E h => ?_) (fun cdv A outer s H vs Q E hr h => ?_)
  · obtain ⟨v, r, rfl, _⟩ := h
    rfl
  · obtain ⟨v, r, rfl, hv, hd, k⟩ := h
    refine ⟨_, (pss_cons (ps_asg (pv 0) (pg_tup rfl (pgs_cons (pg_name (i := 1) sc_forms_of.nd rfl (Or.inl rfl)) (pgs_cons (pg_name (i := 2) sc_forms_of.nd rfl (Or.inl rfl)) (pgs_cons (pg_name (i := 3) sc_forms_of.nd rfl (Or.inl rfl)) pgs_nil))))) (pss_cons (ps_set (i := 4) sc_forms_of.nd rfl (Or.inl rfl) pe_dnewK) (pss_cons (ps_for PassesOwn.never rfl (pi_list (pe_df (ok_ways_of T) (hr.mono (by decide)) pass0 (by exact (pa_cons (pv 2) pa_nil)))) (pg_name (i := 5) sc_forms_of.nd rfl (Or.inl rfl)) (pss_cons (ps_set (i := 6) sc_forms_of.nd rfl (Or.inl rfl) (pe_df (ok_worth_of T) (hr.mono (by decide)) pass0 (by exact (pa_cons (pv 5) (pa_cons (pv 3) pa_nil))))) (pss_one (ps_if (PW.pt (pw_and (pt_cmpR op_lt (pv 6) (pv 1) (nomark _)) (pw_and1 (PW.pt (pw_or (pt_cmp (pc_dnotin (hu_of hr) (pv 6) (pv 4)) rfl) (pw_or1 (pt_cmpR (op_ltT hr.units0) (pe_df (ok_rank_of T) (hr.mono (by decide)) pass0 (by exact (pa_cons (pv 5) pa_nil))) (pe_df (ok_rank_of T) (hr.mono (by decide)) pass0 (by exact (pa_cons (pe_dget (hu_of hr) (pv 4) (pv 6) (fun _ _ => rfl)) pa_nil))) (nomark _)))))))) (pss_one (ps_dput (hu_of hr) (pv 4) (pv 6) (pv 5) rfl)) pss_nil)))) (pss_one (ps_ret (pv 4)))))), ?_⟩
    obtain ⟨hq, ⟨o0, o1, o2⟩, hb0, hb12⟩ := decks_cases hd
    have o0 := okP_iff.mp o0
    have o1 := okP_iff.mp o1
    have o2 := okP_iff.mp o2
    obtain ⟨a, b, c, rfl, ha, hb, hc⟩ := hv
    refine ⟨_, rfl, a, _, rfl, ha, rfl, _, _, rfl, _, _, rfl, _, _, rfl, rfl, ?_⟩
    intro fa hfa
    have c0 : Chg [] H (upd H fa (.dK [])) := chgS (same_lst hfa)
    refine ⟨_, rfl, b, (r.b0, r.b1, r.b2), rfl, c0.tup hb, ⟨o0.2.1, o1.2.1, o2.2.1⟩, fun H1 wl vl s1 nw hw hp => ?_⟩
    have c1 : Chg [fa] H H1 := (c0.mono (by simp)).trans (chgS s1)
    have wf : wl ≠ fa := fun z => by rw [z, upd_same] at nw; cases nw
    have f0 : FormAt K H1 fa r.q (fmOf r []) := ⟨[], s1 _ _ upd_same, fun d => rfl, by show 0 = cntF r.q fun _ => none; unfold cntF; simp, fun _ _ => rfl⟩
    refine ⟨wl, rfl, ⟨_, SqL.of hw⟩, ?_⟩
    refine for_list (K := K) (a := wl) (xs := vl) (fun i σ H' => ∃ x5 x6, σ = [some (.ref a), some (.int (r.q : Int)), some (.ref b), some (.ref c), some (.ref fa), x5, x6] ∧ Chg [fa] H1 H' ∧ FormAt K H' fa r.q (fmOf r ((waysM r.b0 r.b1 r.b2).take i)))
      ⟨none, none, rfl, Chg.refl H1, f0⟩ (fun i σ H' _ ⟨_, _, _, cc, _⟩ => SqL.of (cc.1 _ _ (by simpa using wf) hw)) ?_ ?_
    · rintro i x σ H2 hx ⟨x5, x6, rfl, cc, hf⟩
      obtain ⟨p, hpi, q, rfl, hpq⟩ := paired_at hp hx
      have pm := ways_mem (List.mem_of_getElem? hpi)
      have hpq2 := cc.tup hpq
      have hc2 := (c1.trans cc).tup hc
      refine ⟨_, rfl, _, rfl, q, c, p, (r.w0, r.w1, r.w2), rfl, hpq2, hc2, ⟨Nat.le_trans (Nat.le_trans pm.1 o0.2.1) (by decide), Nat.le_trans (Nat.le_trans pm.2.1 o1.2.1) (by decide), Nat.le_trans (Nat.le_trans pm.2.2 o2.2.1) (by decide)⟩, ⟨Nat.le_trans o0.2.2 (by decide), Nat.le_trans o1.2.2 (by decide), Nat.le_trans o2.2.2 (by decide)⟩, ?_⟩
      have et : fmOf r ((waysM r.b0 r.b1 r.b2).take (i + 1)) = fmStep r (fmOf r ((waysM r.b0 r.b1 r.b2).take i)) p := by
        rw [List.take_succ, hpi]
        unfold fmOf
        rw [List.foldl_append]; rfl
      rw [et]
      revert hf
      generalize fmOf r ((waysM r.b0 r.b1 r.b2).take i) = f
      intro hf
      have ew : p.1 * (r.w0, r.w1, r.w2).1 + p.2.1 * (r.w0, r.w1, r.w2).2.1 + p.2.2 * (r.w0, r.w1, r.w2).2.2 = worthM r p := rfl
      rw [ew]
      obtain ⟨kvs, ek, h1, h2, h3⟩ := id hf
      have kl : kvs.length < 100000 := by have := cnt_le r.q f; omega
      refine ⟨_, rfl, _, rfl, _, _, rfl, rfl, _, rfl, ?_⟩
      by_cases hlt : worthM r p < r.q
      · refine ite2 (fun _ => ?_) (fun n => absurd (decide_eq_true (by omega)) n)
        have hv := h1 (worthM r p)
        refine ⟨_, rfl, _, rfl, fa, _, rfl, DGet.k (k := .inl (worthM r p : Int)) ek, _, rfl, ?_⟩
        cases hfc : f (worthM r p) with
        | none =>
          rw [hfc] at hv
          have hv : valV kvs (.inl (worthM r p : Int)) = none := hv
          refine ite2 (fun _ => ?_) (fun n => absurd (by rw [hv]; rfl) n)
          refine ite2 (fun _ => ?_) (fun n => absurd rfl n)
          refine ⟨_, rfl, _, rfl, _, rfl, fa, _, rfl, DPut.k (k := .inl (worthM r p : Int)) ek (szl kl), ?_⟩
          have es : fmStep r f p = fun d => if d = worthM r p then some p else f d := by
            unfold fmStep
            rw [if_pos ⟨hlt, by rw [hfc]; rfl⟩]
          rw [es]
          exact ⟨_, _, rfl, cc.trans ((Chg.refl H2).set (by simp) ek (by intro z; exact z)), hf.put hlt hpq2 ek⟩
        | some p0 =>
          rw [hfc] at hv
          obtain ⟨b0, e1, e2⟩ := hv
          refine ite2 (fun n => absurd n (by rw [e1]; intro z; cases z)) (fun _ => ?_)
          refine ⟨_, rfl, q, p, rfl, hpq2, fun t1 ht1 => ?_⟩
          have d1 : Same H2 (upd H2 t1 (.tup (vis [(tot3 p : Int), -(p.1 : Int), -(p.2.1 : Int)]))) := same_lst ht1
          refine ⟨_, rfl, _, rfl, fa, _, rfl, e1 ▸ DGet.k (k := .inl (worthM r p : Int)) (d1 _ _ ek), ?_⟩
          refine ⟨b0, p0, rfl, (chgS d1 : Chg [] _ _).tup e2, fun t2 ht2 => ?_⟩
          have d2 : Same (upd H2 t1 (.tup (vis [(tot3 p : Int), -(p.1 : Int), -(p.2.1 : Int)]))) (upd (upd H2 t1 (.tup (vis [(tot3 p : Int), -(p.1 : Int), -(p.2.1 : Int)]))) t2 (.tup (vis [(tot3 p0 : Int), -(p0.1 : Int), -(p0.2.1 : Int)]))) := same_lst ht2
          have d12 : Chg [] H2 (upd (upd H2 t1 (.tup (vis [(tot3 p : Int), -(p.1 : Int), -(p.2.1 : Int)]))) t2 (.tup (vis [(tot3 p0 : Int), -(p0.1 : Int), -(p0.2.1 : Int)]))) := (chgS d1).trans (chgS d2)
          refine ⟨t1, t2, _, _, rfl, rfl, SqT.of (d2 _ _ upd_same), SqT.of upd_same, _, rfl, ?_⟩
          rw [lex_rank]
          have hf2 := hf.chg d12 (by simp)
          have cc2 := cc.trans (d12.mono (T := [fa]) (by simp))
          cases hr : rankLt p p0 with
          | true =>
            refine ite2 (fun _ => ?_) (fun n => absurd rfl n)
            have ek2 := d12.1 _ _ (by simp) ek
            refine ⟨_, rfl, _, rfl, _, rfl, fa, _, rfl, DPut.k (k := .inl (worthM r p : Int)) ek2 (szl kl), ?_⟩
            have es : fmStep r f p = fun d => if d = worthM r p then some p else f d := by
              unfold fmStep
              rw [if_pos ⟨hlt, by rw [hfc]; exact hr⟩]
            rw [es]
            exact ⟨_, _, rfl, cc2.trans ((Chg.refl _).set (by simp) ek2 (by intro z; exact z)), hf2.put hlt (d12.tup hpq2) ek2⟩
          | false =>
            refine ite2 (fun n => absurd n (by decide)) (fun _ => ?_)
            have es : fmStep r f p = f := by
              unfold fmStep
              rw [if_neg (fun z => by have := z.2; rw [hfc] at this; rw [show better (some p0) p = rankLt p p0 from rfl, hr] at this; cases this)]
            rw [es]
            exact ⟨_, _, rfl, cc2, hf2⟩
      · refine ite2 (fun n => absurd (of_decide_eq_true n) (by omega)) (fun _ => ?_)
        refine ite2 (fun n => absurd n (by decide)) (fun _ => ?_)
        have es : fmStep r f p = f := by
          unfold fmStep
          rw [if_neg (fun z => hlt z.1)]
        rw [es]
        exact ⟨_, _, rfl, cc, hf⟩
    · rintro σ H2 ⟨x5, x6, rfl, cc, hf⟩
      rw [Paired.length hp, List.take_length] at hf
      exact ⟨_, rfl, k H2 fa (fun b o e => (c1.trans cc).1 b o (by simpa using ne_of_none e hfa) e) hfa hf⟩
def spRule (K : PySem.W.Frag) : Sp := fun vs H Q _ => ∃ (v : V) (r : RodM), vs = [v] ∧ RodAt K H v r ∧ ∀ H', Same H H' → Q (.int (ruleM r : Int)) H'
theorem ok_rod_rule (T : Txt K mg cFault cRunFault cTooLong cBeadFrame cReader cLines cRun) : Df P w K mg base CX0 3 "rod_rule" ["rod"] (spRule K) := by
  refine df_mk T.d_rod_rule fun f fd F => F.ok sc_rod_rule (fun vs H Q E h => ?_) (fun cdv A outer s H vs Q E hr h => ?_)
  · obtain ⟨v, r, rfl, _⟩ := h
    rfl
  · obtain ⟨v, r, rfl, hv, k⟩ := h
    refine ⟨_, (pss_cons (ps_if (pt_not (pt_val (pe_df (ok_are_decks T) (hr.mono (by decide)) pass0 (by exact (pa_cons (pv 0) pa_nil))))) (pss_one (ps_ret pe_int)) pss_nil) (pss_cons (ps_asg (pv 0) (pg_tup rfl (pgs_cons (pg_name (i := 1) sc_rod_rule.nd rfl (Or.inl rfl)) (pgs_cons (pg_name (i := 2) sc_rod_rule.nd rfl (Or.inl rfl)) (pgs_cons (pg_name (i := 3) sc_rod_rule.nd rfl (Or.inl rfl)) pgs_nil))))) (pss_cons (ps_if (pt_cmpR op_gt (pe_df (ok_worth_of T) (hr.mono (by decide)) pass0 (by exact (pa_cons (pv 2) (pa_cons (pv 3) pa_nil)))) (pe_gi T.c_MOST_OF_ROD) (nomark _)) (pss_one (ps_ret pe_int)) pss_nil) (pss_one (ps_ret (pe_ifExp (pt_cmpR op_lt (pe_callB call_lenD (by rfl) T.n_len PySem.boot_len (pa_cons (pe_df (ok_forms_of T) (hr.mono (by decide)) pass0 (by exact (pa_cons (pv 0) pa_nil))) pa_nil)) (pv 1) (nomark _)) pe_int pe_int)))))), ?_⟩
    unfold ruleM at k
    refine ⟨_, rfl, v, r, rfl, hv, fun H1 s1 => ⟨_, rfl, ?_⟩⟩
    have hv1 := hv.chg (chgS s1 : Chg [] H H1)
    cases hd : decksM r with
    | false =>
      rw [if_pos hd] at k
      refine ite2 (fun _ => ?_) (fun n => absurd rfl n)
      exact k H1 s1
    | true =>
      rw [if_neg (by rw [hd]; decide)] at k
      refine ite2 (fun n => absurd n (by decide)) (fun _ => ?_)
      obtain ⟨hq, ⟨o0, o1, o2⟩, hb0, hb12⟩ := decks_cases hd
      have o0 := okP_iff.mp o0
      have o1 := okP_iff.mp o1
      have o2 := okP_iff.mp o2
      obtain ⟨a, b, c, rfl, ha, hb, hc⟩ := id hv1
      refine ⟨_, rfl, a, _, rfl, ha, rfl, _, _, rfl, _, _, rfl, _, _, rfl, rfl, ?_⟩
      refine ⟨_, rfl, _, rfl, b, c, (r.b0, r.b1, r.b2), (r.w0, r.w1, r.w2), rfl, hb, hc, ⟨Nat.le_trans o0.2.1 (by decide), Nat.le_trans o1.2.1 (by decide), Nat.le_trans o2.2.1 (by decide)⟩, ⟨Nat.le_trans o0.2.2 (by decide), Nat.le_trans o1.2.2 (by decide), Nat.le_trans o2.2.2 (by decide)⟩, ?_⟩
      refine ⟨_, _, rfl, rfl, _, rfl, ?_⟩
      have ew : (r.b0, r.b1, r.b2).1 * (r.w0, r.w1, r.w2).1 + (r.b0, r.b1, r.b2).2.1 * (r.w0, r.w1, r.w2).2.1 + (r.b0, r.b1, r.b2).2.2 * (r.w0, r.w1, r.w2).2.2 = worthM r (r.b0, r.b1, r.b2) := rfl
      rw [ew]
      by_cases h2 : 255 < worthM r (r.b0, r.b1, r.b2)
      · rw [if_pos h2] at k
        refine ite2 (fun _ => ?_) (fun n => absurd (decide_eq_true (by omega)) n)
        exact k H1 s1
      · rw [if_neg h2] at k
        refine ite2 (fun n => absurd (of_decide_eq_true n) (by omega)) (fun _ => ?_)
        refine ⟨_, rfl, .ref a, r, rfl, hv1, hd, fun H2 p s2 np ⟨kvs, ek, _, hl, _⟩ => ?_⟩
        refine ⟨p, kvs, rfl, ek, _, rfl, _, _, rfl, rfl, _, rfl, ?_⟩
        rw [hl]
        have s12 : Same H H2 := fun b o e => s2 b o (s1 b o e)
        by_cases h3 : cntF r.q (formsM r) < r.q
        · rw [if_pos h3] at k
          refine ite2 (fun _ => ?_) (fun n => absurd (decide_eq_true (by omega)) n)
          exact k H2 s12
        · rw [if_neg h3] at k
          refine ite2 (fun n => absurd (of_decide_eq_true n) (by omega)) (fun _ => ?_)
          exact k H2 s12
def spMake (K : PySem.W.Frag) (F : Addr) : Sp := fun vs H Q E => ∃ (t : Addr) (l : List Nat), vs = [.ref t] ∧ Fz K H t (nvs l) ∧ l.length ≤ 5000 ∧ (∀ r i : Nat, Na.makeOf l = .error ⟨r, i⟩ → FX F E r i) ∧ ∀ m, Na.makeOf l = .ok m → ∀ H', Same H H' → Q .non H'
theorem ok_want_make (T : Txt K mg cFault cRunFault cTooLong cBeadFrame cReader cLines cRun) : Df P w K mg base (L2.CX P w) 4 "want_make" ["make"] (spMake K cFault) := by
  refine df_mk T.d_want_make fun f fd F => F.okX sc_want_make (fun vs H Q E h => ?_) (fun cdv A outer s H vs Q E hr h => ?_)
  · obtain ⟨t, l, rfl, _⟩ := h
    rfl
  · obtain ⟨t, l, rfl, ht, hl, kE, k⟩ := h
    refine ⟨_, (pss_cons (ps_if (PW.pt (pw_or (pt_cmpR op_ne (pe_op op_mod (pe_callB call_len_seq (by rfl) T.n_len PySem.boot_len (pa_cons (pv 0) pa_nil)) (pe_gi T.c_NUMBERS_A_ROD)) pe_int (nomark _)) (pw_or1 (pt_not (pt_chain op_le op_le pe_int (pe_op op_fdiv (pe_callB call_len_seq (by rfl) T.n_len PySem.boot_len (pa_cons (pv 0) pa_nil)) (pe_gi T.c_NUMBERS_A_ROD)) (pe_gi T.c_MOST_RODS)))))) (pss_one (ps_raise rfl (takes_of rfl rfl rfl rfl) (pmk_xf (ok_Fault___init__ T) (hr.mono (by decide)) (by exact (pa_cons pe_int (pa_cons pe_int pa_nil)))))) pss_nil) (pss_one (ps_for (passes_of rfl) rfl (pi_enum (by rfl) T.n_enumerate (pa_cons (pe_df (ok_rods_of T) (hr.mono (by decide)) pass0 (by exact (pa_cons (pv 0) pa_nil))) pa_nil)) (pg_tup rfl (pgs_cons (pg_name (i := 1) sc_want_make.nd rfl (Or.inl rfl)) (pgs_cons (pg_name (i := 2) sc_want_make.nd rfl (Or.inl rfl)) pgs_nil))) (pss_cons (ps_set (i := 3) sc_want_make.nd rfl (Or.inl rfl) (pe_df (ok_rod_rule T) (hr.mono (by decide)) pass0 (by exact (pa_cons (pv 2) pa_nil)))) (pss_one (ps_if (pt_cmpR op_ne (pv 3) pe_int (nomark _)) (pss_one (ps_raise rfl (takes_of rfl rfl rfl rfl) (pmk_xf (ok_Fault___init__ T) (hr.mono (by decide)) (by exact (pa_cons (pv 3) (pa_cons (pv 1) pa_nil)))))) pss_nil)))))), ?_⟩
    have elen : (nvs l).length = l.length := nvs_len l
    rw [make_is] at kE k
    have em : ((l.length : Int) % 7 = ((l.length % 7 : Nat) : Int)) := by omega
    have ed : ((l.length : Int) / 7 = ((l.length / 7 : Nat) : Int)) := by omega
    refine ifS_p (p := !(decide (l.length % 7 = 0)) || !(decide (1 ≤ l.length / 7) && decide (l.length / 7 ≤ 64))) (tOr_p (fun Q h => ?_) (tNot_p fun Q h => ?_)) (fun c => ?_) (fun c => ?_)
    · refine ⟨_, rfl, t, _, rfl, .inl ht.sq, _, _, rfl, rfl, (show (0 : Int) < 7 by decide), rfl, _, rfl, ?_⟩
      dsimp only
      rw [elen]
      have hh : (!decide (V.int ((l.length : Int) % 7) = V.int 0)) = !decide (l.length % 7 = 0) := by
        rw [em]
        exact congrArg _ (vint_dec (l.length % 7) 0)
      show Q (!decide (V.int ((l.length : Int) % 7) = V.int 0)) H
      rw [hh]
      exact h
    · refine ⟨_, rfl, t, _, rfl, .inl ht.sq, _, _, rfl, rfl, ⟨by decide, by decide⟩, ?_⟩
      dsimp only
      rw [elen, ed]
      rw [← nat_dec_le 1, ← nat_dec_le _ 64] at h
      refine ⟨_, _, rfl, rfl, _, rfl, ?_⟩
      refine ite2 (fun c => ?_) (fun c => ?_)
      · refine ⟨_, _, rfl, rfl, _, rfl, ?_⟩
        rw [show decide (((1 : Nat) : Int) ≤ ((l.length / 7 : Nat) : Int)) = true from c, Bool.true_and] at h
        exact h
      · refine ⟨_, rfl, ?_⟩
        rw [show decide (((1 : Nat) : Int) ≤ ((l.length / 7 : Nat) : Int)) = false from Bool.eq_false_iff.mpr c, Bool.false_and] at h
        exact h
    · have hc : l.length % 7 ≠ 0 ∨ ¬ (1 ≤ l.length / 7 ∧ l.length / 7 ≤ 64) := by
        simp only [Bool.or_eq_true, Bool.not_eq_true', decide_eq_false_iff_not, Bool.and_eq_false_iff] at c
        omega
      rw [if_pos hc] at kE
      exact fault_in fun d H' _ e => kE 1 0 rfl d H' e
    · have hc : ¬ (l.length % 7 ≠ 0 ∨ ¬ (1 ≤ l.length / 7 ∧ l.length / 7 ≤ 64)) := by
        simp only [Bool.or_eq_false_iff, Bool.not_eq_false', decide_eq_true_eq, Bool.and_eq_true] at c
        omega
      rw [if_neg hc] at kE k
      have hn : l.length = 7 * (l.length / 7) := by omega
      refine ⟨_, rfl, t, l, l.length / 7, rfl, ht, hn, by omega, fun H1 p vr s1 np hp hr => ?_⟩
      refine ⟨p, _, rfl, SqL.of hp, ?_⟩
      have ll := rodsM_len hn
      refine for_it (walk_enum (K := K) (a := p) (xs := vr)) (fun i σ H' => ∃ x1 x2 x3, σ = [some (.ref t), x1, x2, x3] ∧ Same H1 H' ∧ ∀ j r, j < i → (rodsM l)[j]? = some r → ruleM r = 0)
        ⟨none, none, none, rfl, fun _ _ e => e, fun j r hj => absurd hj (Nat.not_lt_zero _)⟩ (fun i σ H' _ ⟨_, _, _, _, s2, _⟩ => SqL.of (s2 _ _ hp)) ?_ ?_
      · rintro i y σ H2 H3 hi ⟨x1, x2, x3, rfl, s2, hz⟩ ⟨Tt, x, v, rfl, hT, rfl, ex, ev⟩
        cases ex
        obtain ⟨r, hri, hrv⟩ := paired_at hr ev
        have s3 : Same H1 (upd H2 Tt (.tup [.int (i : Int), v])) := fun b o e => same_lst hT b o (s2 b o e)
        refine ⟨Tt, _, rfl, SqT.of upd_same, rfl, _, _, rfl, _, _, rfl, rfl, ?_⟩
        refine ⟨_, rfl, v, r, rfl, hrv.chg (chgS s3 : Chg [] _ _), fun H4 s4 => ?_⟩
        refine ⟨_, rfl, rfl, _, rfl, ?_⟩
        by_cases h0 : ruleM r = 0
        · refine ite2 (fun n => absurd n (by rw [h0]; decide)) (fun _ => ?_)
          refine ⟨_, _, _, rfl, fun b o e => s4 b o (s3 b o e), fun j r' hj e => ?_⟩
          by_cases hji : j = i
          · subst hji
            rw [hri] at e
            cases e
            exact h0
          · exact hz j r' (by omega) e
        · refine ite2 (fun _ => ?_) (fun n => absurd ?_ n)
          · refine ⟨_, rfl, _, rfl, fault_in fun d H' _ e => kE (ruleM r) i ?_ d H' e⟩
            have hw : wrongAt l = some i := by
              unfold wrongAt
              rw [List.findIdx?_eq_some_iff_getElem]
              have hil : i < (rodsM l).length := (List.getElem?_eq_some_iff.mp hri).1
              have hie : (rodsM l)[i] = r := (List.getElem?_eq_some_iff.mp hri).2
              refine ⟨hil, by rw [hie]; simpa using h0, fun j hj => ?_⟩
              have := hz j _ hj (List.getElem?_eq_getElem (by omega))
              rw [this]; decide
            rw [hw]
            dsimp only
            rw [hri]
            rfl
          · have : decide (V.int (ruleM r : Int) = V.int 0) = false := decide_eq_false (fun z => h0 (by have := V.int.inj z; omega))
            rw [this]; rfl
      · rintro σ H2 ⟨x1, x2, x3, rfl, s2, hz⟩
        have hw : wrongAt l = none := by
          unfold wrongAt
          rw [List.findIdx?_eq_none_iff]
          intro r hr2
          obtain ⟨j, hj, e⟩ := List.getElem_of_mem hr2
          have := hz j r (by rw [Paired.length hr]; exact hj) (by rw [List.getElem?_eq_getElem hj, e])
          rw [this]; rfl
        rw [hw] at k
        exact k _ rfl H2 (fun b o e => s2 b o (s1 b o e))
end
end Ab
/-! ## The walk: a frame with a number -/
namespace Ab
open PySem PySem.Spec PyProof.Rows L2
section
variable {P : Program} {w : World} {K : PySem.W.Frag} {mg : Str → Option Value} {base : Heap} {cFault cRunFault cTooLong cBeadFrame cReader cLines cRun : Addr}
/-! ### RunFault -/
def fxk (k : Int) : List (Str × V) := [("kind", .int k)]
theorem fxk_kind (k : Int) : (fxk k).lookup ("kind" : Str) = some (.int k) := lk_eq
def spRFault (C : Addr) : Sp := fun vs H Q _ => ∃ a k, vs = [.ref a, .int k] ∧ H a = some (exo a C none) ∧
  ∀ H' d, H' a = some (exo a C (some d)) → H' d = some (exd d (fxk k)) → H d = none → (∀ b o, b ≠ a → H b = some o → H' b = some o) → Q .non H'
theorem rfault_in {C : Addr} {k : Int} {H1 : Hp} {Q : XK} (h : ∀ d H', Same H1 H' → H' d = some (.xd (fxk k)) → Q (.ref C) (some d) H') :
    ([V.int k] : List V).length ≤ 1000 ∧ ∀ a, H1 a = none → spRFault C (.ref a :: ([V.int k] ++ [])) (upd H1 a (exo a C none))
      (fun v H2 => v = .non ∧ ∃ (d : Addr) (fs : List (Str × V)), H2 a = some (exo a C (some d)) ∧ H2 d = some (exd d fs) ∧ H1 d = none ∧ Q (.ref C) (some d) (upd (del H2 a) d (.xd fs))) (fun _ _ _ => False) := by
  refine ⟨(by decide : 1 ≤ 1000), fun a ha => ⟨a, k, rfl, upd_same, fun H' d h1 h2 h3 h4 => ?_⟩⟩
  have hda : d ≠ a := fun z => by rw [z, upd_same] at h3; cases h3
  rw [upd_ne hda] at h3
  refine ⟨rfl, d, _, h1, h2, h3, h d _ (fun b o e => ?_) upd_same⟩
  have hba : b ≠ a := ne_of_none e ha
  rw [upd_ne (ne_of_none e h3), del_ne hba]
  exact h4 b o hba (by rw [upd_ne hba]; exact e)
/-- what a run's fault wishes -/
def FK (C : Addr) (E : XK) (H : Hp) (S : List Addr) (k : Int) : Prop := ∀ d H', Chg S H H' → H' d = some (.xd (fxk k)) → E (.ref C) (some d) H'
theorem FK.sub {C : Addr} {E : XK} {H H1 : Hp} {S S' : List Addr} {k : Int} (h : FK C E H S k) (c : Chg S H H1) (hs : ∀ x ∈ S', x ∈ S) : FK C E H1 S' k := fun d H' s e => h d H' (c.trans (s.mono hs)) e
theorem ok_RunFault___init__ (T : Txt K mg cFault cRunFault cTooLong cBeadFrame cReader cLines cRun) : Xf P w K mg base 1 "RunFault" cRunFault ["self", "kind"] (spRFault cRunFault) := by
  refine xf_mk T.g_RunFault T.ox_RunFault T.d_RunFault___init__ fun f fd F => F.ok sc_RunFault___init__ (fun vs H Q E h => ?_) (fun cdv A outer s H vs Q E hr h => ?_)
  · obtain ⟨a, k, rfl, _⟩ := h
    rfl
  · obtain ⟨a, n, rfl, ha, k⟩ := h
    refine ⟨_, (pss_cons (ps_expr (pe_veinit rfl T.n_ValueError T.veInit (pa_cons (pv 0) (pa_cons pe_str pa_nil)))) (pss_one (ps_ost (pv 0) (pv 1)))), ?_⟩
    refine ⟨_, rfl, a, cRunFault, _, rfl, (by decide : 1 ≤ 1000), T.ox_RunFault, ha, ?_⟩
    refine ⟨_, rfl, _, rfl, a, cRunFault, rfl, T.ox_RunFault, T.na_RunFault_kind, .inl ⟨ha, fun dx nx ne => ?_⟩⟩
    refine k _ dx upd_same (by rw [upd_ne ne, upd_same]; rfl) nx fun b o hb e => ?_
    rw [upd_ne hb, upd_ne (ne_of_none e nx)]
    exact e
/-! ### places -/
def placeM (rs : List RodM) (i : Nat) : Nat := ((rs.take i).map fun r => r.q).foldr (fun x y => x * y) 1
def pls (rs : List RodM) (n : Nat) : List Nat := (List.range n).map (placeM rs)
theorem pls_at {rs : List RodM} {n i : Nat} (h : i < n) : (pls rs n)[i]? = some (placeM rs i) := by
  unfold pls
  rw [List.getElem?_map, List.getElem?_range h]; rfl
theorem place_succ {rs : List RodM} {i : Nat} {r : RodM} (h : rs[i]? = some r) : placeM rs (i + 1) = placeM rs i * r.q := by
  have aux : ∀ (l : List Nat) (z : Nat), (l ++ [z]).foldr (fun x y => x * y) 1 = l.foldr (fun x y => x * y) 1 * z := fun l z => by
    induction l with
    | nil => show z * 1 = 1 * z; omega
    | cons a l ih =>
      show a * (l ++ [z]).foldr (fun x y => x * y) 1 = a * l.foldr (fun x y => x * y) 1 * z
      rw [ih, Nat.mul_assoc]
  unfold placeM
  rw [List.take_succ, h, List.map_append]
  exact aux _ _
theorem place_bd {rs : List RodM} (hq : ∀ r ∈ rs, r.q ≤ 20) : ∀ i, i ≤ rs.length → placeM rs i ≤ 20 ^ i
  | 0, _ => by unfold placeM; rw [List.take_zero]; exact Nat.le_refl _
  | i + 1, h => by
    have ih := place_bd hq i (by omega)
    have hi : rs[i]? = some rs[i] := List.getElem?_eq_getElem (by omega)
    rw [place_succ hi, Nat.pow_succ]
    exact Nat.mul_le_mul ih (hq _ (List.getElem_mem _))
theorem place_pos {rs : List RodM} (hq : ∀ r ∈ rs, 2 ≤ r.q) : ∀ i, i ≤ rs.length → 0 < placeM rs i
  | 0, _ => by unfold placeM; rw [List.take_zero]; exact Nat.one_pos
  | i + 1, h => by
    have ih := place_pos hq i (by omega)
    have hi : rs[i]? = some rs[i] := List.getElem?_eq_getElem (by omega)
    rw [place_succ hi]
    exact Nat.mul_pos ih (by have := hq _ (List.getElem_mem (h := show i < rs.length by omega)); omega)
theorem place_wide {rs : List RodM} (hq : ∀ r ∈ rs, r.q ≤ 20) (hl : rs.length ≤ 64) {i : Nat} (hi : i ≤ rs.length) : placeM rs i < 2 ^ 300 := by
  have h1 := place_bd hq i hi
  have h2 : 20 ^ i ≤ 20 ^ 64 := Nat.pow_le_pow_right (by decide) (by omega)
  have h3 : 20 ^ 64 < 2 ^ 300 := by decide +kernel
  exact Nat.lt_of_le_of_lt (Nat.le_trans h1 h2) h3
theorem nabs (n : Nat) : ((n : Int)).natAbs = n := Int.natAbs_natCast n
def spPlaces (K : PySem.W.Frag) : Sp := fun vs H Q _ => ∃ (t : Addr) (vr : List V) (rs : List RodM), vs = [.ref t] ∧ H t = some (.lst vr) ∧ Paired (RodAt K H) vr rs ∧ rs.length ≤ 64 ∧ (∀ r ∈ rs, r.q ≤ 20) ∧
  ∀ H' p, Same H H' → H p = none → H' p = some (.lst (nvs (pls rs (rs.length + 1)))) → Q (.ref p) H'
theorem ok_places_of (T : Txt K mg cFault cRunFault cTooLong cBeadFrame cReader cLines cRun) : Df P w K mg base CX0 1 "places_of" ["rods"] (spPlaces K) := by
  refine df_mk T.d_places_of fun f fd F => F.ok sc_places_of (fun vs H Q E h => ?_) (fun cdv A outer s H vs Q E hr h => ?_)
  · obtain ⟨t, vr, rs, rfl, _⟩ := h
    rfl
  · obtain ⟨t, vr, rs, rfl, ht, hr2, hl, hq, k⟩ := h
    refine ⟨_, (pss_cons (ps_set (i := 1) sc_places_of.nd rfl (Or.inl rfl) (pe_lst (pa_cons pe_int pa_nil))) (pss_cons (ps_for PassesOwn.never rfl (pi_list (pv 0)) (pg_tup rfl (pgs_cons (pg_name (i := 2) sc_places_of.nd rfl (Or.inl rfl)) (pgs_cons (pg_name (i := 3) sc_places_of.nd rfl (Or.inl rfl)) (pgs_cons (pg_name (i := 4) sc_places_of.nd rfl (Or.inl rfl)) pgs_nil)))) (pss_one (ps_expr (pe_bm PySem.F.plainAttrs_list PySem.F.slot_list_append PySem.F.type_list_append mt_append (pv 1) (pa_cons (pe_op op_mulW (pe_ix ix_list (pv 1) (pe_un un_neg pe_int) (fun _ _ => rfl)) (pv 2)) pa_nil))))) (pss_one (ps_ret (pv 1))))), ?_⟩
    refine ⟨sz (show 1 ≤ 100000 by decide), fun fa hfa => ?_⟩
    have c0 : Chg [fa] H (upd H fa (.lst [.int 1])) := chgS (same_lst hfa)
    have tf : t ≠ fa := ne_of_none ht hfa
    have ht' : ∀ {H'}, Chg [fa] H H' → SqL K H' t vr := fun c => SqL.of (c.1 _ _ (by simpa using tf) ht)
    refine ⟨_, rfl, t, rfl, ⟨_, ht' c0⟩, ?_⟩
    refine for_list (K := K) (a := t) (xs := vr) (fun i σ H' => ∃ x2 x3 x4, σ = [some (.ref t), some (.ref fa), x2, x3, x4] ∧ Chg [fa] H H' ∧ H' fa = some (.lst (nvs (pls rs (i + 1)))))
      ⟨none, none, none, rfl, c0, upd_same⟩ (fun i σ H' _ ⟨_, _, _, _, c, _⟩ => ht' c) ?_ ?_
    · rintro i x σ H1 hx ⟨x2, x3, x4, rfl, c1, hf⟩
      obtain ⟨r, hri, a, b, c, rfl, ha, hb, hc⟩ := paired_at hr2 hx
      have hi : i < rs.length := (List.getElem?_eq_some_iff.mp hri).1
      refine ⟨a, _, rfl, c1.tup ha, rfl, _, _, rfl, _, _, rfl, _, _, rfl, rfl, ?_⟩
      have el : pls rs (i + 1) = pls rs i ++ [placeM rs i] := by
        unfold pls
        rw [List.range_succ, List.map_append]; rfl
      have hlast : atI (nvs (pls rs (i + 1))) (-1) = some (.int (placeM rs i : Int)) := by
        rw [el, nvs_snoc]
        exact atI_last _ _
      have hw := place_wide hq hl (show i ≤ rs.length by omega)
      have hr20 : r.q ≤ 20 := hq r (List.mem_of_getElem? hri)
      refine ⟨_, rfl, .inl ⟨rfl, _, SqL.of hf⟩, _, rfl, _, rfl, fa, _, _, _, rfl, rfl, SqL.of hf, hlast, _, rfl, _, _, rfl, rfl, wide_mul (a := 300) (b := 10) (by rw [nabs]; exact hw) (by rw [nabs]; omega) (by decide) (by decide) (by decide), fa, _, _, rfl, rfl, hf, szl (by rw [nvs_len]; unfold pls; rw [List.length_map, List.length_range]; omega), ?_⟩
      refine ⟨_, _, _, rfl, c1.trans ((Chg.refl H1).set (by simp) hf (by intro z; exact z)), ?_⟩
      rw [upd_same]
      have e2 : pls rs (i + 1 + 1) = pls rs (i + 1) ++ [placeM rs (i + 1)] := by
        unfold pls
        rw [List.range_succ (n := i + 1), List.map_append]; rfl
      rw [e2, nvs_snoc, place_succ hri]
      rfl
    · rintro σ H1 ⟨x2, x3, x4, rfl, c1, hf⟩
      rw [Paired.length hr2] at hf
      exact ⟨_, rfl, k H1 fa (fun b o e => c1.1 b o (by simpa using ne_of_none e hfa) e) hfa hf⟩
def mkOf (rs : List RodM) : Na.Make := rs.map fun r => ⟨r.q, decksOf r⟩
theorem mkOf_len (rs : List RodM) : (mkOf rs).length = rs.length := List.length_map ..
theorem mkOf_at {rs : List RodM} {i : Nat} {r : RodM} (h : rs[i]? = some r) : (mkOf rs)[i]? = some ⟨r.q, decksOf r⟩ := by
  unfold mkOf
  rw [List.getElem?_map, h]; rfl
theorem span_is (rs : List RodM) (i : Nat) : Na.span ((mkOf rs).take i) = placeM rs i := by
  unfold Na.span mkOf placeM
  rw [← List.map_take, List.foldr_map, List.foldr_map]
theorem span_all (rs : List RodM) : Na.span (mkOf rs) = placeM rs rs.length := by
  rw [← span_is, List.take_of_length_le (by rw [mkOf_len]; exact Nat.le_refl _)]
theorem rodIn_ok {n : Nat} {x : Int} {i : Nat} (h : Na.rodIn n x = .ok i) : x = (i : Int) ∧ i < n := by
  unfold Na.rodIn at h
  by_cases c : 0 ≤ x ∧ x < (n : Int)
  · rw [if_pos c] at h
    cases h
    omega
  · rw [if_neg c] at h; cases h
def putOf {σ : Type} (b : Na.Board σ) (s : σ) (op many : Nat) (x : Int) : Except Nat σ := match Na.rodIn b.rods x with
  | .error e => .error e
  | .ok i => b.put s op i many
end
end Ab
/-! ## The walk: standings, hands, books -/
namespace Ab
open PySem PySem.Spec PyProof.Rows L2
section
variable {P : Program} {w : World} {K : PySem.W.Frag} {mg : Str → Option Value} {base : Heap} {cFault cRunFault cTooLong cBeadFrame cReader cLines cRun : Addr}
/-! three numbers compared -/
def d3 (p : P3) : PyData := .tuple [.int (p.1 : Int), .int (p.2.1 : Int), .int (p.2.2 : Int)]
theorem dp3 {H : Hp} {a : Addr} {p : P3} (h : SqT K H a (v3 p)) : Dp K H (.ref a) (d3 p) := .tup h (.cons (.int _) (.cons (.int _) (.cons (.int _) .nil)))
theorem sh3 (p : P3) : SeqAt.shaped (d3 p) = true := rfl
theorem eq3 (p q : P3) : PyData.eqv (d3 p) (d3 q) = decide (p = q) := by
  obtain ⟨a, b, c⟩ := p
  obtain ⟨d, e, f⟩ := q
  apply Bool.eq_iff_iff.mpr
  unfold d3
  simp [PyData.eqv, PyData.eqvAll, Prod.ext_iff]
  omega
def spPushed (K : PySem.W.Frag) : Sp := fun vs H Q _ => ∃ (t : Addr) (l : List Nat) (i : Nat), vs = [.ref t, .int (i : Int)] ∧ SqL K H t (nvs l) ∧ 3 * i + 2 < l.length ∧ ∀ q, H q = none → Q (.ref q) (upd H q (.tup (v3 (at3 l i))))
theorem ok_pushed_on (T : Txt K mg cFault cRunFault cTooLong cBeadFrame cReader cLines cRun) : Df P w K mg base CX0 1 "pushed_on" ["standing", "rod"] (spPushed K) := by
  refine df_mk T.d_pushed_on fun f fd F => F.ok sc_pushed_on (fun vs H Q E h => ?_) (fun cdv A outer s H vs Q E hr h => ?_)
  · obtain ⟨t, l, i, rfl, _⟩ := h
    rfl
  · obtain ⟨t, l, i, rfl, ht, hi, k⟩ := h
    refine ⟨_, (pss_cons (ps_set (i := 2) sc_pushed_on.nd rfl (Or.inl rfl) (pe_op op_mul (pe_gi T.c_DECKS) (pv 1))) (pss_one (ps_ret (pe_tup (pa_cons (pe_ix ix_list (pv 0) (pv 2) (fun _ _ => rfl)) (pa_cons (pe_ix ix_list (pv 0) (pe_op op_add (pv 2) pe_int) (fun _ _ => rfl)) (pa_cons (pe_ix ix_list (pv 0) (pe_op op_add (pv 2) pe_int) (fun _ _ => rfl)) pa_nil))))))), ?_⟩
    have at_ : ∀ j, j < 3 → (nvs l)[3 * i + j]? = some (.int ((l.getD (3 * i + j) 0 : Nat) : Int)) := fun j hj => nvs_at (by
      rw [List.getD_eq_getElem?_getD, List.getElem?_eq_getElem (by omega)]; rfl)
    refine ⟨_, rfl, _, _, rfl, rfl, .inl ⟨by decide, by decide⟩, ?_⟩
    refine ⟨_, rfl, _, rfl, t, _, _, _, rfl, rfl, ht, at_of (j := 3 * i + 0) (by omega) (at_ 0 (by decide)), _, rfl, _, rfl, _, _, rfl, rfl, t, _, _, _, rfl, rfl, ht, at_of (j := 3 * i + 1) (by omega) (at_ 1 (by decide)), _, rfl, _, rfl, _, _, rfl, rfl, t, _, _, _, rfl, rfl, ht, at_of (j := 3 * i + 2) (by omega) (at_ 2 (by decide)), sz (show 3 ≤ 100000 by decide), fun q hq => k q hq⟩
def spShown (K : PySem.W.Frag) : Sp := fun vs H Q _ => ∃ (rd fo t : Addr) (vr vf : List V) (rs : List RodM) (l : List Nat) (i : Nat) (r : RodM), vs = [.ref rd, .ref fo, .ref t, .int (i : Int)] ∧ H rd = some (.lst vr) ∧ Paired (RodAt K H) vr rs ∧
  H fo = some (.lst vf) ∧ Paired (fun v r => ∃ a, v = .ref a ∧ FormAt K H a r.q (formsM r)) vf rs ∧ SqL K H t (nvs l) ∧ AllD rs ∧ (∀ r ∈ rs, WholeM r) ∧ StOk rs l ∧ rs[i]? = some r ∧ rs.length ≤ 64 ∧
  ∀ H', Same H H' → Q (match showM r (at3 l i) with | none => .non | some d => .int (d : Int)) H'
theorem ok_digit_shown (T : Txt K mg cFault cRunFault cTooLong cBeadFrame cReader cLines cRun) : Df P w K mg base CX0 2 "digit_shown" ["rods", "forms", "standing", "rod"] (spShown K) := by
  refine df_mk T.d_digit_shown fun f fd F => F.ok sc_digit_shown (fun vs H Q E h => ?_) (fun cdv A outer s H vs Q E hr h => ?_)
  · obtain ⟨rd, fo, t, vr, vf, rs, l, i, r, rfl, _⟩ := h
    rfl
  · obtain ⟨rd, fo, t, vr, vf, rs, l, i, r, rfl, hrd, hrp, hfo, hfp, ht, hD, hW, hS, hri, hlen, k⟩ := h
    refine ⟨_, (pss_cons (ps_set (i := 4) sc_digit_shown.nd rfl (Or.inl rfl) (pe_df (ok_pushed_on T) (hr.mono (by decide)) pass0 (by exact (pa_cons (pv 2) (pa_cons (pv 3) pa_nil))))) (pss_cons (ps_set (i := 5) sc_digit_shown.nd rfl (Or.inl rfl) (pe_df (ok_worth_of T) (hr.mono (by decide)) pass0 (by exact (pa_cons (pv 4) (pa_cons (pe_ix ix_tup (pe_ix ix_list (pv 0) (pv 3) (fun _ _ => rfl)) pe_int (fun _ _ => rfl)) pa_nil))))) (pss_cons (ps_if (PW.pt (pw_or (pt_cmpR op_ge (pv 5) (pe_ix ix_tup (pe_ix ix_list (pv 0) (pv 3) (fun _ _ => rfl)) pe_int (fun _ _ => rfl)) (nomark _)) (pw_or1 (pt_cmpR (op_neD hr.units) (pe_dget (hu_of hr) (pe_ix ix_list (pv 1) (pv 3) (fun _ _ => rfl)) (pv 5) (fun _ _ => rfl)) (pv 4) (nomark _))))) (pss_one (ps_ret pe_non)) pss_nil) (pss_one (ps_ret (pv 5)))))), ?_⟩
    have hil : i < rs.length := (List.getElem?_eq_some_iff.mp hri).1
    have hd := hD r (List.mem_of_getElem? hri)
    have hw := hW r (List.mem_of_getElem? hri)
    have hle := hS.le i r hri
    obtain ⟨hq, ⟨o0, o1, o2⟩, _, _⟩ := decks_cases hd
    have o0 := okP_iff.mp o0
    have o1 := okP_iff.mp o1
    have o2 := okP_iff.mp o2
    obtain ⟨rv, hrv⟩ : ∃ rv, vr[i]? = some rv := ⟨_, List.getElem?_eq_getElem (by rw [Paired.length hrp]; exact hil)⟩
    obtain ⟨r', hr', a, b, c, rfl, ha, hb, hc⟩ := paired_at hrp hrv
    rw [hri] at hr'
    cases hr'
    obtain ⟨fv, hfv⟩ : ∃ fv, vf[i]? = some fv := ⟨_, List.getElem?_eq_getElem (by rw [Paired.length hfp]; exact hil)⟩
    obtain ⟨r', hr', fa, rfl, hfa⟩ := paired_at hfp hfv
    rw [hri] at hr'
    cases hr'
    refine ⟨_, rfl, _, rfl, t, l, i, rfl, ht, by rw [hS.len]; omega, fun q1 hq1 => ?_⟩
    have s1 : Same H (upd H q1 (.tup (v3 (at3 l i)))) := same_lst hq1
    have c1 : Chg [] H (upd H q1 (.tup (v3 (at3 l i)))) := chgS s1
    refine ⟨_, rfl, _, rfl, _, rfl, rd, _, _, _, rfl, rfl, SqL.of (s1 _ _ hrd), atI_nat hrv, a, _, 2, _, rfl, rfl, c1.tup ha, rfl, q1, c, at3 l i, (r.w0, r.w1, r.w2), rfl, SqT.of upd_same, c1.tup hc,
      ⟨Nat.le_trans (Nat.le_trans hle.1 o0.2.1) (by decide), Nat.le_trans (Nat.le_trans hle.2.1 o1.2.1) (by decide), Nat.le_trans (Nat.le_trans hle.2.2 o2.2.1) (by decide)⟩, ⟨Nat.le_trans o0.2.2 (by decide), Nat.le_trans o1.2.2 (by decide), Nat.le_trans o2.2.2 (by decide)⟩, ?_⟩
    have ew : (at3 l i).1 * (r.w0, r.w1, r.w2).1 + (at3 l i).2.1 * (r.w0, r.w1, r.w2).2.1 + (at3 l i).2.2 * (r.w0, r.w1, r.w2).2.2 = worthM r (at3 l i) := rfl
    rw [ew]
    have k := k _ s1
    unfold showM at k
    refine ⟨_, rfl, _, rfl, _, rfl, rd, _, _, _, rfl, rfl, SqL.of (s1 _ _ hrd), atI_nat hrv, a, _, 0, _, rfl, rfl, c1.tup ha, rfl, _, _, rfl, rfl, _, rfl, ?_⟩
    by_cases hlt : worthM r (at3 l i) < r.q
    · refine ite2 (fun n => absurd (of_decide_eq_true n) (by omega)) (fun _ => ?_)
      have hsome := hw _ hlt
      cases hf : formsM r (worthM r (at3 l i)) with
      | none => rw [hf] at hsome; cases hsome
      | some p =>
        obtain ⟨kvs, ek, h1, _, _⟩ := hfa.chg c1 (by simp)
        have hv := h1 (worthM r (at3 l i))
        rw [hf] at hv
        obtain ⟨pb, e1, e2⟩ := hv
        refine ⟨_, rfl, _, rfl, fo, _, _, _, rfl, rfl, SqL.of (s1 _ _ hfo), atI_nat hfv, _, rfl, fa, _, rfl, e1 ▸ DGet.k (k := .inl (worthM r (at3 l i) : Int)) ek, _, rfl, d3 p, d3 (at3 l i), dp3 e2, dp3 (SqT.of upd_same), sh3 _, sh3 _, _, rfl, ?_⟩
        rw [eq3]
        by_cases hp : p = at3 l i
        · rw [if_pos ⟨hlt, by rw [hf, hp]⟩] at k
          refine ite2 (fun n => absurd n (by rw [decide_eq_true hp]; decide)) (fun _ => ?_)
          exact ⟨_, rfl, k⟩
        · rw [if_neg (fun z => hp (by have := z.2; rw [hf] at this; exact Option.some.inj this))] at k
          refine ite2 (fun _ => ?_) (fun n => absurd (by rw [decide_eq_false hp]; rfl) n)
          exact k
    · rw [if_neg (fun z => hlt z.1)] at k
      refine ite2 (fun _ => ?_) (fun n => absurd (decide_eq_true (by omega)) n)
      refine ite2 (fun _ => ?_) (fun n => absurd rfl n)
      exact k
def spInForm (K : PySem.W.Frag) : Sp := fun vs H Q _ => ∃ (rd fo t : Addr) (vr vf : List V) (rs : List RodM) (l : List Nat), vs = [.ref rd, .ref fo, .ref t] ∧ H rd = some (.lst vr) ∧ Paired (RodAt K H) vr rs ∧
  H fo = some (.lst vf) ∧ Paired (fun v r => ∃ a, v = .ref a ∧ FormAt K H a r.q (formsM r)) vf rs ∧ SqL K H t (nvs l) ∧ (∀ H', Same H H' → SqL K H' t (nvs l)) ∧ AllD rs ∧ (∀ r ∈ rs, WholeM r) ∧ StOk rs l ∧ rs.length ≤ 64 ∧
  ∀ H', Same H H' → Q (.bl (Na.formed (mkR rs) (sOf rs l))) H'
theorem ok_is_in_form (T : Txt K mg cFault cRunFault cTooLong cBeadFrame cReader cLines cRun) : Df P w K mg base CX0 3 "is_in_form" ["rods", "forms", "standing"] (spInForm K) := by
  refine df_mk T.d_is_in_form fun f fd F => F.ok sc_is_in_form (fun vs H Q E h => ?_) (fun cdv A outer s H vs Q E hr h => ?_)
  · obtain ⟨rd, fo, t, vr, vf, rs, l, rfl, _⟩ := h
    rfl
  · obtain ⟨rd, fo, t, vr, vf, rs, l, rfl, hrd, hrp, hfo, hfp, ht, ht', hD2, hW, hS, hlen, k⟩ := h
    refine ⟨_, (pss_one (ps_ret (pe_callB (cr_all rfl) (by rfl) T.n_all (by decide +kernel) (pa_cons (pe_lc (own := [("rod", 3)]) (g := gName 3) (tt := tYes) rfl sc_is_in_form.nd (pi_range1 rfl T.n_range (pa_cons (pe_callB call_len_seq (by rfl) T.n_len PySem.boot_len (pa_cons (pv 0) pa_nil)) pa_nil)) (blkOk_by (N := ["rods", "forms", "standing", "rod"]) (sc := defScope s_is_in_form) (by decide +kernel)) (fun _ _ _ _ _ => pg_name (i := 3) sc_is_in_form.nd rfl (Or.inl rfl)) (fun _ _ _ _ _ => pts_nil) (fun _ _ _ _ _ => (pe_cmpR op_notN (pe_df (ok_digit_shown T) (hr.mono (by decide)) pass0 (by exact (pa_cons (pv 0) (pa_cons (pv 1) (pa_cons (pv 2) (pa_cons (pv 3) pa_nil)))))) pe_non (nomark _)))) pa_nil)))), ?_⟩
    have lr := Paired.length hrp
    refine ⟨_, rfl, rd, _, rfl, .inl (SqL.of hrd), _, rfl, by omega, by omega, fun D hD => ?_⟩
    refine lc_it (walk_range (lo := 0) (n := ((vr.length : Int)).toNat)) (fun i H' => Same H H' ∧ H' D = some (.lst ((List.range i).map fun j => V.bl ((match rs[j]? with | none => none | some r => showM r (at3 l j)).isSome)))) ⟨same_lst hD, upd_same⟩ (fun _ _ _ _ => trivial) ?_ ?_
    · rintro i x H1 H2 hi ⟨s1, h1⟩ ⟨eH, eY⟩
      subst eH eY
      have hil : i < rs.length := by omega
      obtain ⟨r, hr⟩ : ∃ r, rs[i]? = some r := ⟨_, List.getElem?_eq_getElem hil⟩
      have c1 : Chg [] H H2 := chgS s1
      refine ⟨rfl, ?_⟩
      refine ⟨_, rfl, _, rfl, _, rfl, _, rfl, rd, fo, t, vr, vf, rs, l, i, r, by dsimp only; rw [Int.zero_add]; rfl, s1 _ _ hrd, Paired.mapP hrp (fun v r h => h.chg c1), s1 _ _ hfo, Paired.mapP hfp (fun v r ⟨a, e, h⟩ => ⟨a, e, h.chg c1 (by simp)⟩), ht' _ s1, hD2, hW, hS, hr, hlen, fun H3 s3 => ⟨rfl, ?_⟩⟩
      refine ⟨_, s3 _ _ h1, ?_, fun b o e => ?_, ?_⟩
      · rw [List.length_map, List.length_range]
        exact szl (by omega)
      · rw [upd_ne (ne_of_none e hD)]
        exact s3 _ _ (s1 _ _ e)
      · rw [upd_same, List.range_succ, List.map_append]
        show some (HO.lst (_ ++ [_])) = some (HO.lst (_ ++ [V.bl ((match rs[i]? with | none => none | some r => showM r (at3 l i)).isSome)]))
        rw [hr]
        dsimp only
        cases showM r (at3 l i) <;> rfl
    · rintro H1 ⟨s1, h1⟩
      refine ⟨D, (List.range rs.length).map fun j => (match rs[j]? with | none => none | some r => showM r (at3 l j)).isSome, rfl, SqL.of (by rw [h1, List.map_map, Int.toNat_natCast, lr]; rfl), ?_⟩
      have := k H1 s1
      rw [formed_is hD2 hW hS] at this
      rw [List.all_map]
      exact this
def spStand (K : PySem.W.Frag) (F : Addr) : Sp := fun vs H Q E => ∃ (rd t : Addr) (vr : List V) (rs : List RodM) (l : List Nat), vs = [.ref rd, .ref t] ∧ H rd = some (.lst vr) ∧ Paired (RodAt K H) vr rs ∧ Fz K H t (nvs l) ∧ AllD rs ∧ l.length ≤ 5000 ∧
  (∀ r i : Nat, Na.standingOf (mkR rs) l = .error ⟨r, i⟩ → FX F E r i) ∧ ∀ s, Na.standingOf (mkR rs) l = .ok s → ∀ H', Same H H' → Q .non H'
theorem ok_want_standing (T : Txt K mg cFault cRunFault cTooLong cBeadFrame cReader cLines cRun) : Df P w K mg base (L2.CX P w) 3 "want_standing" ["rods", "standing"] (spStand K cFault) := by
  refine df_mk T.d_want_standing fun f fd F => F.okX sc_want_standing (fun vs H Q E h => ?_) (fun cdv A outer s H vs Q E hr h => ?_)
  · obtain ⟨rd, t, vr, rs, l, rfl, _⟩ := h
    rfl
  · obtain ⟨rd, t, vr, rs, l, rfl, hrd, hrp, ht, hD, hl, kE, k⟩ := h
    refine ⟨_, (pss_cons (ps_if (pt_cmpR op_ne (pe_callB call_len_seq (by rfl) T.n_len PySem.boot_len (pa_cons (pv 1) pa_nil)) (pe_op op_mul (pe_gi T.c_DECKS) (pe_callB call_len_seq (by rfl) T.n_len PySem.boot_len (pa_cons (pv 0) pa_nil))) (nomark _)) (pss_one (ps_raise rfl (takes_of rfl rfl rfl rfl) (pmk_xf (ok_Fault___init__ T) (hr.mono (by decide)) (by exact (pa_cons pe_int (pa_cons (pe_callB call_len_seq (by rfl) T.n_len PySem.boot_len (pa_cons (pv 1) pa_nil)) pa_nil)))))) pss_nil) (pss_one (ps_for (passes_of rfl) rfl (pi_enum (by rfl) T.n_enumerate (pa_cons (pv 1) pa_nil)) (pg_tup rfl (pgs_cons (pg_name (i := 2) sc_want_standing.nd rfl (Or.inl rfl)) (pgs_cons (pg_name (i := 3) sc_want_standing.nd rfl (Or.inl rfl)) pgs_nil))) (pss_one (ps_if (pt_cmpR op_gt (pv 3) (pe_ix ix_tup (pe_ix ix_tup (pe_ix ix_list (pv 0) (pe_op op_fdiv (pv 2) (pe_gi T.c_DECKS)) (fun _ _ => rfl)) pe_int (fun _ _ => rfl)) (pe_op op_mod (pv 2) (pe_gi T.c_DECKS)) (fun _ _ => rfl)) (nomark _)) (pss_one (ps_raise rfl (takes_of rfl rfl rfl rfl) (pmk_xf (ok_Fault___init__ T) (hr.mono (by decide)) (by exact (pa_cons pe_int (pa_cons (pv 2) pa_nil)))))) pss_nil))))), ?_⟩
    have elen : (nvs l).length = l.length := nvs_len l
    have lr := Paired.length hrp
    rw [stand_is hD] at kE k
    have e3 : (((3 * rs.length : Nat)) : Int) = 3 * (rs.length : Int) := by omega
    refine ifS_p (p := !decide (l.length = 3 * rs.length)) (fun Q h => ?_) (fun c => ?_) (fun c => ?_)
    · refine ⟨_, rfl, t, _, rfl, .inl ht.sq, _, rfl, rd, _, rfl, .inl (SqL.of hrd), _, _, rfl, rfl, .inl ⟨by decide, by decide⟩, rfl, _, rfl, ?_⟩
      show Q (!decide (V.int ((nvs l).length : Int) = V.int (3 * (vr.length : Int)))) H
      rw [elen, lr, ← e3, vint_dec]
      exact h
    · have hc : l.length ≠ 3 * rs.length := by simpa using c
      rw [if_pos hc] at kE
      refine ⟨_, rfl, t, _, rfl, .inl ht.sq, ?_⟩
      rw [elen]
      exact fault_in fun d H' _ e => kE 5 l.length rfl d H' e
    · have hc : l.length = 3 * rs.length := by simpa using c
      rw [if_neg (fun z => z hc)] at kE k
      refine ⟨_, rfl, t, _, rfl, ht.sq, ?_⟩
      refine for_it (walk_enum (K := K) (a := t) (xs := nvs l)) (fun i σ H' => ∃ x2 x3, σ = [some (.ref rd), some (.ref t), x2, x3] ∧ Same H H' ∧ ∀ j, j < i → ¬ beadAt rs j < l.getD j 0)
        ⟨none, none, rfl, fun _ _ e => e, fun j hj => absurd hj (Nat.not_lt_zero _)⟩ (fun i σ H' _ ⟨_, _, _, s1, _⟩ => (ht.chg (chgS s1 : Chg [] H H')).sq) ?_ ?_
      · rintro i y σ H2 H3 hi ⟨x2, x3, rfl, s2, hz⟩ ⟨Tt, x, v, rfl, hT, rfl, ex, ev⟩
        cases ex
        rw [elen] at hi
        have hv : v = .int ((l.getD i 0 : Nat) : Int) := by
          have : (nvs l)[i]? = some (.int ((l.getD i 0 : Nat) : Int)) := nvs_at (by rw [List.getD_eq_getElem?_getD, List.getElem?_eq_getElem hi]; rfl)
          exact (Option.some.inj (this.symm.trans ev)).symm
        subst hv
        have s3 : Same H (upd H2 Tt (.tup [.int (i : Int), .int ((l.getD i 0 : Nat) : Int)])) := fun b o e => same_lst hT b o (s2 b o e)
        have c3 : Chg [] H (upd H2 Tt (.tup [.int (i : Int), .int ((l.getD i 0 : Nat) : Int)])) := chgS s3
        have hi3 : i / 3 < rs.length := by omega
        obtain ⟨r, hr⟩ : ∃ r, rs[i / 3]? = some r := ⟨_, List.getElem?_eq_getElem hi3⟩
        obtain ⟨rv, hrv⟩ : ∃ rv, vr[i / 3]? = some rv := ⟨_, List.getElem?_eq_getElem (by omega)⟩
        obtain ⟨r', hr', a, b, c, rfl, ha, hb, hcc⟩ := paired_at hrp hrv
        rw [hr] at hr'
        cases hr'
        have eb : beadAt rs i = bead r (i % 3) := by
          unfold beadAt bead
          rw [hr]
        have hbd : (v3 (r.b0, r.b1, r.b2))[i % 3]? = some (.int (bead r (i % 3) : Int)) := by
          have : i % 3 = 0 ∨ i % 3 = 1 ∨ i % 3 = 2 := by omega
          rcases this with z | z | z <;> rw [z] <;> rfl
        refine ⟨Tt, _, rfl, SqT.of upd_same, rfl, _, _, rfl, _, _, rfl, rfl, ?_⟩
        refine ⟨_, rfl, _, rfl, _, rfl, _, _, rfl, rfl, ⟨by decide, by decide⟩, rd, _, _, _, rfl, rfl, SqL.of (s3 _ _ hrd), at_of (j := i / 3) (by omega) hrv, a, _, 1, _, rfl, rfl, c3.tup ha, rfl, _, rfl, _, _, rfl, rfl, (show (0 : Int) < 3 by decide), b, _, _, _, rfl, rfl, c3.tup hb, at_of (j := i % 3) (by omega) hbd, _, _, rfl, rfl, _, rfl, ?_⟩
        by_cases hlt : beadAt rs i < l.getD i 0
        · refine ite2 (fun _ => ?_) (fun n => absurd (decide_eq_true (by omega)) n)
          refine ⟨_, rfl, fault_in fun d H' _ e => kE 5 i ?_ d H' e⟩
          have hf : (List.range l.length).find? (fun k => decide (beadAt rs k < l.getD k 0)) = some i := by
            rw [List.find?_eq_some_iff_getElem]
            refine ⟨decide_eq_true hlt, i, by rw [List.length_range]; exact hi, by simp, fun j hj => ?_⟩
            have := hz j hj
            simpa using this
          rw [hf]
        · refine ite2 (fun n => absurd (of_decide_eq_true n) (by omega)) (fun _ => ?_)
          refine ⟨_, _, rfl, s3, fun j hj => ?_⟩
          by_cases hji : j = i
          · subst hji; exact hlt
          · exact hz j (by omega)
      · rintro σ H2 ⟨x2, x3, rfl, s2, hz⟩
        have hf : (List.range l.length).find? (fun k => decide (beadAt rs k < l.getD k 0)) = none := by
          rw [List.find?_eq_none]
          intro j hj
          have := hz j (by rw [elen]; exact List.mem_range.mp hj)
          simpa using this
        rw [hf] at k
        exact k _ rfl H2 s2
end
end Ab
/-! ## The walk: hands -/
namespace Ab
open PySem PySem.Spec PyProof.Rows L2
section
variable {P : Program} {w : World} {K : PySem.W.Frag} {mg : Str → Option Value} {base : Heap} {cFault cRunFault cTooLong cBeadFrame cReader cLines cRun : Addr}
def StrokeAt (K : PySem.W.Frag) (H : Hp) (v : V) (g : List Nat) : Prop := ∃ q, v = .ref q ∧ SqT K H q (nvs g) ∧ g.length = 7
theorem rg17 : ∀ n : Nat, n ≤ 64 → RgC 1 ((1 + 7 * n : Nat) : Int) 7 n := by
  have h : ∀ n : Fin 65, Builtin.Range.small 1 ((1 + 7 * n.val : Nat) : Int) 7 = true ∧ Builtin.Range.rangeSize 1 ((1 + 7 * n.val : Nat) : Int) 7 = n.val := by decide +kernel
  intro n hn
  have := h ⟨n, by omega⟩
  exact ⟨by decide, by decide, this.1, this.2⟩
theorem cut_nvs (l : List Nat) {a b : Int} {x y : Nat} (ha : a = x) (hb : b = y) (h : x ≤ y) (hy : y ≤ l.length) : cutV (nvs l) (some a) (some b) = nvs ((l.drop x).take (y - x)) := by
  subst ha hb
  unfold cutV
  rw [HT.sIx_nat, HT.sIx_nat, nvs_len, Nat.min_eq_left hy, Nat.min_eq_left (Nat.le_trans h hy)]
  unfold nvs
  rw [List.map_take, List.map_drop]
def spStrokes (K : PySem.W.Frag) : Sp := fun vs H Q _ => ∃ (t : Addr) (l : List Nat) (n : Nat), vs = [.ref t] ∧ Fz K H t (nvs l) ∧ l.length = 1 + 7 * n ∧ n ≤ 64 ∧
  ∀ H' p vg, Same H H' → H p = none → H' p = some (.lst vg) → Paired (StrokeAt K H') vg (Na.groups 7 (l.drop 1)) → Q (.ref p) H'
theorem ok_strokes_of (T : Txt K mg cFault cRunFault cTooLong cBeadFrame cReader cLines cRun) : Df P w K mg base CX0 1 "strokes_of" ["hand"] (spStrokes K) := by
  refine df_mk T.d_strokes_of fun f fd F => F.ok sc_strokes_of (fun vs H Q E h => ?_) (fun cdv A outer s H vs Q E hr h => ?_)
  · obtain ⟨t, l, n, rfl, _⟩ := h
    rfl
  · obtain ⟨t, l, n, rfl, ht, hn, hl, k⟩ := h
    refine ⟨_, (pss_cons (ps_set (i := 1) sc_strokes_of.nd rfl (Or.inl rfl) (pe_lst pa_nil)) (pss_cons (ps_for PassesOwn.never rfl (pi_range3 rfl T.n_range (pa_cons pe_int (pa_cons (pe_callB call_len_seq (by rfl) T.n_len PySem.boot_len (pa_cons (pv 0) pa_nil)) (pa_cons (pe_gi T.c_NUMBERS_A_STROKE) pa_nil)))) (pg_name (i := 2) sc_strokes_of.nd rfl (Or.inl rfl)) (pss_one (ps_expr (pe_bm PySem.F.plainAttrs_list PySem.F.slot_list_append PySem.F.type_list_append mt_append (pv 1) (pa_cons (pe_callTy call_tuple_of (by rfl) T.n_tuple (by decide +kernel) (pa_cons (pe_slice sl_list (pv 0) (po_some (pv 2)) (po_some (pe_op op_add (pv 2) (pe_gi T.c_NUMBERS_A_STROKE)))) pa_nil)) pa_nil))))) (pss_one (ps_ret (pv 1))))), ?_⟩
    refine ⟨Nat.zero_le _, fun fa hfa => ?_⟩
    have c0 : Chg [fa] H (upd H fa (.lst [])) := chgS (same_lst hfa)
    have elen : (nvs l).length = l.length := nvs_len l
    have ntf : ∀ {H'}, Chg [fa] H H' → SqL K H' t (nvs l) := fun c => (ht.chg c).sq
    have ld : (l.drop 1).length = 7 * n := by rw [List.length_drop]; omega
    have lg : (Na.groups 7 (l.drop 1)).length = n := groups_len (by decide) ld
    have eg : ∀ i, i < n → (Na.groups 7 (l.drop 1))[i]? = some ((l.drop (1 + 7 * i)).take 7) := fun i hi => by
      rw [groups_at (by decide), if_pos (by omega), List.drop_drop]
    refine ⟨_, rfl, t, _, rfl, .inl (ntf c0), 1, _, 7, n, rfl, ?_, ?_⟩
    · rw [elen, hn]
      exact rg17 n hl
    refine for_it (walk_rangeC (lo := 1) (c := 7) (n := n)) (fun i σ H' => ∃ x2 vr, σ = [some (.ref t), some (.ref fa), x2] ∧ Chg [fa] H H' ∧ H' fa = some (.lst vr) ∧ Paired (StrokeAt K H') vr ((Na.groups 7 (l.drop 1)).take i))
      ⟨none, [], rfl, c0, upd_same, .nil⟩ (fun _ _ _ _ _ => trivial) ?_ ?_
    · rintro i y σ H1 H2 hi ⟨x2, vr, rfl, c1, hf1, hp1⟩ ⟨eH, eY⟩
      subst eH eY
      have q1 := ntf c1
      refine ⟨_, rfl, .inl ⟨rfl, _, SqL.of hf1⟩, _, rfl, _, rfl, _, rfl, _, rfl, _, _, rfl, rfl, _, rfl, t, _, rfl, q1, fun b1 hb1 => ?_⟩
      rw [cut_nvs l (x := 1 + 7 * i) (y := 1 + 7 * i + 7) (by omega) (by omega) (by omega) (by omega), show 1 + 7 * i + 7 - (1 + 7 * i) = 7 by omega]
      have c2 : Chg [] H2 (upd H2 b1 (.lst (nvs ((l.drop (1 + 7 * i)).take 7)))) := chgS (same_lst hb1)
      refine ⟨b1, _, rfl, .inl ⟨SqL.of upd_same, fun b2 hb2 => ?_⟩⟩
      have c3 : Chg [] H2 (upd (upd H2 b1 (.lst (nvs ((l.drop (1 + 7 * i)).take 7)))) b2 (.tup (nvs ((l.drop (1 + 7 * i)).take 7)))) := c2.trans (chgS (same_lst hb2))
      have hf3 := c3.1 _ _ (by simp) hf1
      have nf : fa ≠ b2 := ne_of_none (c2.1 _ _ (by simp) hf1) hb2
      have lp : vr.length ≤ 64 := by
        rw [Paired.length hp1, List.length_take]
        omega
      refine ⟨fa, _, _, rfl, rfl, hf3, szl (by omega), ?_⟩
      have t3 : SqT K (upd (upd H2 b1 (.lst (nvs ((l.drop (1 + 7 * i)).take 7)))) b2 (.tup (nvs ((l.drop (1 + 7 * i)).take 7)))) b2 (nvs ((l.drop (1 + 7 * i)).take 7)) := SqT.of upd_same
      have c4 := (Chg.refl (S := [fa]) (upd (upd H2 b1 (.lst (nvs ((l.drop (1 + 7 * i)).take 7)))) b2 (.tup (nvs ((l.drop (1 + 7 * i)).take 7))))).set (u := .lst (vr ++ [V.ref b2])) (by simp) hf3 (by intro z; exact z)
      have c5 := (c3.mono (T := [fa]) (by simp)).trans c4
      refine ⟨_, _, rfl, c1.trans c5, upd_same, ?_⟩
      rw [List.take_succ (l := Na.groups 7 (l.drop 1)), eg i hi]
      refine paired_snoc ⟨b2, rfl, c4.tup t3, ?_⟩ (Paired.mapP hp1 fun v r ⟨q, e, h, h7⟩ => ⟨q, e, c5.tup h, h7⟩)
      rw [List.length_take, List.length_drop]
      omega
    · rintro σ H1 ⟨x2, vr, rfl, c1, hf1, hp1⟩
      rw [List.take_of_length_le (by rw [lg]; exact Nat.le_refl _)] at hp1
      exact ⟨_, rfl, k H1 fa vr (fun b o e => c1.1 b o (by simpa using ne_of_none e hfa) e) hfa hf1 hp1⟩
def spDeck : Sp := fun vs H Q _ => ∃ a b c : Nat, vs = [.int (a : Int), .int (b : Int), .int (c : Int)] ∧ Q (.bl (deckM a b c)) H
theorem ok_is_deck (T : Txt K mg cFault cRunFault cTooLong cBeadFrame cReader cLines cRun) : Df P w K mg base CX0 1 "is_deck" ["deck", "direction", "most"] spDeck := by
  refine df_mk T.d_is_deck fun f fd F => F.ok sc_is_deck (fun vs H Q E h => ?_) (fun cdv A outer s H vs Q E hr h => ?_)
  · obtain ⟨a, b, c, rfl, _⟩ := h
    rfl
  · obtain ⟨a, b, c, rfl, k⟩ := h
    refine ⟨_, (pss_one (ps_ret (pe_and (pe_cmpR op_lt (pv 0) (pe_gi T.c_DECKS) (nomark _)) (pe_and (pe_cmpR op_in_seq (pv 1) (pe_gt T.c_DIRECTIONS) rfl) (pe_one (pe_chain op_le op_le pe_int (pv 2) (pe_gi T.c_MOST_BEADS))))))), ?_⟩
    unfold deckM at k
    refine ⟨_, rfl, _, _, rfl, rfl, _, rfl, ?_⟩
    refine ite2 (fun c1 => ?_) (fun c1 => ?_)
    · have c1 : a < 3 := by have := of_decide_eq_true c1; omega
      rw [decide_eq_true c1, Bool.true_and] at k
      refine ⟨_, rfl, ?_⟩
      refine fun p hp => ⟨p, _, rfl, .inr (hp H), rfl, rfl, _, rfl, ?_⟩
      have e : inV (V.int (b : Int)) [V.int 1, V.int 2] = decide (b = 1 ∨ b = 2) := by
        apply Bool.eq_iff_iff.mpr
        show (eqV (V.int 1) (V.int b) || (eqV (V.int 2) (V.int b) || false)) = true ↔ _
        simp [eqV]
        omega
      have e' : (if false = true then !inV (V.int (b : Int)) [V.int 1, V.int 2] else inV (V.int (b : Int)) [V.int 1, V.int 2]) = decide (b = 1 ∨ b = 2) := e
      rw [e']
      refine ite2 (fun c2 => ?_) (fun c2 => ?_)
      · rw [c2, Bool.true_and] at k
        refine ⟨_, rfl, _, _, rfl, rfl, _, rfl, ?_⟩
        rw [← nat_dec_le 1 c, ← nat_dec_le c 15] at k
        refine ite2 (fun c3 => ?_) (fun c3 => ?_)
        · rw [show decide ((((1 : Nat) : Int)) ≤ (c : Int)) = true from c3, Bool.true_and] at k
          exact ⟨_, _, rfl, rfl, k⟩
        · rw [show decide ((((1 : Nat) : Int)) ≤ (c : Int)) = false from Bool.eq_false_iff.mpr c3, Bool.false_and] at k
          exact k
      · rw [Bool.eq_false_iff.mpr c2, Bool.false_and] at k
        exact k
    · rw [decide_eq_false (fun z => c1 (decide_eq_true (Int.ofNat_lt.mpr z))), Bool.false_and] at k
      exact k
theorem seven {g : List Nat} (h : g.length = 7) : ∃ a0 a1 a2 a3 a4 a5 a6, g = [a0, a1, a2, a3, a4, a5, a6] := by
  match g, h with
  | [a0, a1, a2, a3, a4, a5, a6], _ => exact ⟨a0, a1, a2, a3, a4, a5, a6, rfl⟩
theorem has2_is (a0 a1 a2 a3 a4 a5 a6 : Nat) : has2 [a0, a1, a2, a3, a4, a5, a6] = !decide ((a3, a4, a5) = ((0, 0, 0) : P3)) := by
  show (!(decide (a3 = 0) && (decide (a4 = 0) && decide (a5 = 0)))) = _
  congr 1
  apply Bool.eq_iff_iff.mpr
  simp [Prod.ext_iff]
def spHas2 (K : PySem.W.Frag) : Sp := fun vs H Q _ => ∃ (v : V) (g : List Nat), vs = [v] ∧ StrokeAt K H v g ∧ ∀ H', Same H H' → Q (.bl (has2 g)) H'
theorem ok_has_second (T : Txt K mg cFault cRunFault cTooLong cBeadFrame cReader cLines cRun) : Df P w K mg base CX0 1 "has_second" ["stroke"] (spHas2 K) := by
  refine df_mk T.d_has_second fun f fd F => F.ok sc_has_second (fun vs H Q E h => ?_) (fun cdv A outer s H vs Q E hr h => ?_)
  · obtain ⟨v, g, rfl, _⟩ := h
    rfl
  · obtain ⟨v, g, rfl, hv, k⟩ := h
    refine ⟨_, (pss_one (ps_ret (pe_cmpR (op_neD hr.units) (pe_slice sl_tup (pv 0) (po_some pe_int) (po_some pe_int)) (pe_tup (pa_cons pe_int (pa_cons pe_int (pa_cons pe_int pa_nil)))) (nomark _)))), ?_⟩
    obtain ⟨q, rfl, hq, hg⟩ := hv
    obtain ⟨a0, a1, a2, a3, a4, a5, a6, rfl⟩ := seven hg
    refine ⟨_, rfl, _, rfl, _, rfl, q, _, rfl, hq, fun z => absurd (show (3 : Nat) = 0 from z.1) (by decide), fun p hp => ⟨sz (show 3 ≤ 100000 by decide), fun p2 hp2 => ?_⟩⟩
    have s1 : Same H (upd H p (.tup (v3 (a3, a4, a5)))) := same_lst hp
    have s2 : Same (upd H p (.tup (v3 (a3, a4, a5)))) (upd (upd H p (.tup (v3 (a3, a4, a5)))) p2 (.tup (v3 (0, 0, 0)))) := same_lst hp2
    refine ⟨d3 (a3, a4, a5), d3 (0, 0, 0), dp3 (SqT.of (s2 _ _ upd_same)), dp3 (SqT.of upd_same), sh3 _, sh3 _, ?_⟩
    rw [eq3, ← has2_is a0 a1 a2 a3 a4 a5 a6]
    exact k _ (fun b o e => s2 _ _ (s1 _ _ e))
def spIsStroke (K : PySem.W.Frag) : Sp := fun vs H Q _ => ∃ (v : V) (g : List Nat), vs = [v] ∧ StrokeAt K H v g ∧ ∀ H', Same H H' → Q (.bl (strokeM g)) H'
theorem ok_is_stroke (T : Txt K mg cFault cRunFault cTooLong cBeadFrame cReader cLines cRun) : Df P w K mg base CX0 2 "is_stroke" ["stroke"] (spIsStroke K) := by
  refine df_mk T.d_is_stroke fun f fd F => F.ok sc_is_stroke (fun vs H Q E h => ?_) (fun cdv A outer s H vs Q E hr h => ?_)
  · obtain ⟨v, g, rfl, _⟩ := h
    rfl
  · obtain ⟨v, g, rfl, hv, k⟩ := h
    refine ⟨_, (pss_cons (ps_if (PW.pt (pw_or (pt_not (pt_val (pe_df (ok_is_deck T) (hr.mono (by decide)) pass0 (by exact (pa_cons (pe_ix ix_tup (pv 0) pe_int (fun _ _ => rfl)) (pa_cons (pe_ix ix_tup (pv 0) pe_int (fun _ _ => rfl)) (pa_cons (pe_ix ix_tup (pv 0) pe_int (fun _ _ => rfl)) pa_nil))))))) (pw_or1 (pt_not (pt_chain op_le op_le pe_int (pe_ix ix_tup (pv 0) pe_int (fun _ _ => rfl)) (pe_gi T.c_MOST_COST)))))) (pss_one (ps_ret pe_bl)) pss_nil) (pss_cons (ps_if (pt_not (pt_val (pe_df (ok_has_second T) (hr.mono (by decide)) pass0 (by exact (pa_cons (pv 0) pa_nil))))) (pss_one (ps_ret pe_bl)) pss_nil) (pss_one (ps_ret (pe_and (pe_df (ok_is_deck T) (hr.mono (by decide)) pass0 (by exact (pa_cons (pe_ix ix_tup (pv 0) pe_int (fun _ _ => rfl)) (pa_cons (pe_ix ix_tup (pv 0) pe_int (fun _ _ => rfl)) (pa_cons (pe_ix ix_tup (pv 0) pe_int (fun _ _ => rfl)) pa_nil))))) (pe_one (pe_cmpR op_ne (pe_ix ix_tup (pv 0) pe_int (fun _ _ => rfl)) (pe_ix ix_tup (pv 0) pe_int (fun _ _ => rfl)) (nomark _)))))))), ?_⟩
    obtain ⟨q, rfl, hq, hg⟩ := hv
    obtain ⟨a0, a1, a2, a3, a4, a5, a6, rfl⟩ := seven hg
    have es : strokeM [a0, a1, a2, a3, a4, a5, a6] = if (!deckM a0 a1 a2 || !(decide (1 ≤ a6) && decide (a6 ≤ 255))) = true then false else if has2 [a0, a1, a2, a3, a4, a5, a6] = false then true else deckM a3 a4 a5 && !decide (a3 = a0) := rfl
    rw [es] at k
    refine ifS_p (p := !deckM a0 a1 a2 || !(decide (1 ≤ a6) && decide (a6 ≤ 255))) (tOr_p (tNot_p fun Q h => ?_) (tNot_p fun Q h => ?_)) (fun c => ?_) (fun c => ?_)
    · exact ⟨_, rfl, q, _, 0, _, rfl, rfl, hq, rfl, _, rfl, q, _, 1, _, rfl, rfl, hq, rfl, _, rfl, q, _, 2, _, rfl, rfl, hq, rfl, a0, a1, a2, rfl, _, rfl, h⟩
    · refine ⟨_, rfl, q, _, 6, _, rfl, rfl, hq, rfl, _, _, rfl, rfl, _, rfl, ?_⟩
      rw [← nat_dec_le 1 a6, ← nat_dec_le a6 255] at h
      refine ite2 (fun c => ?_) (fun c => ?_)
      · refine ⟨_, _, rfl, rfl, _, rfl, ?_⟩
        rw [show decide ((((1 : Nat) : Int)) ≤ (a6 : Int)) = true from c, Bool.true_and] at h
        exact h
      · refine ⟨_, rfl, ?_⟩
        rw [show decide ((((1 : Nat) : Int)) ≤ (a6 : Int)) = false from Bool.eq_false_iff.mpr c, Bool.false_and] at h
        exact h
    · rw [if_pos c] at k
      exact k H (fun _ _ e => e)
    · rw [if_neg (by rw [c]; decide)] at k
      refine ⟨_, rfl, _, _, rfl, ⟨q, rfl, hq, rfl⟩, fun H1 s1 => ⟨_, rfl, ?_⟩⟩
      refine ite2 (fun n => ?_) (fun n => ?_)
      · rw [if_pos (by simpa using n)] at k
        exact k H1 s1
      · have n2 : has2 [a0, a1, a2, a3, a4, a5, a6] = true := by simpa using n
        rw [if_neg (by rw [n2]; decide)] at k
        have hq1 := (chgS (S := []) s1).tup hq
        refine ⟨_, rfl, q, _, 3, _, rfl, rfl, hq1, rfl, _, rfl, q, _, 4, _, rfl, rfl, hq1, rfl, _, rfl, q, _, 5, _, rfl, rfl, hq1, rfl, a3, a4, a5, rfl, _, rfl, ?_⟩
        refine ite2 (fun m => ?_) (fun m => ?_)
        · refine ⟨_, rfl, q, _, 3, _, rfl, rfl, hq1, rfl, _, rfl, q, _, 0, _, rfl, rfl, hq1, rfl, rfl, ?_⟩
          rw [m, Bool.true_and, ← vint_dec] at k
          exact k H1 s1
        · rw [Bool.eq_false_iff.mpr m, Bool.false_and] at k
          exact k H1 s1
def dN (l : List Nat) : List PyData := l.map fun (n : Nat) => PyData.int (n : Int)
theorem dp_ints (H : Hp) : ∀ l : List Nat, DpAll K H (nvs l) (dN l)
  | [] => .nil
  | n :: l => .cons (.int _) (dp_ints H l)
theorem sh_ints (l : List Nat) : SeqAt.shaped (.list (dN l)) = true := by
  unfold SeqAt.shaped
  have h1 : ∀ l : List Nat, PyData.canLayAll0 (dN l) = true := fun l => by
    induction l with
    | nil => rfl
    | cons n l ih =>
      show PyData.canLayAll0 (PyData.int (n : Int) :: dN l) = true
      simp [PyData.canLayAll0, PyData.canLay0, ih]
  have h2 : ∀ l : List Nat, PyData.depthAll (dN l) = 0 := fun l => by
    induction l with
    | nil => rfl
    | cons n l ih =>
      show PyData.depthAll (PyData.int (n : Int) :: dN l) = 0
      simp [PyData.depthAll, PyData.depth, ih]
  have e1 : PyData.canLay0 (.list (dN l)) = true := by simp [PyData.canLay0, h1]
  have e2 : PyData.depth (.list (dN l)) ≤ 64 := by simp [PyData.depth, h2]
  rw [e1, decide_eq_true e2]
  rfl
def spHand (K : PySem.W.Frag) (F : Addr) : Sp := fun vs H Q E => ∃ (t : Addr) (l : List Nat), vs = [.ref t] ∧ Fz K H t (nvs l) ∧ l.length ≤ 400 ∧
  (∀ r i : Nat, Na.handOf l = .error ⟨r, i⟩ → FX F E r i) ∧ ∀ x, Na.handOf l = .ok x → ∀ H', Same H H' → Q .non H'
theorem ok_want_hand (T : Txt K mg cFault cRunFault cTooLong cBeadFrame cReader cLines cRun) : Df P w K mg base (L2.CX P w) 3 "want_hand" ["hand"] (spHand K cFault) := by
  refine df_mk T.d_want_hand fun f fd F => F.okX sc_want_hand (fun vs H Q E h => ?_) (fun cdv A outer s H vs Q E hr h => ?_)
  · obtain ⟨t, l, rfl, _⟩ := h
    rfl
  · obtain ⟨t, l, rfl, ht, hl, kE, k⟩ := h
    refine ⟨_, (pss_cons (ps_if (PW.pt (pw_or (pt_cmpR (op_eqD hr.units) (pv 0) (pe_lst pa_nil) (nomark _)) (pw_or (pt_cmpR op_gt (pe_ix ix_list (pv 0) pe_int (fun _ _ => rfl)) (pe_gi T.c_MOST_COST) (nomark _)) (pw_or1 (pt_cmpR op_ne (pe_op op_mod (pe_op op_sub (pe_callB call_len_seq (by rfl) T.n_len PySem.boot_len (pa_cons (pv 0) pa_nil)) pe_int) (pe_gi T.c_NUMBERS_A_STROKE)) pe_int (nomark _)))))) (pss_one (ps_raise rfl (takes_of rfl rfl rfl rfl) (pmk_xf (ok_Fault___init__ T) (hr.mono (by decide)) (by exact (pa_cons pe_int (pa_cons pe_int pa_nil)))))) pss_nil) (pss_cons (ps_set (i := 1) sc_want_hand.nd rfl (Or.inl rfl) (pe_df (ok_strokes_of T) (hr.mono (by decide)) pass0 (by exact (pa_cons (pv 0) pa_nil)))) (pss_cons (ps_if (pt_cmpR op_gt (pe_callB call_len_seq (by rfl) T.n_len PySem.boot_len (pa_cons (pv 1) pa_nil)) (pe_gi T.c_MOST_STROKES) (nomark _)) (pss_one (ps_raise rfl (takes_of rfl rfl rfl rfl) (pmk_xf (ok_Fault___init__ T) (hr.mono (by decide)) (by exact (pa_cons pe_int (pa_cons pe_int pa_nil)))))) pss_nil) (pss_one (ps_for (passes_of rfl) rfl (pi_enum (by rfl) T.n_enumerate (pa_cons (pv 1) pa_nil)) (pg_tup rfl (pgs_cons (pg_name (i := 2) sc_want_hand.nd rfl (Or.inl rfl)) (pgs_cons (pg_name (i := 3) sc_want_hand.nd rfl (Or.inl rfl)) pgs_nil))) (pss_one (ps_if (pt_not (pt_val (pe_df (ok_is_stroke T) (hr.mono (by decide)) pass0 (by exact (pa_cons (pv 3) pa_nil))))) (pss_one (ps_raise rfl (takes_of rfl rfl rfl rfl) (pmk_xf (ok_Fault___init__ T) (hr.mono (by decide)) (by exact (pa_cons pe_int (pa_cons (pv 2) pa_nil)))))) pss_nil))))))), ?_⟩
    have elen : (nvs l).length = l.length := nvs_len l
    refine ⟨_, rfl, Nat.zero_le _, fun pe hpe => ⟨.list (dN l), .list [], .lst (ht.chg (chgS (same_lst hpe) : Chg [] H _)).sq (dp_ints _ l), .lst (SqL.of upd_same) .nil, sh_ints l, rfl, _, rfl, ?_⟩⟩
    have s1 : Same H (upd H pe (.lst [])) := same_lst hpe
    generalize upd H pe (.lst []) = H1 at s1 ⊢
    have ht1 := ht.chg (chgS s1 : Chg [] H H1)
    cases l with
    | nil =>
      refine ite2 (fun _ => ?_) (fun n => absurd (by simp [PyData.eqv, PyData.eqvAll, dN]) n)
      refine ite2 (fun _ => ?_) (fun n => absurd rfl n)
      exact fault_in fun d H' _ e => kE 6 0 rfl d H' e
    | cons o r =>
      have eh : Na.handOf (o :: r) = if 255 < o ∨ r.length % 7 ≠ 0 ∨ 7 * Na.STROKES < r.length then Except.error ⟨6, 0⟩ else
        match (Na.groups 7 r).findIdx? (fun g => !Na.strokeGood g) with
        | some i => .error ⟨7, i⟩
        | none => .ok ⟨o, (Na.groups 7 r).map Na.strokeOf⟩ := rfl
      rw [eh] at kE k
      refine ite2 (fun n => absurd n (by simp [PyData.eqv, PyData.eqvAll, dN])) (fun _ => ?_)
      refine tOr_p (p := decide (255 < o)) (q := !decide (r.length % 7 = 0)) (fun Q h => ?_) (fun Q h => ?_) _ ?_
      · refine ⟨_, rfl, t, _, _, .int (o : Int), rfl, rfl, ht1.sq, at_of (j := 0) (by omega) rfl, _, _, rfl, rfl, _, rfl, ?_⟩
        rw [← nat_dec_lt 255 o] at h
        exact h
      · refine ⟨_, rfl, t, _, rfl, .inl ht1.sq, _, _, rfl, rfl, _, _, rfl, rfl, (show (0 : Int) < 7 by decide), rfl, _, rfl, ?_⟩
        rw [← vint_dec (r.length % 7) 0] at h
        have e7 : ((nvs (o :: r)).length : Int) - 1 = (r.length : Int) := by rw [elen, List.length_cons]; omega
        show Q (!decide (V.int ((((nvs (o :: r)).length : Int) - 1) % 7) = V.int 0)) H1
        rw [e7]
        exact h
      · refine ite2 (fun c => ?_) (fun c => ?_)
        · refine fault_in fun d H' _ e => kE 6 0 (if_pos ?_) d H' e
          rw [Bool.or_eq_true, decide_eq_true_iff, Bool.not_eq_true', decide_eq_false_iff_not] at c
          rcases c with c | c
          · exact .inl c
          · exact .inr (.inl c)
        · rw [Bool.or_eq_true, decide_eq_true_iff, Bool.not_eq_true', decide_eq_false_iff_not] at c
          have c1 : ¬ 255 < o := fun z => c (.inl z)
          have c2 : r.length % 7 = 0 := Classical.byContradiction fun z => c (.inr z)
          rw [List.length_cons] at hl
          refine ⟨_, rfl, t, o :: r, r.length / 7, rfl, ht1, by rw [List.length_cons]; omega, by omega, fun H2 p2 vg s2 hp2 hv hp => ?_⟩
          have hp : Paired (StrokeAt K H2) vg (Na.groups 7 r) := hp
          have lg : (Na.groups 7 r).length = r.length / 7 := groups_len (by decide) (by omega)
          have lv := Paired.length hp
          refine ⟨_, rfl, p2, _, rfl, .inl (SqL.of hv), _, _, rfl, rfl, _, rfl, ?_⟩
          refine ite2 (fun c3 => ?_) (fun c3 => ?_)
          · refine fault_in fun d H' _ e => kE 6 0 (if_pos (.inr (.inr ?_))) d H' e
            have := of_decide_eq_true c3
            unfold Na.STROKES
            omega
          · have c3 : ¬ ((32 : Int) < (vg.length : Int)) := fun z => c3 (decide_eq_true z)
            rw [if_neg (by unfold Na.STROKES; omega)] at kE k
            refine ⟨_, rfl, p2, _, rfl, SqL.of hv, ?_⟩
            refine for_it (walk_enum (K := K) (a := p2) (xs := vg)) (fun i σ H' => ∃ x2 x3, σ = [some (.ref t), some (.ref p2), x2, x3] ∧ Same H2 H' ∧ ∀ j g, j < i → (Na.groups 7 r)[j]? = some g → strokeM g = true)
              ⟨none, none, rfl, fun _ _ e => e, fun j g hj => absurd hj (Nat.not_lt_zero _)⟩ (fun i σ H' _ ⟨_, _, _, s3, _⟩ => SqL.of (s3 _ _ hv)) ?_ ?_
            · rintro i y σ H3 H4 hi ⟨x2, x3, rfl, s3, hz⟩ ⟨Tt, x, v, rfl, hT, rfl, ex, ev⟩
              cases ex
              obtain ⟨g, hg, hs⟩ := paired_at hp ev
              have s4 : Same H2 (upd H3 Tt (.tup [.int (i : Int), v])) := fun b o e => same_lst hT b o (s3 b o e)
              obtain ⟨qq, rfl, hq, h7⟩ := hs
              refine ⟨Tt, _, rfl, SqT.of upd_same, rfl, _, _, rfl, _, _, rfl, rfl, _, rfl, _, g, rfl, ⟨qq, rfl, (chgS (S := []) s4).tup hq, h7⟩, fun H5 s5 => ⟨_, rfl, ?_⟩⟩
              cases hsg : strokeM g with
              | false =>
                refine ite2 (fun _ => ?_) (fun n => absurd rfl n)
                refine ⟨_, rfl, fault_in fun d H' _ e => kE 7 i ?_ d H' e⟩
                have hf : (Na.groups 7 r).findIdx? (fun g => !Na.strokeGood g) = some i := by
                  rw [List.findIdx?_eq_some_iff_getElem]
                  obtain ⟨hil, hge⟩ := List.getElem?_eq_some_iff.mp hg
                  refine ⟨hil, by rw [hge, stroke_is, hsg]; rfl, fun j hj => ?_⟩
                  rw [stroke_is, hz j _ hj (List.getElem?_eq_getElem _)]
                  decide
                rw [hf]
              | true =>
                refine ite2 (fun n => absurd n (by decide)) (fun _ => ?_)
                refine ⟨_, _, rfl, fun b o e => s5 _ _ (s4 b o e), fun j g' hj hg' => ?_⟩
                by_cases hji : j = i
                · subst hji
                  rw [hg] at hg'
                  cases hg'
                  exact hsg
                · exact hz j g' (by omega) hg'
            · rintro σ H3 ⟨x2, x3, rfl, s3, hz⟩
              have hf : (Na.groups 7 r).findIdx? (fun g => !Na.strokeGood g) = none := by
                rw [List.findIdx?_eq_none_iff]
                intro g hgm
                obtain ⟨j, hj⟩ := List.mem_iff_getElem?.mp hgm
                rw [stroke_is, hz j g (by have := (List.getElem?_eq_some_iff.mp hj).1; omega) hj]
                rfl
              rw [hf] at k
              exact k _ rfl H3 (fun b o e => s3 _ _ (s2 _ _ (s1 b o e)))
end
end Ab
/-! ## The walk: books -/
namespace Ab
open PySem PySem.Spec PyProof.Rows L2
section
variable {P : Program} {w : World} {K : PySem.W.Frag} {mg : Str → Option Value} {base : Heap} {cFault cRunFault cTooLong cBeadFrame cReader cLines cRun : Addr}
def StepAt (K : PySem.W.Frag) (H : Hp) (v : V) (p : P3) : Prop := ∃ q, v = .ref q ∧ SqT K H q (v3 p)
theorem ix_listK {X : Cx} {K : PySem.W.Frag} (h : X.K = K) : IxR X (rIxL K) := h ▸ ix_list
theorem rg33 : ∀ n : Nat, n ≤ 11 → RgC 3 ((3 + 3 * n : Nat) : Int) 3 n := by
  have h : ∀ n : Fin 12, Builtin.Range.small 3 ((3 + 3 * n.val : Nat) : Int) 3 = true ∧ Builtin.Range.rangeSize 3 ((3 + 3 * n.val : Nat) : Int) 3 = n.val := by decide +kernel
  intro n hn
  have := h ⟨n, by omega⟩
  exact ⟨by decide, by decide, this.1, this.2⟩
def spSteps (K : PySem.W.Frag) : Sp := fun vs H Q _ => ∃ (t : Addr) (l : List Nat), vs = [.ref t] ∧ Fz K H t (nvs l) ∧ l.length % 3 = 0 ∧ 3 ≤ l.length ∧ l.length ≤ 36 ∧
  ∀ H' p vg, Same H H' → H p = none → H' p = some (.lst vg) → Paired (StepAt K H') vg (stepsM l) → Q (.ref p) H'
theorem ok_steps_of (T : Txt K mg cFault cRunFault cTooLong cBeadFrame cReader cLines cRun) : Df P w K mg base CX0 1 "steps_of" ["row"] (spSteps K) := by
  refine df_mk T.d_steps_of fun f fd F => F.ok sc_steps_of (fun vs H Q E h => ?_) (fun cdv A outer s H vs Q E hr h => ?_)
  · obtain ⟨t, l, rfl, _⟩ := h
    rfl
  · obtain ⟨t, l, rfl, ht, h3, h3', hl, k⟩ := h
    refine ⟨_, (pss_one (ps_ret (pe_lc (own := [("at", 1)]) (g := gName 1) (tt := tYes) rfl sc_steps_of.nd (pi_range3 rfl T.n_range (pa_cons pe_int (pa_cons (pe_callB call_len_seq (by rfl) T.n_len PySem.boot_len (pa_cons (pv 0) pa_nil)) (pa_cons pe_int pa_nil)))) (blkOk_by (N := ["row", "at"]) (sc := defScope s_steps_of) (by decide +kernel)) (fun _ _ _ _ _ => pg_name (i := 1) sc_steps_of.nd rfl (Or.inl rfl)) (fun _ _ _ _ _ => pts_nil) (fun _ _ _ _ _ => (pe_tup (pa_cons (pe_ix (ix_listK (K := K) rfl) (pv 0) (pv 1) (fun _ _ => rfl)) (pa_cons (pe_ix (ix_listK (K := K) rfl) (pv 0) (pe_op op_add (pv 1) pe_int) (fun _ _ => rfl)) (pa_cons (pe_ix (ix_listK (K := K) rfl) (pv 0) (pe_op op_add (pv 1) pe_int) (fun _ _ => rfl)) pa_nil)))))))), ?_⟩
    have elen : (nvs l).length = l.length := nvs_len l
    obtain ⟨n, hn⟩ : ∃ n, l.length = 3 + 3 * n := ⟨l.length / 3 - 1, by omega⟩
    have ld : (l.drop 3).length = 3 * n := by rw [List.length_drop]; omega
    have lg : (stepsM l).length = n := by unfold stepsM; rw [List.length_map, groups_len (by decide) ld]
    have eg : ∀ i, i < n → (stepsM l)[i]? = some (l.getD (3 + 3 * i) 0, l.getD (3 + 3 * i + 1) 0, l.getD (3 + 3 * i + 2) 0) := fun i hi => by
      unfold stepsM
      rw [List.getElem?_map, groups_at (by decide), if_pos (by omega), List.drop_drop]
      show some (pOf _) = _
      unfold pOf
      have g : ∀ j, j < 3 → ((l.drop (3 + 3 * i)).take 3).getD j 0 = l.getD (3 + 3 * i + j) 0 := fun j hj => by
        rw [List.getD_eq_getElem?_getD, List.getD_eq_getElem?_getD, List.getElem?_take_of_lt hj, List.getElem?_drop]
      rw [g 0 (by decide), g 1 (by decide), g 2 (by decide)]
      rfl
    refine ⟨_, rfl, t, _, rfl, .inl ht.sq, 3, _, 3, n, rfl, ?_, fun D hD => ?_⟩
    · rw [elen, hn]
      exact rg33 n (by omega)
    refine lc_it (walk_rangeC (lo := 3) (c := 3) (n := n)) (fun i H' => ∃ vr, Same H H' ∧ H' D = some (.lst vr) ∧ Paired (StepAt K H') vr ((stepsM l).take i)) ⟨[], same_lst hD, upd_same, .nil⟩ (fun _ _ _ _ => trivial) ?_ ?_
    · rintro i x H1 H2 hi ⟨vr, s1, h1, hp⟩ ⟨eH, eY⟩
      subst eH eY
      have q1 := (ht.chg (chgS s1 : Chg [] H H2)).sq
      have at_ : ∀ j, j < 3 → (nvs l)[3 + 3 * i + j]? = some (.int ((l.getD (3 + 3 * i + j) 0 : Nat) : Int)) := fun j hj => nvs_at (by
        rw [List.getD_eq_getElem?_getD, List.getElem?_eq_getElem (by omega)]; rfl)
      refine ⟨rfl, ?_⟩
      refine ⟨_, rfl, _, rfl, t, _, _, _, rfl, rfl, q1, at_of (j := 3 + 3 * i + 0) (by omega) (at_ 0 (by decide)), _, rfl, _, rfl, _, _, rfl, rfl, t, _, _, _, rfl, rfl, q1, at_of (j := 3 + 3 * i + 1) (by omega) (at_ 1 (by decide)), _, rfl, _, rfl, _, _, rfl, rfl, t, _, _, _, rfl, rfl, q1, at_of (j := 3 + 3 * i + 2) (by omega) (at_ 2 (by decide)), sz (show 3 ≤ 100000 by decide), fun b2 hb2 => ?_⟩
      have s2 : Same H2 (upd H2 b2 (.tup (v3 (l.getD (3 + 3 * i) 0, l.getD (3 + 3 * i + 1) 0, l.getD (3 + 3 * i + 2) 0)))) := same_lst hb2
      have lp : vr.length ≤ 64 := by
        rw [Paired.length hp, List.length_take]
        omega
      have nf : D ≠ b2 := ne_of_none h1 hb2
      refine ⟨_, s2 _ _ h1, szl (by omega), _, fun b o e => ?_, upd_same, ?_⟩
      · rw [upd_ne (ne_of_none e hD)]
        exact s2 _ _ (s1 _ _ e)
      · rw [List.take_succ (l := stepsM l), eg i hi]
        have c4 : Chg [D] (upd H2 b2 (.tup (v3 (l.getD (3 + 3 * i) 0, l.getD (3 + 3 * i + 1) 0, l.getD (3 + 3 * i + 2) 0)))) (upd (upd H2 b2 (.tup (v3 (l.getD (3 + 3 * i) 0, l.getD (3 + 3 * i + 1) 0, l.getD (3 + 3 * i + 2) 0)))) D (.lst (vr ++ [V.ref b2]))) := (Chg.refl _).set (by simp) (s2 _ _ h1) (by intro z; exact z)
        refine paired_snoc ⟨b2, rfl, c4.tup (SqT.of upd_same)⟩ (Paired.mapP hp fun v r ⟨q, e, h⟩ => ⟨q, e, c4.tup ((chgS (S := []) s2).tup h)⟩)
    · rintro H1 ⟨vr, s1, h1, hp⟩
      rw [List.take_of_length_le (by rw [lg]; exact Nat.le_refl _)] at hp
      exact k H1 D vr s1 hD h1 hp
def spIsStep (K : PySem.W.Frag) : Sp := fun vs H Q _ => ∃ (v : V) (p : P3), vs = [v] ∧ StepAt K H v p ∧ ∀ H', Same H H' → Q (.bl (stepM p)) H'
theorem ok_is_step (T : Txt K mg cFault cRunFault cTooLong cBeadFrame cReader cLines cRun) : Df P w K mg base CX0 1 "is_step" ["step"] (spIsStep K) := by
  refine df_mk T.d_is_step fun f fd F => F.ok sc_is_step (fun vs H Q E h => ?_) (fun cdv A outer s H vs Q E hr h => ?_)
  · obtain ⟨v, p, rfl, _⟩ := h
    rfl
  · obtain ⟨v, p, rfl, hv, k⟩ := h
    refine ⟨_, (pss_cons (ps_asg (pv 0) (pg_tup rfl (pgs_cons (pg_name (i := 1) sc_is_step.nd rfl (Or.inl rfl)) (pgs_cons (pg_name (i := 2) sc_is_step.nd rfl (Or.inl rfl)) (pgs_cons (pg_name (i := 3) sc_is_step.nd rfl (Or.inl rfl)) pgs_nil))))) (pss_cons (ps_if (pt_cmpR (op_eqD hr.units) (pv 0) (pe_gt T.c_CARRY) (nomark _)) (pss_one (ps_ret pe_bl)) pss_nil) (pss_one (ps_ret (pe_and (pe_cmpR op_lt (pv 1) (pe_gi T.c_MOST_STROKES) (nomark _)) (pe_and (pe_chain op_le op_le pe_int (pv 2) (pe_gi T.c_MOST_BEADS)) (pe_one (pe_cmpR op_le (pv 3) (pe_gi T.c_MOST_BEADS) (nomark _))))))))), ?_⟩
    obtain ⟨q, rfl, hq⟩ := hv
    obtain ⟨a, b, c⟩ := p
    have es : stepM (a, b, c) = if ((a, b, c) : P3) = (0, 0, 0) then true else decide (a < 32) && ((decide (1 ≤ b) && decide (b ≤ 15)) && decide (c ≤ 15)) := rfl
    rw [es] at k
    have k := k H (fun _ _ e => e)
    refine ⟨_, rfl, q, _, rfl, hq, rfl, _, _, rfl, _, _, rfl, _, _, rfl, rfl, ?_⟩
    refine ⟨_, rfl, fun g hg => ⟨d3 (a, b, c), d3 (0, 0, 0), dp3 hq, dp3 (hg H), sh3 _, sh3 _, _, rfl, ?_⟩⟩
    rw [eq3]
    by_cases hz : ((a, b, c) : P3) = (0, 0, 0)
    · rw [if_pos hz] at k
      refine ite2 (fun _ => k) (fun n => absurd (decide_eq_true hz) n)
    · rw [if_neg hz] at k
      refine ite2 (fun n => absurd (of_decide_eq_true n) hz) (fun _ => ?_)
      refine ⟨_, rfl, _, _, rfl, rfl, _, rfl, ?_⟩
      refine ite2 (fun c1 => ?_) (fun c1 => ?_)
      · rw [show decide (a < 32) = true from decide_eq_true (Int.ofNat_lt.mp (of_decide_eq_true c1)), Bool.true_and] at k
        refine ⟨_, rfl, _, _, rfl, rfl, _, rfl, ?_⟩
        rw [← nat_dec_le 1 b, ← nat_dec_le b 15, ← nat_dec_le c 15] at k
        refine ite2 (fun c2 => ?_) (fun c2 => ?_)
        · rw [show decide ((((1 : Nat) : Int)) ≤ (b : Int)) = true from c2, Bool.true_and] at k
          refine ⟨_, _, rfl, rfl, _, rfl, ?_⟩
          refine ite2 (fun c3 => ?_) (fun c3 => ?_)
          · rw [show decide ((b : Int) ≤ ((15 : Nat) : Int)) = true from c3, Bool.true_and] at k
            exact ⟨_, rfl, _, _, rfl, rfl, k⟩
          · rw [show decide ((b : Int) ≤ ((15 : Nat) : Int)) = false from Bool.eq_false_iff.mpr c3, Bool.false_and] at k
            exact k
        · rw [show decide ((((1 : Nat) : Int)) ≤ (b : Int)) = false from Bool.eq_false_iff.mpr c2, Bool.false_and, Bool.false_and] at k
          exact ⟨_, rfl, k⟩
      · rw [show decide (a < 32) = false from decide_eq_false (fun z => c1 (decide_eq_true (Int.ofNat_lt.mpr z))), Bool.false_and] at k
        exact k
def spIsRule (K : PySem.W.Frag) : Sp := fun vs H Q _ => ∃ (t : Addr) (l : List Nat), vs = [.ref t] ∧ Fz K H t (nvs l) ∧ l.length ≤ 36 ∧ ∀ H', Same H H' → Q (.bl (rowM l)) H'
theorem ok_is_rule (T : Txt K mg cFault cRunFault cTooLong cBeadFrame cReader cLines cRun) : Df P w K mg base CX0 2 "is_rule" ["row"] (spIsRule K) := by
  refine df_mk T.d_is_rule fun f fd F => F.ok sc_is_rule (fun vs H Q E h => ?_) (fun cdv A outer s H vs Q E hr h => ?_)
  · obtain ⟨t, l, rfl, _⟩ := h
    rfl
  · obtain ⟨t, l, rfl, ht, hl, k⟩ := h
    refine ⟨_, (pss_cons (ps_if (PW.pt (pw_or (pt_cmpR op_lt (pe_callB call_len_seq (by rfl) T.n_len PySem.boot_len (pa_cons (pv 0) pa_nil)) pe_int (nomark _)) (pw_or (pt_cmpR op_ne (pe_op op_mod (pe_callB call_len_seq (by rfl) T.n_len PySem.boot_len (pa_cons (pv 0) pa_nil)) pe_int) pe_int (nomark _)) (pw_or1 (pt_cmpR op_gt (pe_callB call_len_seq (by rfl) T.n_len PySem.boot_len (pa_cons (pv 0) pa_nil)) (pe_op op_add pe_int (pe_op op_mul pe_int (pe_gi T.c_MOST_STEPS_hands))) (nomark _)))))) (pss_one (ps_ret pe_bl)) pss_nil) (pss_cons (ps_if (PW.pt (pw_or (pt_cmpR op_gt (pe_ix ix_list (pv 0) pe_int (fun _ _ => rfl)) pe_int (nomark _)) (pw_or (pt_cmpR op_gt (pe_ix ix_list (pv 0) pe_int (fun _ _ => rfl)) (pe_gi T.c_MOST_DIGIT) (nomark _)) (pw_or1 (pt_cmpR op_gt (pe_ix ix_list (pv 0) pe_int (fun _ _ => rfl)) (pe_gi T.c_MOST_DIGIT) (nomark _)))))) (pss_one (ps_ret pe_bl)) pss_nil) (pss_one (ps_ret (pe_callB (cr_all rfl) (by rfl) T.n_all (by decide +kernel) (pa_cons (pe_lc (own := [("step", 1)]) (g := gName 1) (tt := tYes) rfl sc_is_rule.nd (pi_list (pe_df (ok_steps_of T) (hr.mono (by decide)) pass0 (by exact (pa_cons (pv 0) pa_nil)))) (blkOk_by (N := ["row", "step"]) (sc := defScope s_is_rule) (by decide +kernel)) (fun _ _ _ _ _ => pg_name (i := 1) sc_is_rule.nd rfl (Or.inl rfl)) (fun _ _ _ _ _ => pts_nil) (fun _ _ _ _ _ => (pe_df (ok_is_step T) (hr.mono (by decide)) pass0 (by exact (pa_cons (pv 1) pa_nil))))) pa_nil)))))), ?_⟩
    have elen : (nvs l).length = l.length := nvs_len l
    unfold rowM at k
    refine ifS_p (p := decide (l.length < 3) || (!decide (l.length % 3 = 0) || decide (33 < l.length))) (tOr_p (fun Q h => ?_) (tOr_p (fun Q h => ?_) (fun Q h => ?_))) (fun c => ?_) (fun c => ?_)
    · refine ⟨_, rfl, t, _, rfl, .inl ht.sq, _, _, rfl, rfl, _, rfl, ?_⟩
      rw [← nat_dec_lt l.length 3] at h
      rw [elen]
      exact h
    · refine ⟨_, rfl, t, _, rfl, .inl ht.sq, _, _, rfl, rfl, (show (0 : Int) < 3 by decide), rfl, _, rfl, ?_⟩
      rw [← vint_dec (l.length % 3) 0] at h
      show Q (!decide (V.int (((nvs l).length : Int) % 3) = V.int 0)) H
      rw [elen]
      exact h
    · refine ⟨_, rfl, t, _, rfl, .inl ht.sq, _, _, rfl, rfl, .inl ⟨by decide, by decide⟩, _, _, rfl, rfl, _, _, rfl, rfl, _, rfl, ?_⟩
      rw [← nat_dec_lt 33 l.length] at h
      rw [elen]
      exact h
    · rw [if_pos c] at k
      exact k H (fun _ _ e => e)
    · rw [if_neg (by rw [c]; decide)] at k
      rw [Bool.or_eq_false_iff, Bool.or_eq_false_iff, decide_eq_false_iff_not, Bool.not_eq_false', decide_eq_true_iff, decide_eq_false_iff_not] at c
      obtain ⟨c1, c2, c3⟩ := c
      have at_ : ∀ j, j < 3 → (nvs l)[j]? = some (.int ((l.getD j 0 : Nat) : Int)) := fun j hj => nvs_at (by
        rw [List.getD_eq_getElem?_getD, List.getElem?_eq_getElem (by omega)]; rfl)
      dsimp only [tNext]
      refine ifS_p (p := decide (1 < l.getD 0 0) || (decide (19 < l.getD 1 0) || decide (19 < l.getD 2 0))) (tOr_p (fun Q h => ?_) (tOr_p (fun Q h => ?_) (fun Q h => ?_))) (fun c => ?_) (fun c => ?_)
      · refine ⟨_, rfl, t, _, _, _, rfl, rfl, ht.sq, at_of (j := 0) (by omega) (at_ 0 (by decide)), _, _, rfl, rfl, _, rfl, ?_⟩
        rw [← nat_dec_lt 1 (l.getD 0 0)] at h
        exact h
      · refine ⟨_, rfl, t, _, _, _, rfl, rfl, ht.sq, at_of (j := 1) (by omega) (at_ 1 (by decide)), _, _, rfl, rfl, _, rfl, ?_⟩
        rw [← nat_dec_lt 19 (l.getD 1 0)] at h
        exact h
      · refine ⟨_, rfl, t, _, _, _, rfl, rfl, ht.sq, at_of (j := 2) (by omega) (at_ 2 (by decide)), _, _, rfl, rfl, _, rfl, ?_⟩
        rw [← nat_dec_lt 19 (l.getD 2 0)] at h
        exact h
      · rw [if_pos c] at k
        exact k H (fun _ _ e => e)
      · rw [if_neg (by rw [c]; decide)] at k
        dsimp only [tNext]
        refine ⟨_, rfl, t, l, rfl, ht, c2, by omega, hl, fun H2 p2 vg s2 hp2 hv hp => ?_⟩
        refine ⟨p2, rfl, ⟨_, SqL.of hv⟩, fun D hD => ?_⟩
        refine lc_it (walk_list (K := K) (a := p2) (xs := vg)) (fun i H' => Same H2 H' ∧ H' D = some (.lst (((stepsM l).take i).map fun p => V.bl (stepM p)))) ⟨same_lst hD, upd_same⟩ (fun i H' _ ⟨s3, _⟩ => SqL.of (s3 _ _ hv)) ?_ ?_
        · rintro i x H3 H4 hi ⟨s3, h3⟩ ⟨eH, ev⟩
          subst eH
          obtain ⟨p, hp', qq, rfl, hq⟩ := paired_at hp ev
          have lp : (stepsM l).length ≤ 64 := by
            unfold stepsM
            rw [List.length_map, groups_len (by decide) (n := l.length / 3 - 1) (by rw [List.length_drop]; omega)]
            omega
          refine ⟨rfl, ?_⟩
          refine ⟨_, rfl, _, p, rfl, ⟨qq, rfl, (chgS (S := []) s3).tup hq⟩, fun H5 s5 => ⟨_, s5 _ _ h3, ?_, fun b o e => ?_, ?_⟩⟩
          · rw [List.length_map, List.length_take]
            exact szl (by omega)
          · rw [upd_ne (ne_of_none e hD)]
            exact s5 _ _ (s3 _ _ e)
          · rw [upd_same, List.take_succ (l := stepsM l), hp', List.map_append]
            rfl
        · rintro H3 ⟨s3, h3⟩
          have lv := Paired.length hp
          rw [List.take_of_length_le (by omega)] at h3
          refine ⟨D, (stepsM l).map stepM, rfl, SqL.of (by rw [h3, List.map_map]; rfl), ?_⟩
          have := k H3 (fun b o e => s3 _ _ (s2 _ _ e))
          rw [List.all_map]
          exact this
end
end Ab
/-! ## The walk: a book's rules -/
namespace Ab
open PySem PySem.Spec PyProof.Rows L2
section
variable {P : Program} {w : World} {K : PySem.W.Frag} {mg : Str → Option Value} {base : Heap} {cFault cRunFault cTooLong cBeadFrame cReader cLines cRun : Addr}
def RowAt (K : PySem.W.Frag) (H : Hp) (v : V) (l : List Nat) : Prop := ∃ q, v = .ref q ∧ Fz K H q (nvs l)
def kT (p : P3) : List Key := [.inl (p.1 : Int), .inl (p.2.1 : Int), .inl (p.2.2 : Int)]
/-- the list of a rule's steps at b, outside S -/
def StepsAt (K : PySem.W.Frag) (S : Addr → Prop) (H : Hp) (v : V) (st : List P3) : Prop := ∃ b vg, v = .ref b ∧ S b ∧ H b = some (.lst vg) ∧ Paired (StepAt K H) vg st
/-- the rules D in the dict at a; their lists lie outside S -/
def RulesAt (K : PySem.W.Frag) (S : Addr → Prop) (H : Hp) (a : Addr) (D : List (P3 × List P3)) : Prop := ∃ kvs, H a = some (.dT kvs) ∧ kvs.length ≤ D.length ∧ ∀ p : P3, match D.lookup p with
  | none => valV kvs (kT p) = none
  | some st => ∃ v, valV kvs (kT p) = some v ∧ StepsAt K S H v st
theorem kT_inj {p q : P3} (h : kT p = kT q) : p = q := by
  obtain ⟨a, b, c⟩ := p
  obtain ⟨d, e, f⟩ := q
  unfold kT at h
  simp at h
  obtain ⟨h1, h2, h3⟩ := h
  rw [show a = d by omega, show b = e by omega, show c = f by omega]
theorem lookup_snoc (D : List (P3 × List P3)) (k j : P3) (s : List P3) (h : D.lookup k = none) : (D ++ [(k, s)]).lookup j = if j = k then some s else D.lookup j := by
  induction D with
  | nil =>
    rw [List.nil_append, List.lookup_cons]
    by_cases e : j = k
    · rw [if_pos e, show (j == k) = true from beq_iff_eq.mpr e]
    · rw [if_neg e, show (j == k) = false from beq_eq_false_iff_ne.mpr e]
  | cons d D ih =>
    rw [List.lookup_cons] at h
    rw [List.cons_append, List.lookup_cons, List.lookup_cons]
    cases hk : (k == d.1) with
    | true => rw [hk] at h; cases h
    | false =>
      rw [hk] at h
      cases hj : (j == d.1) with
      | true =>
        rw [if_neg]
        intro e
        rw [e, hk] at hj
        cases hj
      | false => exact ih h
theorem rules_put {S : Addr → Prop} {H H' : Hp} {D : List (P3 × List P3)} {kvs : List (List Key × V)} {k : P3} {st : List P3} {v : V}
    (hv : ∀ p : P3, match D.lookup p with | none => valV kvs (kT p) = none | some st => ∃ v, valV kvs (kT p) = some v ∧ StepsAt K S H v st) (hk : D.lookup k = none) (hs : StepsAt K S H' v st)
    (mon : ∀ v s, StepsAt K S H v s → StepsAt K S H' v s) :
    ∀ p : P3, match (D ++ [(k, st)]).lookup p with | none => valV (putK kvs (kT k) v) (kT p) = none | some st => ∃ w, valV (putK kvs (kT k) v) (kT p) = some w ∧ StepsAt K S H' w st := by
  intro p
  rw [lookup_snoc D k p st hk, valV_put]
  by_cases e : p = k
  · subst e
    rw [if_pos rfl, if_pos rfl]
    exact ⟨v, rfl, hs⟩
  · rw [if_neg e, if_neg (fun z => e (kT_inj z))]
    have := hv p
    cases hl : D.lookup p with
    | none => rw [hl] at this; exact this
    | some s =>
      rw [hl] at this
      obtain ⟨w, h1, h2⟩ := this
      exact ⟨w, h1, mon _ _ h2⟩
theorem row_steps {l : List Nat} (h : rowM l = true) : (stepsM l).all stepM = true := by
  unfold rowM at h
  by_cases c1 : (decide (l.length < 3) || (!decide (l.length % 3 = 0) || decide (33 < l.length))) = true
  · rw [if_pos c1] at h; cases h
  · rw [if_neg c1] at h
    by_cases c2 : (decide (1 < l.getD 0 0) || (decide (19 < l.getD 1 0) || decide (19 < l.getD 2 0))) = true
    · rw [if_pos c2] at h; cases h
    · rw [if_neg c2] at h; exact h
def spRules (K : PySem.W.Frag) (F : Addr) : Sp := fun vs H Q E => ∃ (t : Addr) (xs : List V) (B : List (List Nat)), vs = [.ref t] ∧ Fz K H t xs ∧ Paired (RowAt K H) xs B ∧ B.length ≤ 820 ∧ (∀ l ∈ B, l.length ≤ 36) ∧
  (∀ r i : Nat, Na.bookOf B = .error ⟨r, i⟩ → FX F E r i) ∧
  ∀ D, Na.bookOf B = .ok (D.map ruleAs) → (∀ e ∈ D, ∀ p ∈ e.2, stepM p = true) → ∀ H' p, Same H H' → H p = none → RulesAt K (fun b => b ≠ p ∧ H b = none) H' p D → Q (.ref p) H'
theorem ok_rules_of (T : Txt K mg cFault cRunFault cTooLong cBeadFrame cReader cLines cRun) : Df P w K mg base (L2.CX P w) 3 "rules_of" ["book"] (spRules K cFault) := by
  refine df_mk T.d_rules_of fun f fd F => F.okX sc_rules_of (fun vs H Q E h => ?_) (fun cdv A outer s H vs Q E hr h => ?_)
  · obtain ⟨t, xs, B, rfl, _⟩ := h
    rfl
  · obtain ⟨t, xs, B, rfl, ht, hp, hB, hl, kE, k⟩ := h
    refine ⟨_, (pss_cons (ps_set (i := 1) sc_rules_of.nd rfl (Or.inl rfl) pe_dnewT) (pss_cons (ps_for (passes_of rfl) rfl (pi_enum (by rfl) T.n_enumerate (pa_cons (pv 0) pa_nil)) (pg_tup rfl (pgs_cons (pg_name (i := 2) sc_rules_of.nd rfl (Or.inl rfl)) (pgs_cons (pg_name (i := 3) sc_rules_of.nd rfl (Or.inl rfl)) pgs_nil))) (pss_cons (ps_if (PW.pt (pw_or (pt_not (pt_val (pe_df (ok_is_rule T) (hr.mono (by decide)) pass0 (by exact (pa_cons (pv 3) pa_nil))))) (pw_or1 (pt_cmp (pc_din (hu_of hr) (pe_tup (pa_cons (pe_ix ix_list (pv 3) pe_int (fun _ _ => rfl)) (pa_cons (pe_ix ix_list (pv 3) pe_int (fun _ _ => rfl)) (pa_cons (pe_ix ix_list (pv 3) pe_int (fun _ _ => rfl)) pa_nil)))) (pv 1)) rfl)))) (pss_one (ps_raise rfl (takes_of rfl rfl rfl rfl) (pmk_xf (ok_Fault___init__ T) (hr.mono (by decide)) (by exact (pa_cons pe_int (pa_cons (pv 2) pa_nil)))))) pss_nil) (pss_one (ps_dput (hu_of hr) (pv 1) (pe_tup (pa_cons (pe_ix ix_list (pv 3) pe_int (fun _ _ => rfl)) (pa_cons (pe_ix ix_list (pv 3) pe_int (fun _ _ => rfl)) (pa_cons (pe_ix ix_list (pv 3) pe_int (fun _ _ => rfl)) pa_nil)))) (pe_df (ok_steps_of T) (hr.mono (by decide)) pass0 (by exact (pa_cons (pv 3) pa_nil))) rfl)))) (pss_one (ps_ret (pv 1))))), ?_⟩
    intro fa hfa
    have c0 : Chg [fa] H (upd H fa (.dT [])) := chgS (same_lst hfa)
    refine ⟨_, rfl, t, _, rfl, (ht.chg c0).sq, ?_⟩
    refine for_it (walk_enum (K := K) (a := t) (xs := xs)) (fun i σ H' => ∃ x2 x3 D, σ = [some (.ref t), some (.ref fa), x2, x3] ∧ Chg [fa] H H' ∧ RulesAt K (fun b => b ≠ fa ∧ H b = none) H' fa D ∧ D.length ≤ i ∧ Na.bookOf B = Na.bookFrom i (D.map ruleAs) (B.drop i) ∧ ∀ e ∈ D, ∀ p ∈ e.2, stepM p = true)
      ⟨none, none, [], rfl, c0, ⟨[], upd_same, Nat.le_refl _, fun p => rfl⟩, Nat.le_refl _, rfl, fun e h => by cases h⟩ (fun i σ H' _ ⟨_, _, _, _, c1, _⟩ => (ht.chg c1).sq) ?_ ?_
    · rintro i y σ H2 H3 hi ⟨x2, x3, D, rfl, c1, hR, hl2, hb, hst⟩ ⟨Tt, x, v, rfl, hT, rfl, ex, ev⟩
      cases ex
      obtain ⟨l, hlB, q, rfl, hq⟩ := paired_at hp ev
      have c2 : Chg [fa] H (upd H2 Tt (.tup [.int (i : Int), .ref q])) := c1.trans ((chgS (same_lst hT) : Chg [] H2 _).mono (by simp))
      have hd : B.drop i = l :: B.drop (i + 1) := by
        obtain ⟨h1, h2⟩ := List.getElem?_eq_some_iff.mp hlB
        rw [List.drop_eq_getElem_cons h1, h2]
      rw [hd, book_step] at hb
      refine ⟨Tt, _, rfl, SqT.of upd_same, rfl, _, _, rfl, _, _, rfl, rfl, ?_⟩
      refine ⟨_, rfl, q, l, rfl, hq.chg c2, hl l (List.mem_of_getElem? hlB), fun H4 s4 => ⟨_, rfl, ?_⟩⟩
      cases hrow : rowM l with
      | false =>
        refine ite2 (fun _ => ?_) (fun n => absurd rfl n)
        refine ite2 (fun _ => ?_) (fun n => absurd rfl n)
        rw [if_pos (.inl hrow)] at hb
        exact ⟨_, rfl, fault_in fun d H' _ e => kE 9 i hb d H' e⟩
      | true =>
        refine ite2 (fun n => absurd n (by decide)) (fun _ => ?_)
        have h3 : 3 ≤ l.length := Classical.byContradiction fun z => by
          unfold rowM at hrow
          rw [if_pos (by simp; omega)] at hrow
          cases hrow
        have c4 := c2.trans ((chgS s4 : Chg [] _ H4).mono (by simp))
        have hq4 := (hq.chg c4).sq
        obtain ⟨kvs, ek, el, hv⟩ := hR
        have ek4 : H4 fa = some (.dT kvs) := s4 _ _ (same_lst hT _ _ ek)
        have elen : (nvs l).length = l.length := nvs_len l
        have at_ : ∀ j, j < 3 → (nvs l)[j]? = some (.int ((l.getD j 0 : Nat) : Int)) := fun j hj => nvs_at (by
          rw [List.getD_eq_getElem?_getD, List.getElem?_eq_getElem (by omega)]; rfl)
        refine ⟨_, rfl, q, _, _, _, rfl, rfl, hq4, at_of (j := 0) (by omega) (at_ 0 (by decide)), _, rfl, q, _, _, _, rfl, rfl, hq4, at_of (j := 1) (by omega) (at_ 1 (by decide)), _, rfl, q, _, _, _, rfl, rfl, hq4, at_of (j := 2) (by omega) (at_ 2 (by decide)), sz (show 3 ≤ 100000 by decide), fun b1 hb1 => ?_⟩
        refine ⟨_, rfl, fa, _, rfl, DGet.t (k := kT (keyM l)) (same_lst hb1 _ _ ek4) upd_same, _, rfl, ?_⟩
        have hvk := hv (keyM l)
        cases hk : D.lookup (keyM l) with
        | some st0 =>
          rw [hk] at hvk
          obtain ⟨w0, e0, _⟩ := hvk
          rw [e0]
          refine ite2 (fun _ => ?_) (fun n => absurd rfl n)
          rw [if_pos (.inr (by rw [hk]; rfl))] at hb
          exact ⟨_, rfl, fault_in fun d H' _ e => kE 9 i hb d H' e⟩
        | none =>
          rw [hk] at hvk
          rw [hvk]
          refine ite2 (fun n => absurd n (by decide)) (fun _ => ?_)
          rw [if_neg (by rw [hrow, hk]; simp)] at hb
          have s5 : Same H4 (upd H4 b1 (.tup (v3 (l.getD 0 0, l.getD 1 0, l.getD 2 0)))) := same_lst hb1
          have c5 := c4.trans ((chgS s5 : Chg [] _ _).mono (by simp))
          have hm : l.length % 3 = 0 := Classical.byContradiction fun z => by
            unfold rowM at hrow
            rw [if_pos (by simp; omega)] at hrow
            cases hrow
          refine ⟨_, rfl, q, l, rfl, hq.chg c5, hm, h3, hl l (List.mem_of_getElem? hlB), fun H6 p6 vg s6 hp6 hv6 hP => ?_⟩
          have c6 := c5.trans ((chgS s6 : Chg [] _ H6).mono (by simp))
          have hq6 := (hq.chg c6).sq
          have ek6 : H6 fa = some (.dT kvs) := s6 _ _ (s5 _ _ ek4)
          refine ⟨_, rfl, _, rfl, q, _, _, _, rfl, rfl, hq6, at_of (j := 0) (by omega) (at_ 0 (by decide)), _, rfl, q, _, _, _, rfl, rfl, hq6, at_of (j := 1) (by omega) (at_ 1 (by decide)), _, rfl, q, _, _, _, rfl, rfl, hq6, at_of (j := 2) (by omega) (at_ 2 (by decide)), sz (show 3 ≤ 100000 by decide), fun b2 hb2 => ?_⟩
          refine ⟨fa, _, rfl, DPut.t (k := kT (keyM l)) (same_lst hb2 _ _ ek6) upd_same (szl (by have := Paired.length hp; omega)), ?_⟩
          have s7 : Same H6 (upd H6 b2 (.tup (v3 (l.getD 0 0, l.getD 1 0, l.getD 2 0)))) := same_lst hb2
          have c68 := ((chgS s7 : Chg [] H6 _).mono (T := [fa]) (by simp)).set (u := .dT (putK kvs (kT (keyM l)) (.ref p6))) (by simp) (s7 _ _ ek6) (by intro z; exact z)
          have s26 : Same H2 H6 := fun b o e => s6 _ _ (s5 _ _ (s4 _ _ (same_lst hT _ _ e)))
          have c28 := ((chgS s26 : Chg [] H2 _).mono (T := [fa]) (by simp)).trans c68
          have newer : ∀ b, (upd H4 b1 (.tup (v3 (l.getD 0 0, l.getD 1 0, l.getD 2 0)))) b = none → H b = none := fun b hb => by
            cases eb : H b with
            | none => rfl
            | some o =>
              have := c5.1 b o (by simpa using ne_of_none eb hfa) eb
              rw [hb] at this
              cases this
          have nf : p6 ≠ fa := (ne_of_none (s5 _ _ ek4) hp6).symm
          refine ⟨_, _, D ++ [(keyM l, stepsM l)], rfl, c6.trans c68, ⟨_, upd_same, ?_, rules_put hv hk ⟨p6, vg, rfl, ⟨nf, newer p6 hp6⟩, (upd_ne nf).trans (s7 _ _ hv6), Paired.mapP hP fun v r ⟨q, e, h⟩ => ⟨q, e, c68.tup h⟩⟩ ?_⟩, ?_, hb, ?_⟩
          · have := length_putK kvs (kT (keyM l)) (.ref p6)
            rw [List.length_append, List.length_singleton]
            omega
          · rintro v s ⟨b, vg, e, nb, h1, h2⟩
            exact ⟨b, vg, e, nb, c28.1 b _ (by simpa using nb.1) h1, Paired.mapP h2 fun v r ⟨q, e, h⟩ => ⟨q, e, c28.tup h⟩⟩
          · rw [List.length_append, List.length_singleton]
            omega
          · intro e he p hpe
            rcases List.mem_append.mp he with z | z
            · exact hst e z p hpe
            · have z : e = (keyM l, stepsM l) := by simpa using z
              subst z
              exact List.all_eq_true.mp (row_steps hrow) p hpe
    · rintro σ H1 ⟨x2, x3, D, rfl, c1, hR, hl2, hb, hst⟩
      rw [List.drop_of_length_le (by have := Paired.length hp; omega)] at hb
      exact ⟨_, rfl, k D hb hst H1 fa (fun b o e => c1.1 b o (by simpa using ne_of_none e hfa) e) hfa hR⟩
end
end Ab
/-! ## The walk: a frame with beads -/
namespace Ab
open PySem PySem.Spec PyProof.Rows L2
section
variable {P : Program} {w : World} {K : PySem.W.Frag} {mg : Str → Option Value} {base : Heap} {cFault cRunFault cTooLong cBeadFrame cReader cLines cRun : Addr}
/-- a frame with beads; Ho is the heap before it was made -/
structure Frm where
  a : Addr
  dx : Addr
  rd : Addr
  fo : Addr
  pl : Addr
  sk : Addr
  ru : Addr
  pu : Addr
  rs : List RodM
  ov : Nat
  gs : List (List Nat)
  D : List (P3 × List P3)
  Ho : Hp
def Frm.own (Z : Frm) : List Addr := [Z.a, Z.pl, Z.pu]
def Frm.Out (Z : Frm) (x : Addr) : Prop := Z.Ho x = none
def fB (rd fo pl sk ru pu : Addr) (ov : Nat) (hat acts cost : Int) : List (Str × V) := [("rods", .ref rd), ("forms", .ref fo), ("places", .ref pl), ("moving", .int (ov : Int)), ("strokes", .ref sk), ("rules", .ref ru), ("pushed", .ref pu),
  ("hand_at", .int hat), ("acts", .int acts), ("cost", .int cost)]
def fBn : List Str := ["rods", "forms", "places", "moving", "strokes", "rules", "pushed", "hand_at", "acts", "cost"]
abbrev FS := Na.Beads
def hdZ (Z : Frm) : Na.Hand := ⟨Z.ov, Z.gs.map Na.strokeOf⟩
def brdZ (Z : Frm) : Na.Board FS := Na.beads (mkOf Z.rs) (hdZ Z) (Z.D.map ruleAs)
section
variable (rd fo pl sk ru pu : Addr) (ov : Nat) (hat acts cost : Int)
theorem fB_rods : (fB rd fo pl sk ru pu ov hat acts cost).lookup ("rods" : Str) = some (.ref rd) := lk_eq
theorem fB_forms : (fB rd fo pl sk ru pu ov hat acts cost).lookup ("forms" : Str) = some (.ref fo) := by
  unfold fB
  rw [lk_ne (by decide +kernel), lk_eq]
theorem fB_places : (fB rd fo pl sk ru pu ov hat acts cost).lookup ("places" : Str) = some (.ref pl) := by
  unfold fB
  rw [lk_ne (by decide +kernel), lk_ne (by decide +kernel), lk_eq]
theorem fB_moving : (fB rd fo pl sk ru pu ov hat acts cost).lookup ("moving" : Str) = some (.int (ov : Int)) := by
  unfold fB
  rw [lk_ne (by decide +kernel), lk_ne (by decide +kernel), lk_ne (by decide +kernel), lk_eq]
theorem fB_strokes : (fB rd fo pl sk ru pu ov hat acts cost).lookup ("strokes" : Str) = some (.ref sk) := by
  unfold fB
  rw [lk_ne (by decide +kernel), lk_ne (by decide +kernel), lk_ne (by decide +kernel), lk_ne (by decide +kernel), lk_eq]
theorem fB_rules : (fB rd fo pl sk ru pu ov hat acts cost).lookup ("rules" : Str) = some (.ref ru) := by
  unfold fB
  rw [lk_ne (by decide +kernel), lk_ne (by decide +kernel), lk_ne (by decide +kernel), lk_ne (by decide +kernel), lk_ne (by decide +kernel), lk_eq]
theorem fB_pushed : (fB rd fo pl sk ru pu ov hat acts cost).lookup ("pushed" : Str) = some (.ref pu) := by
  unfold fB
  rw [lk_ne (by decide +kernel), lk_ne (by decide +kernel), lk_ne (by decide +kernel), lk_ne (by decide +kernel), lk_ne (by decide +kernel), lk_ne (by decide +kernel), lk_eq]
theorem fB_hand : (fB rd fo pl sk ru pu ov hat acts cost).lookup ("hand_at" : Str) = some (.int hat) := by
  unfold fB
  rw [lk_ne (by decide +kernel), lk_ne (by decide +kernel), lk_ne (by decide +kernel), lk_ne (by decide +kernel), lk_ne (by decide +kernel), lk_ne (by decide +kernel), lk_ne (by decide +kernel), lk_eq]
theorem fB_acts : (fB rd fo pl sk ru pu ov hat acts cost).lookup ("acts" : Str) = some (.int acts) := by
  unfold fB
  rw [lk_ne (by decide +kernel), lk_ne (by decide +kernel), lk_ne (by decide +kernel), lk_ne (by decide +kernel), lk_ne (by decide +kernel), lk_ne (by decide +kernel), lk_ne (by decide +kernel), lk_ne (by decide +kernel), lk_eq]
theorem fB_cost : (fB rd fo pl sk ru pu ov hat acts cost).lookup ("cost" : Str) = some (.int cost) := by
  unfold fB
  rw [lk_ne (by decide +kernel), lk_ne (by decide +kernel), lk_ne (by decide +kernel), lk_ne (by decide +kernel), lk_ne (by decide +kernel), lk_ne (by decide +kernel), lk_ne (by decide +kernel), lk_ne (by decide +kernel), lk_ne (by decide +kernel), lk_eq]
theorem fB_no {m : Str} (h : (fBn.all fun f => decide (m ≠ f)) = true) : (fB rd fo pl sk ru pu ov hat acts cost).lookup m = none := by
  have k : ∀ f : Str, f ∈ fBn → m ≠ f := fun f hf => of_decide_eq_true (List.all_eq_true.mp h f hf)
  unfold fB
  rw [lk_ne (k "rods" (by decide +kernel)), lk_ne (k "forms" (by decide +kernel)), lk_ne (k "places" (by decide +kernel)), lk_ne (k "moving" (by decide +kernel)), lk_ne (k "strokes" (by decide +kernel)), lk_ne (k "rules" (by decide +kernel)), lk_ne (k "pushed" (by decide +kernel)), lk_ne (k "hand_at" (by decide +kernel)), lk_ne (k "acts" (by decide +kernel)), lk_ne (k "cost" (by decide +kernel))]
  rfl
theorem fB_putH (x : Int) : putF "hand_at" (.int x) (fB rd fo pl sk ru pu ov hat acts cost) = fB rd fo pl sk ru pu ov x acts cost := by
  unfold fB
  rw [pf_ne (by decide +kernel), pf_ne (by decide +kernel), pf_ne (by decide +kernel), pf_ne (by decide +kernel), pf_ne (by decide +kernel), pf_ne (by decide +kernel), pf_ne (by decide +kernel), pf_eq]
theorem fB_putA (x : Int) : putF "acts" (.int x) (fB rd fo pl sk ru pu ov hat acts cost) = fB rd fo pl sk ru pu ov hat x cost := by
  unfold fB
  rw [pf_ne (by decide +kernel), pf_ne (by decide +kernel), pf_ne (by decide +kernel), pf_ne (by decide +kernel), pf_ne (by decide +kernel), pf_ne (by decide +kernel), pf_ne (by decide +kernel), pf_ne (by decide +kernel), pf_eq]
theorem fB_putC (x : Int) : putF "cost" (.int x) (fB rd fo pl sk ru pu ov hat acts cost) = fB rd fo pl sk ru pu ov hat acts x := by
  unfold fB
  rw [pf_ne (by decide +kernel), pf_ne (by decide +kernel), pf_ne (by decide +kernel), pf_ne (by decide +kernel), pf_ne (by decide +kernel), pf_ne (by decide +kernel), pf_ne (by decide +kernel), pf_ne (by decide +kernel), pf_ne (by decide +kernel), pf_eq]
end
/-- what stands still -/
structure FrOk (K : PySem.W.Frag) (Z : Frm) : Prop where
  rods : ∃ vr, Z.Ho Z.rd = some (.lst vr) ∧ Paired (RodAt K Z.Ho) vr Z.rs
  forms : ∃ vf, Z.Ho Z.fo = some (.lst vf) ∧ Paired (fun v r => ∃ a, v = .ref a ∧ FormAt K Z.Ho a r.q (formsM r)) vf Z.rs
  stk : ∃ vg, Z.Ho Z.sk = some (.lst vg) ∧ Paired (StrokeAt K Z.Ho) vg Z.gs
  rul : RulesAt K (fun _ => True) Z.Ho Z.ru Z.D
  few : Z.rs.length ≤ 64
  one : 1 ≤ Z.rs.length
  dek : AllD Z.rs
  whl : ∀ r ∈ Z.rs, WholeM r
  str : ∀ g ∈ Z.gs, Na.strokeGood g = true
  stp : ∀ e ∈ Z.D, ∀ p ∈ e.2, stepM p = true
  ovl : Z.ov ≤ 255
theorem FrOk.low {Z : Frm} (h : FrOk K Z) : ∀ r ∈ Z.rs, 2 ≤ r.q ∧ r.q ≤ 20 := fun r hr => (decks_cases (h.dek r hr)).1
/-- the frame as it stands, the pushed beads l -/
structure BdAt (K : PySem.W.Frag) (C : Addr) (Z : Frm) (H : Hp) (l : List Nat) (hat acts cost : Nat) : Prop where
  st : FrOk K Z
  base : Same Z.Ho H
  new : ∀ x ∈ Z.own, Z.Ho x = none
  obj : H Z.a = some (.ins C Z.dx (fB Z.rd Z.fo Z.pl Z.sk Z.ru Z.pu Z.ov (hat : Int) (acts : Int) (cost : Int)))
  plc : H Z.pl = some (.lst (nvs (pls Z.rs (Z.rs.length + 1))))
  pus : H Z.pu = some (.lst (nvs l))
  npl : Z.pl ≠ Z.pu
  ok : StOk Z.rs l
  hat : hat < Z.rs.length
section
variable {C : Addr} {Z : Frm} {H H' : Hp} {l : List Nat} {hat acts cost : Nat} {S : List Addr}
theorem BdAt.chg (h : BdAt K C Z H l hat acts cost) (c : Chg S H H') (n : ∀ x ∈ Z.own, x ∉ S) (m : ∀ x ∈ S, Z.Out x) : BdAt K C Z H' l hat acts cost :=
  { st := h.st, base := fun b o e => c.1 b o (fun z => by have := m b z; rw [show Z.Ho b = none from this] at e; cases e) (h.base b o e), new := h.new
    obj := c.1 _ _ (n _ (by simp [Frm.own])) h.obj, plc := c.1 _ _ (n _ (by simp [Frm.own])) h.plc, pus := c.1 _ _ (n _ (by simp [Frm.own])) h.pus, npl := h.npl, ok := h.ok, hat := h.hat }
theorem BdAt.same (h : BdAt K C Z H l hat acts cost) (s : Same H H') : BdAt K C Z H' l hat acts cost := h.chg (chgS s : Chg [] H H') (fun _ _ => by simp) (fun x hx => by cases hx)
theorem BdAt.rods (h : BdAt K C Z H l hat acts cost) : ∃ vr, H Z.rd = some (.lst vr) ∧ Paired (RodAt K H) vr Z.rs := by
  obtain ⟨vr, r1, r2⟩ := h.st.rods
  exact ⟨vr, h.base _ _ r1, Paired.mapP r2 fun v r hr => hr.chg (chgS h.base : Chg [] _ _)⟩
theorem BdAt.forms (h : BdAt K C Z H l hat acts cost) : ∃ vf, H Z.fo = some (.lst vf) ∧ Paired (fun v r => ∃ a, v = .ref a ∧ FormAt K H a r.q (formsM r)) vf Z.rs := by
  obtain ⟨vf, r1, r2⟩ := h.st.forms
  exact ⟨vf, h.base _ _ r1, Paired.mapP r2 fun v r ⟨a, e, hr⟩ => ⟨a, e, hr.chg (chgS h.base : Chg [] _ _) (by simp)⟩⟩
theorem BdAt.stk (h : BdAt K C Z H l hat acts cost) : ∃ vg, H Z.sk = some (.lst vg) ∧ Paired (StrokeAt K H) vg Z.gs := by
  obtain ⟨vf, r1, r2⟩ := h.st.stk
  exact ⟨vf, h.base _ _ r1, Paired.mapP r2 fun v r ⟨a, e, hr, h7⟩ => ⟨a, e, (chgS h.base : Chg [] _ _).tup hr, h7⟩⟩
theorem BdAt.ins {m : Str} (h : BdAt K C Z H l hat acts cost) (hm : (fBn.all fun f => decide (m ≠ f)) = true := by decide +kernel) : Ins H Z.a C m := ⟨_, _, h.obj, fB_no _ _ _ _ _ _ _ _ _ _ hm⟩
end
section
variable {Z : Frm} {H : Hp} {l : List Nat} {hat acts cost : Nat}
theorem BdAt.fr (T : Txt K mg cFault cRunFault cTooLong cBeadFrame cReader cLines cRun) (h : BdAt K cBeadFrame Z H l hat acts cost) : Fld K H Z.a "rods" (.ref Z.rd) := ⟨_, _, _, h.obj, T.cl_BeadFrame, T.na_BeadFrame_rods, fB_rods _ _ _ _ _ _ _ _ _ _⟩
theorem BdAt.ffo (T : Txt K mg cFault cRunFault cTooLong cBeadFrame cReader cLines cRun) (h : BdAt K cBeadFrame Z H l hat acts cost) : Fld K H Z.a "forms" (.ref Z.fo) := ⟨_, _, _, h.obj, T.cl_BeadFrame, T.na_BeadFrame_forms, fB_forms _ _ _ _ _ _ _ _ _ _⟩
theorem BdAt.fpl (T : Txt K mg cFault cRunFault cTooLong cBeadFrame cReader cLines cRun) (h : BdAt K cBeadFrame Z H l hat acts cost) : Fld K H Z.a "places" (.ref Z.pl) := ⟨_, _, _, h.obj, T.cl_BeadFrame, T.na_BeadFrame_places, fB_places _ _ _ _ _ _ _ _ _ _⟩
theorem BdAt.fmo (T : Txt K mg cFault cRunFault cTooLong cBeadFrame cReader cLines cRun) (h : BdAt K cBeadFrame Z H l hat acts cost) : Fld K H Z.a "moving" (.int (Z.ov : Int)) := ⟨_, _, _, h.obj, T.cl_BeadFrame, T.na_BeadFrame_moving, fB_moving _ _ _ _ _ _ _ _ _ _⟩
theorem BdAt.fsk (T : Txt K mg cFault cRunFault cTooLong cBeadFrame cReader cLines cRun) (h : BdAt K cBeadFrame Z H l hat acts cost) : Fld K H Z.a "strokes" (.ref Z.sk) := ⟨_, _, _, h.obj, T.cl_BeadFrame, T.na_BeadFrame_strokes, fB_strokes _ _ _ _ _ _ _ _ _ _⟩
theorem BdAt.fru (T : Txt K mg cFault cRunFault cTooLong cBeadFrame cReader cLines cRun) (h : BdAt K cBeadFrame Z H l hat acts cost) : Fld K H Z.a "rules" (.ref Z.ru) := ⟨_, _, _, h.obj, T.cl_BeadFrame, T.na_BeadFrame_rules, fB_rules _ _ _ _ _ _ _ _ _ _⟩
theorem BdAt.fpu (T : Txt K mg cFault cRunFault cTooLong cBeadFrame cReader cLines cRun) (h : BdAt K cBeadFrame Z H l hat acts cost) : Fld K H Z.a "pushed" (.ref Z.pu) := ⟨_, _, _, h.obj, T.cl_BeadFrame, T.na_BeadFrame_pushed, fB_pushed _ _ _ _ _ _ _ _ _ _⟩
theorem BdAt.fha (T : Txt K mg cFault cRunFault cTooLong cBeadFrame cReader cLines cRun) (h : BdAt K cBeadFrame Z H l hat acts cost) : Fld K H Z.a "hand_at" (.int (hat : Int)) := ⟨_, _, _, h.obj, T.cl_BeadFrame, T.na_BeadFrame_hand_at, fB_hand _ _ _ _ _ _ _ _ _ _⟩
theorem BdAt.fac (T : Txt K mg cFault cRunFault cTooLong cBeadFrame cReader cLines cRun) (h : BdAt K cBeadFrame Z H l hat acts cost) : Fld K H Z.a "acts" (.int (acts : Int)) := ⟨_, _, _, h.obj, T.cl_BeadFrame, T.na_BeadFrame_acts, fB_acts _ _ _ _ _ _ _ _ _ _⟩
theorem BdAt.fco (T : Txt K mg cFault cRunFault cTooLong cBeadFrame cReader cLines cRun) (h : BdAt K cBeadFrame Z H l hat acts cost) : Fld K H Z.a "cost" (.int (cost : Int)) := ⟨_, _, _, h.obj, T.cl_BeadFrame, T.na_BeadFrame_cost, fB_cost _ _ _ _ _ _ _ _ _ _⟩
end
def FrAt (K : PySem.W.Frag) (C : Addr) (Z : Frm) (H : Hp) (v : FS) : Prop := ∃ l, BdAt K C Z H l v.at_ v.acts v.cost ∧ v.s = sOf Z.rs l
theorem FrAt.chg {C : Addr} {Z : Frm} {H H' : Hp} {v : FS} {S : List Addr} (h : FrAt K C Z H v) (c : Chg S H H') (n : ∀ x ∈ Z.own, x ∉ S) (m : ∀ x ∈ S, Z.Out x) : FrAt K C Z H' v := by
  obtain ⟨l, h1, h2⟩ := h
  exact ⟨l, h1.chg c n m, h2⟩
theorem FrAt.ins {C : Addr} {Z : Frm} {H : Hp} {v : FS} {m : Str} (h : FrAt K C Z H v) (hm : (fBn.all fun f => decide (m ≠ f)) = true := by decide +kernel) : Ins H Z.a C m := by
  obtain ⟨l, h1, h2⟩ := h
  exact h1.ins hm
theorem FrAt.here {C : Addr} {Z : Frm} {H : Hp} {v : FS} (h : FrAt K C Z H v) : ∀ x ∈ Z.own, ∃ o, H x = some o := by
  obtain ⟨l, h1, h2⟩ := h
  intro x hx
  simp only [Frm.own, List.mem_cons, List.not_mem_nil, or_false] at hx
  rcases hx with z | z | z
  · exact ⟨_, z ▸ h1.obj⟩
  · exact ⟨_, z ▸ h1.plc⟩
  · exact ⟨_, z ▸ h1.pus⟩
theorem showM_lt {r : RodM} {p : P3} {d : Nat} (h : showM r p = some d) : d < r.q := by
  unfold showM at h
  by_cases c : worthM r p < r.q ∧ formsM r (worthM r p) = some p
  · rw [if_pos c] at h
    cases h
    exact c.1
  · rw [if_neg c] at h; cases h
/-- what a rod shows -/
theorem BdAt.look {C : Addr} {Z : Frm} {H : Hp} {l : List Nat} {hat acts cost : Nat} (h : BdAt K C Z H l hat acts cost) {i : Nat} {r : RodM} (hr : Z.rs[i]? = some r) : Na.shownAt (mkOf Z.rs) (sOf Z.rs l) i = showM r (at3 l i) := by
  have := shown_is h.st.dek h.st.whl h.ok i
  rw [hr] at this
  exact this
theorem FrAt.look {C : Addr} {Z : Frm} {H : Hp} {v : FS} (h : FrAt K C Z H v) (i d : Nat) (e : (brdZ Z).look v i = .ok d) : d ≤ 9999 := by
  obtain ⟨l, h1, h2⟩ := h
  have e : (match Na.shownAt (mkOf Z.rs) v.s i with | some d => Except.ok d | none => Except.error 5) = Except.ok d := e
  rw [h2] at e
  cases hr : Z.rs[i]? with
  | none =>
    have := shown_is h1.st.dek h1.st.whl h1.ok i
    rw [hr] at this
    rw [show Na.shownAt (mkOf Z.rs) (sOf Z.rs l) i = none from this] at e
    cases e
  | some r =>
    rw [h1.look hr] at e
    cases hs : showM r (at3 l i) with
    | none => rw [hs] at e; cases e
    | some x =>
      rw [hs] at e
      have e : x = d := Except.ok.inj e
      have := showM_lt hs
      have := h1.st.low r (List.mem_of_getElem? hr)
      omega
def spWant (K : PySem.W.Frag) (C R : Addr) : Sp := fun vs H Q E => ∃ (Z : Frm) (v : FS) (x : Int), vs = [.ref Z.a, .int x] ∧ FrAt K C Z H v ∧ (∀ k, Na.rodIn (brdZ Z).rods x = .error k → FK R E H [] k) ∧
  ∀ i, Na.rodIn (brdZ Z).rods x = .ok i → Q .non H
theorem ok_BeadFrame_want_rod (T : Txt K mg cFault cRunFault cTooLong cBeadFrame cReader cLines cRun) : Mf P w K mg base (L2.CX P w) 3 cBeadFrame "want_rod" ["self", "rod"] (spWant K cBeadFrame cRunFault) := by
  refine mf_mk T.cl_BeadFrame T.d_BeadFrame_want_rod fun f fd F => F.okX sc_BeadFrame_want_rod (fun vs H Q E h => ?_) (fun cdv A outer s H vs Q E hr h => ?_)
  · obtain ⟨Z, v, x, rfl, _⟩ := h
    rfl
  · obtain ⟨Z, v, x, rfl, ⟨l, h, _⟩, kE, k⟩ := h
    refine ⟨_, (pss_one (ps_if (pt_not (pt_chain op_le op_lt pe_int (pv 1) (pe_callB call_len_seq (by rfl) T.n_len PySem.boot_len (pa_cons (pe_get (pv 0)) pa_nil)))) (pss_one (ps_raise rfl (takes_of rfl rfl rfl rfl) (pmk_xf (ok_RunFault___init__ T) (hr.mono (by decide)) (by exact (pa_cons (pe_gi T.c_NO_ROD) pa_nil))))) pss_nil)), ?_⟩
    obtain ⟨vr, r1, r2⟩ := h.rods
    have lr := Paired.length r2
    have en : (brdZ Z).rods = Z.rs.length := mkOf_len Z.rs
    rw [en] at kE k
    unfold Na.rodIn at kE k
    refine ifS_p1 (p := !(decide (0 ≤ x) && decide (x < (Z.rs.length : Int)))) (tNot_p fun Q h' => ?_) (fun c => ?_) (fun c => ?_)
    · refine ⟨_, rfl, _, _, rfl, rfl, _, rfl, ?_⟩
      refine ite2 (fun c => ?_) (fun c => ?_)
      · refine ⟨_, rfl, _, _, rfl, h.fr T, Z.rd, _, rfl, .inl (SqL.of r1), _, _, rfl, rfl, _, rfl, ?_⟩
        rw [lr]
        rw [show decide (0 ≤ x) = true from c, Bool.true_and] at h'
        exact h'
      · refine ⟨_, rfl, ?_⟩
        rw [show decide (0 ≤ x) = false from Bool.eq_false_iff.mpr c, Bool.false_and] at h'
        exact h'
    · have hc : ¬ (0 ≤ x ∧ x < (Z.rs.length : Int)) := by
        simp only [Bool.not_eq_true', Bool.and_eq_false_iff, decide_eq_false_iff_not] at c
        omega
      rw [if_neg hc] at kE
      exact rfault_in fun d H' s e => kE 1 rfl d H' (chgS s) e
    · have hc : 0 ≤ x ∧ x < (Z.rs.length : Int) := by simpa using c
      rw [if_pos hc] at k
      exact k _ rfl
def spBShown (K : PySem.W.Frag) (C R : Addr) : Sp := fun vs H Q E => ∃ (Z : Frm) (l : List Nat) (hat acts cost i : Nat) (r : RodM), vs = [.ref Z.a, .int (i : Int)] ∧ BdAt K C Z H l hat acts cost ∧ Z.rs[i]? = some r ∧
  (showM r (at3 l i) = none → FK R E H [] 5) ∧ ∀ d, showM r (at3 l i) = some d → ∀ H', Same H H' → Q (.int (d : Int)) H'
theorem ok_BeadFrame_shown (T : Txt K mg cFault cRunFault cTooLong cBeadFrame cReader cLines cRun) : Mf P w K mg base (L2.CX P w) 3 cBeadFrame "shown" ["self", "rod"] (spBShown K cBeadFrame cRunFault) := by
  refine mf_mk T.cl_BeadFrame T.d_BeadFrame_shown fun f fd F => F.okX sc_BeadFrame_shown (fun vs H Q E h => ?_) (fun cdv A outer s H vs Q E hr h => ?_)
  · obtain ⟨Z, l, hat, acts, cost, i, r, rfl, _⟩ := h
    rfl
  · obtain ⟨Z, l, hat, acts, cost, i, r, rfl, h, hri, kE, k⟩ := h
    refine ⟨_, (pss_cons (ps_set (i := 2) sc_BeadFrame_shown.nd rfl (Or.inl rfl) (pe_df (ok_digit_shown T) (hr.mono (by decide)) pass0 (by exact (pa_cons (pe_get (pv 0)) (pa_cons (pe_get (pv 0)) (pa_cons (pe_get (pv 0)) (pa_cons (pv 1) pa_nil))))))) (pss_cons (ps_if (pt_cmpR op_isN (pv 2) pe_non (nomark _)) (pss_one (ps_raise rfl (takes_of rfl rfl rfl rfl) (pmk_xf (ok_RunFault___init__ T) (hr.mono (by decide)) (by exact (pa_cons (pe_gi T.c_WRONG) pa_nil))))) pss_nil) (pss_one (ps_ret (pv 2))))), ?_⟩
    obtain ⟨vr, r1, r2⟩ := h.rods
    obtain ⟨vf, f1, f2⟩ := h.forms
    refine ⟨_, rfl, _, _, rfl, h.fr T, _, rfl, _, _, rfl, h.ffo T, _, rfl, _, _, rfl, h.fpu T, _, rfl, Z.rd, Z.fo, Z.pu, vr, vf, Z.rs, l, i, r, rfl, r1, r2, f1, f2, SqL.of h.pus, h.st.dek, h.st.whl, h.ok, hri, h.st.few, fun H1 s1 => ?_⟩
    cases hs : showM r (at3 l i) with
    | none =>
      refine ⟨_, rfl, rfl, _, rfl, ?_⟩
      refine ite2 (fun _ => ?_) (fun n => absurd rfl n)
      exact rfault_in fun d H' s e => kE hs d H' ((chgS s1).trans (chgS s)) e
    | some d =>
      refine ⟨_, rfl, rfl, _, rfl, ?_⟩
      refine ite2 (fun n => absurd n (by simp)) (fun _ => ?_)
      exact ⟨_, rfl, k d hs H1 s1⟩
def spDigit (K : PySem.W.Frag) (C R : Addr) : Sp := fun vs H Q E => ∃ (Z : Frm) (v : FS) (x : Int), vs = [.ref Z.a, .int x] ∧ FrAt K C Z H v ∧ (∀ k, digOf (brdZ Z) v x = .error k → FK R E H [] k) ∧
  ∀ d, digOf (brdZ Z) v x = .ok d → ∀ H', Same H H' → Q (.int d) H'
theorem ok_BeadFrame_digit (T : Txt K mg cFault cRunFault cTooLong cBeadFrame cReader cLines cRun) : Mf P w K mg base (L2.CX P w) 4 cBeadFrame "digit" ["self", "rod"] (spDigit K cBeadFrame cRunFault) := by
  refine mf_mk T.cl_BeadFrame T.d_BeadFrame_digit fun f fd F => F.okX sc_BeadFrame_digit (fun vs H Q E h => ?_) (fun cdv A outer s H vs Q E hr h => ?_)
  · obtain ⟨Z, v, x, rfl, _⟩ := h
    rfl
  · obtain ⟨Z, v, x, rfl, h, kE, k⟩ := h
    refine ⟨_, (pss_cons (ps_expr (pe_mf (ok_BeadFrame_want_rod T) (hr.mono (by decide)) (passE (takes_of rfl rfl rfl rfl)) (pv 0) (by exact (pa_cons (pv 1) pa_nil)))) (pss_one (ps_ret (pe_mf (ok_BeadFrame_shown T) (hr.mono (by decide)) (passE (takes_of rfl rfl rfl rfl)) (pv 0) (by exact (pa_cons (pv 1) pa_nil)))))), ?_⟩
    unfold digOf at kE k
    refine ⟨_, rfl, Z.a, rfl, h.ins, _, rfl, Z, v, x, rfl, h, fun kk e => kE kk (by rw [e]), fun i e => ?_⟩
    rw [e] at kE k
    dsimp only at kE k
    have en : (brdZ Z).rods = Z.rs.length := mkOf_len Z.rs
    obtain ⟨rfl, hi⟩ := rodIn_ok e
    rw [en] at hi
    obtain ⟨l, h1, h2⟩ := h
    obtain ⟨r, hri⟩ : ∃ r, Z.rs[i]? = some r := ⟨_, List.getElem?_eq_getElem hi⟩
    have el : (brdZ Z).look v i = match showM r (at3 l i) with | some d => Except.ok d | none => Except.error 5 := by
      show (match Na.shownAt (mkOf Z.rs) v.s i with | some d => Except.ok d | none => Except.error 5) = _
      rw [h2, h1.look hri]
    rw [el] at kE k
    refine ⟨_, rfl, Z.a, rfl, h1.ins, _, rfl, Z, l, v.at_, v.acts, v.cost, i, r, rfl, h1, hri, fun e5 => kE 5 (by rw [e5]), fun d ed H1 s1 => ?_⟩
    rw [ed] at k
    exact k _ rfl H1 s1
end
end Ab
/-! ## The walk: a frame with beads is made; rules, pushes, acts -/
namespace Ab
open PySem PySem.Spec PyProof.Rows L2
section
variable {P : Program} {w : World} {K : PySem.W.Frag} {mg : Str → Option Value} {base : Heap} {cFault cRunFault cTooLong cBeadFrame cReader cLines cRun : Addr}
def spBF (K : PySem.W.Frag) (C : Addr) : Sp := fun vs H Q _ => ∃ (x dx rd fo hd sk ru t : Addr) (vr : List V) (rs : List RodM) (ov : Nat) (l : List Nat) (h : Nat), vs = [.ref x, .ref rd, .ref fo, .ref hd, .ref ru, .ref t, .int (h : Int)] ∧ H x = some (.ins C dx []) ∧ H rd = some (.lst vr) ∧ Paired (RodAt K H) vr rs ∧ rs.length ≤ 64 ∧ (∀ r ∈ rs, r.q ≤ 20) ∧
  SqT K H hd [.int (ov : Int), .ref sk] ∧ Fz K H t (nvs l) ∧
  ∀ H' pl pu, (∀ b o, b ≠ x → H b = some o → H' b = some o) → H pl = none → H pu = none → pl ≠ pu → H' x = some (.ins C dx (fB rd fo pl sk ru pu ov (h : Int) 0 0)) → H' pl = some (.lst (nvs (pls rs (rs.length + 1)))) → H' pu = some (.lst (nvs l)) → Q .non H'
theorem ok_BeadFrame___init__ (T : Txt K mg cFault cRunFault cTooLong cBeadFrame cReader cLines cRun) : Kf P w K mg base CX0 2 "BeadFrame" cBeadFrame ["self", "rods", "forms", "hand", "rules", "standing", "rod"] (spBF K cBeadFrame) := by
  refine kf_mk T.g_BeadFrame T.d_BeadFrame___init__ fun f fd F => F.ok sc_BeadFrame___init__ (fun vs H Q E h => ?_) (fun cdv A outer s H vs Q E hr h => ?_)
  · obtain ⟨x, dx, rd, fo, hd, sk, ru, t, vr, rs, ov, l, h, rfl, _⟩ := h
    rfl
  · obtain ⟨x, dx, rd, fo, hd, sk, ru, t, vr, rs, ov, l, hh, rfl, hx, ht, hp, hl, hq, hhd, hst, k⟩ := h
    refine ⟨_, (pss_cons (ps_put (pv 0) (pv 1)) (pss_cons (ps_put (pv 0) (pv 2)) (pss_cons (ps_put (pv 0) (pe_df (ok_places_of T) (hr.mono (by decide)) pass0 (by exact (pa_cons (pv 1) pa_nil)))) (pss_cons (ps_asg (pv 3) (pg_tup rfl (pgs_cons (pg_put (pv 0)) (pgs_cons (pg_put (pv 0)) pgs_nil)))) (pss_cons (ps_put (pv 0) (pv 4)) (pss_cons (ps_put (pv 0) (pe_callTy call_list_of (by rfl) T.n_list (by decide +kernel) (pa_cons (pv 5) pa_nil))) (pss_cons (ps_put (pv 0) (pv 6)) (pss_cons (ps_put (pv 0) pe_int) (pss_one (ps_put (pv 0) pe_int)))))))))), ?_⟩
    have tx : rd ≠ x := ne_of ht hx (by intro z; cases z)
    refine ⟨_, rfl, _, rfl, x, cBeadFrame, dx, [], rfl, ⟨hx, T.cl_BeadFrame, T.na_BeadFrame_rods, (by decide : 0 < 1000)⟩, ?_⟩
    refine ⟨_, rfl, _, rfl, x, cBeadFrame, dx, _, rfl, ⟨upd_same, T.cl_BeadFrame, T.na_BeadFrame_forms, (by decide : 1 < 1000)⟩, ?_⟩
    have c1 : Chg [x] H (upd (upd H x (.ins cBeadFrame dx (putF "rods" (.ref rd) []))) x (.ins cBeadFrame dx (putF "forms" (.ref fo) (putF "rods" (.ref rd) [])))) := ((Chg.refl H).set (by simp) hx (by intro z; exact z)).set (by simp) upd_same (by intro z; exact z)
    refine ⟨_, rfl, rd, vr, rs, rfl, c1.1 _ _ (by simpa using tx) ht, Paired.mapP hp fun v r h => h.chg c1, hl, hq, fun H2 pl s2 np hpl => ?_⟩
    have px : pl ≠ x := fun z => by rw [z, upd_same] at np; cases np
    have np0 : H pl = none := c1.none np (by simpa using px)
    have c2 : Chg [x] H H2 := c1.trans (chgS s2)
    have x2 := s2 _ _ upd_same
    refine ⟨_, rfl, x, cBeadFrame, dx, _, rfl, ⟨x2, T.cl_BeadFrame, T.na_BeadFrame_places, (by decide : 2 < 1000)⟩, ?_⟩
    have c3 := c2.set (u := .ins cBeadFrame dx (putF "places" (.ref pl) (putF "forms" (.ref fo) (putF "rods" (.ref rd) [])))) (by simp) x2 (by intro z; exact z)
    refine ⟨_, rfl, hd, _, rfl, c3.tup hhd, rfl, ?_⟩
    refine ⟨_, _, rfl, ⟨_, rfl, x, cBeadFrame, dx, _, rfl, ⟨upd_same, T.cl_BeadFrame, T.na_BeadFrame_moving, (by decide : 3 < 1000)⟩, ?_⟩⟩
    refine ⟨_, _, rfl, ⟨_, rfl, x, cBeadFrame, dx, _, rfl, ⟨upd_same, T.cl_BeadFrame, T.na_BeadFrame_strokes, (by decide : 4 < 1000)⟩, ?_⟩⟩
    refine ⟨rfl, ?_⟩
    refine ⟨_, rfl, _, rfl, x, cBeadFrame, dx, _, rfl, ⟨upd_same, T.cl_BeadFrame, T.na_BeadFrame_rules, (by decide : 5 < 1000)⟩, ?_⟩
    have c6 := ((c3.set (u := .ins cBeadFrame dx (putF "moving" (.int (ov : Int)) (putF "places" (.ref pl) (putF "forms" (.ref fo) (putF "rods" (.ref rd) []))))) (by simp) upd_same (by intro z; exact z)).set (u := .ins cBeadFrame dx (putF "strokes" (.ref sk) (putF "moving" (.int (ov : Int)) (putF "places" (.ref pl) (putF "forms" (.ref fo) (putF "rods" (.ref rd) [])))))) (by simp) upd_same (by intro z; exact z)).set (u := .ins cBeadFrame dx (putF "rules" (.ref ru) (putF "strokes" (.ref sk) (putF "moving" (.int (ov : Int)) (putF "places" (.ref pl) (putF "forms" (.ref fo) (putF "rods" (.ref rd) []))))))) (by simp) upd_same (by intro z; exact z)
    refine ⟨_, rfl, t, _, rfl, .inl (hst.chg c6).sq, fun pu hpu => ?_⟩
    have npx : pu ≠ x := fun z => by rw [z, upd_same] at hpu; cases hpu
    have npu : H pu = none := c6.none hpu (by simpa using npx)
    have npl : pl ≠ pu := fun z => by
      rw [← z, upd_ne px, upd_ne px, upd_ne px, upd_ne px, hpl] at hpu
      cases hpu
    refine ⟨_, rfl, x, cBeadFrame, dx, _, rfl, ⟨(upd_ne (Ne.symm npx)).trans upd_same, T.cl_BeadFrame, T.na_BeadFrame_pushed, (by decide : 6 < 1000)⟩, ?_⟩
    refine ⟨_, rfl, _, rfl, x, cBeadFrame, dx, _, rfl, ⟨upd_same, T.cl_BeadFrame, T.na_BeadFrame_hand_at, (by decide : 7 < 1000)⟩, ?_⟩
    refine ⟨_, rfl, x, cBeadFrame, dx, _, rfl, ⟨upd_same, T.cl_BeadFrame, T.na_BeadFrame_acts, (by decide : 8 < 1000)⟩, ?_⟩
    refine ⟨_, rfl, x, cBeadFrame, dx, _, rfl, ⟨upd_same, T.cl_BeadFrame, T.na_BeadFrame_cost, (by decide : 9 < 1000)⟩, ?_⟩
    refine k _ pl pu (fun b o hb e => ?_) np0 npu npl (upd_same.trans ?_) ?_ ?_
    · rw [upd_ne hb, upd_ne hb, upd_ne hb, upd_ne hb]
      exact (c6.new hpu).1 b o (by simpa using hb) e
    · rfl
    · rw [upd_ne px, upd_ne px, upd_ne px, upd_ne px, upd_ne npl, upd_ne px, upd_ne px, upd_ne px, upd_ne px]
      exact hpl
    · rw [upd_ne npx, upd_ne npx, upd_ne npx, upd_ne npx]
      exact upd_same
/-- a rule's steps, as told: they stood before the frame was made, or are new -/
def spTold (K : PySem.W.Frag) (C R : Addr) : Sp := fun vs H Q E => ∃ (Z : Frm) (l : List Nat) (hat acts cost op d i : Nat) (r : RodM), vs = [.ref Z.a, .int (op : Int), .int (d : Int), .int (i : Int)] ∧ BdAt K C Z H l hat acts cost ∧ Z.rs[i]? = some r ∧
  (showM r (at3 l i) = none → FK R E H [] 5) ∧ ∀ x, showM r (at3 l i) = some x → ∀ H' b vg, Same H H' → ((∃ o, Z.Ho b = some o) ∨ H b = none) → H' b = some (.lst vg) → Paired (StepAt K H') vg ((Z.D.lookup (op, d, x)).getD []) → Q (.ref b) H'
theorem ok_BeadFrame_told_rule (T : Txt K mg cFault cRunFault cTooLong cBeadFrame cReader cLines cRun) : Mf P w K mg base (L2.CX P w) 4 cBeadFrame "told_rule" ["self", "op", "digit", "rod"] (spTold K cBeadFrame cRunFault) := by
  refine mf_mk T.cl_BeadFrame T.d_BeadFrame_told_rule fun f fd F => F.okX sc_BeadFrame_told_rule (fun vs H Q E h => ?_) (fun cdv A outer s H vs Q E hr h => ?_)
  · obtain ⟨Z, l, hat, acts, cost, op, d, i, r, rfl, _⟩ := h
    rfl
  · obtain ⟨Z, l, hat, acts, cost, op, d, i, r, rfl, h, hri, kE, k⟩ := h
    refine ⟨_, (pss_one (ps_ret (pe_dget2 (hu_of hr) (pe_get (pv 0)) (pe_tup (pa_cons (pv 1) (pa_cons (pv 2) (pa_cons (pe_mf (ok_BeadFrame_shown T) (hr.mono (by decide)) (passE (takes_of rfl rfl rfl rfl)) (pv 0) (by exact (pa_cons (pv 3) pa_nil))) pa_nil)))) (pe_lst pa_nil) ⟨rfl, rfl, rfl, rfl⟩))), ?_⟩
    obtain ⟨kvs, e0, _, hv⟩ := h.st.rul
    refine ⟨_, rfl, _, _, rfl, h.fru T, Z.ru, rfl, .inr ⟨kvs, .inl (h.base _ _ e0)⟩, _, rfl, _, rfl, _, rfl, Z.a, rfl, h.ins, _, rfl, Z, l, hat, acts, cost, i, r, rfl, h, hri, kE, fun x ex H1 s1 => ?_⟩
    refine ⟨sz (show 3 ≤ 100000 by decide), fun b1 hb1 => ⟨Nat.zero_le _, fun b2 hb2 => ?_⟩⟩
    have hb2 : upd H1 b1 (.tup (v3 (op, d, x))) b2 = none := hb2
    have s2 : Same H1 (upd H1 b1 (.tup (v3 (op, d, x)))) := same_lst hb1
    have s3 : Same (upd H1 b1 (.tup (v3 (op, d, x)))) (upd (upd H1 b1 (.tup (v3 (op, d, x)))) b2 (.lst [])) := same_lst hb2
    have s13 : Same H (upd (upd H1 b1 (.tup (v3 (op, d, x)))) b2 (.lst [])) := fun b o e => s3 _ _ (s2 _ _ (s1 _ _ e))
    refine ⟨_, DGet.t (k := kT (op, d, x)) (s13 _ _ (h.base _ _ e0)) (s3 _ _ upd_same), ?_⟩
    have hvk := hv (op, d, x)
    cases hk : Z.D.lookup (op, d, x) with
    | none =>
      rw [hk] at hvk
      rw [hvk]
      refine k x ex _ b2 [] s13 (.inr ?_) upd_same (by rw [hk]; exact .nil)
      cases eb : H b2 with
      | none => rfl
      | some o =>
        have := s2 _ _ (s1 _ _ eb)
        rw [hb2] at this
        cases this
    | some st =>
      rw [hk] at hvk
      obtain ⟨v, ev, b, vg, rfl, _, h1, h2⟩ := hvk
      rw [ev]
      have c : Chg [] Z.Ho (upd (upd H1 b1 (.tup (v3 (op, d, x)))) b2 (.lst [])) := chgS fun b o e => s13 _ _ (h.base _ _ e)
      refine k x ex _ b vg s13 (.inl ⟨_, h1⟩) (c.1 _ _ (by simp) h1) ?_
      rw [hk]
      exact Paired.mapP h2 fun v r ⟨q, e, h⟩ => ⟨q, e, c.tup h⟩
def spCarried (K : PySem.W.Frag) (C R : Addr) : Sp := fun vs H Q E => ∃ (Z : Frm) (l : List Nat) (hat acts cost op i : Nat), vs = [.ref Z.a, .int (op : Int), .int (i : Int)] ∧ BdAt K C Z H l hat acts cost ∧ i ≤ Z.rs.length ∧ (i = Z.rs.length → FK R E H [] 2) ∧
  ∀ r, Z.rs[i]? = some r → (showM r (at3 l i) = none → FK R E H [] 5) ∧ ∀ x, showM r (at3 l i) = some x → ∀ H' t b vg, Same H H' → SqT K H' t [.int (i : Int), .ref b, .int 0] → ((∃ o, Z.Ho b = some o) ∨ H b = none) → H' b = some (.lst vg) → Paired (StepAt K H') vg ((Z.D.lookup (op, 1, x)).getD []) → Q (.ref t) H'
theorem ok_BeadFrame_carried (T : Txt K mg cFault cRunFault cTooLong cBeadFrame cReader cLines cRun) : Mf P w K mg base (L2.CX P w) 5 cBeadFrame "carried" ["self", "op", "rod"] (spCarried K cBeadFrame cRunFault) := by
  refine mf_mk T.cl_BeadFrame T.d_BeadFrame_carried fun f fd F => F.okX sc_BeadFrame_carried (fun vs H Q E h => ?_) (fun cdv A outer s H vs Q E hr h => ?_)
  · obtain ⟨Z, l, hat, acts, cost, op, i, rfl, _⟩ := h
    rfl
  · obtain ⟨Z, l, hat, acts, cost, op, i, rfl, h, hi, kO, k⟩ := h
    refine ⟨_, (pss_cons (ps_if (pt_cmpR op_eq (pv 2) (pe_callB call_len_seq (by rfl) T.n_len PySem.boot_len (pa_cons (pe_get (pv 0)) pa_nil)) (nomark _)) (pss_one (ps_raise rfl (takes_of rfl rfl rfl rfl) (pmk_xf (ok_RunFault___init__ T) (hr.mono (by decide)) (by exact (pa_cons (pe_gi T.c_NO_ROOM) pa_nil))))) pss_nil) (pss_one (ps_ret (pe_tup (pa_cons (pv 2) (pa_cons (pe_mf (ok_BeadFrame_told_rule T) (hr.mono (by decide)) (passE (takes_of rfl rfl rfl rfl)) (pv 0) (by exact (pa_cons (pv 1) (pa_cons pe_int (pa_cons (pv 2) pa_nil))))) (pa_cons pe_int pa_nil))))))), ?_⟩
    obtain ⟨vr, r1, r2⟩ := h.rods
    have lr := Paired.length r2
    refine ⟨_, rfl, _, rfl, _, _, rfl, h.fr T, Z.rd, _, rfl, .inl (SqL.of r1), rfl, _, rfl, ?_⟩
    rw [lr]
    by_cases hc : i = Z.rs.length
    · refine ite2 (fun _ => ?_) (fun n => absurd (decide_eq_true (by rw [hc])) n)
      exact rfault_in fun d H' s e => kO hc d H' (chgS s) e
    · refine ite2 (fun n => absurd (V.int.inj (of_decide_eq_true n)) (by omega)) (fun _ => ?_)
      have hil : i < Z.rs.length := by omega
      obtain ⟨r, hri⟩ : ∃ r, Z.rs[i]? = some r := ⟨_, List.getElem?_eq_getElem hil⟩
      obtain ⟨k5, k⟩ := k r hri
      refine ⟨_, rfl, _, rfl, Z.a, rfl, h.ins, _, rfl, _, rfl, Z, l, hat, acts, cost, op, 1, i, r, rfl, h, hri, k5, fun x ex H1 b vg s1 nb hb hp => ?_⟩
      refine ⟨sz (show 3 ≤ 100000 by decide), fun q hq => ?_⟩
      have s2 : Same H1 (upd H1 q (.tup [.int (i : Int), .ref b, .int 0])) := same_lst hq
      exact k x ex _ q b vg (fun b o e => s2 _ _ (s1 b o e)) (SqT.of upd_same) nb (s2 _ _ hb) (Paired.mapP hp fun v r ⟨q, e, h⟩ => ⟨q, e, (chgS s2 : Chg [] _ _).tup h⟩)
end
end Ab
/-! ## The walk: pushes, acts -/
namespace Ab
open PySem PySem.Spec PyProof.Rows L2
section
variable {P : Program} {w : World} {K : PySem.W.Frag} {mg : Str → Option Value} {base : Heap} {cFault cRunFault cTooLong cBeadFrame cReader cLines cRun : Addr}
section
variable {C : Addr} {Z : Frm} {H : Hp} {l : List Nat} {hat acts cost : Nat}
theorem BdAt.push (h : BdAt K C Z H l hat acts cost) {l' : List Nat} (s : StOk Z.rs l') : Chg [Z.pu] H (upd H Z.pu (.lst (nvs l'))) ∧ BdAt K C Z (upd H Z.pu (.lst (nvs l'))) l' hat acts cost := by
  have c : Chg [Z.pu] H (upd H Z.pu (.lst (nvs l'))) := (Chg.refl H).set (by simp) h.pus (by intro z; exact z)
  refine ⟨c, { st := h.st, base := fun b o e => c.1 b o (fun z => ?_) (h.base b o e), new := h.new, obj := (upd_ne (ne_of h.obj h.pus (by intro z; cases z))).trans h.obj, plc := (upd_ne h.npl).trans h.plc, pus := upd_same, npl := h.npl, ok := s, hat := h.hat }⟩
  have z : b = Z.pu := by simpa using z
  rw [z, h.new Z.pu (by simp [Frm.own])] at e
  cases e
theorem BdAt.put (h : BdAt K C Z H l hat acts cost) (hat' acts' cost' : Nat) (hh : hat' < Z.rs.length) : Chg [Z.a] H (upd H Z.a (.ins C Z.dx (fB Z.rd Z.fo Z.pl Z.sk Z.ru Z.pu Z.ov (hat' : Int) (acts' : Int) (cost' : Int)))) ∧ BdAt K C Z (upd H Z.a (.ins C Z.dx (fB Z.rd Z.fo Z.pl Z.sk Z.ru Z.pu Z.ov (hat' : Int) (acts' : Int) (cost' : Int)))) l hat' acts' cost' := by
  have c : Chg [Z.a] H (upd H Z.a (.ins C Z.dx (fB Z.rd Z.fo Z.pl Z.sk Z.ru Z.pu Z.ov (hat' : Int) (acts' : Int) (cost' : Int)))) := (Chg.refl H).set (by simp) h.obj (by intro z; exact z)
  refine ⟨c, { st := h.st, base := fun b o e => c.1 b o (fun z => ?_) (h.base b o e), new := h.new, obj := upd_same, plc := (upd_ne (ne_of h.plc h.obj (by intro z; cases z))).trans h.plc, pus := (upd_ne (ne_of h.pus h.obj (by intro z; cases z))).trans h.pus, npl := h.npl, ok := h.ok, hat := hh }⟩
  have z : b = Z.a := by simpa using z
  rw [z, h.new Z.a (by simp [Frm.own])] at e
  cases e
end
def spPush (K : PySem.W.Frag) (C R : Addr) : Sp := fun vs H Q E => ∃ (Z : Frm) (l : List Nat) (hat acts cost i deck dir most many : Nat) (r : RodM) (mv : Addr), vs = [.ref Z.a, .int (i : Int), .ref mv, .int (many : Int)] ∧ BdAt K C Z H l hat acts cost ∧ Z.rs[i]? = some r ∧ SqT K H mv (v3 (deck, dir, most)) ∧ deck < 3 ∧ 1 ≤ many ∧
  (pushM r l i deck dir most many = none → FK R E H [] 5) ∧ ∀ l', pushM r l i deck dir most many = some l' → ∀ H', Chg [Z.pu] H H' → BdAt K C Z H' l' hat acts cost → Q .non H'
theorem ok_BeadFrame_push (T : Txt K mg cFault cRunFault cTooLong cBeadFrame cReader cLines cRun) : Mf P w K mg base (L2.CX P w) 3 cBeadFrame "push" ["self", "rod", "move", "many"] (spPush K cBeadFrame cRunFault) := by
  refine mf_mk T.cl_BeadFrame T.d_BeadFrame_push fun f fd F => F.okX sc_BeadFrame_push (fun vs H Q E h => ?_) (fun cdv A outer s H vs Q E hr h => ?_)
  · obtain ⟨Z, l, hat, acts, cost, i, deck, dir, most, many, r, mv, rfl, _⟩ := h
    rfl
  · obtain ⟨Z, l, hat, acts, cost, i, deck, dir, most, many, r, mv, rfl, h, hri, hmv, hd, hm, kE, k⟩ := h
    refine ⟨_, (pss_cons (ps_asg (pv 2) (pg_tup rfl (pgs_cons (pg_name (i := 4) sc_BeadFrame_push.nd rfl (Or.inl rfl)) (pgs_cons (pg_name (i := 5) sc_BeadFrame_push.nd rfl (Or.inl rfl)) (pgs_cons (pg_name (i := 6) sc_BeadFrame_push.nd rfl (Or.inl rfl)) pgs_nil))))) (pss_cons (ps_set (i := 7) sc_BeadFrame_push.nd rfl (Or.inl rfl) (pe_op op_add (pe_op op_mul (pe_gi T.c_DECKS) (pv 1)) (pv 4))) (pss_cons (ps_set (i := 8) sc_BeadFrame_push.nd rfl (Or.inl rfl) (pe_ix ix_tup (pe_ix ix_tup (pe_ix ix_list (pe_get (pv 0)) (pv 1) (fun _ _ => rfl)) pe_int (fun _ _ => rfl)) (pv 4) (fun _ _ => rfl))) (pss_cons (ps_set (i := 9) sc_BeadFrame_push.nd rfl (Or.inl rfl) (pe_ifExp (pt_cmpR op_eq (pv 5) (pe_gi T.c_TO_BEAM) (nomark _)) (pe_op op_sub (pv 8) (pe_ix ix_list (pe_get (pv 0)) (pv 7) (fun _ _ => rfl))) (pe_ix ix_list (pe_get (pv 0)) (pv 7) (fun _ _ => rfl)))) (pss_cons (ps_if (PW.pt (pw_or (pt_cmpR op_eq (pv 8) pe_int (nomark _)) (pw_or (pt_cmpR op_gt (pv 3) (pv 6) (nomark _)) (pw_or1 (pt_cmpR op_gt (pv 3) (pv 9) (nomark _)))))) (pss_one (ps_raise rfl (takes_of rfl rfl rfl rfl) (pmk_xf (ok_RunFault___init__ T) (hr.mono (by decide)) (by exact (pa_cons (pe_gi T.c_WRONG) pa_nil))))) pss_nil) (pss_one (ps_augS (pe_get (pv 0)) (pv 7) get_list (pe_ifExp (pt_cmpR op_eq (pv 5) (pe_gi T.c_TO_BEAM) (nomark _)) (pv 3) (pe_un un_neg (pv 3))) ip_add set_list))))))), ?_⟩
    have hil : i < Z.rs.length := (List.getElem?_eq_some_iff.mp hri).1
    have few := h.st.few
    have hlen : 3 * i + deck < l.length := by rw [h.ok.len]; omega
    obtain ⟨vr, r1, r2⟩ := h.rods
    obtain ⟨rv, hrv⟩ : ∃ rv, vr[i]? = some rv := ⟨_, List.getElem?_eq_getElem (by rw [Paired.length r2]; exact hil)⟩
    obtain ⟨r', hr', a, b, c, rfl, ha, hb, hc⟩ := paired_at r2 hrv
    rw [hri] at hr'
    cases hr'
    have hbd : (v3 (r.b0, r.b1, r.b2))[deck]? = some (.int (bead r deck : Int)) := by
      have : deck = 0 ∨ deck = 1 ∨ deck = 2 := by omega
      rcases this with z | z | z <;> subst z <;> rfl
    have hpu : (nvs l)[3 * i + deck]? = some (.int ((l.getD (3 * i + deck) 0 : Nat) : Int)) := nvs_at (by
      rw [List.getD_eq_getElem?_getD, List.getElem?_eq_getElem hlen]; rfl)
    have hle : l.getD (3 * i + deck) 0 ≤ bead r deck := by
      have hp := h.ok.le i r hri
      unfold at3 P3.le at hp
      have : deck = 0 ∨ deck = 1 ∨ deck = 2 := by omega
      rcases this with z | z | z <;> subst z
      · exact hp.1
      · exact hp.2.1
      · exact hp.2.2
    have pok := fun l' e => (push_is h.st.dek h.ok hri (deck := deck) (dir := dir) (most := most) (many := many) hd hm).2 l' e
    unfold pushM at kE k pok
    revert kE k pok hle hpu
    generalize l.getD (3 * i + deck) 0 = x
    generalize bead r deck = y at hbd ⊢
    intro kE k hpu hle pok
    refine ⟨_, rfl, mv, _, rfl, hmv, rfl, _, _, rfl, _, _, rfl, _, _, rfl, rfl, ?_⟩
    refine ⟨_, rfl, _, _, rfl, rfl, .inl ⟨by decide, by decide⟩, _, rfl, _, _, rfl, rfl, ?_⟩
    refine ⟨_, rfl, _, _, rfl, h.fr T, _, rfl, Z.rd, _, _, _, rfl, rfl, SqL.of r1, atI_nat hrv, a, _, 1, _, rfl, rfl, ha, rfl, _, rfl, b, _, _, _, rfl, rfl, hb, at_of (j := deck) (by omega) hbd, ?_⟩
    dsimp only
    have ek : (3 * (i : Int) + (deck : Int)) = ((3 * i + deck : Nat) : Int) := by omega
    refine ⟨_, rfl, rfl, _, rfl, ?_⟩
    by_cases hdir : dir = 1
    · simp only [if_pos hdir] at kE k pok
      refine ite2 (fun _ => ?_) (fun n => absurd (decide_eq_true (by rw [hdir]; rfl)) n)
      refine ⟨_, rfl, _, rfl, _, _, rfl, h.fpu T, _, rfl, Z.pu, _, _, _, rfl, rfl, SqL.of h.pus, at_of (j := 3 * i + deck) ek hpu, _, _, rfl, rfl, ?_⟩
      dsimp only
      refine ifS_p (p := decide (y = 0) || (decide (most < many) || decide (y - x < many))) (tOr_p (fun Q h' => ?_) (tOr_p (fun Q h' => ?_) (fun Q h' => ?_))) (fun c => ?_) (fun c => ?_)
      · refine ⟨_, rfl, rfl, _, rfl, ?_⟩
        rw [← vint_dec y 0] at h'
        exact h'
      · refine ⟨_, rfl, _, rfl, _, _, rfl, rfl, _, rfl, ?_⟩
        rw [← nat_dec_lt most many] at h'
        exact h'
      · refine ⟨_, rfl, _, rfl, _, _, rfl, rfl, _, rfl, ?_⟩
        rw [← nat_dec_lt (y - x) many, Int.ofNat_sub hle] at h'
        exact h'
      · have hc : y = 0 ∨ most < many ∨ y - x < many := by simpa using c
        rw [if_pos hc] at kE
        exact rfault_in fun d H' s e => kE rfl d H' (chgS s) e
      · have hc : ¬ (y = 0 ∨ most < many ∨ y - x < many) := by
          intro z
          rw [show (decide (y = 0) || (decide (most < many) || decide (y - x < many))) = true by simpa using z] at c
          cases c
        rw [if_neg hc] at k pok
        obtain ⟨sok, _⟩ := pok _ rfl
        obtain ⟨cc, hh⟩ := h.push sok
        have k := k _ rfl _ cc hh
        dsimp only [tNext]
        refine ⟨_, rfl, _, _, rfl, h.fpu T, _, rfl, Z.pu, _, _, _, rfl, rfl, SqL.of h.pus, at_of (j := 3 * i + deck) ek hpu, _, rfl, rfl, _, rfl, ?_⟩
        refine ite2 (fun _ => ?_) (fun n => absurd (decide_eq_true (by rw [hdir]; rfl)) n)
        refine ⟨_, rfl, _, _, rfl, rfl, Z.pu, _, _, 3 * i + deck, rfl, rfl, h.pus, ek ▸ ixn_nat (by rw [nvs_len]; exact hlen), ?_⟩
        rw [nvs_set] at k
        exact k
    · simp only [if_neg hdir] at kE k pok
      refine ite2 (fun n => absurd (V.int.inj (of_decide_eq_true n)) (by omega)) (fun _ => ?_)
      refine ⟨_, rfl, _, _, rfl, h.fpu T, _, rfl, Z.pu, _, _, _, rfl, rfl, SqL.of h.pus, at_of (j := 3 * i + deck) ek hpu, ?_⟩
      dsimp only
      refine ifS_p (p := decide (y = 0) || (decide (most < many) || decide (x < many))) (tOr_p (fun Q h' => ?_) (tOr_p (fun Q h' => ?_) (fun Q h' => ?_))) (fun c => ?_) (fun c => ?_)
      · refine ⟨_, rfl, rfl, _, rfl, ?_⟩
        rw [← vint_dec y 0] at h'
        exact h'
      · refine ⟨_, rfl, _, rfl, _, _, rfl, rfl, _, rfl, ?_⟩
        rw [← nat_dec_lt most many] at h'
        exact h'
      · refine ⟨_, rfl, _, rfl, _, _, rfl, rfl, _, rfl, ?_⟩
        rw [← nat_dec_lt (x) many] at h'
        exact h'
      · have hc : y = 0 ∨ most < many ∨ x < many := by simpa using c
        rw [if_pos hc] at kE
        exact rfault_in fun d H' s e => kE rfl d H' (chgS s) e
      · have hc : ¬ (y = 0 ∨ most < many ∨ x < many) := by
          intro z
          rw [show (decide (y = 0) || (decide (most < many) || decide (x < many))) = true by simpa using z] at c
          cases c
        rw [if_neg hc] at k pok
        obtain ⟨sok, _⟩ := pok _ rfl
        obtain ⟨cc, hh⟩ := h.push sok
        have k := k _ rfl _ cc hh
        dsimp only [tNext]
        refine ⟨_, rfl, _, _, rfl, h.fpu T, _, rfl, Z.pu, _, _, _, rfl, rfl, SqL.of h.pus, at_of (j := 3 * i + deck) ek hpu, _, rfl, rfl, _, rfl, ?_⟩
        refine ite2 (fun n => absurd (V.int.inj (of_decide_eq_true n)) (by omega)) (fun _ => ?_)
        refine ⟨_, rfl, _, rfl, _, _, rfl, rfl, Z.pu, _, _, 3 * i + deck, rfl, rfl, h.pus, ek ▸ ixn_nat (by rw [nvs_len]; exact hlen), ?_⟩
        rw [nvs_set, Int.ofNat_sub (show many ≤ x by omega)] at k
        exact k
end
end Ab
/-! ## The walk: acts (printed by mkB8.py) -/
namespace Ab
open PySem PySem.Spec PyProof.Rows L2
section
variable {P : Program} {w : World} {K : PySem.W.Frag} {mg : Str → Option Value} {base : Heap} {cFault cRunFault cTooLong cBeadFrame cReader cLines cRun : Addr}
theorem cost_is {Z : Frm} {g : List Nat} {num : Nat} (hg : Z.gs[num]? = some g) {i hat many second : Nat} : ((Na.costOf (hdZ Z) hat ⟨i, num, many, second⟩ : Nat) : Int) = (g.getD 6 0 : Nat) + (Z.ov : Int) * (if (i : Int) - (hat : Int) < 0 then -((i : Int) - (hat : Int)) else (i : Int) - (hat : Int)) := by
  unfold Na.costOf hdZ Na.apartBy
  dsimp only
  rw [List.getElem?_map, hg]
  show (((Na.strokeOf g).cost + Z.ov * ((i - hat) + (hat - i)) : Nat) : Int) = _
  rw [strokeOf_is, Int.natCast_add, Int.natCast_mul]
  congr 2
  split <;> omega
def spAct (K : PySem.W.Frag) (C R : Addr) : Sp := fun vs H Q E => ∃ (Z : Frm) (l : List Nat) (hat acts cost i num many second : Nat) (r : RodM) (q : Addr), vs = [.ref Z.a, .int (i : Int), .ref q] ∧ BdAt K C Z H l hat acts cost ∧ Z.rs[i]? = some r ∧ SqT K H q (v3 (num, many, second)) ∧ 1 ≤ many ∧
  (actM r Z.gs l i num many second = none → FK R E H [Z.a, Z.pu] 5) ∧ ∀ l', actM r Z.gs l i num many second = some l' → ∀ H', Chg [Z.a, Z.pu] H H' → BdAt K C Z H' l' i (acts + 1) (cost + Na.costOf (hdZ Z) hat ⟨i, num, many, second⟩) → Q .non H'
theorem ok_BeadFrame_act (T : Txt K mg cFault cRunFault cTooLong cBeadFrame cReader cLines cRun) : Mf P w K mg base (L2.CX P w) 4 cBeadFrame "act" ["self", "rod", "step"] (spAct K cBeadFrame cRunFault) := by
  refine mf_mk T.cl_BeadFrame T.d_BeadFrame_act fun f fd F => F.okX sc_BeadFrame_act (fun vs H Q E h => ?_) (fun cdv A outer s H vs Q E hr h => ?_)
  · obtain ⟨Z, l, hat, acts, cost, i, num, many, second, r, q, rfl, _⟩ := h
    rfl
  · obtain ⟨Z, l, hat, acts, cost, i, num, many, second, r, q, rfl, h, hri, hq, hm, kE, k⟩ := h
    refine ⟨_, (pss_cons (ps_asg (pv 2) (pg_tup rfl (pgs_cons (pg_name (i := 3) sc_BeadFrame_act.nd rfl (Or.inl rfl)) (pgs_cons (pg_name (i := 4) sc_BeadFrame_act.nd rfl (Or.inl rfl)) (pgs_cons (pg_name (i := 5) sc_BeadFrame_act.nd rfl (Or.inl rfl)) pgs_nil))))) (pss_cons (ps_if (pt_cmpR op_ge (pv 3) (pe_callB call_len_seq (by rfl) T.n_len PySem.boot_len (pa_cons (pe_get (pv 0)) pa_nil)) (nomark _)) (pss_one (ps_raise rfl (takes_of rfl rfl rfl rfl) (pmk_xf (ok_RunFault___init__ T) (hr.mono (by decide)) (by exact (pa_cons (pe_gi T.c_WRONG) pa_nil))))) pss_nil) (pss_cons (ps_set (i := 6) sc_BeadFrame_act.nd rfl (Or.inl rfl) (pe_ix ix_list (pe_get (pv 0)) (pv 3) (fun _ _ => rfl))) (pss_cons (ps_if (pt_cmpR op_ne (pe_df (ok_has_second T) (hr.mono (by decide)) pass0 (by exact (pa_cons (pv 6) pa_nil))) (pe_cmpR op_gt (pv 5) pe_int (nomark _)) (nomark _)) (pss_one (ps_raise rfl (takes_of rfl rfl rfl rfl) (pmk_xf (ok_RunFault___init__ T) (hr.mono (by decide)) (by exact (pa_cons (pe_gi T.c_WRONG) pa_nil))))) pss_nil) (pss_cons (ps_expr (pe_mf (ok_BeadFrame_push T) (hr.mono (by decide)) (passE (takes_of rfl rfl rfl rfl)) (pv 0) (by exact (pa_cons (pv 1) (pa_cons (pe_slice sl_tup (pv 6) po_none (po_some pe_int)) (pa_cons (pv 4) pa_nil)))))) (pss_cons (ps_if (pt_cmpR op_gt (pv 5) pe_int (nomark _)) (pss_one (ps_expr (pe_mf (ok_BeadFrame_push T) (hr.mono (by decide)) (passE (takes_of rfl rfl rfl rfl)) (pv 0) (by exact (pa_cons (pv 1) (pa_cons (pe_slice sl_tup (pv 6) (po_some pe_int) (po_some pe_int)) (pa_cons (pv 5) pa_nil))))))) pss_nil) (pss_cons (ps_augF (pv 0) pe_int) (pss_cons (ps_augF (pv 0) (pe_op op_add (pe_ix ix_tup (pv 6) pe_int (fun _ _ => rfl)) (pe_op op_mul (pe_get (pv 0)) (pe_callB call_abs (by rfl) T.n_abs (by decide +kernel) (pa_cons (pe_op op_sub (pv 1) (pe_get (pv 0))) pa_nil))))) (pss_one (ps_put (pv 0) (pv 1))))))))))), ?_⟩
    have hil : i < Z.rs.length := (List.getElem?_eq_some_iff.mp hri).1
    obtain ⟨vg, g1, g2⟩ := h.stk
    have lg := Paired.length g2
    unfold actM at kE k
    refine ⟨_, rfl, q, _, rfl, hq, rfl, _, _, rfl, _, _, rfl, _, _, rfl, rfl, ?_⟩
    refine ⟨_, rfl, _, rfl, _, _, rfl, h.fsk T, Z.sk, _, rfl, .inl (SqL.of g1), _, _, rfl, rfl, _, rfl, ?_⟩
    rw [lg]
    cases hg : Z.gs[num]? with
    | none =>
      rw [hg] at kE
      have hge : Z.gs.length ≤ num := List.getElem?_eq_none_iff.mp hg
      refine ite2 (fun _ => ?_) (fun n => absurd (decide_eq_true (by omega)) n)
      exact rfault_in fun d H' s e => kE rfl d H' (chgS s) e
    | some g =>
      rw [hg] at kE k
      dsimp only at kE k
      have hlt : num < Z.gs.length := (List.getElem?_eq_some_iff.mp hg).1
      refine ite2 (fun n => absurd (of_decide_eq_true n) (by omega)) (fun _ => ?_)
      obtain ⟨gv, hgv⟩ : ∃ gv, vg[num]? = some gv := ⟨_, List.getElem?_eq_getElem (by rw [lg]; exact hlt)⟩
      obtain ⟨g', hg', sq, rfl, hsq, h7⟩ := paired_at g2 hgv
      rw [hg] at hg'
      cases hg'
      have gm := h.st.str g (List.mem_of_getElem? hg)
      rw [stroke_is] at gm
      have d0 : g.getD 0 0 < 3 := deck_lt (stroke_first gm).1
      have d3 : has2 g = true → g.getD 3 0 < 3 := fun z => deck_lt ((stroke_first gm).2.2 z)
      obtain ⟨a0, a1, a2, a3, a4, a5, a6, rfl⟩ := seven h7
      refine ⟨_, rfl, _, _, rfl, h.fsk T, _, rfl, Z.sk, _, _, _, rfl, rfl, SqL.of g1, atI_nat hgv, ?_⟩
      refine ⟨_, rfl, _, _, rfl, ⟨sq, rfl, hsq, rfl⟩, fun H1 s1 => ?_⟩
      refine ⟨_, rfl, _, _, rfl, rfl, rfl, _, rfl, ?_⟩
      have e0 : decide ((0 : Int) < (second : Int)) = decide (0 < second) := nat_dec_lt 0 second
      have e1 : (!decide (V.bl (has2 [a0, a1, a2, a3, a4, a5, a6]) = V.bl (decide ((0 : Int) < (second : Int))))) = (has2 [a0, a1, a2, a3, a4, a5, a6] != decide (0 < second)) := by rw [e0, bl_ne]
      have h1 := h.same s1
      have c1 : Chg [Z.a, Z.pu] H H1 := chgS s1
      by_cases hne : has2 [a0, a1, a2, a3, a4, a5, a6] ≠ decide (0 < second)
      · rw [if_pos hne] at kE
        refine ite2 (fun _ => ?_) (fun n => absurd (e1.trans (bne_iff_ne.mpr hne)) n)
        exact rfault_in fun d H' s e => kE rfl d H' (c1.trans (chgS s)) e
      · rw [if_neg hne] at kE k
        refine ite2 (fun n => absurd (bne_iff_ne.mp (e1.symm.trans n)) hne) (fun _ => ?_)
        have hne : has2 [a0, a1, a2, a3, a4, a5, a6] = decide (0 < second) := Classical.byContradiction hne
        refine ⟨_, rfl, Z.a, rfl, h1.ins, _, rfl, _, rfl, _, rfl, sq, _, rfl, c1.tup hsq, fun z => absurd (show (3 : Nat) = 7 from z.2) (by decide), fun p hp => ?_⟩
        have s2 : Same H1 (upd H1 p (.tup (v3 (a0, a1, a2)))) := same_lst hp
        have h2 := h1.same s2
        have c2 : Chg [Z.a, Z.pu] H (upd H1 p (.tup (v3 (a0, a1, a2)))) := c1.trans (chgS s2)
        refine ⟨_, rfl, Z, l, hat, acts, cost, i, a0, a1, a2, many, r, p, rfl, h2, hri, SqT.of upd_same, d0, hm, fun e1 => ?_, fun l1 e1 H3 c3 h3 => ?_⟩
        · have e1 : pushM r l i (List.getD [a0, a1, a2, a3, a4, a5, a6] 0 0) (List.getD [a0, a1, a2, a3, a4, a5, a6] 1 0) (List.getD [a0, a1, a2, a3, a4, a5, a6] 2 0) many = none := e1
          rw [e1] at kE
          exact (kE rfl).sub c2 (by simp)
        have e1 : pushM r l i (List.getD [a0, a1, a2, a3, a4, a5, a6] 0 0) (List.getD [a0, a1, a2, a3, a4, a5, a6] 1 0) (List.getD [a0, a1, a2, a3, a4, a5, a6] 2 0) many = some l1 := e1
        rw [e1] at kE k
        dsimp only at kE k
        have c13 : Chg [Z.a, Z.pu] H H3 := c2.trans (c3.mono (by simp))
        refine ⟨_, rfl, _, _, rfl, rfl, _, rfl, ?_⟩
        by_cases hs : 0 < second
        · rw [if_pos hs] at kE k
          refine ite2 (fun _ => ?_) (fun n => absurd (show decide ((0 : Int) < (second : Int)) = true from decide_eq_true (by omega)) n)
          have h22 : has2 [a0, a1, a2, a3, a4, a5, a6] = true := hne.trans (decide_eq_true hs)
          refine ⟨_, rfl, Z.a, rfl, h3.ins, _, rfl, _, rfl, _, rfl, _, rfl, sq, _, rfl, c13.tup hsq, fun z => absurd (show (3 : Nat) = 0 from z.1) (by decide), fun p3 hp3 => ?_⟩
          have s4 : Same H3 (upd H3 p3 (.tup (v3 (a3, a4, a5)))) := same_lst hp3
          have h4 := h3.same s4
          have c4 : Chg [Z.a, Z.pu] H (upd H3 p3 (.tup (v3 (a3, a4, a5)))) := c13.trans (chgS s4)
          refine ⟨_, rfl, Z, l1, hat, acts, cost, i, a3, a4, a5, second, r, p3, rfl, h4, hri, SqT.of upd_same, d3 h22, hs, fun e2 => ?_, fun l2 e2 H5 c5 h5 => ?_⟩
          · exact (kE e2).sub c4 (by simp)
          have c15 : Chg [Z.a, Z.pu] H H5 := c4.trans (c5.mono (by simp))
          obtain ⟨ca, hA⟩ := h5.put hat (acts + 1) cost h.hat
          rw [show ((acts + 1 : Nat) : Int) = (acts : Int) + 1 by omega] at ca hA
          obtain ⟨cb, hB⟩ := hA.put hat (acts + 1) (cost + Na.costOf (hdZ Z) hat ⟨i, num, many, second⟩) h.hat
          obtain ⟨cd, hD⟩ := hB.put i (acts + 1) (cost + Na.costOf (hdZ Z) hat ⟨i, num, many, second⟩) hil
          have k := k _ e2 _ (c15.trans ((ca.mono (by simp)).trans ((cb.mono (by simp)).trans (cd.mono (by simp))))) hD
          rw [show ((acts + 1 : Nat) : Int) = (acts : Int) + 1 by omega, show ((cost + Na.costOf (hdZ Z) hat ⟨i, num, many, second⟩ : Nat) : Int) = (cost : Int) + (Na.costOf (hdZ Z) hat ⟨i, num, many, second⟩ : Nat) by omega, cost_is hg] at k
          rw [show ((acts + 1 : Nat) : Int) = (acts : Int) + 1 by omega, show ((cost + Na.costOf (hdZ Z) hat ⟨i, num, many, second⟩ : Nat) : Int) = (cost : Int) + (Na.costOf (hdZ Z) hat ⟨i, num, many, second⟩ : Nat) by omega, cost_is hg] at hB
          refine ⟨_, rfl, Z.a, _, rfl, h5.fac T, _, cBeadFrame, Z.dx, _, rfl, ⟨h5.obj, T.cl_BeadFrame, T.na_BeadFrame_acts, (by decide : 10 < 1000)⟩, ?_⟩
          rw [fB_putA]
          refine ⟨_, rfl, Z.a, _, rfl, hA.fco T, _, rfl, sq, _, _, _, rfl, rfl, (c15.trans (ca.mono (by simp))).tup hsq, rfl, _, rfl, _, _, rfl, hA.fmo T, _, rfl, _, rfl, _, _, rfl, hA.fha T, _, _, rfl, rfl, _, rfl, _, _, rfl, rfl, .inl ⟨by have := h.st.ovl; omega, by have := h.st.ovl; omega⟩, _, _, rfl, rfl, _, cBeadFrame, Z.dx, _, rfl, ⟨hA.obj, T.cl_BeadFrame, T.na_BeadFrame_cost, (by decide : 10 < 1000)⟩, ?_⟩
          rw [fB_putC]
          refine ⟨_, rfl, _, rfl, Z.a, cBeadFrame, Z.dx, _, rfl, ⟨hB.obj, T.cl_BeadFrame, T.na_BeadFrame_hand_at, (by decide : 10 < 1000)⟩, ?_⟩
          rw [fB_putH, show ((acts + 1 : Nat) : Int) = (acts : Int) + 1 by omega, show ((cost + Na.costOf (hdZ Z) hat ⟨i, num, many, second⟩ : Nat) : Int) = (cost : Int) + (Na.costOf (hdZ Z) hat ⟨i, num, many, second⟩ : Nat) by omega, cost_is hg]
          exact k
        · rw [if_neg hs] at kE k
          refine ite2 (fun n => absurd (show (0 : Int) < (second : Int) from of_decide_eq_true n) (by omega)) (fun _ => ?_)
          obtain ⟨ca, hA⟩ := h3.put hat (acts + 1) cost h.hat
          rw [show ((acts + 1 : Nat) : Int) = (acts : Int) + 1 by omega] at ca hA
          obtain ⟨cb, hB⟩ := hA.put hat (acts + 1) (cost + Na.costOf (hdZ Z) hat ⟨i, num, many, second⟩) h.hat
          obtain ⟨cd, hD⟩ := hB.put i (acts + 1) (cost + Na.costOf (hdZ Z) hat ⟨i, num, many, second⟩) hil
          have k := k _ rfl _ (c13.trans ((ca.mono (by simp)).trans ((cb.mono (by simp)).trans (cd.mono (by simp))))) hD
          rw [show ((acts + 1 : Nat) : Int) = (acts : Int) + 1 by omega, show ((cost + Na.costOf (hdZ Z) hat ⟨i, num, many, second⟩ : Nat) : Int) = (cost : Int) + (Na.costOf (hdZ Z) hat ⟨i, num, many, second⟩ : Nat) by omega, cost_is hg] at k
          rw [show ((acts + 1 : Nat) : Int) = (acts : Int) + 1 by omega, show ((cost + Na.costOf (hdZ Z) hat ⟨i, num, many, second⟩ : Nat) : Int) = (cost : Int) + (Na.costOf (hdZ Z) hat ⟨i, num, many, second⟩ : Nat) by omega, cost_is hg] at hB
          refine ⟨_, rfl, Z.a, _, rfl, h3.fac T, _, cBeadFrame, Z.dx, _, rfl, ⟨h3.obj, T.cl_BeadFrame, T.na_BeadFrame_acts, (by decide : 10 < 1000)⟩, ?_⟩
          rw [fB_putA]
          refine ⟨_, rfl, Z.a, _, rfl, hA.fco T, _, rfl, sq, _, _, _, rfl, rfl, (c13.trans (ca.mono (by simp))).tup hsq, rfl, _, rfl, _, _, rfl, hA.fmo T, _, rfl, _, rfl, _, _, rfl, hA.fha T, _, _, rfl, rfl, _, rfl, _, _, rfl, rfl, .inl ⟨by have := h.st.ovl; omega, by have := h.st.ovl; omega⟩, _, _, rfl, rfl, _, cBeadFrame, Z.dx, _, rfl, ⟨hA.obj, T.cl_BeadFrame, T.na_BeadFrame_cost, (by decide : 10 < 1000)⟩, ?_⟩
          rw [fB_putC]
          refine ⟨_, rfl, _, rfl, Z.a, cBeadFrame, Z.dx, _, rfl, ⟨hB.obj, T.cl_BeadFrame, T.na_BeadFrame_hand_at, (by decide : 10 < 1000)⟩, ?_⟩
          rw [fB_putH, show ((acts + 1 : Nat) : Int) = (acts : Int) + 1 by omega, show ((cost + Na.costOf (hdZ Z) hat ⟨i, num, many, second⟩ : Nat) : Int) = (cost : Int) + (Na.costOf (hdZ Z) hat ⟨i, num, many, second⟩ : Nat) by omega, cost_is hg]
          exact k
end
end Ab
/-! ## The walk: a digit's sum -/
namespace Ab
open PySem PySem.Spec PyProof.Rows L2
section
variable {P : Program} {w : World} {K : PySem.W.Frag} {mg : Str → Option Value} {base : Heap} {cFault cRunFault cTooLong cBeadFrame cReader cLines cRun : Addr}
/-- where the hand is behind acts, the last one first -/
def hatOf (w : Na.Beads) (ac : List Na.Act) : Nat := (ac.reverse.getLast?.map fun x : Na.Act => x.rod).getD w.at_
def TrkAt (K : PySem.W.Frag) (C : Addr) (Z : Frm) (H : Hp) (w : Na.Beads) (l : List Nat) (ac : List Na.Act) : Prop := BdAt K C Z H l (hatOf w ac) (w.acts + ac.reverse.length) (w.cost + Na.costs (hdZ Z) w.at_ ac.reverse)
abbrev CZ (Z : Frm) (op : Nat) (u : Na.Under) (l : List Na.Todo) : Except Na.Fail Na.Under := CN (mkOf Z.rs) (hdZ Z) (Z.D.map ruleAs) op u l
def kFail : Na.Fail → Nat
  | .over => 2
  | _ => 5
theorem Chg.less {S : List Addr} {g : Addr} {H H' : Hp} (c : Chg (g :: S) H H') (h : H g = Option.none) : Chg S H H' := ⟨fun b o n e => c.1 b o (by
  intro m
  rcases List.mem_cons.mp m with z | m
  · rw [z, h] at e; cases e
  · exact n m) e, c.2⟩
theorem hat_cons (w : Na.Beads) (A : Na.Act) (ac : List Na.Act) : hatOf w (A :: ac) = A.rod := by
  unfold hatOf
  rw [List.reverse_cons, List.getLast?_concat]; rfl
theorem trk_cons {C : Addr} {Z : Frm} {H : Hp} {w : Na.Beads} {l : List Nat} {A : Na.Act} {ac : List Na.Act} (h : BdAt K C Z H l A.rod (w.acts + ac.reverse.length + 1) (w.cost + Na.costs (hdZ Z) w.at_ ac.reverse + Na.costOf (hdZ Z) (hatOf w ac) A)) : TrkAt K C Z H w l (A :: ac) := by
  unfold TrkAt
  rw [hat_cons, List.reverse_cons, costs_snoc, List.length_append, List.length_singleton, ← Nat.add_assoc, ← Nat.add_assoc]
  exact h
/-- what is waiting: a rod, a rule's steps, how many of them are done -/
abbrev GoI := Nat × List P3 × Nat
def GoAt (K : PySem.W.Frag) (N : Addr → Prop) (H : Hp) (v : V) (it : GoI) : Prop := ∃ t b vg, v = .ref t ∧ SqT K H t [.int (it.1 : Int), .ref b, .int (it.2.2 : Int)] ∧ N b ∧ H b = some (.lst vg) ∧ Paired (StepAt K H) vg it.2.1
theorem GoAt.chg {N : Addr → Prop} {S : List Addr} {H H' : Hp} {v : V} {it : GoI} (h : GoAt K N H v it) (c : Chg S H H') (n : ∀ b, N b → b ∉ S) : GoAt K N H' v it := by
  obtain ⟨t, b, vg, e, ht, nb, hb, hp⟩ := h
  exact ⟨t, b, vg, e, c.tup ht, nb, c.1 _ _ (n b nb) hb, Paired.mapP hp fun v r ⟨q, e, h⟩ => ⟨q, e, c.tup h⟩⟩
def tdo (its : List GoI) : List Na.Todo := its.map fun x => .moves x.1 ((x.2.1.drop x.2.2).map mvOf)
theorem cz_digit {C : Addr} {Z : Frm} {H : Hp} {l : List Nat} {hat acts cost : Nat} (h : BdAt K C Z H l hat acts cost) {i : Nat} {r : RodM} (hr : Z.rs[i]? = some r) (op d : Nat) (ac : List Na.Act) (st : Nat) (R : List Na.Todo) :
    CZ Z op ⟨sOf Z.rs l, ac, st⟩ (.digit i d :: R) = match showM r (at3 l i) with
      | none => .error .wrong
      | some x => CZ Z op ⟨sOf Z.rs l, ac, st⟩ (.moves i (((Z.D.lookup (op, d, x)).getD []).map mvOf) :: R) := by
  have hi : i < Z.rs.length := (List.getElem?_eq_some_iff.mp hr).1
  unfold CZ
  rw [CN_digit, if_neg (by rw [mkOf_len]; omega)]
  show (match Na.shownAt (mkOf Z.rs) (sOf Z.rs l) i with | none => _ | some x => _) = _
  rw [h.look hr]
  cases showM r (at3 l i) with
  | none => rfl
  | some x =>
    dsimp only
    rw [show Na.ruleOf (Z.D.map ruleAs) op d x = ((Z.D.lookup (op, d, x)).getD []).map mvOf from rule_of Z.D (op, d, x)]
theorem step_carry {p : P3} (h : stepM p = true) : mvOf p = if p = (0, 0, 0) then .carry else .act p.1 p.2.1 p.2.2 := by
  unfold mvOf
  unfold stepM at h
  by_cases hp : p = (0, 0, 0)
  · rw [if_pos hp, if_pos (by rw [hp])]
  · rw [if_neg hp] at h ⊢
    rw [if_neg]
    intro z
    rw [z] at h
    simp at h
theorem step_many {p : P3} (h : stepM p = true) (hp : p ≠ (0, 0, 0)) : 1 ≤ p.2.1 := by
  unfold stepM at h
  rw [if_neg hp] at h
  simp at h
  omega
theorem told_step {Z : Frm} (h : FrOk K Z) (k : P3) : ∀ p ∈ (Z.D.lookup k).getD [], stepM p = true := by
  intro p hp
  cases hk : Z.D.lookup k with
  | none => rw [hk] at hp; cases hp
  | some st =>
    rw [hk] at hp
    have key : ∀ (D : List (P3 × List P3)), D.lookup k = some st → (k, st) ∈ D := by
      intro D
      induction D with
      | nil => intro e; cases e
      | cons e D ih =>
        intro hl
        rw [List.lookup_cons] at hl
        cases hb : k == e.1 with
        | true =>
          rw [hb] at hl
          have := Option.some.inj hl
          have e1 : k = e.1 := beq_iff_eq.mp hb
          rw [show (k, st) = e from by rw [e1, ← this]]
          exact List.mem_cons_self ..
        | false =>
          rw [hb] at hl
          exact List.mem_cons_of_mem _ (ih hl)
    exact h.stp _ (key _ hk) p hp
def spSum (K : PySem.W.Frag) (C R : Addr) : Sp := fun vs H Q E => ∃ (Z : Frm) (w : Na.Beads) (l : List Nat) (ac : List Na.Act) (op d i st : Nat) (R' : List Na.Todo), vs = [.ref Z.a, .int (op : Int), .int (d : Int), .int (i : Int), .int (st : Int)] ∧ TrkAt K C Z H w l ac ∧ i < Z.rs.length ∧ st ≤ 65536 ∧
  (∀ e, CZ Z op ⟨sOf Z.rs l, ac, st⟩ (.digit i d :: R') = .error e → FK R E H Z.own (kFail e)) ∧
  ∀ l' ac' st', st' ≤ 65536 → CZ Z op ⟨sOf Z.rs l, ac, st⟩ (.digit i d :: R') = CZ Z op ⟨sOf Z.rs l', ac', st'⟩ R' → ∀ H', Chg Z.own H H' → TrkAt K C Z H' w l' ac' → Q (.int (st' : Int)) H'
theorem ok_BeadFrame_sum_digit (T : Txt K mg cFault cRunFault cTooLong cBeadFrame cReader cLines cRun) : Mf P w K mg base (L2.CX P w) 6 cBeadFrame "sum_digit" ["self", "op", "digit", "rod", "steps"] (spSum K cBeadFrame cRunFault) := by
  refine mf_mk T.cl_BeadFrame T.d_BeadFrame_sum_digit fun f fd F => F.okX sc_BeadFrame_sum_digit (fun vs H Q E h => ?_) (fun cdv A outer s H vs Q E hr h => ?_)
  · obtain ⟨Z, w, l, ac, op, d, i, st, R', rfl, _⟩ := h
    rfl
  · obtain ⟨Z, w, l, ac, op, d, i, st, R', rfl, h, hi, hst, kE, k⟩ := h
    refine ⟨_, (pss_cons (ps_set (i := 5) sc_BeadFrame_sum_digit.nd rfl (Or.inl rfl) (pe_lst (pa_cons (pe_tup (pa_cons (pv 3) (pa_cons (pe_mf (ok_BeadFrame_told_rule T) (hr.mono (by decide)) (passE (takes_of rfl rfl rfl rfl)) (pv 0) (by exact (pa_cons (pv 1) (pa_cons (pv 2) (pa_cons (pv 3) pa_nil))))) (pa_cons pe_int pa_nil)))) pa_nil))) (pss_cons (ps_while (passes_of rfl) (pt_cmpR (op_neE hr.units0) (pv 5) (pe_lst pa_nil) (nomark _)) (pss_cons (ps_asg (pe_bm0 PySem.F.plainAttrs_list PySem.F.slot_list_pop PySem.F.type_list_pop mt_pop (pv 5)) (pg_tup rfl (pgs_cons (pg_name (i := 6) sc_BeadFrame_sum_digit.nd rfl (Or.inl rfl)) (pgs_cons (pg_name (i := 7) sc_BeadFrame_sum_digit.nd rfl (Or.inl rfl)) (pgs_cons (pg_name (i := 8) sc_BeadFrame_sum_digit.nd rfl (Or.inl rfl)) pgs_nil))))) (pss_one (ps_if (pt_cmpR op_lt (pv 8) (pe_callB call_len_seq (by rfl) T.n_len PySem.boot_len (pa_cons (pv 7) pa_nil)) (nomark _)) (pss_cons (ps_if (pt_cmpR op_eq (pv 4) (pe_gi T.c_MOST_STEPS_beads) (nomark _)) (pss_one (ps_raise rfl (takes_of rfl rfl rfl rfl) (pmk_xf (ok_RunFault___init__ T) (hr.mono (by decide)) (by exact (pa_cons (pe_gi T.c_WRONG) pa_nil))))) pss_nil) (pss_cons (ps_aug (i := 4) sc_BeadFrame_sum_digit.nd rfl (Or.inl rfl) pe_int ip_add) (pss_cons (ps_expr (pe_bm PySem.F.plainAttrs_list PySem.F.slot_list_append PySem.F.type_list_append mt_append (pv 5) (pa_cons (pe_tup (pa_cons (pv 6) (pa_cons (pv 7) (pa_cons (pe_op op_add (pv 8) pe_int) pa_nil)))) pa_nil))) (pss_one (ps_if (pt_cmpR (op_eqD hr.units) (pe_ix ix_list (pv 7) (pv 8) (fun _ _ => rfl)) (pe_gt T.c_CARRY) (nomark _)) (pss_one (ps_expr (pe_bm PySem.F.plainAttrs_list PySem.F.slot_list_append PySem.F.type_list_append mt_append (pv 5) (pa_cons (pe_mf (ok_BeadFrame_carried T) (hr.mono (by decide)) (passE (takes_of rfl rfl rfl rfl)) (pv 0) (by exact (pa_cons (pv 1) (pa_cons (pe_op op_add (pv 6) pe_int) pa_nil)))) pa_nil)))) (pss_one (ps_expr (pe_mf (ok_BeadFrame_act T) (hr.mono (by decide)) (passE (takes_of rfl rfl rfl rfl)) (pv 0) (by exact (pa_cons (pv 6) (pa_cons (pe_ix ix_list (pv 7) (pv 8) (fun _ _ => rfl)) pa_nil))))))))))) pss_nil)))) (pss_one (ps_ret (pv 4))))), ?_⟩
    obtain ⟨r, hri⟩ : ∃ r, Z.rs[i]? = some r := ⟨_, List.getElem?_eq_getElem hi⟩
    rw [cz_digit h hri] at kE k
    generalize hC0 : (match showM r (at3 l i) with
      | none => Except.error Na.Fail.wrong
      | some x => CZ Z op ⟨sOf Z.rs l, ac, st⟩ (.moves i (((Z.D.lookup (op, d, x)).getD []).map mvOf) :: R')) = C0 at kE k
    refine ⟨_, rfl, _, rfl, Z.a, rfl, BdAt.ins h, _, rfl, _, rfl, _, rfl, Z, l, _, _, _, op, d, i, r, rfl, h, hri, fun e5 => ?_, fun x ex H1 b vg s1 nb hb hp => ?_⟩
    · rw [e5] at hC0
      exact (kE .wrong hC0.symm).sub (Chg.refl H) (by simp)
    refine ⟨sz (show 3 ≤ 100000 by decide), fun t ht => ⟨sz (show 1 ≤ 100000 by decide), fun g hg => ?_⟩⟩
    rw [ex] at hC0
    dsimp only at hC0
    have s2 : Same H1 (upd H1 t (.tup [.int (i : Int), .ref b, .int 0])) := same_lst ht
    have s3 : Same (upd H1 t (.tup [.int (i : Int), .ref b, .int 0])) (upd (upd H1 t (.tup [.int (i : Int), .ref b, .int 0])) g (.lst [.ref t])) := same_lst hg
    have s13 : Same H (upd (upd H1 t (.tup [.int (i : Int), .ref b, .int 0])) g (.lst [.ref t])) := fun b o e => s3 _ _ (s2 _ _ (s1 _ _ e))
    have gH : H g = none := by
      cases eb : H g with
      | none => rfl
      | some o =>
        have := s2 _ _ (s1 _ _ eb)
        rw [hg] at this
        cases this
    have gHo : Z.Ho g = none := by
      cases eb : Z.Ho g with
      | none => rfl
      | some o =>
        have := h.base _ _ eb
        rw [gH] at this
        cases this
    have ownH : ∀ x ∈ Z.own, ∃ o, H x = some o := FrAt.here (v := ⟨sOf Z.rs l, _, _, _⟩) ⟨l, h, rfl⟩
    have gown : g ∉ Z.own := fun m => by
      obtain ⟨o, e⟩ := ownH g m
      rw [gH] at e
      cases e
    -- what a rule's list is: not what may change
    have nbk : ∀ {Hk : Hp} {b : Addr}, (∀ x ∈ Z.own, ∃ o, Hk x = some o) → (∃ o, Hk g = some o) → ((∃ o, Z.Ho b = some o) ∨ Hk b = none) → b ∉ g :: Z.own := fun {Hk b} h1 h2 nb m => by
      rcases nb with ⟨o, e⟩ | e
      · rcases List.mem_cons.mp m with z | m
        · rw [z, gHo] at e; cases e
        · rw [h.new b m] at e; cases e
      · rcases List.mem_cons.mp m with z | m
        · obtain ⟨o, e2⟩ := h2
          rw [z, e2] at e; cases e
        · obtain ⟨o, e2⟩ := h1 b m
          rw [e2] at e; cases e
    have ownM : ∀ {Hk : Hp} {l : List Nat} {hat acts cost : Nat}, BdAt K cBeadFrame Z Hk l hat acts cost → ∀ x ∈ Z.own, ∃ o, Hk x = some o := fun {Hk l hat acts cost} h => FrAt.here (v := ⟨sOf Z.rs l, hat, acts, cost⟩) ⟨l, h, rfl⟩
    have N0 : b ∉ g :: Z.own := fun m => by
      rcases List.mem_cons.mp m with z | m
      · rw [z] at hb
        have := s2 _ _ hb
        rw [hg] at this
        cases this
      · rcases nb with ⟨o, e⟩ | e
        · rw [h.new b m] at e; cases e
        · obtain ⟨o, e2⟩ := ownH b m
          rw [e2] at e; cases e
    have c3 : Chg (g :: Z.own) H (upd (upd H1 t (.tup [.int (i : Int), .ref b, .int 0])) g (.lst [.ref t])) := chgS s13
    refine ⟨fun μ σ H' => ∃ x6 x7 x8 its vs l' ac' st', σ = [some (.ref Z.a), some (.int (op : Int)), some (.int (d : Int)), some (.int (i : Int)), some (.int ((st' : Nat) : Int)), some (.ref g), x6, x7, x8] ∧ Chg (g :: Z.own) H H' ∧ H' g = some (.lst vs.reverse) ∧ Paired (GoAt K (fun b => b ∉ g :: Z.own) H') vs its ∧ TrkAt K cBeadFrame Z H' w l' ac' ∧ (∀ it ∈ its, it.1 < Z.rs.length ∧ ∀ p ∈ it.2.1, stepM p = true) ∧ its.length ≤ st' + 1 ∧ st' ≤ 65536 ∧ CZ Z op ⟨sOf Z.rs l', ac', st'⟩ (tdo its ++ R') = C0 ∧ μ = 2 * (65536 - st') + its.length,
      ⟨_, none, none, none, [(i, (Z.D.lookup (op, d, x)).getD [], 0)], [.ref t], l, ac, st, rfl, c3, upd_same, .cons ⟨t, b, vg, rfl, SqT.of (s3 _ _ upd_same), N0, s3 _ _ (s2 _ _ hb), Paired.mapP hp fun v r ⟨q, e, h⟩ => ⟨q, e, (chgS (fun b o e => s3 _ _ (s2 b o e)) : Chg [] H1 _).tup h⟩⟩ .nil, BdAt.same h s13, fun it m => ?_, Nat.le_add_left _ _, hst, hC0, rfl⟩, ?_⟩
    · have m : it = (i, (Z.D.lookup (op, d, x)).getD [], 0) := by simpa using m
      subst m
      exact ⟨hi, told_step h.st _⟩
    clear hC0 hp hb N0 nb ex
    rintro μ σ H2 ⟨x6, x7, x8, its, vs, l', ac', st', rfl, c2, hgl, hP, hB, hI, hL, hS, hC, rfl⟩
    refine ⟨_, rfl, Nat.zero_le _, fun q hq => ⟨g, q, vs.reverse, rfl, rfl, SqL.of (same_lst hq _ _ hgl), SqL.of upd_same, _, rfl, ?_⟩⟩
    have s4 : Same H2 (upd H2 q (.lst [])) := same_lst hq
    have c4 : Chg (g :: Z.own) H (upd H2 q (.lst [])) := c2.trans (chgS s4)
    have hgl4 := s4 _ _ hgl
    have hB4 := BdAt.same hB s4
    cases hP with
    | nil =>
      refine ite2 (fun n => absurd n (by decide)) (fun _ => ?_)
      exact ⟨_, rfl, k l' ac' st' hS hC.symm _ (c4.less gH) hB4⟩
    | @cons v it vs its hgo hP =>
      have hgo := hgo.chg (chgS s4 : Chg [] _ _) (fun _ _ => by simp)
      have hP := Paired.mapP hP fun v r h => GoAt.chg h (chgS s4 : Chg [] _ _) (fun _ _ => by simp)
      generalize upd H2 q (.lst []) = H4 at s4 c4 hgl4 hB4 hgo hP
      refine ite2 (fun _ => ?_) (fun n => absurd (by simp) n)
      refine ⟨fun σ' H' => ∃ μ', μ' < 2 * (65536 - st') + (it :: its).length ∧ ∃ x6 x7 x8 its vs l' ac' st', σ' = [some (.ref Z.a), some (.int (op : Int)), some (.int (d : Int)), some (.int (i : Int)), some (.int ((st' : Nat) : Int)), some (.ref g), x6, x7, x8] ∧ Chg (g :: Z.own) H H' ∧ H' g = some (.lst vs.reverse) ∧ Paired (GoAt K (fun b => b ∉ g :: Z.own) H') vs its ∧ TrkAt K cBeadFrame Z H' w l' ac' ∧ (∀ it ∈ its, it.1 < Z.rs.length ∧ ∀ p ∈ it.2.1, stepM p = true) ∧ its.length ≤ st' + 1 ∧ st' ≤ 65536 ∧ CZ Z op ⟨sOf Z.rs l', ac', st'⟩ (tdo its ++ R') = C0 ∧ μ' = 2 * (65536 - st') + its.length, fun σ' H' h => h, ?_⟩
      obtain ⟨a, sts, dn⟩ := it
      obtain ⟨t4, b4, vg4, rfl, ht4, nb4, hb4, hp4⟩ := hgo
      rw [List.reverse_cons] at hgl4
      obtain ⟨ha, hst4⟩ := hI _ (List.mem_cons_self ..)
      have hI' : ∀ it ∈ its, it.1 < Z.rs.length ∧ ∀ p ∈ it.2.1, stepM p = true := fun it m => hI it (List.mem_cons_of_mem _ m)
      rw [List.length_cons] at hL
      refine ⟨_, rfl, .inl ⟨rfl, _, SqL.of hgl4⟩, g, _, .ref t4, rfl, rfl, hgl4, by simp, ?_⟩
      rw [List.dropLast_concat]
      have c5 : Chg [g] H4 (upd H4 g (.lst vs.reverse)) := (Chg.refl H4).set (by simp) hgl4 (by intro z; exact z)
      have hB5 : TrkAt K cBeadFrame Z (upd H4 g (.lst vs.reverse)) w l' ac' := BdAt.chg hB4 c5 (fun x hx m => gown ((show x = g from by simpa using m) ▸ hx)) (fun x hx => (show x = g from by simpa using hx) ▸ gHo)
      have nS : ∀ b, b ∉ g :: Z.own → b ∉ [g] := fun b n m => n (by rw [show b = g from by simpa using m]; simp)
      have hP5 := Paired.mapP hP fun v r h => GoAt.chg h c5 nS
      have hb5 := c5.1 _ _ (nS _ nb4) hb4
      have hp5 : Paired (StepAt K (upd H4 g (.lst vs.reverse))) vg4 sts := Paired.mapP hp4 fun v r ⟨q, e, h⟩ => ⟨q, e, c5.tup h⟩
      have ht5 := c5.tup ht4
      have cc5 : Chg (g :: Z.own) H (upd H4 g (.lst vs.reverse)) := c4.trans (c5.mono (by simp))
      have hg5 : (upd H4 g (.lst vs.reverse)) g = some (.lst vs.reverse) := upd_same
      have lv := Paired.length hp4
      generalize upd H4 g (.lst vs.reverse) = H5 at c5 hB5 hP5 hb5 hp5 ht5 cc5 hg5
      refine ⟨t4, _, rfl, ht5, rfl, _, _, rfl, _, _, rfl, _, _, rfl, rfl, ?_⟩
      refine ⟨_, rfl, _, rfl, b4, _, rfl, .inl (SqL.of hb5), _, _, rfl, rfl, _, rfl, ?_⟩
      rw [lv]
      dsimp only at ht5 ha hst4 hp5 hp4 ⊢
      by_cases hdn : dn < sts.length
      · have edr : sts.drop dn = sts[dn] :: sts.drop (dn + 1) := List.drop_eq_getElem_cons hdn
        have hpm : stepM sts[dn] = true := hst4 _ (List.getElem_mem hdn)
        have hdp : sts[dn]? = some sts[dn] := List.getElem?_eq_getElem hdn
        generalize sts[dn] = p at edr hpm hdp
        refine ite2 (fun _ => ?_) (fun n => absurd (decide_eq_true (by omega)) n)
        obtain ⟨r4, hr4⟩ : ∃ r, Z.rs[a]? = some r := ⟨_, List.getElem?_eq_getElem ha⟩
        have hC : CZ Z op ⟨sOf Z.rs l', ac', st'⟩ (.moves a (mvOf p :: (sts.drop (dn + 1)).map mvOf) :: (tdo its ++ R')) = C0 := by
          rw [← hC]
          show _ = CZ Z op ⟨sOf Z.rs l', ac', st'⟩ (.moves a ((sts.drop dn).map mvOf) :: (tdo its ++ R'))
          rw [edr]; rfl
        rw [step_carry hpm] at hC
        refine ⟨_, rfl, rfl, _, rfl, ?_⟩
        by_cases hs : st' = 65536
        · refine ite2 (fun _ => ?_) (fun n => absurd (decide_eq_true (by rw [hs]; rfl)) n)
          have hl : C0 = .error .long := by
            rw [← hC]
            by_cases hp0 : p = (0, 0, 0)
            · rw [if_pos hp0]
              unfold CZ
              rw [CN_carry, if_pos (by show 65536 ≤ st'; omega)]
            · rw [if_neg hp0]
              unfold CZ
              rw [CN_act, if_pos (by show 65536 ≤ st'; omega)]
          exact rfault_in fun d H' s e => kE .long hl d H' ((cc5.less gH).trans (chgS s)) e
        · refine ite2 (fun n => absurd (V.int.inj (of_decide_eq_true n)) (by omega)) (fun _ => ?_)
          refine ⟨_, rfl, _, _, rfl, rfl, ?_⟩
          dsimp only
          refine ⟨_, rfl, .inl ⟨rfl, _, SqL.of hg5⟩, _, rfl, _, rfl, _, rfl, _, _, rfl, rfl, sz (show 3 ≤ 100000 by decide), fun t6 ht6 => ⟨g, _, _, rfl, rfl, same_lst ht6 _ _ hg5, szl (by rw [List.length_reverse, Paired.length hP5]; omega), ?_⟩⟩
          have s6 : Same H5 (upd H5 t6 (.tup [.int (a : Int), .ref b4, .int ((dn : Int) + 1)])) := same_lst ht6
          have c6 : Chg [g] H5 (upd (upd H5 t6 (.tup [.int (a : Int), .ref b4, .int ((dn : Int) + 1)])) g (.lst (vs.reverse ++ [.ref t6]))) := ((chgS s6 : Chg [] _ _).mono (by simp)).trans ((Chg.refl _).set (by simp) (s6 _ _ hg5) (by intro z; exact z))
          have hB7 : TrkAt K cBeadFrame Z (upd (upd H5 t6 (.tup [.int (a : Int), .ref b4, .int ((dn : Int) + 1)])) g (.lst (vs.reverse ++ [.ref t6]))) w l' ac' := BdAt.chg hB5 c6 (fun x hx m => gown ((show x = g from by simpa using m) ▸ hx)) (fun x hx => (show x = g from by simpa using hx) ▸ gHo)
          have nt6 : t6 ≠ g := fun z => by rw [z, hg5] at ht6; cases ht6
          have hP7 : Paired (GoAt K (fun b => b ∉ g :: Z.own) (upd (upd H5 t6 (.tup [.int (a : Int), .ref b4, .int ((dn : Int) + 1)])) g (.lst (vs.reverse ++ [.ref t6])))) (.ref t6 :: vs) ((a, sts, dn + 1) :: its) := .cons ⟨t6, b4, vg4, rfl, SqT.of ((upd_ne nt6).trans upd_same), nb4, c6.1 _ _ (nS _ nb4) hb5, Paired.mapP hp5 fun v r ⟨q, e, h⟩ => ⟨q, e, c6.tup h⟩⟩ (Paired.mapP hP5 fun v r h => GoAt.chg h c6 nS)
          have hg7 : (upd (upd H5 t6 (.tup [.int (a : Int), .ref b4, .int ((dn : Int) + 1)])) g (.lst (vs.reverse ++ [.ref t6]))) g = some (.lst (V.ref t6 :: vs).reverse) := by rw [List.reverse_cons]; exact upd_same
          have hb7 := c6.1 _ _ (nS _ nb4) hb5
          have cc7 := cc5.trans (c6.mono (T := g :: Z.own) (by simp))
          obtain ⟨vq, hvq⟩ : ∃ vq, vg4[dn]? = some vq := ⟨_, List.getElem?_eq_getElem (by rw [Paired.length hp4]; exact hdn)⟩
          obtain ⟨p', hp', q7, rfl, hq7⟩ := paired_at hp5 hvq
          rw [hdp] at hp'
          cases hp'
          have hq7 := c6.tup hq7
          have hI7 : ∀ it ∈ ((a, sts, dn + 1) :: its : List GoI), it.1 < Z.rs.length ∧ ∀ p ∈ it.2.1, stepM p = true := fun it m => by
            rcases List.mem_cons.mp m with z | m
            · subst z; exact ⟨ha, hst4⟩
            · exact hI' it m
          generalize upd (upd H5 t6 (.tup [.int (a : Int), .ref b4, .int ((dn : Int) + 1)])) g (.lst (vs.reverse ++ [.ref t6])) = H7 at c6 hB7 hP7 hg7 hb7 cc7 hq7
          refine ⟨_, rfl, _, rfl, b4, _, _, _, rfl, rfl, SqL.of hb7, atI_nat hvq, fun c hc => ⟨d3 p, d3 (0, 0, 0), dp3 hq7, dp3 (hc _), sh3 _, sh3 _, _, rfl, ?_⟩⟩
          have e3 := eq3 p (0, 0, 0)
          by_cases hp0 : p = (0, 0, 0)
          · refine ite2 (fun _ => ?_) (fun n => absurd (e3.trans (decide_eq_true hp0)) n)
            rw [if_pos hp0] at hC
            unfold CZ at hC
            rw [CN_carry, if_neg (by show ¬ 65536 ≤ st'; omega)] at hC
            refine ⟨_, rfl, .inl ⟨rfl, _, SqL.of hg7⟩, _, rfl, Z.a, rfl, BdAt.ins hB7, _, rfl, _, rfl, _, _, rfl, rfl, Z, l', _, _, _, op, a + 1, rfl, hB7, by omega, fun e => ?_, fun r9 hr9 => ⟨fun e => ?_, fun x9 ex9 H8 t8 b8 vg8 s8 ht8 nb8 hb8 hp8 => ?_⟩⟩
            · rw [CN_digit, if_pos (by rw [mkOf_len]; omega)] at hC
              exact (kE .over hC.symm).sub (cc7.less gH) (by simp)
            · have hC : CZ Z op ⟨sOf Z.rs l', ac', st' + 1⟩ (.digit (a + 1) 1 :: (.moves a ((sts.drop (dn + 1)).map mvOf) :: (tdo its ++ R'))) = C0 := hC
              rw [cz_digit hB7 hr9, e] at hC
              exact (kE .wrong hC.symm).sub (cc7.less gH) (by simp)
            · have hC : CZ Z op ⟨sOf Z.rs l', ac', st' + 1⟩ (.digit (a + 1) 1 :: (.moves a ((sts.drop (dn + 1)).map mvOf) :: (tdo its ++ R'))) = C0 := hC
              rw [cz_digit hB7 hr9, ex9] at hC
              have N8 : b8 ∉ g :: Z.own := nbk (ownM hB7) ⟨_, hg7⟩ nb8
              have hg8 := s8 _ _ hg7
              refine ⟨g, _, _, rfl, rfl, hg8, szl (by rw [List.length_reverse, Paired.length hP7, List.length_cons]; omega), ?_⟩
              have c8 : Chg [g] H7 (upd H8 g (.lst ((V.ref t6 :: vs).reverse ++ [.ref t8]))) := (chgS s8).trans ((Chg.refl H8).set (by simp) hg8 (by intro z; exact z))
              have c9 : Chg [g] H8 (upd H8 g (.lst ((V.ref t6 :: vs).reverse ++ [.ref t8]))) := (Chg.refl H8).set (by simp) hg8 (by intro z; exact z)
              refine ⟨2 * (65536 - (st' + 1)) + (its.length + 1 + 1), by rw [List.length_cons]; omega, _, _, _, (a + 1, (Z.D.lookup (op, 1, x9)).getD [], 0) :: (a, sts, dn + 1) :: its, .ref t8 :: .ref t6 :: vs, l', ac', st' + 1, rfl, cc7.trans (c8.mono (by simp)), upd_same.trans (by rw [List.reverse_cons (a := V.ref t8)]), .cons ⟨t8, b8, vg8, rfl, c9.tup ht8, N8, c9.1 _ _ (nS _ N8) hb8, Paired.mapP hp8 fun v r ⟨q, e, h⟩ => ⟨q, e, c9.tup h⟩⟩ (Paired.mapP hP7 fun v r h => GoAt.chg h c8 nS), BdAt.chg hB7 c8 (fun x hx m => gown ((show x = g from by simpa using m) ▸ hx)) (fun x hx => (show x = g from by simpa using hx) ▸ gHo), fun it m => ?_, by simp only [List.length_cons]; omega, by omega, hC, rfl⟩
              rcases List.mem_cons.mp m with z | m
              · subst z
                exact ⟨(List.getElem?_eq_some_iff.mp hr9).1, told_step h.st _⟩
              · exact hI7 it m
          · refine ite2 (fun n => absurd (of_decide_eq_true (e3.symm.trans n)) hp0) (fun _ => ?_)
            rw [if_neg hp0] at hC
            unfold CZ at hC
            rw [CN_act, if_neg (by show ¬ 65536 ≤ st'; omega)] at hC
            obtain ⟨a1, a2⟩ := act_is h.st.dek h.st.str hB7.ok (o := Z.ov) hr4 (num := p.1) (many := p.2.1) (second := p.2.2) (step_many hpm hp0)
            have a1 : Na.acted (mkOf Z.rs) (hdZ Z) (sOf Z.rs l') ⟨a, p.1, p.2.1, p.2.2⟩ = (actM r4 Z.gs l' a p.1 p.2.1 p.2.2).map (sOf Z.rs) := a1
            rw [a1] at hC
            refine ⟨_, rfl, Z.a, rfl, BdAt.ins hB7, _, rfl, _, rfl, _, rfl, b4, _, _, _, rfl, rfl, SqL.of hb7, atI_nat hvq, Z, l', _, _, _, a, p.1, p.2.1, p.2.2, r4, q7, rfl, hB7, hr4, hq7, step_many hpm hp0, fun e => ?_, fun l2 e H8 c8 hB8 => ?_⟩
            · rw [e] at hC
              exact (kE .wrong hC.symm).sub (cc7.less gH) (by simp [Frm.own])
            · rw [e] at hC
              have n8 : ∀ b, b ∉ g :: Z.own → b ∉ [Z.a, Z.pu] := fun b n m => n (by simp [Frm.own] at m ⊢; rcases m with z | z <;> simp [z])
              have ng : g ∉ [Z.a, Z.pu] := fun m => gown (by simp [Frm.own] at m ⊢; rcases m with z | z <;> simp [z])
              refine ⟨2 * (65536 - (st' + 1)) + (its.length + 1), by rw [List.length_cons]; omega, _, _, _, (a, sts, dn + 1) :: its, .ref t6 :: vs, l2, ⟨a, p.1, p.2.1, p.2.2⟩ :: ac', st' + 1, rfl, cc7.trans (c8.mono (by simp [Frm.own])), c8.1 _ _ ng hg7, Paired.mapP hP7 fun v r h => GoAt.chg h c8 n8, trk_cons hB8, hI7, by simp only [List.length_cons]; omega, by omega, hC, rfl⟩
      · refine ite2 (fun n => absurd (of_decide_eq_true n) (by omega)) (fun _ => ?_)
        have hC : CZ Z op ⟨sOf Z.rs l', ac', st'⟩ (.moves a ((sts.drop dn).map mvOf) :: (tdo its ++ R')) = C0 := hC
        rw [List.drop_of_length_le (by omega)] at hC
        unfold CZ at hC
        rw [show (List.map mvOf [] : List Na.Move) = [] from rfl, CN_done] at hC
        exact ⟨2 * (65536 - st') + its.length, by rw [List.length_cons]; omega, _, _, _, its, vs, l', ac', st', rfl, cc5, hg5, hP5, hB5, hI', by omega, hS, hC, rfl⟩
end
end Ab
/-! ## The walk: a frame with beads is changed -/
namespace Ab
open PySem PySem.Spec PyProof.Rows L2
section
variable {P : Program} {w : World} {K : PySem.W.Frag} {mg : Str → Option Value} {base : Heap} {cFault cRunFault cTooLong cBeadFrame cReader cLines cRun : Addr}
theorem pls_last (rs : List RodM) : atI (nvs (pls rs (rs.length + 1))) (-1) = some (.int (placeM rs rs.length : Int)) := by
  have el : pls rs (rs.length + 1) = pls rs rs.length ++ [placeM rs rs.length] := by
    unfold pls
    rw [List.range_succ, List.map_append]; rfl
  rw [el, nvs_snoc]
  exact atI_last _ _
def spFrChange (K : PySem.W.Frag) (C R : Addr) : Sp := fun vs H Q E => ∃ (Z : Frm) (v : FS) (op many : Nat) (x : Int), vs = [.ref Z.a, .int (op : Int), .int (many : Int), .int x] ∧ FrAt K C Z H v ∧ op ≤ 1 ∧ many ≤ 9999 ∧
  (∀ k, putOf (brdZ Z) v op many x = .error k → FK R E H Z.own k) ∧
  ∀ v2, putOf (brdZ Z) v op many x = .ok v2 → ∀ H', Chg Z.own H H' → FrAt K C Z H' v2 → Q .non H'
theorem put_is {Z : Frm} (hl : Z.rs.length ≤ 64) (v : FS) (op i many : Nat) : (brdZ Z).put v op i many = if placeM Z.rs Z.rs.length ≤ many * placeM Z.rs i then .error 2 else match CZ Z op ⟨v.s, [], 0⟩ (wl (Na.digits (mkOf Z.rs) (many * placeM Z.rs i)) Z.rs.length) with
    | .error e => .error (kFail e)
    | .ok u => .ok ⟨u.s, (u.acts.reverse.getLast?.map fun x : Na.Act => x.rod).getD v.at_, v.acts + u.acts.reverse.length, v.cost + Na.costs (hdZ Z) v.at_ u.acts.reverse⟩ := by
  show (if Na.span (mkOf Z.rs) ≤ many * Na.placeIn (mkOf Z.rs) i then Except.error 2 else match Na.sumBy (mkOf Z.rs) (hdZ Z) (Z.D.map ruleAs) op 0 v.s (many * Na.placeIn (mkOf Z.rs) i) with
    | .ok (t, l) => Except.ok (⟨t, (l.getLast?.map fun (a : Na.Act) => a.rod).getD v.at_, v.acts + l.length, v.cost + Na.costs (hdZ Z) v.at_ l⟩ : Na.Beads)
    | .error .over => .error 2
    | .error _ => .error 5 : Except Nat Na.Beads) = _
  rw [show Na.placeIn (mkOf Z.rs) i = placeM Z.rs i from span_is Z.rs i, span_all, sum_is _ _ _ _ _ _ (by rw [mkOf_len]; exact hl), mkOf_len]
  by_cases c : placeM Z.rs Z.rs.length ≤ many * placeM Z.rs i
  · rw [if_pos c, if_pos c]
  · rw [if_neg c, if_neg c]
    unfold CZ
    cases CN (mkOf Z.rs) (hdZ Z) (Z.D.map ruleAs) op ⟨v.s, [], 0⟩ (wl (Na.digits (mkOf Z.rs) (many * placeM Z.rs i)) Z.rs.length) with
    | error e => cases e <;> rfl
    | ok u => rfl
theorem ok_BeadFrame_change (T : Txt K mg cFault cRunFault cTooLong cBeadFrame cReader cLines cRun) : Mf P w K mg base (L2.CX P w) 7 cBeadFrame "change" ["self", "op", "many", "rod"] (spFrChange K cBeadFrame cRunFault) := by
  refine mf_mk T.cl_BeadFrame T.d_BeadFrame_change fun f fd F => F.okX sc_BeadFrame_change (fun vs H Q E h => ?_) (fun cdv A outer s H vs Q E hr h => ?_)
  · obtain ⟨Z, v, op, many, x, rfl, _⟩ := h
    rfl
  · obtain ⟨Z, v, op, many, x, rfl, h, hop, hm, kE, k⟩ := h
    refine ⟨_, (pss_cons (ps_expr (pe_mf (ok_BeadFrame_want_rod T) (hr.mono (by decide)) (passE (takes_of rfl rfl rfl rfl)) (pv 0) (by exact (pa_cons (pv 3) pa_nil)))) (pss_cons (ps_set (i := 4) sc_BeadFrame_change.nd rfl (Or.inl rfl) (pe_op op_mulW (pv 2) (pe_ix ix_list (pe_get (pv 0)) (pv 3) (fun _ _ => rfl)))) (pss_cons (ps_if (pt_cmpR op_ge (pv 4) (pe_ix ix_list (pe_get (pv 0)) (pe_un un_neg pe_int) (fun _ _ => rfl)) (nomark _)) (pss_one (ps_raise rfl (takes_of rfl rfl rfl rfl) (pmk_xf (ok_RunFault___init__ T) (hr.mono (by decide)) (by exact (pa_cons (pe_gi T.c_NO_ROOM) pa_nil))))) pss_nil) (pss_cons (ps_set (i := 5) sc_BeadFrame_change.nd rfl (Or.inl rfl) pe_int) (pss_one (ps_for (passes_of rfl) rfl (pi_range3 rfl T.n_range (pa_cons (pe_op op_sub (pe_callB call_len_seq (by rfl) T.n_len PySem.boot_len (pa_cons (pe_get (pv 0)) pa_nil)) pe_int) (pa_cons (pe_un un_neg pe_int) (pa_cons (pe_un un_neg pe_int) pa_nil)))) (pg_name (i := 6) sc_BeadFrame_change.nd rfl (Or.inl rfl)) (pss_cons (ps_set (i := 7) sc_BeadFrame_change.nd rfl (Or.inl rfl) (pe_op op_mod (pe_op op_fdivW (pv 4) (pe_ix ix_list (pe_get (pv 0)) (pv 6) (fun _ _ => rfl))) (pe_ix ix_tup (pe_ix ix_list (pe_get (pv 0)) (pv 6) (fun _ _ => rfl)) pe_int (fun _ _ => rfl)))) (pss_one (ps_if (pt_cmpR op_gt (pv 7) pe_int (nomark _)) (pss_one (ps_set (i := 5) sc_BeadFrame_change.nd rfl (Or.inl rfl) (pe_mf (ok_BeadFrame_sum_digit T) (hr.mono (by decide)) (passE (takes_of rfl rfl rfl rfl)) (pv 0) (by exact (pa_cons (pv 1) (pa_cons (pv 7) (pa_cons (pv 6) (pa_cons (pv 5) pa_nil)))))))) pss_nil))))))))), ?_⟩
    unfold putOf at kE k
    refine ⟨_, rfl, Z.a, rfl, h.ins, _, rfl, Z, v, x, rfl, h, fun kk e => fun d H' c e2 => kE kk (by rw [e]) d H' (c.mono (by simp)) e2, fun i e => ?_⟩
    rw [e] at kE k
    dsimp only at kE k
    have en : (brdZ Z).rods = Z.rs.length := mkOf_len Z.rs
    obtain ⟨rfl, hi⟩ := rodIn_ok e
    rw [en] at hi
    obtain ⟨l, h, hs⟩ := h
    have few := h.st.few
    have low := h.st.low
    rw [put_is few] at kE k
    have hw := place_wide (fun r hr => (low r hr).2) few (show i ≤ Z.rs.length by omega)
    have hwn := place_wide (fun r hr => (low r hr).2) few (Nat.le_refl Z.rs.length)
    refine ⟨_, rfl, _, rfl, _, _, rfl, h.fpl T, _, rfl, Z.pl, _, _, _, rfl, rfl, SqL.of h.plc, atI_nat (nvs_at (pls_at (show i < Z.rs.length + 1 by omega))), _, _, rfl, rfl, wide_mul (a := 20) (b := 300) (by rw [nabs]; omega) (by rw [nabs]; exact hw) (by decide) (by decide) (by decide), ?_⟩
    dsimp only
    rw [show (many : Int) * (placeM Z.rs i : Int) = ((many * placeM Z.rs i : Nat) : Int) from (Int.natCast_mul _ _).symm]
    generalize many * placeM Z.rs i = X at kE k ⊢
    refine ⟨_, rfl, _, rfl, _, _, rfl, h.fpl T, _, rfl, Z.pl, _, _, _, rfl, rfl, SqL.of h.plc, pls_last _, _, _, rfl, rfl, _, rfl, ?_⟩
    by_cases hX : placeM Z.rs Z.rs.length ≤ X
    · refine ite2 (fun _ => ?_) (fun n => absurd (decide_eq_true (by omega)) n)
      rw [if_pos hX] at kE
      exact rfault_in fun d H' s e => kE 2 rfl d H' (chgS s) e
    · refine ite2 (fun n => absurd (of_decide_eq_true n) (by omega)) (fun _ => ?_)
      rw [if_neg hX] at kE k
      rw [hs] at kE k
      generalize hC0 : CZ Z op ⟨sOf Z.rs l, [], 0⟩ (wl (Na.digits (mkOf Z.rs) X) Z.rs.length) = C0 at kE k
      obtain ⟨vr, r1, r2⟩ := h.rods
      have lr := Paired.length r2
      have hrg : RgC ((Z.rs.length : Int) - 1) (-1) (-1) Z.rs.length := by
        have := RgC.neg (i := (Z.rs.length : Int) - 1) (j := -1) (by omega) (by omega) (by omega) (by omega)
        rw [show ((Z.rs.length : Int) - 1 - -1).toNat = Z.rs.length by omega] at this
        exact this
      refine ⟨_, rfl, _, _, rfl, h.fr T, Z.rd, _, rfl, .inl (SqL.of r1), _, _, rfl, rfl, _, rfl, _, rfl, _, _, _, Z.rs.length, rfl, by rw [lr]; exact hrg, ?_⟩
      rw [lr]
      refine for_it (walk_rangeC (lo := (Z.rs.length : Int) - 1) (c := -1) (n := Z.rs.length)) (fun j σ H' => ∃ x6 x7 l' ac' st', σ = [some (.ref Z.a), some (.int (op : Int)), some (.int (many : Int)), some (.int (i : Int)), some (.int (X : Int)), some (.int ((st' : Nat) : Int)), x6, x7] ∧ Chg Z.own H H' ∧ TrkAt K cBeadFrame Z H' v l' ac' ∧ st' ≤ 65536 ∧ CZ Z op ⟨sOf Z.rs l', ac', st'⟩ (wl (Na.digits (mkOf Z.rs) X) (Z.rs.length - j)) = C0)
        ⟨none, none, l, [], 0, rfl, Chg.refl H, h, Nat.zero_le _, hC0⟩ (fun _ _ _ _ _ => trivial) ?_ ?_
      · rintro j y σ H1 H2 hj ⟨x6, x7, l', ac', st', rfl, c2, hB, hS, hC⟩ ⟨eH, eY⟩
        subst eH
        obtain ⟨at_1, hat1⟩ : ∃ a, Z.rs.length - j = a + 1 := ⟨Z.rs.length - j - 1, by omega⟩
        have eY : y = .int ((Z.rs.length : Int) - 1 + (j : Nat) * (-1)) := eY
        rw [show (Z.rs.length : Int) - 1 + (j : Nat) * (-1) = (at_1 : Int) by omega] at eY
        subst eY
        rw [hat1] at hC
        have hal : at_1 < Z.rs.length := by omega
        obtain ⟨vr, r1, r2⟩ := BdAt.rods hB
        obtain ⟨r, hri⟩ : ∃ r, Z.rs[at_1]? = some r := ⟨_, List.getElem?_eq_getElem hal⟩
        obtain ⟨vx, hvx⟩ : ∃ vx, vr[at_1]? = some vx := ⟨_, List.getElem?_eq_getElem (by rw [Paired.length r2]; exact hal)⟩
        obtain ⟨r', hr', a, b, c, rfl, ha, hb, hc⟩ := paired_at r2 hvx
        rw [hri] at hr'
        cases hr'
        have hlow := low r (List.mem_of_getElem? hri)
        have hwa := place_wide (fun r hr => (low r hr).2) few (show at_1 ≤ Z.rs.length by omega)
        have hpa := place_pos (fun r hr => (low r hr).1) at_1 (show at_1 ≤ Z.rs.length by omega)
        have ed : (Na.digits (mkOf Z.rs) X).getD at_1 0 = X / placeM Z.rs at_1 % r.q := by
          rw [digits_at (mkOf Z.rs) X at_1 (mkOf_at hri), span_is]
        refine ⟨_, rfl, _, rfl, _, _, rfl, BdAt.fpl T hB, _, rfl, Z.pl, _, _, _, rfl, rfl, SqL.of (BdAt.plc hB), atI_nat (nvs_at (pls_at (show at_1 < Z.rs.length + 1 by omega))), _, _, rfl, rfl, wide_div (b := 300) (by omega) (by rw [nabs]; omega) (by decide) (by decide), _, rfl, _, _, rfl, BdAt.fr T hB, _, rfl, Z.rd, _, _, _, rfl, rfl, SqL.of r1, atI_nat hvx, a, _, 0, _, rfl, rfl, ha, rfl, _, _, rfl, rfl, (by show (0 : Int) < (r.q : Int); omega), ?_⟩
        dsimp only
        have e2 : (X : Int) / (placeM Z.rs at_1 : Int) % (r.q : Int) = (((Na.digits (mkOf Z.rs) X).getD at_1 0 : Nat) : Int) := by
          rw [ed, Int.natCast_emod, Int.natCast_ediv]
        rw [e2]
        unfold wl at hC
        generalize (Na.digits (mkOf Z.rs) X).getD at_1 0 = dg at hC ⊢
        refine ⟨_, rfl, _, _, rfl, rfl, _, rfl, ?_⟩
        by_cases hd : 0 < dg
        · refine ite2 (fun _ => ?_) (fun n => absurd (decide_eq_true (by omega)) n)
          rw [if_pos (by omega)] at hC
          refine ⟨_, rfl, Z.a, rfl, BdAt.ins hB, _, rfl, _, rfl, _, rfl, _, rfl, Z, v, l', ac', op, dg, at_1, st', wl (Na.digits (mkOf Z.rs) X) at_1, rfl, hB, hal, hS, fun e he => ?_, fun l2 ac2 st2 h2 hc2 H3 c3 hB3 => ?_⟩
          · rw [he] at hC
            rw [← hC] at kE
            exact (kE _ rfl).sub c2 (fun x h => h)
          · exact ⟨_, _, l2, ac2, st2, rfl, c2.trans c3, hB3, h2, by rw [show Z.rs.length - (j + 1) = at_1 by omega, ← hc2, hC]⟩
        · refine ite2 (fun n => absurd (of_decide_eq_true n) (by omega)) (fun _ => ?_)
          rw [if_neg (by omega)] at hC
          exact ⟨_, _, l', ac', st', rfl, c2, hB, hS, by rw [show Z.rs.length - (j + 1) = at_1 by omega]; exact hC⟩
      · rintro σ H1 ⟨x6, x7, l', ac', st', rfl, c2, hB, hS, hC⟩
        rw [Nat.sub_self] at hC
        unfold CZ wl at hC
        rw [CN_nil] at hC
        rw [← hC] at k
        exact k _ rfl H1 c2 ⟨l', hB, rfl⟩
end
end Ab
/-! ## The walk: runs -/
namespace Ab
open PySem PySem.Spec PyProof.Rows L2
section
variable {P : Program} {w : World} {K : PySem.W.Frag} {mg : Str → Option Value} {base : Heap} {cFault cRunFault cTooLong cBeadFrame cReader cLines cRun : Addr}
def spInRange (R : Addr) : Sp := fun vs H Q E => ∃ x : Int, vs = [.int x] ∧ (∀ k, Na.held x = .error k → FK R E H [] k) ∧ ∀ y, Na.held x = .ok y → Q (.int y) H
theorem ok_in_range (T : Txt K mg cFault cRunFault cTooLong cBeadFrame cReader cLines cRun) : Df P w K mg base (L2.CX P w) 3 "in_range" ["number"] (spInRange cRunFault) := by
  refine df_mk T.d_in_range fun f fd F => F.okX sc_in_range (fun vs H Q E h => ?_) (fun cdv A outer s H vs Q E hr h => ?_)
  · obtain ⟨x, rfl, _⟩ := h
    rfl
  · obtain ⟨x, rfl, kE, k⟩ := h
    refine ⟨_, (pss_cons (ps_if (pt_not (pt_chain op_le op_le (pe_un un_neg (pe_gi T.c_FAR)) (pv 0) (pe_gi T.c_FAR))) (pss_one (ps_raise rfl (takes_of rfl rfl rfl rfl) (pmk_xf (ok_RunFault___init__ T) (hr.mono (by decide)) (by exact (pa_cons (pe_gi T.c_OUT_OF_RANGE) pa_nil))))) pss_nil) (pss_one (ps_ret (pv 0)))), ?_⟩
    unfold Na.held at kE k
    refine ifS_p (p := !(decide (-9999 ≤ x) && decide (x ≤ 9999))) (tNot_p fun Q h' => ?_) (fun c => ?_) (fun c => ?_)
    · refine ⟨_, rfl, _, rfl, _, _, rfl, rfl, _, rfl, ?_⟩
      refine ite2 (fun c => ?_) (fun c => ?_)
      · refine ⟨_, _, rfl, rfl, _, rfl, ?_⟩
        rw [show decide (-9999 ≤ x) = true from c, Bool.true_and] at h'
        exact h'
      · refine ⟨_, rfl, ?_⟩
        rw [show decide (-9999 ≤ x) = false from Bool.eq_false_iff.mpr c, Bool.false_and] at h'
        exact h'
    · have hc : ¬ (-9999 ≤ x ∧ x ≤ 9999) := by
        simp only [Bool.not_eq_true', Bool.and_eq_false_iff, decide_eq_false_iff_not] at c
        omega
      rw [if_neg hc] at kE
      exact rfault_in fun d H' s e => kE 3 rfl d H' (chgS s) e
    · have hc : -9999 ≤ x ∧ x ≤ 9999 := by
        simp only [Bool.not_eq_false', Bool.and_eq_true, decide_eq_true_eq] at c
        omega
      rw [if_pos hc] at k
      exact ⟨_, rfl, k _ rfl⟩
def jn (c x y : Int) : Int := if c = 42 then x * y else if c = 43 then x + y else x - y
def spJoined (R : Addr) : Sp := fun vs H Q E => ∃ c x y : Int, vs = [.int c, .int x, .int y] ∧ (-9999 ≤ x ∧ x ≤ 9999) ∧ (-9999 ≤ y ∧ y ≤ 9999) ∧ (∀ k, Na.held (jn c x y) = .error k → FK R E H [] k) ∧ ∀ z, Na.held (jn c x y) = .ok z → Q (.int z) H
theorem ok_joined (T : Txt K mg cFault cRunFault cTooLong cBeadFrame cReader cLines cRun) : Df P w K mg base (L2.CX P w) 4 "joined" ["byte", "left", "right"] (spJoined cRunFault) := by
  refine df_mk T.d_joined fun f fd F => F.okX sc_joined (fun vs H Q E h => ?_) (fun cdv A outer s H vs Q E hr h => ?_)
  · obtain ⟨c, x, y, rfl, _⟩ := h
    rfl
  · obtain ⟨c, x, y, rfl, hx, hy, kE, k⟩ := h
    refine ⟨_, (pss_cons (ps_if (pt_cmpR op_eq (pv 0) (pe_gi T.c_TIMES) (nomark _)) (pss_one (ps_ret (pe_df (ok_in_range T) (hr.mono (by decide)) (passE (takes_of rfl rfl rfl rfl)) (by exact (pa_cons (pe_op op_mul (pv 1) (pv 2)) pa_nil))))) pss_nil) (pss_one (ps_ret (pe_df (ok_in_range T) (hr.mono (by decide)) (passE (takes_of rfl rfl rfl rfl)) (by exact (pa_cons (pe_ifExp (pt_cmpR op_eq (pv 0) (pe_gi T.c_PLUS) (nomark _)) (pe_op op_add (pv 1) (pv 2)) (pe_op op_sub (pv 1) (pv 2))) pa_nil)))))), ?_⟩
    unfold jn at kE k
    refine ⟨_, rfl, rfl, _, rfl, ?_⟩
    by_cases h42 : c = 42
    · refine ite2 (fun _ => ?_) (fun n => absurd (decide_eq_true (by rw [h42])) n)
      rw [if_pos h42] at kE k
      exact ⟨_, rfl, _, rfl, _, _, rfl, rfl, .inl ⟨by omega, by omega⟩, _, rfl, kE, k⟩
    · refine ite2 (fun n => absurd (V.int.inj (of_decide_eq_true n)) h42) (fun _ => ?_)
      rw [if_neg h42] at kE k
      refine ⟨_, rfl, rfl, _, rfl, ?_⟩
      by_cases h43 : c = 43
      · refine ite2 (fun _ => ?_) (fun n => absurd (decide_eq_true (by rw [h43])) n)
        rw [if_pos h43] at kE k
        exact ⟨_, rfl, _, rfl, _, _, rfl, rfl, _, rfl, kE, k⟩
      · refine ite2 (fun n => absurd (V.int.inj (of_decide_eq_true n)) h43) (fun _ => ?_)
        rw [if_neg h43] at kE k
        exact ⟨_, rfl, _, rfl, _, _, rfl, rfl, _, rfl, kE, k⟩
theorem post_ok : ∀ e : Na.Ex, nok e → ∀ it ∈ post e, 0 ≤ it.2 ∧ it.2 ≤ 9999
  | .num n, h, it, hi => by
    have : it = (0, (n : Int)) := by simpa [post] using hi
    subst this
    have h : n ≤ 9999 := h
    show 0 ≤ (n : Int) ∧ (n : Int) ≤ 9999
    omega
  | .head n, h, it, hi => by
    have : it = (1, (n : Int)) := by simpa [post] using hi
    subst this
    have h : n < 8 := h
    show 0 ≤ (n : Int) ∧ (n : Int) ≤ 9999
    omega
  | .mark n, h, it, hi => by
    have : it = (2, (n : Int)) := by simpa [post] using hi
    subst this
    have h : n < 8 := h
    show 0 ≤ (n : Int) ∧ (n : Int) ≤ 9999
    omega
  | .rod e, h, it, hi => by
    rcases List.mem_append.mp (show it ∈ post e ++ [(3, 0)] from hi) with m | m
    · exact post_ok e h it m
    · have : it = (3, 0) := by simpa using m
      subst this
      exact ⟨by decide, by decide⟩
  | .par e, h, it, hi => post_ok e h it hi
  | .times a b, h, it, hi => by
    rcases List.mem_append.mp (show it ∈ post a ++ post b ++ [(42, 0)] from hi) with m | m
    · rcases List.mem_append.mp m with m | m
      · exact post_ok a h.1 it m
      · exact post_ok b h.2 it m
    · have : it = (42, 0) := by simpa using m
      subst this
      exact ⟨by decide, by decide⟩
  | .plus a b, h, it, hi => by
    rcases List.mem_append.mp (show it ∈ post a ++ post b ++ [(43, 0)] from hi) with m | m
    · rcases List.mem_append.mp m with m | m
      · exact post_ok a h.1 it m
      · exact post_ok b h.2 it m
    · have : it = (43, 0) := by simpa using m
      subst this
      exact ⟨by decide, by decide⟩
  | .minus a b, h, it, hi => by
    rcases List.mem_append.mp (show it ∈ post a ++ post b ++ [(45, 0)] from hi) with m | m
    · rcases List.mem_append.mp m with m | m
      · exact post_ok a h.1 it m
      · exact post_ok b h.2 it m
    · have : it = (45, 0) := by simpa using m
      subst this
      exact ⟨by decide, by decide⟩
/-! ### the run as it stands -/
structure RU where
  g : Addr
  dx : Addr
  hd : Addr
  ma : Addr
  r : Addr
  L : Lno
  s : LS
  marks : List Nat
  Z : Frm
def fU (fr la mk hd : Addr) (at_ st : Int) : List (Str × V) := [("frame", .ref fr), ("lines", .ref la), ("marks", .ref mk), ("heads", .ref hd), ("at", .int at_), ("steps", .int st)]
theorem fU_frame (fr la mk hd : Addr) (at_ st : Int) : (fU fr la mk hd at_ st).lookup ("frame" : Str) = some (.ref fr) := lk_eq
theorem fU_lines (fr la mk hd : Addr) (at_ st : Int) : (fU fr la mk hd at_ st).lookup ("lines" : Str) = some (.ref la) := by
  unfold fU
  rw [lk_ne (by decide +kernel), lk_eq]
theorem fU_marks (fr la mk hd : Addr) (at_ st : Int) : (fU fr la mk hd at_ st).lookup ("marks" : Str) = some (.ref mk) := by
  unfold fU
  rw [lk_ne (by decide +kernel), lk_ne (by decide +kernel), lk_eq]
theorem fU_heads (fr la mk hd : Addr) (at_ st : Int) : (fU fr la mk hd at_ st).lookup ("heads" : Str) = some (.ref hd) := by
  unfold fU
  rw [lk_ne (by decide +kernel), lk_ne (by decide +kernel), lk_ne (by decide +kernel), lk_eq]
theorem fU_at (fr la mk hd : Addr) (at_ st : Int) : (fU fr la mk hd at_ st).lookup ("at" : Str) = some (.int at_) := by
  unfold fU
  rw [lk_ne (by decide +kernel), lk_ne (by decide +kernel), lk_ne (by decide +kernel), lk_ne (by decide +kernel), lk_eq]
theorem fU_steps (fr la mk hd : Addr) (at_ st : Int) : (fU fr la mk hd at_ st).lookup ("steps" : Str) = some (.int st) := by
  unfold fU
  rw [lk_ne (by decide +kernel), lk_ne (by decide +kernel), lk_ne (by decide +kernel), lk_ne (by decide +kernel), lk_ne (by decide +kernel), lk_eq]
theorem fU_no (fr la mk hd : Addr) (at_ st : Int) {m : Str} (h1 : m ≠ "frame") (h2 : m ≠ "lines") (h3 : m ≠ "marks") (h4 : m ≠ "heads") (h5 : m ≠ "at") (h6 : m ≠ "steps") : (fU fr la mk hd at_ st).lookup m = none := by
  unfold fU
  rw [lk_ne h1, lk_ne h2, lk_ne h3, lk_ne h4, lk_ne h5, lk_ne h6]; rfl
theorem fU_putA (fr la mk hd : Addr) (at_ st x : Int) : putF "at" (.int x) (fU fr la mk hd at_ st) = fU fr la mk hd x st := by
  unfold fU
  rw [pf_ne (by decide +kernel), pf_ne (by decide +kernel), pf_ne (by decide +kernel), pf_ne (by decide +kernel), pf_eq]
theorem fU_putS (fr la mk hd : Addr) (at_ st x : Int) : putF "steps" (.int x) (fU fr la mk hd at_ st) = fU fr la mk hd at_ x := by
  unfold fU
  rw [pf_ne (by decide +kernel), pf_ne (by decide +kernel), pf_ne (by decide +kernel), pf_ne (by decide +kernel), pf_ne (by decide +kernel), pf_eq]
structure RunAt (K : PySem.W.Frag) (C CL CF : Addr) (H0 Hb : Hp) (U : RU) (H : Hp) (a : Na.Now FS) (n : Nat) : Prop where
  base : Same Hb H
  lines : LnAt K CL H0 U.r U.L Hb U.s
  gob : H U.g = some (.ins C U.dx (fU U.Z.a U.L.a U.ma U.hd (a.line : Int) (n : Int)))
  hob : H U.hd = some (.lst (nvs a.heads))
  new : ∀ x ∈ U.g :: U.hd :: U.Z.own, Hb x = none
  gn : U.g ∉ U.Z.own
  go : U.Z.Out U.g
  ho : U.Z.Out U.hd
  hn : U.hd ∉ U.Z.own
  fr : FrAt K CF U.Z H a.on
  mf : Fz K Hb U.ma (nvs U.marks)
  h8 : a.heads.length = 8
  hh : ∀ k, a.heads.getD k 0 ≤ 99
  m8 : U.marks.length = 8
  mh : ∀ k, U.marks.getD k 0 ≤ 63
theorem RunAt.same {C CL CF : Addr} {H0 Hb H H' : Hp} {U : RU} {a : Na.Now FS} {n : Nat} (h : RunAt K C CL CF H0 Hb U H a n) (s : Same H H') : RunAt K C CL CF H0 Hb U H' a n :=
  { h with base := fun b o e => s b o (h.base b o e), gob := s _ _ h.gob, hob := s _ _ h.hob, fr := h.fr.chg (chgS s : Chg [] H H') (fun _ _ => by simp) (fun x hx => by cases hx) }
theorem RunAt.ins {C CL CF : Addr} {H0 Hb H : Hp} {U : RU} {a : Na.Now FS} {n : Nat} {m : Str} (h : RunAt K C CL CF H0 Hb U H a n) (h1 : m ≠ "frame" := by decide +kernel) (h2 : m ≠ "lines" := by decide +kernel) (h3 : m ≠ "marks" := by decide +kernel) (h4 : m ≠ "heads" := by decide +kernel) (h5 : m ≠ "at" := by decide +kernel) (h6 : m ≠ "steps" := by decide +kernel) : Ins H U.g C m := ⟨_, _, h.gob, fU_no _ _ _ _ _ _ h1 h2 h3 h4 h5 h6⟩
section
variable {CL CF : Addr} {H0 Hb H : Hp} {U : RU} {a : Na.Now FS} {n : Nat}
theorem RunAt.ffr (T : Txt K mg cFault cRunFault cTooLong cBeadFrame cReader cLines cRun) (h : RunAt K cRun CL CF H0 Hb U H a n) : Fld K H U.g "frame" (.ref U.Z.a) := ⟨_, _, _, h.gob, T.cl_Run, T.na_Run_frame, fU_frame _ _ _ _ _ _⟩
theorem RunAt.fli (T : Txt K mg cFault cRunFault cTooLong cBeadFrame cReader cLines cRun) (h : RunAt K cRun CL CF H0 Hb U H a n) : Fld K H U.g "lines" (.ref U.L.a) := ⟨_, _, _, h.gob, T.cl_Run, T.na_Run_lines, fU_lines _ _ _ _ _ _⟩
theorem RunAt.fmk (T : Txt K mg cFault cRunFault cTooLong cBeadFrame cReader cLines cRun) (h : RunAt K cRun CL CF H0 Hb U H a n) : Fld K H U.g "marks" (.ref U.ma) := ⟨_, _, _, h.gob, T.cl_Run, T.na_Run_marks, fU_marks _ _ _ _ _ _⟩
theorem RunAt.fhd (T : Txt K mg cFault cRunFault cTooLong cBeadFrame cReader cLines cRun) (h : RunAt K cRun CL CF H0 Hb U H a n) : Fld K H U.g "heads" (.ref U.hd) := ⟨_, _, _, h.gob, T.cl_Run, T.na_Run_heads, fU_heads _ _ _ _ _ _⟩
theorem RunAt.fat (T : Txt K mg cFault cRunFault cTooLong cBeadFrame cReader cLines cRun) (h : RunAt K cRun CL CF H0 Hb U H a n) : Fld K H U.g "at" (.int (a.line : Int)) := ⟨_, _, _, h.gob, T.cl_Run, T.na_Run_at, fU_at _ _ _ _ _ _⟩
theorem RunAt.fst (T : Txt K mg cFault cRunFault cTooLong cBeadFrame cReader cLines cRun) (h : RunAt K cRun CL CF H0 Hb U H a n) : Fld K H U.g "steps" (.int (n : Int)) := ⟨_, _, _, h.gob, T.cl_Run, T.na_Run_steps, fU_steps _ _ _ _ _ _⟩
theorem RunAt.ln (h : RunAt K cRun CL CF H0 Hb U H a n) : LnAt K CL H0 U.r U.L H U.s := h.lines.same h.base
end
def spWorked (K : PySem.W.Frag) (C CL CF R : Addr) : Sp := fun vs H Q E => ∃ (H0 Hb : Hp) (U : RU) (a : Na.Now FS) (n : Nat) (l : Addr) (vf : List V) (e : Na.Ex), vs = [.ref U.g, .ref l] ∧ RunAt K C CL CF H0 Hb U H a n ∧ H l = some (.lst vf) ∧ Its K H vf (post e) ∧ nok e ∧ (post e).length ≤ 5000 ∧
  (∀ k, e.value (brdZ U.Z) U.marks a = .error k → FK R E H [] k) ∧ ∀ x, e.value (brdZ U.Z) U.marks a = .ok x → ∀ H', Same H H' → Q (.int x) H'
theorem ok_Run_worked_out (T : Txt K mg cFault cRunFault cTooLong cBeadFrame cReader cLines cRun) : Mf P w K mg base (L2.CX P w) 5 cRun "worked_out" ["self", "items"] (spWorked K cRun cLines cBeadFrame cRunFault) := by
  refine mf_mk T.cl_Run T.d_Run_worked_out fun f fd F => F.okX sc_Run_worked_out (fun vs H Q E h => ?_) (fun cdv A outer s H vs Q E hr h => ?_)
  · obtain ⟨H0, Hb, U, a, n, l, vf, e, rfl, _⟩ := h
    rfl
  · obtain ⟨H0, Hb, U, a, n, l, vf, e, rfl, h, hl, hi, hn, hlen, kE, k⟩ := h
    refine ⟨_, (pss_cons (ps_set (i := 2) sc_Run_worked_out.nd rfl (Or.inl rfl) (pe_lst pa_nil)) (pss_cons (ps_for (passes_of rfl) rfl (pi_list (pv 1)) (pg_tup rfl (pgs_cons (pg_name (i := 3) sc_Run_worked_out.nd rfl (Or.inl rfl)) (pgs_cons (pg_name (i := 4) sc_Run_worked_out.nd rfl (Or.inl rfl)) pgs_nil))) (pss_one (ps_if (pt_cmpR op_eq (pv 3) (pe_gi T.c_NUMBER) (nomark _)) (pss_one (ps_expr (pe_bm PySem.F.plainAttrs_list PySem.F.slot_list_append PySem.F.type_list_append mt_append (pv 2) (pa_cons (pv 4) pa_nil)))) (pss_one (ps_if (pt_cmpR op_eq (pv 3) (pe_gi T.c_HEAD) (nomark _)) (pss_one (ps_expr (pe_bm PySem.F.plainAttrs_list PySem.F.slot_list_append PySem.F.type_list_append mt_append (pv 2) (pa_cons (pe_ix ix_list (pe_get (pv 0)) (pv 4) (fun _ _ => rfl)) pa_nil)))) (pss_one (ps_if (pt_cmpR op_eq (pv 3) (pe_gi T.c_MARK) (nomark _)) (pss_one (ps_expr (pe_bm PySem.F.plainAttrs_list PySem.F.slot_list_append PySem.F.type_list_append mt_append (pv 2) (pa_cons (pe_ix ix_list (pe_get (pv 0)) (pv 4) (fun _ _ => rfl)) pa_nil)))) (pss_one (ps_if (pt_cmpR op_eq (pv 3) (pe_gi T.c_DIGIT) (nomark _)) (pss_one (ps_expr (pe_bm PySem.F.plainAttrs_list PySem.F.slot_list_append PySem.F.type_list_append mt_append (pv 2) (pa_cons (pe_mf (ok_BeadFrame_digit T) (hr.mono (by decide)) (passE (takes_of rfl rfl rfl rfl)) (pe_get (pv 0)) (by exact (pa_cons (pe_bm0 PySem.F.plainAttrs_list PySem.F.slot_list_pop PySem.F.type_list_pop mt_pop (pv 2)) pa_nil))) pa_nil)))) (pss_cons (ps_set (i := 5) sc_Run_worked_out.nd rfl (Or.inl rfl) (pe_bm0 PySem.F.plainAttrs_list PySem.F.slot_list_pop PySem.F.type_list_pop mt_pop (pv 2))) (pss_one (ps_expr (pe_bm PySem.F.plainAttrs_list PySem.F.slot_list_append PySem.F.type_list_append mt_append (pv 2) (pa_cons (pe_df (ok_joined T) (hr.mono (by decide)) (passE (takes_of rfl rfl rfl rfl)) (by exact (pa_cons (pv 3) (pa_cons (pe_bm0 PySem.F.plainAttrs_list PySem.F.slot_list_pop PySem.F.type_list_pop mt_pop (pv 2)) (pa_cons (pv 5) pa_nil))))) pa_nil)))))))))))))) (pss_one (ps_ret (pe_ix ix_list (pv 2) (pe_un un_neg pe_int) (fun _ _ => rfl)))))), ?_⟩
    refine ⟨Nat.zero_le _, fun wl hwl => ?_⟩
    have c0 : Chg [wl] H (upd H wl (.lst [])) := chgS (same_lst hwl)
    have sm : ∀ {H'}, Chg [wl] H H' → Same H H' := fun c b o e => c.1 b o (by simpa using ne_of_none e hwl) e
    have lw : l ≠ wl := ne_of_none hl hwl
    have hF := ev_is (b := brdZ U.Z) (marks := U.marks) (a := a) h.fr.look h.h8 (fun k => Nat.le_trans (h.hh k) (by decide)) h.m8 (fun k => Nat.le_trans (h.mh k) (by decide)) e hn [] []
    rw [List.append_nil] at hF
    have hFl : evS (digOf (brdZ U.Z) a.on) (vis8 a.heads) (vis8 U.marks) (post e) [] ≠ .lost := by
      rw [hF]
      cases e.value (brdZ U.Z) U.marks a <;> intro z <;> cases z
    have kB : ∀ kk, evS (digOf (brdZ U.Z) a.on) (vis8 a.heads) (vis8 U.marks) (post e) [] = .bad kk → FK cRunFault E H [] kk := fun kk z => by
      rw [hF] at z
      cases hv : e.value (brdZ U.Z) U.marks a with
      | error k' => rw [hv] at z; cases z; exact kE _ hv
      | ok x => rw [hv] at z; cases z
    have lvf := Paired.length hi
    refine ⟨_, rfl, l, rfl, ⟨_, SqL.of (sm c0 _ _ hl)⟩, ?_⟩
    refine for_list (K := K) (a := l) (xs := vf) (fun i σ H' => ∃ w x3 x4 x5, σ = [some (.ref U.g), some (.ref l), some (.ref wl), x3, x4, x5] ∧ Chg [wl] H H' ∧ H' wl = some (.lst (stk w)) ∧ w.length ≤ i ∧ (∀ x ∈ w, -9999 ≤ x ∧ x ≤ 9999) ∧ evS (digOf (brdZ U.Z) a.on) (vis8 a.heads) (vis8 U.marks) ((post e).drop i) w = evS (digOf (brdZ U.Z) a.on) (vis8 a.heads) (vis8 U.marks) (post e) [])
      ⟨[], none, none, none, rfl, c0, upd_same, Nat.le_refl _, fun _ hx => (by cases hx), rfl⟩ (fun i σ H' _ ⟨_, _, _, _, _, c, _⟩ => SqL.of (sm c _ _ hl)) ?_ ?_
    · rintro i x σ H1 hx ⟨wk, x3, x4, x5, rfl, c1, hw, hwl2, hwb, hev⟩
      obtain ⟨⟨kd, nm⟩, hit, q, rfl, hq⟩ := paired_at hi hx
      have hil : i < (post e).length := (List.getElem?_eq_some_iff.mp hit).1
      have hio := post_ok e hn _ (List.mem_of_getElem? hit)
      dsimp only at hio
      rw [drop_cons hit, evS_cons] at hev
      have h1 := h.same (sm c1)
      refine ⟨q, _, rfl, (Chg.tup c1 hq), rfl, _, _, rfl, _, _, rfl, rfl, ?_⟩
      have push : ∀ {H2 : Hp} (w2 : List Int) (z : Int), Chg [wl] H H2 → H2 wl = some (.lst (stk w2)) → w2.length ≤ i → (-9999 ≤ z ∧ z ≤ 9999) → (∀ x ∈ w2, -9999 ≤ x ∧ x ≤ 9999) → evS (digOf (brdZ U.Z) a.on) (vis8 a.heads) (vis8 U.marks) ((post e).drop (i + 1)) (z :: w2) = evS (digOf (brdZ U.Z) a.on) (vis8 a.heads) (vis8 U.marks) (post e) [] →
          ∃ ys, H2 wl = some (.lst ys) ∧ ys.length < sizeLine ∧ ∀ x5', ∃ w x3 x4 x5, ([some (.ref U.g), some (.ref l), some (.ref wl), some (.int kd), some (.int nm), x5'] : L2.St) = [some (.ref U.g), some (.ref l), some (.ref wl), x3, x4, x5] ∧ Chg [wl] H (upd H2 wl (.lst (ys ++ [.int z]))) ∧ (upd H2 wl (.lst (ys ++ [.int z]))) wl = some (.lst (stk w)) ∧ w.length ≤ i + 1 ∧ (∀ x ∈ w, -9999 ≤ x ∧ x ≤ 9999) ∧ evS (digOf (brdZ U.Z) a.on) (vis8 a.heads) (vis8 U.marks) ((post e).drop (i + 1)) w = evS (digOf (brdZ U.Z) a.on) (vis8 a.heads) (vis8 U.marks) (post e) [] := by
        intro H2 w2 z cc hw2 hl2 hz hb2 hv
        refine ⟨stk w2, hw2, szl (by rw [stk_len]; omega), fun x5' => ⟨z :: w2, _, _, _, rfl, cc.trans ((Chg.refl H2).set (by simp) hw2 (by intro z; exact z)), ?_, by rw [List.length_cons]; omega, fun x hx => ?_, hv⟩⟩
        · rw [upd_same, stk_cons]
        · rcases List.mem_cons.mp hx with e | m
          · rw [e]; exact hz
          · exact hb2 x m
      refine ⟨_, rfl, rfl, _, rfl, ?_⟩
      by_cases k0 : kd = 0
      · refine ite2 (fun _ => ?_) (fun n => absurd (decide_eq_true (by rw [k0])) n)
        rw [if_pos k0] at hev
        obtain ⟨ys, e1, e2, e3⟩ := push wk nm c1 hw hwl2 ⟨by omega, hio.2⟩ hwb hev
        exact ⟨_, rfl, .inl ⟨rfl, _, SqL.of hw⟩, _, rfl, wl, ys, _, rfl, rfl, e1, e2, e3 x5⟩
      refine ite2 (fun n => absurd (V.int.inj (of_decide_eq_true n)) k0) (fun _ => ?_)
      rw [if_neg k0] at hev
      refine ⟨_, rfl, rfl, _, rfl, ?_⟩
      by_cases k1 : kd = 1
      · refine ite2 (fun _ => ?_) (fun n => absurd (decide_eq_true (by rw [k1])) n)
        rw [if_pos k1] at hev
        cases hh : (vis8 a.heads)[nm.toNat]? with
        | none => rw [hh] at hev; exact absurd hev.symm hFl
        | some x =>
          rw [hh] at hev
          obtain ⟨y, hy, rfl⟩ : ∃ y, a.heads[nm.toNat]? = some y ∧ x = (y : Int) := by
            unfold vis8 at hh
            rw [List.getElem?_map] at hh
            cases hq : a.heads[nm.toNat]? with
            | none => rw [hq] at hh; cases hh
            | some y => rw [hq] at hh; exact ⟨y, rfl, (Option.some.inj hh).symm⟩
          have hy99 : y ≤ 99 := by
            have := h.hh nm.toNat
            rw [List.getD_eq_getElem?_getD, hy] at this
            exact this
          obtain ⟨ys, e1, e2, e3⟩ := push wk (y : Int) c1 hw hwl2 ⟨by omega, by omega⟩ hwb hev
          exact ⟨_, rfl, .inl ⟨rfl, _, SqL.of hw⟩, _, rfl, _, _, rfl, h1.fhd T, _, rfl, U.hd, _, _, _, rfl, rfl, SqL.of h1.hob, at_of (j := nm.toNat) (by omega) (nvs_at hy), wl, ys, _, rfl, rfl, e1, e2, e3 x5⟩
      refine ite2 (fun n => absurd (V.int.inj (of_decide_eq_true n)) k1) (fun _ => ?_)
      rw [if_neg k1] at hev
      refine ⟨_, rfl, rfl, _, rfl, ?_⟩
      by_cases k2 : kd = 2
      · refine ite2 (fun _ => ?_) (fun n => absurd (decide_eq_true (by rw [k2])) n)
        rw [if_pos k2] at hev
        cases hh : (vis8 U.marks)[nm.toNat]? with
        | none => rw [hh] at hev; exact absurd hev.symm hFl
        | some x =>
          rw [hh] at hev
          obtain ⟨y, hy, rfl⟩ : ∃ y, U.marks[nm.toNat]? = some y ∧ x = (y : Int) := by
            unfold vis8 at hh
            rw [List.getElem?_map] at hh
            cases hq : U.marks[nm.toNat]? with
            | none => rw [hq] at hh; cases hh
            | some y => rw [hq] at hh; exact ⟨y, rfl, (Option.some.inj hh).symm⟩
          have hy99 : y ≤ 63 := by
            have := h.mh nm.toNat
            rw [List.getD_eq_getElem?_getD, hy] at this
            exact this
          obtain ⟨ys, e1, e2, e3⟩ := push wk (y : Int) c1 hw hwl2 ⟨by omega, by omega⟩ hwb hev
          exact ⟨_, rfl, .inl ⟨rfl, _, SqL.of hw⟩, _, rfl, _, _, rfl, h1.fmk T, _, rfl, U.ma, _, _, _, rfl, rfl, (h1.mf.chg (chgS h1.base : Chg [] _ _)).sq, at_of (j := nm.toNat) (by omega) (nvs_at hy), wl, ys, _, rfl, rfl, e1, e2, e3 x5⟩
      refine ite2 (fun n => absurd (V.int.inj (of_decide_eq_true n)) k2) (fun _ => ?_)
      rw [if_neg k2] at hev
      refine ⟨_, rfl, rfl, _, rfl, ?_⟩
      by_cases k3 : kd = 3
      · refine ite2 (fun _ => ?_) (fun n => absurd (decide_eq_true (by rw [k3])) n)
        rw [if_pos k3] at hev
        cases wk with
        | nil => exact absurd hev.symm hFl
        | cons x wk =>
          dsimp only at hev
          rw [List.length_cons] at hwl2
          refine ⟨_, rfl, .inl ⟨rfl, _, SqL.of hw⟩, _, rfl, _, _, rfl, h1.ffr T, U.Z.a, rfl, h1.fr.ins, _, rfl, .inl ⟨rfl, _, SqL.of hw⟩, wl, _, _, rfl, rfl, hw, stk_last x wk, ?_⟩
          rw [stk_drop]
          have cp : Chg [wl] H1 (upd H1 wl (.lst (stk wk))) := (Chg.refl H1).set (by simp) hw (by intro z; exact z)
          have c2 := c1.trans cp
          have h2 := h.same (sm c2)
          refine ⟨U.Z, a.on, x, rfl, h2.fr, fun kk ed => ?_, fun d ed H3 s3 => ?_⟩
          · rw [ed] at hev
            exact (kB kk hev.symm).sub (chgS (sm c2)) (by simp)
          · rw [ed] at hev
            have hd : -9999 ≤ d ∧ d ≤ 9999 := by
              unfold digOf at ed
              cases hr1 : Na.rodIn (brdZ U.Z).rods x with
              | error k' => rw [hr1] at ed; cases ed
              | ok i' =>
                rw [hr1] at ed
                dsimp only at ed
                cases hlk : (brdZ U.Z).look a.on i' with
                | error k' => rw [hlk] at ed; cases ed
                | ok d' =>
                  rw [hlk] at ed
                  have := h.fr.look i' d' hlk
                  cases ed
                  omega
            obtain ⟨ys, e1, e2, e3⟩ := push wk d (c2.trans (chgS s3)) (s3 _ _ upd_same) (by omega) hd (fun y hy => hwb y (List.mem_cons_of_mem _ hy)) hev
            exact ⟨wl, ys, _, rfl, rfl, e1, e2, e3 x5⟩
      refine ite2 (fun n => absurd (V.int.inj (of_decide_eq_true n)) k3) (fun _ => ?_)
      rw [if_neg k3] at hev
      match wk, hw, hwl2, hwb, hev with
      | [], _, _, _, hev => exact absurd hev.symm hFl
      | [_], _, _, _, hev => exact absurd hev.symm hFl
      | y :: x :: wk, hw, hwl2, hwb, hev =>
        dsimp only at hev
        rw [List.length_cons, List.length_cons] at hwl2
        refine ⟨_, rfl, .inl ⟨rfl, _, SqL.of hw⟩, wl, _, _, rfl, rfl, hw, stk_last y (x :: wk), ?_⟩
        rw [stk_drop]
        have cp : Chg [wl] H1 (upd H1 wl (.lst (stk (x :: wk)))) := (Chg.refl H1).set (by simp) hw (by intro z; exact z)
        have hw2 : (upd H1 wl (.lst (stk (x :: wk)))) wl = some (.lst (stk (x :: wk))) := upd_same
        refine ⟨_, rfl, .inl ⟨rfl, _, SqL.of hw2⟩, _, rfl, _, rfl, .inl ⟨rfl, _, SqL.of hw2⟩, wl, _, _, rfl, rfl, hw2, stk_last x wk, ?_⟩
        rw [stk_drop]
        have cp2 : Chg [wl] H1 (upd (upd H1 wl (.lst (stk (x :: wk)))) wl (.lst (stk wk))) := cp.set (by simp) hw2 (by intro z; exact z)
        have c2 := c1.trans cp2
        refine ⟨_, rfl, kd, x, y, rfl, hwb x (by simp), hwb y (by simp), fun kk ed => ?_, fun z ed => ?_⟩
        · have ed : Na.held (if kd = 42 then x * y else if kd = 43 then x + y else x - y) = .error kk := ed
          rw [ed] at hev
          exact (kB kk hev.symm).sub (chgS (sm c2)) (by simp)
        · have ed' : Na.held (if kd = 42 then x * y else if kd = 43 then x + y else x - y) = .ok z := ed
          rw [ed'] at hev
          have hz := held_is ed'
          obtain ⟨ys, e1, e2, e3⟩ := push wk z c2 upd_same (by omega) (by rw [hz.1]; exact hz.2) (fun y hy => hwb y (by simp [hy])) hev
          exact ⟨wl, ys, _, rfl, rfl, e1, e2, e3 _⟩
    · rintro σ H1 ⟨wk, x3, x4, x5, rfl, c1, hw, hwl2, hwb, hev⟩
      rw [lvf, List.drop_length, hF] at hev
      cases hv : e.value (brdZ U.Z) U.marks a with
      | error k' => rw [hv] at hev; cases hev
      | ok x =>
        rw [hv] at hev
        have hev : wk = [x] := Ab.R.ok.inj hev
        subst hev
        exact ⟨_, rfl, _, rfl, wl, _, _, _, rfl, rfl, SqL.of hw, rfl, k x hv H1 (sm c1)⟩
end
end Ab
/-! ## The walk: a run's lines -/
namespace Ab
open PySem PySem.Spec PyProof.Rows L2
section
variable {P : Program} {w : World} {K : PySem.W.Frag} {mg : Str → Option Value} {base : Heap} {cFault cRunFault cTooLong cBeadFrame cReader cLines cRun : Addr}
section
variable {C CL CF : Addr} {H0 Hb H H' : Hp} {U : RU} {a : Na.Now FS} {n : Nat}
theorem RunAt.frame (h : RunAt K C CL CF H0 Hb U H a n) {v : FS} (c : Chg U.Z.own H H') (hf : FrAt K CF U.Z H' v) : RunAt K C CL CF H0 Hb U H' { a with on := v } n :=
  { base := fun b o e => c.1 b o (fun m => by rw [h.new b (by simp [m])] at e; cases e) (h.base b o e), lines := h.lines, gob := c.1 _ _ h.gn h.gob, hob := c.1 _ _ h.hn h.hob, new := h.new, gn := h.gn, hn := h.hn, go := h.go, ho := h.ho, fr := hf, mf := h.mf, h8 := h.h8, hh := h.hh, m8 := h.m8, mh := h.mh }
theorem RunAt.heads (h : RunAt K C CL CF H0 Hb U H a n) {i v : Nat} (hv : v ≤ 99) : RunAt K C CL CF H0 Hb U (upd H U.hd (.lst (nvs (a.heads.set i v)))) { a with heads := a.heads.set i v } n := by
  have c : Chg [U.hd] H (upd H U.hd (.lst (nvs (a.heads.set i v)))) := (Chg.refl H).set (by simp) h.hob (by intro z; exact z)
  refine { base := fun b o e => c.1 b o (fun m => ?_) (h.base b o e), lines := h.lines, gob := (upd_ne (ne_of h.gob h.hob (by intro z; cases z))).trans h.gob, hob := upd_same, new := h.new, gn := h.gn, hn := h.hn, go := h.go, ho := h.ho, fr := h.fr.chg c (fun x hx m => ?_) (fun x hx => (show x = U.hd from by simpa using hx) ▸ h.ho), mf := h.mf, h8 := (List.length_set ..).trans h.h8, hh := fun k => ?_, m8 := h.m8, mh := h.mh }
  · have : b = U.hd := by simpa using m
    rw [h.new b (by simp [this])] at e; cases e
  · have : x = U.hd := by simpa using m
    exact h.hn (this ▸ hx)
  · show (a.heads.set i v).getD k 0 ≤ 99
    rw [List.getD_eq_getElem?_getD]
    by_cases e : i = k
    · subst e
      by_cases hi : i < a.heads.length
      · rw [List.getElem?_set_self hi]; exact hv
      · rw [List.getElem?_eq_none (by rw [List.length_set]; omega)]; exact Nat.zero_le _
    · rw [List.getElem?_set_ne e, ← List.getD_eq_getElem?_getD]
      exact h.hh k
end
theorem hold_cons {σ : Type} {b : Na.Board σ} {marks : List Nat} {a : Na.Now σ} (t : Na.Test) (l : List Na.Test) : Na.holds b marks a (t :: l) = match t.a.value b marks a with
    | .error k => .error k
    | .ok x => match t.b.value b marks a with
      | .error k => .error k
      | .ok y => if t.cmp.holds x y = true then Na.holds b marks a l else .ok false := by
  show (do let x ← t.a.value b marks a; let y ← t.b.value b marks a; if t.cmp.holds x y = true then Na.holds b marks a l else return false) = _
  cases t.a.value b marks a with
  | error k => rfl
  | ok x =>
    show (do let y ← t.b.value b marks a; if t.cmp.holds x y = true then Na.holds b marks a l else return false) = _
    dsimp only
    cases t.b.value b marks a with
    | error k => rfl
    | ok y => rfl
theorem tri_at (c : Na.Cmp) (x y : Int) : atI (triV (tri c)) ((if decide (y ≤ x) = true then 1 else 0) + (if decide (y < x) = true then 1 else 0)) = some (.bl (c.holds x y)) := by
  rcases Int.lt_trichotomy x y with h | h | h
  · rw [if_neg (by simp; omega), if_neg (by simp; omega)]
    cases c <;> simp [tri, triV, Na.Cmp.holds, atI, ixN] <;> omega
  · subst h
    rw [if_pos (by simp), if_neg (by simp)]
    cases c <;> simp [tri, triV, Na.Cmp.holds, atI, ixN]
  · rw [if_pos (by simp; omega), if_pos (by simp; omega)]
    cases c <;> simp [tri, triV, Na.Cmp.holds, atI, ixN] <;> omega
def spIsSo (K : PySem.W.Frag) (C CL CF R : Addr) : Sp := fun vs H Q E => ∃ (H0 Hb : Hp) (U : RU) (a : Na.Now FS) (n : Nat) (l : Addr) (vt : List V) (ts : List Na.Test) (N : Addr → Prop), vs = [.ref U.g, .ref l] ∧ RunAt K C CL CF H0 Hb U H a n ∧ H l = some (.lst vt) ∧ TestsAt K N H vt (ts.map ttest) ∧ TOK 5000 ts ∧
  (∀ k, Na.holds (brdZ U.Z) U.marks a ts = .error k → FK R E H [] k) ∧ ∀ x, Na.holds (brdZ U.Z) U.marks a ts = .ok x → ∀ H', Same H H' → Q (.bl x) H'
theorem ok_Run_is_so (T : Txt K mg cFault cRunFault cTooLong cBeadFrame cReader cLines cRun) : Mf P w K mg base (L2.CX P w) 6 cRun "is_so" ["self", "tests"] (spIsSo K cRun cLines cBeadFrame cRunFault) := by
  refine mf_mk T.cl_Run T.d_Run_is_so fun f fd F => F.okX sc_Run_is_so (fun vs H Q E h => ?_) (fun cdv A outer s H vs Q E hr h => ?_)
  · obtain ⟨H0, Hb, U, a, n, l, vf, ts, N, rfl, _⟩ := h
    rfl
  · obtain ⟨H0, Hb, U, a, n, l, vt, ts, N, rfl, h, hl, ht, hk, kE, k⟩ := h
    refine ⟨_, (pss_cons (ps_for (passes_of rfl) rfl (pi_list (pv 1)) (pg_tup rfl (pgs_cons (pg_name (i := 2) sc_Run_is_so.nd rfl (Or.inl rfl)) (pgs_cons (pg_name (i := 3) sc_Run_is_so.nd rfl (Or.inl rfl)) (pgs_cons (pg_name (i := 4) sc_Run_is_so.nd rfl (Or.inl rfl)) pgs_nil)))) (pss_cons (ps_set (i := 5) sc_Run_is_so.nd rfl (Or.inl rfl) (pe_mf (ok_Run_worked_out T) (hr.mono (by decide)) (passE (takes_of rfl rfl rfl rfl)) (pv 0) (by exact (pa_cons (pv 2) pa_nil)))) (pss_cons (ps_set (i := 6) sc_Run_is_so.nd rfl (Or.inl rfl) (pe_mf (ok_Run_worked_out T) (hr.mono (by decide)) (passE (takes_of rfl rfl rfl rfl)) (pv 0) (by exact (pa_cons (pv 4) pa_nil)))) (pss_one (ps_if (pt_not (pt_val (pe_ix ix_tup (pv 3) (pe_op op_add (pe_callTy call_int1 (by rfl) T.n_int (by decide +kernel) (pa_cons (pe_cmpR op_ge (pv 5) (pv 6) (nomark _)) pa_nil)) (pe_callTy call_int1 (by rfl) T.n_int (by decide +kernel) (pa_cons (pe_cmpR op_gt (pv 5) (pv 6) (nomark _)) pa_nil))) (fun _ _ => rfl)))) (pss_one (ps_ret pe_bl)) pss_nil))))) (pss_one (ps_ret pe_bl))), ?_⟩
    refine ⟨_, rfl, l, rfl, ⟨_, SqL.of hl⟩, ?_⟩
    refine for_list (K := K) (a := l) (xs := vt) (fun i σ H' => ∃ x2 x3 x4 x5 x6, σ = [some (.ref U.g), some (.ref l), x2, x3, x4, x5, x6] ∧ Same H H' ∧ Na.holds (brdZ U.Z) U.marks a (ts.drop i) = Na.holds (brdZ U.Z) U.marks a ts)
      ⟨none, none, none, none, none, rfl, fun _ _ e => e, rfl⟩ (fun i σ H' _ ⟨_, _, _, _, _, _, s1, _⟩ => SqL.of (s1 _ _ hl)) ?_ ?_
    · rintro i x σ H1 hx ⟨x2, x3, x4, x5, x6, rfl, s1, hev⟩
      obtain ⟨tt, hti, q, la, ya, ra, rfl, hq, hL, hy, hR⟩ := paired_at ht hx
      obtain ⟨t, hti2, rfl⟩ : ∃ t, ts[i]? = some t ∧ tt = ttest t := by
        rw [List.getElem?_map] at hti
        cases hh : ts[i]? with
        | none => rw [hh] at hti; cases hti
        | some t => rw [hh] at hti; exact ⟨t, rfl, (Option.some.inj hti).symm⟩
      obtain ⟨tk1, tk2⟩ := hk t (List.mem_of_getElem? hti2)
      rw [drop_cons hti2, hold_cons] at hev
      have c1 : Chg [] H H1 := chgS s1
      have hL1 := hL.chg c1 (by simp)
      obtain ⟨_, vL, eL, iL⟩ := hL1
      refine ⟨q, _, rfl, c1.tup hq, rfl, _, _, rfl, _, _, rfl, _, _, rfl, rfl, ?_⟩
      have h1 := h.same s1
      refine ⟨_, rfl, U.g, rfl, h1.ins, _, rfl, H0, Hb, U, a, n, la, vL, t.a, rfl, h1, eL, iL, tk1.1, tk1.2, fun kk e => ?_, fun one e H2 s2 => ?_⟩
      · rw [e] at hev
        exact (kE kk hev.symm).sub c1 (by simp)
      rw [e] at hev
      dsimp only at hev
      have s12 : Same H H2 := fun b o e => s2 b o (s1 b o e)
      have c2 : Chg [] H H2 := chgS s12
      obtain ⟨_, vR, eR, iR⟩ := hR.chg c2 (by simp)
      have h2 := h.same s12
      refine ⟨_, rfl, U.g, rfl, h2.ins, _, rfl, H0, Hb, U, a, n, ra, vR, t.b, rfl, h2, eR, iR, tk2.1, tk2.2, fun kk e => ?_, fun other e H3 s3 => ?_⟩
      · rw [e] at hev
        exact (kE kk hev.symm).sub c2 (by simp)
      rw [e] at hev
      dsimp only at hev
      have s13 : Same H H3 := fun b o e => s3 b o (s12 b o e)
      refine ⟨_, rfl, _, rfl, _, rfl, _, _, rfl, rfl, .inr ⟨_, rfl, _, rfl, _, rfl, _, _, rfl, rfl, .inr ⟨_, rfl, _, _, rfl, rfl, ya, _, _, _, rfl, rfl, (chgS s13 : Chg [] H H3).tup hy, tri_at t.cmp one other, _, rfl, ?_⟩⟩⟩
      cases hc : t.cmp.holds one other with
      | true =>
        rw [hc, if_pos rfl] at hev
        refine ite2 (fun n => absurd n (by decide)) (fun _ => ?_)
        exact ⟨_, _, _, _, _, rfl, s13, hev⟩
      | false =>
        rw [hc, if_neg (by decide)] at hev
        refine ite2 (fun _ => ?_) (fun n => absurd rfl n)
        exact k false hev.symm H3 s13
    · rintro σ H1 ⟨x2, x3, x4, x5, x6, rfl, s1, hev⟩
      rw [Paired.length ht, List.length_map, List.drop_length] at hev
      exact k true hev.symm H1 s1
def addOf {σ : Type} (b : Na.Board σ) (marks : List Nat) (a : Na.Now σ) (op : Nat) (e r : Na.Ex) : Except Nat σ := match e.value b marks a with
  | .error k => .error k
  | .ok x => if x < 0 then .error 3 else match r.value b marks a with
    | .error k => .error k
    | .ok y => putOf b a.on op x.toNat y
def spRChange (K : PySem.W.Frag) (C CL CF R : Addr) : Sp := fun vs H Q E => ∃ (H0 Hb : Hp) (U : RU) (a : Na.Now FS) (n : Nat) (op : Nat) (q l r : Addr) (e e2 : Na.Ex) (N : Addr → Prop), vs = [.ref U.g, .int (op : Int), .ref q] ∧ RunAt K C CL CF H0 Hb U H a n ∧ SqT K H q [.ref l, .ref r] ∧ ItL K N H l (post e) ∧ ItL K N H r (post e2) ∧ EOK 5000 e ∧ EOK 5000 e2 ∧ op ≤ 1 ∧
  (∀ k, addOf (brdZ U.Z) U.marks a op e e2 = .error k → FK R E H U.Z.own k) ∧ ∀ v, addOf (brdZ U.Z) U.marks a op e e2 = .ok v → ∀ H', Chg U.Z.own H H' → RunAt K C CL CF H0 Hb U H' { a with on := v } n → Q .non H'
theorem ok_Run_change (T : Txt K mg cFault cRunFault cTooLong cBeadFrame cReader cLines cRun) : Mf P w K mg base (L2.CX P w) 8 cRun "change" ["self", "word", "parts"] (spRChange K cRun cLines cBeadFrame cRunFault) := by
  refine mf_mk T.cl_Run T.d_Run_change fun f fd F => F.okX sc_Run_change (fun vs H Q E h => ?_) (fun cdv A outer s H vs Q E hr h => ?_)
  · obtain ⟨H0, Hb, U, a, n, op, q, l, r, e, e2, N, rfl, _⟩ := h
    rfl
  · obtain ⟨H0, Hb, U, a, n, op, q, l, r, e, e2, N, rfl, h, hq, hi, hj, he, he2, hop, kE, k⟩ := h
    refine ⟨_, (pss_cons (ps_set (i := 3) sc_Run_change.nd rfl (Or.inl rfl) (pe_mf (ok_Run_worked_out T) (hr.mono (by decide)) (passE (takes_of rfl rfl rfl rfl)) (pv 0) (by exact (pa_cons (pe_ix ix_tup (pv 2) pe_int (fun _ _ => rfl)) pa_nil)))) (pss_cons (ps_if (pt_cmpR op_lt (pv 3) pe_int (nomark _)) (pss_one (ps_raise rfl (takes_of rfl rfl rfl rfl) (pmk_xf (ok_RunFault___init__ T) (hr.mono (by decide)) (by exact (pa_cons (pe_gi T.c_OUT_OF_RANGE) pa_nil))))) pss_nil) (pss_one (ps_expr (pe_mf (ok_BeadFrame_change T) (hr.mono (by decide)) (passE (takes_of rfl rfl rfl rfl)) (pe_get (pv 0)) (by exact (pa_cons (pe_ix ix_kint (pe_gk T.c_OPS) (pv 1) (fun _ _ => rfl)) (pa_cons (pv 3) (pa_cons (pe_mf (ok_Run_worked_out T) (hr.mono (by decide)) (passE (takes_of rfl rfl rfl rfl)) (pv 0) (by exact (pa_cons (pe_ix ix_tup (pv 2) pe_int (fun _ _ => rfl)) pa_nil))) pa_nil))))))))), ?_⟩
    unfold addOf at kE k
    obtain ⟨_, vL, eL, iL⟩ := hi
    refine ⟨_, rfl, U.g, rfl, h.ins, _, rfl, q, _, 0, _, rfl, rfl, hq, rfl, H0, Hb, U, a, n, l, vL, e, rfl, h, eL, iL, he.1, he.2, fun kk ev => (fun d H' c e3 => kE kk (by rw [ev]) d H' (c.mono (by simp)) e3), fun x ev H1 s1 => ?_⟩
    rw [ev] at kE k
    dsimp only at kE k
    have hxb := value_in ev
    have h1 := h.same s1
    have c1 : Chg [] H H1 := chgS s1
    refine ⟨_, rfl, _, _, rfl, rfl, _, rfl, ?_⟩
    by_cases hx : x < 0
    · rw [if_pos hx] at kE
      refine ite2 (fun _ => ?_) (fun n => absurd (decide_eq_true hx) n)
      exact rfault_in fun d H' s e3 => kE 3 rfl d H' ((c1.mono (by simp)).trans (chgS s)) e3
    · rw [if_neg hx] at kE k
      refine ite2 (fun n => absurd (of_decide_eq_true n) hx) (fun _ => ?_)
      obtain ⟨mn, rfl⟩ : ∃ mn : Nat, x = (mn : Int) := ⟨x.toNat, by omega⟩
      rw [Int.toNat_natCast] at kE k
      have hlk : ([((0 : Int), (0 : Int)), (1, 1)] : List (Int × Int)).lookup (op : Int) = some (op : Int) := by
        rcases (show op = 0 ∨ op = 1 by omega) with z | z <;> subst z <;> rfl
      obtain ⟨_, vR, eR, iR⟩ := hj.chg c1 (by simp)
      refine ⟨_, rfl, _, _, rfl, h1.ffr T, U.Z.a, rfl, h1.fr.ins, fun oa hoa => ⟨_, rfl, oa, _, _, _, rfl, rfl, hoa, hlk, _, rfl, ?_⟩⟩
      refine ⟨_, rfl, U.g, rfl, h1.ins, _, rfl, q, _, 1, _, rfl, rfl, c1.tup hq, rfl, H0, Hb, U, a, n, r, vR, e2, rfl, h1, eR, iR, he2.1, he2.2, fun kk ev => (fun d H' c e3 => kE kk (by rw [ev]) d H' ((c1.mono (by simp)).trans (c.mono (by simp))) e3), fun y ev H2 s2 => ?_⟩
      rw [ev] at kE k
      dsimp only at kE k
      have h2 := h1.same s2
      have c2 : Chg U.Z.own H H2 := (c1.mono (by simp)).trans (chgS s2)
      refine ⟨U.Z, a.on, op, mn, y, rfl, h2.fr, hop, by omega, fun kk ep => (kE kk ep).sub c2 (fun x h => h), fun v ep H3 c3 hf => ?_⟩
      exact k v ep H3 (c2.trans c3) (h2.frame c3 hf)
def setOf {σ : Type} (b : Na.Board σ) (marks : List Nat) (a : Na.Now σ) (e : Na.Ex) : Except Nat Nat := match e.value b marks a with
  | .error k => .error k
  | .ok x => if x < 0 ∨ 99 < x then .error 3 else .ok x.toNat
def spSetHead (K : PySem.W.Frag) (C CL CF R : Addr) : Sp := fun vs H Q E => ∃ (H0 Hb : Hp) (U : RU) (a : Na.Now FS) (n : Nat) (i : Nat) (q l : Addr) (e : Na.Ex) (N : Addr → Prop), vs = [.ref U.g, .ref q] ∧ RunAt K C CL CF H0 Hb U H a n ∧ SqT K H q [.int (i : Int), .ref l] ∧ ItL K N H l (post e) ∧ EOK 5000 e ∧ i < 8 ∧
  (∀ k, setOf (brdZ U.Z) U.marks a e = .error k → FK R E H [] k) ∧ ∀ v, setOf (brdZ U.Z) U.marks a e = .ok v → ∀ H', Chg [U.hd] H H' → RunAt K C CL CF H0 Hb U H' { a with heads := a.heads.set i v } n → Q .non H'
theorem ok_Run_set_head (T : Txt K mg cFault cRunFault cTooLong cBeadFrame cReader cLines cRun) : Mf P w K mg base (L2.CX P w) 6 cRun "set_head" ["self", "parts"] (spSetHead K cRun cLines cBeadFrame cRunFault) := by
  refine mf_mk T.cl_Run T.d_Run_set_head fun f fd F => F.okX sc_Run_set_head (fun vs H Q E h => ?_) (fun cdv A outer s H vs Q E hr h => ?_)
  · obtain ⟨H0, Hb, U, a, n, i, q, l, e, N, rfl, _⟩ := h
    rfl
  · obtain ⟨H0, Hb, U, a, n, i, q, l, e, N, rfl, h, hq, hi, he, hi8, kE, k⟩ := h
    refine ⟨_, (pss_cons (ps_set (i := 2) sc_Run_set_head.nd rfl (Or.inl rfl) (pe_mf (ok_Run_worked_out T) (hr.mono (by decide)) (passE (takes_of rfl rfl rfl rfl)) (pv 0) (by exact (pa_cons (pe_ix ix_tup (pv 1) pe_int (fun _ _ => rfl)) pa_nil)))) (pss_cons (ps_if (pt_not (pt_chain op_le op_le pe_int (pv 2) (pe_gi T.c_MOST_HEAD))) (pss_one (ps_raise rfl (takes_of rfl rfl rfl rfl) (pmk_xf (ok_RunFault___init__ T) (hr.mono (by decide)) (by exact (pa_cons (pe_gi T.c_OUT_OF_RANGE) pa_nil))))) pss_nil) (pss_one (ps_asg (pv 2) (pg_sub (pe_get (pv 0)) (pe_ix ix_tup (pv 1) pe_int (fun _ _ => rfl)) set_list))))), ?_⟩
    unfold setOf at kE k
    obtain ⟨_, vL, eL, iL⟩ := hi
    refine ⟨_, rfl, U.g, rfl, h.ins, _, rfl, q, _, 1, _, rfl, rfl, hq, rfl, H0, Hb, U, a, n, l, vL, e, rfl, h, eL, iL, he.1, he.2, fun kk ev => kE kk (by rw [ev]), fun x ev H1 s1 => ?_⟩
    rw [ev] at kE k
    dsimp only at kE k
    have h1 := h.same s1
    have c1 : Chg [] H H1 := chgS s1
    dsimp only
    refine ifS_p (p := !(decide (0 ≤ x) && decide (x ≤ 99))) (tNot_p fun Q h' => ?_) (fun c => ?_) (fun c => ?_)
    · refine ⟨_, rfl, _, _, rfl, rfl, _, rfl, ?_⟩
      refine ite2 (fun c => ?_) (fun c => ?_)
      · refine ⟨_, _, rfl, rfl, _, rfl, ?_⟩
        rw [show decide (0 ≤ x) = true from c, Bool.true_and] at h'
        exact h'
      · refine ⟨_, rfl, ?_⟩
        rw [show decide (0 ≤ x) = false from Bool.eq_false_iff.mpr c, Bool.false_and] at h'
        exact h'
    · have hc : x < 0 ∨ 99 < x := by
        simp only [Bool.not_eq_true', Bool.and_eq_false_iff, decide_eq_false_iff_not] at c
        omega
      rw [if_pos hc] at kE
      exact rfault_in fun d H' s e3 => kE 3 rfl d H' (c1.trans (chgS s)) e3
    · have hc : ¬ (x < 0 ∨ 99 < x) := by
        simp only [Bool.not_eq_false', Bool.and_eq_true, decide_eq_true_eq] at c
        omega
      rw [if_neg hc] at k
      obtain ⟨mn, rfl⟩ : ∃ mn : Nat, x = (mn : Int) := ⟨x.toNat, by omega⟩
      rw [Int.toNat_natCast] at k
      refine ⟨_, rfl, _, rfl, _, _, rfl, h1.fhd T, _, rfl, q, _, 0, _, rfl, rfl, c1.tup hq, rfl, U.hd, _, _, i, rfl, rfl, h1.hob, ixn_nat (by rw [nvs_len, h.h8]; exact hi8), ?_⟩
      rw [← nvs_set]
      exact k mn rfl _ ((c1.mono (by simp)).trans ((Chg.refl H1).set (by simp) h1.hob (by intro z; exact z))) (h1.heads (by omega))
end
end Ab
/-! ## The walk: a run to its end -/
namespace Ab
open PySem PySem.Spec PyProof.Rows L2
/-- the lines are a method's -/
structure LnM (s : LS) (m : Na.Method) : Prop where
  eq : s = m.foldl stepL .empty
  rd : Read 5000 m
  ft : Fit .empty m
theorem LnM.ws {s : LS} {m : Na.Method} (h : LnM s m) : s.ws = m.map codeOf := by
  rw [h.eq, (fold_ws m .empty h.ft).1]; rfl
theorem LnM.ps {s : LS} {m : Na.Method} (h : LnM s m) : s.ps = m.map partOf := by
  rw [h.eq, (fold_ws m .empty h.ft).2]; rfl
theorem LnM.gs {s : LS} {m : Na.Method} (h : LnM s m) {i : Nat} {l : Na.Line} (hl : m[i]? = some l) : s.gs[i]? = some (goal m i l) := by
  rw [h.eq]
  exact goals_are h.rd.nf hl
section
variable {σ : Type} {b : Na.Board σ} {marks : List Nat} {p : Na.Method} {a : Na.Now σ}
theorem two_done (op : Nat) (e r : Na.Ex) : (do let x ← e.value b marks a; (if x < 0 then Except.error 3 else (do let y ← r.value b marks a; let i ← Na.rodIn b.rods y; let s ← b.put a.on op i x.toNat; return some { a with line := a.line + 1, on := s })) : Except Nat (Option (Na.Now σ))) = match addOf b marks a op e r with
    | .error k => .error k
    | .ok v => .ok (some { a with line := a.line + 1, on := v }) := by
  unfold addOf putOf
  cases e.value b marks a with
  | error k => rfl
  | ok x =>
    show (if x < 0 then Except.error 3 else (do let y ← r.value b marks a; let i ← Na.rodIn b.rods y; let s ← b.put a.on op i x.toNat; return some { a with line := a.line + 1, on := s })) = _
    dsimp only
    by_cases h : x < 0
    · rw [if_pos h, if_pos h]
    · rw [if_neg h, if_neg h]
      cases r.value b marks a with
      | error k => rfl
      | ok y =>
        show (do let i ← Na.rodIn b.rods y; let s ← b.put a.on op i x.toNat; return some { a with line := a.line + 1, on := s }) = _
        dsimp only
        generalize Na.rodIn b.rods y = ri
        cases ri with
        | error k => rfl
        | ok i =>
          show (do let s ← b.put a.on op i x.toNat; return some { a with line := a.line + 1, on := s }) = _
          dsimp only
          cases b.put a.on op i x.toNat <;> rfl
theorem d_add (e r : Na.Ex) : Na.Line.done b marks p a (.add e r) = match addOf b marks a 0 e r with
    | .error k => .error k
    | .ok v => .ok (some { a with line := a.line + 1, on := v }) := two_done 0 e r
theorem d_take (e r : Na.Ex) : Na.Line.done b marks p a (.take e r) = match addOf b marks a 1 e r with
    | .error k => .error k
    | .ok v => .ok (some { a with line := a.line + 1, on := v }) := two_done 1 e r
theorem d_set (k : Nat) (e : Na.Ex) : Na.Line.done b marks p a (.set k e) = match setOf b marks a e with
    | .error k => .error k
    | .ok v => .ok (some { a with line := a.line + 1, heads := a.heads.set k v }) := by
  unfold setOf
  show (do let x ← e.value b marks a; if x < 0 ∨ 99 < x then Except.error 3 else return some { a with line := a.line + 1, heads := a.heads.set k x.toNat }) = _
  cases e.value b marks a with
  | error k => rfl
  | ok x =>
    show (if x < 0 ∨ 99 < x then Except.error 3 else return some { a with line := a.line + 1, heads := a.heads.set k x.toNat }) = _
    dsimp only
    by_cases h : x < 0 ∨ 99 < x
    · rw [if_pos h, if_pos h]
    · rw [if_neg h, if_neg h]; rfl
theorem d_if (c : List Na.Test) : Na.Line.done b marks p a (.if_ c) = match Na.holds b marks a c with
    | .error k => .error k
    | .ok x => .ok (some { a with line := if x = true then a.line + 1 else Na.otherwise_ p a.line }) := by
  show (do let x ← Na.holds b marks a c; return some { a with line := if x = true then a.line + 1 else Na.otherwise_ p a.line }) = _
  cases Na.holds b marks a c <;> rfl
theorem d_while (c : List Na.Test) : Na.Line.done b marks p a (.while_ c) = match Na.holds b marks a c with
    | .error k => .error k
    | .ok x => .ok (some { a with line := if x = true then a.line + 1 else Na.behindEnd p a.line }) := by
  show (do let x ← Na.holds b marks a c; return some { a with line := if x = true then a.line + 1 else Na.behindEnd p a.line }) = _
  cases Na.holds b marks a c <;> rfl
end
section
variable {P : Program} {w : World} {K : PySem.W.Frag} {mg : Str → Option Value} {base : Heap} {cFault cRunFault cTooLong cBeadFrame cReader cLines cRun : Addr}
def spNextL (K : PySem.W.Frag) (C CL CF R : Addr) : Sp := fun vs H Q E => ∃ (H0 Hb : Hp) (U : RU) (a : Na.Now FS) (n : Nat) (m : Na.Method) (l : Na.Line), vs = [.ref U.g] ∧ RunAt K C CL CF H0 Hb U H a n ∧ LnM U.s m ∧ m[a.line]? = some l ∧
  (∀ k, l.done (brdZ U.Z) U.marks m a = .error k → FK R E H (U.hd :: U.Z.own) k) ∧
  (l.done (brdZ U.Z) U.marks m a = .ok none → ∀ H', Same H H' → Q (.int (m.length : Int)) H') ∧
  ∀ c, l.done (brdZ U.Z) U.marks m a = .ok (some c) → ∀ H', Chg (U.hd :: U.Z.own) H H' → RunAt K C CL CF H0 Hb U H' { c with line := a.line } n → Q (.int (c.line : Int)) H'
theorem ok_Run_next_line (T : Txt K mg cFault cRunFault cTooLong cBeadFrame cReader cLines cRun) : Mf P w K mg base (L2.CX P w) 9 cRun "next_line" ["self"] (spNextL K cRun cLines cBeadFrame cRunFault) := by
  refine mf_mk T.cl_Run T.d_Run_next_line fun f fd F => F.okX sc_Run_next_line (fun vs H Q E h => ?_) (fun cdv A outer s H vs Q E hr h => ?_)
  · obtain ⟨H0, Hb, U, a, n, m, l, rfl, _⟩ := h
    rfl
  · obtain ⟨H0, Hb, U, a, n, m, l, rfl, h, hm, hl, kE, kN, k⟩ := h
    refine ⟨_, (pss_cons (ps_par rfl sc_Run_next_line.nd (i := 1) (j := 2) rfl rfl (by decide) rfl rfl (pa_cons (pe_ix ix_list (pe_get (pe_get (pv 0))) (pe_get (pv 0)) (fun _ _ => rfl)) (pa_cons (pe_ix ix_list (pe_get (pe_get (pv 0))) (pe_get (pv 0)) (fun _ _ => rfl)) pa_nil)) (by rfl)) (pss_cons (ps_if (pt_cmpR op_in_seq (pv 1) (pe_tup (pa_cons (pe_gi T.c_ADD) (pa_cons (pe_gi T.c_TAKE) pa_nil))) rfl) (pss_one (ps_expr (pe_mf (ok_Run_change T) (hr.mono (by decide)) (passE (takes_of rfl rfl rfl rfl)) (pv 0) (by exact (pa_cons (pv 1) (pa_cons (pv 2) pa_nil)))))) (pss_one (ps_if (pt_cmpR op_eq (pv 1) (pe_gi T.c_SET) (nomark _)) (pss_one (ps_expr (pe_mf (ok_Run_set_head T) (hr.mono (by decide)) (passE (takes_of rfl rfl rfl rfl)) (pv 0) (by exact (pa_cons (pv 2) pa_nil))))) (pss_one (ps_if (pt_cmpR op_in_seq (pv 1) (pe_tup (pa_cons (pe_gi T.c_IF) (pa_cons (pe_gi T.c_WHILE) pa_nil))) rfl) (pss_one (ps_ret (pe_ifExp (pt_val (pe_mf (ok_Run_is_so T) (hr.mono (by decide)) (passE (takes_of rfl rfl rfl rfl)) (pv 0) (by exact (pa_cons (pe_ix ix_tup (pv 2) pe_int (fun _ _ => rfl)) pa_nil)))) (pe_op op_add (pe_get (pv 0)) pe_int) (pe_ix ix_list (pe_get (pe_get (pv 0))) (pe_get (pv 0)) (fun _ _ => rfl))))) (pss_one (ps_if (pt_cmpR op_in_seq (pv 1) (pe_tup (pa_cons (pe_gi T.c_ELSE) (pa_cons (pe_gi T.c_END) pa_nil))) rfl) (pss_one (ps_ret (pe_ix ix_list (pe_get (pe_get (pv 0))) (pe_get (pv 0)) (fun _ _ => rfl)))) (pss_one (ps_if (pt_cmpR op_eq (pv 1) (pe_gi T.c_STOP) (nomark _)) (pss_one (ps_ret (pe_callB call_len_seq (by rfl) T.n_len PySem.boot_len (pa_cons (pe_get (pe_get (pv 0))) pa_nil)))) (pss_one (ps_if (pt_cmpR op_eq (pv 1) (pe_gi T.c_FAIL) (nomark _)) (pss_one (ps_raise rfl (takes_of rfl rfl rfl rfl) (pmk_xf (ok_RunFault___init__ T) (hr.mono (by decide)) (by exact (pa_cons (pe_gi T.c_FAILED) pa_nil))))) pss_nil))))))))))) (pss_one (ps_ret (pe_op op_add (pe_get (pv 0)) pe_int))))), ?_⟩
    have hL := h.ln
    have lok := hm.rd.ok l (List.mem_of_getElem? hl)
    obtain ⟨vp, p1, p2⟩ := hL.ps
    have hps : U.s.ps[a.line]? = some (partOf l) := by rw [hm.ps, List.getElem?_map, hl]; rfl
    obtain ⟨pv, hpv⟩ : ∃ pv, vp[a.line]? = some pv := ⟨_, List.getElem?_eq_getElem (by rw [Paired.length p2]; exact (List.getElem?_eq_some_iff.mp hps).1)⟩
    obtain ⟨pp, hpp, hpt⟩ := paired_at p2 hpv
    rw [hps] at hpp
    cases hpp
    cases l with
    | add e r =>
      obtain ⟨q, la, ra, rfl, hq, hi, hj⟩ := hpt
      obtain ⟨ok1, ok2⟩ := lok
      rw [d_add] at kE k
      have ews : U.s.ws[a.line]? = some 0 := by rw [hm.ws, List.getElem?_map, hl]; rfl
      refine ⟨_, rfl, _, _, rfl, h.fli T, _, _, rfl, hL.fw T, _, rfl, _, _, rfl, h.fat T, U.L.w, _, _, _, rfl, rfl, SqL.of hL.ws, atI_nat (nvs_at ews), _, rfl, _, _, rfl, h.fli T, _, _, rfl, hL.fp T, _, rfl, _, _, rfl, h.fat T, U.L.p, vp, _, _, rfl, rfl, SqL.of p1, atI_nat hpv, _, _, rfl, ?_⟩
      have t0 : Same H H := fun _ _ e => e
      refine ⟨_, rfl, sz (show 2 ≤ 100000 by decide), fun q1 hq1 => ⟨q1, [.int 0, .int 1], rfl, .inr (SqT.of upd_same), rfl, rfl, _, rfl, ?_⟩⟩
      have t1 : Same H (upd H q1 (.tup [.int 0, .int 1])) := fun b o e => same_lst hq1 b o (t0 b o e)
      refine ite2 (fun _ => ?_) (fun n => absurd (by decide) n)
      have hZ := h.same t1
      have cZ : Chg [] H _ := chgS t1
      refine ⟨_, rfl, U.g, rfl, hZ.ins, _, rfl, _, rfl, H0, Hb, U, a, n, 0, q, la, ra, e, r, N5 U.r U.L, rfl, hZ, Chg.tup cZ hq, ItL.chg hi cZ (by simp), ItL.chg hj cZ (by simp), ok1, ok2, by decide, fun kk ev => ?_, fun v ev H2 c2 h2 => ?_⟩
      · exact (kE kk (by rw [ev])).sub (cZ.mono (by simp)) (fun x hx => List.mem_cons_of_mem _ hx)
      · refine ⟨_, rfl, _, _, rfl, h2.fat T, _, _, rfl, rfl, ?_⟩
        exact k { a with line := a.line + 1, on := v } (by rw [ev]) H2 ((cZ.mono (by simp)).trans (c2.mono (fun x hx => List.mem_cons_of_mem _ hx))) h2
    | take e r =>
      obtain ⟨q, la, ra, rfl, hq, hi, hj⟩ := hpt
      obtain ⟨ok1, ok2⟩ := lok
      rw [d_take] at kE k
      have ews : U.s.ws[a.line]? = some 1 := by rw [hm.ws, List.getElem?_map, hl]; rfl
      refine ⟨_, rfl, _, _, rfl, h.fli T, _, _, rfl, hL.fw T, _, rfl, _, _, rfl, h.fat T, U.L.w, _, _, _, rfl, rfl, SqL.of hL.ws, atI_nat (nvs_at ews), _, rfl, _, _, rfl, h.fli T, _, _, rfl, hL.fp T, _, rfl, _, _, rfl, h.fat T, U.L.p, vp, _, _, rfl, rfl, SqL.of p1, atI_nat hpv, _, _, rfl, ?_⟩
      have t0 : Same H H := fun _ _ e => e
      refine ⟨_, rfl, sz (show 2 ≤ 100000 by decide), fun q1 hq1 => ⟨q1, [.int 0, .int 1], rfl, .inr (SqT.of upd_same), rfl, rfl, _, rfl, ?_⟩⟩
      have t1 : Same H (upd H q1 (.tup [.int 0, .int 1])) := fun b o e => same_lst hq1 b o (t0 b o e)
      refine ite2 (fun _ => ?_) (fun n => absurd (by decide) n)
      have hZ := h.same t1
      have cZ : Chg [] H _ := chgS t1
      refine ⟨_, rfl, U.g, rfl, hZ.ins, _, rfl, _, rfl, H0, Hb, U, a, n, 1, q, la, ra, e, r, N5 U.r U.L, rfl, hZ, Chg.tup cZ hq, ItL.chg hi cZ (by simp), ItL.chg hj cZ (by simp), ok1, ok2, by decide, fun kk ev => ?_, fun v ev H2 c2 h2 => ?_⟩
      · exact (kE kk (by rw [ev])).sub (cZ.mono (by simp)) (fun x hx => List.mem_cons_of_mem _ hx)
      · refine ⟨_, rfl, _, _, rfl, h2.fat T, _, _, rfl, rfl, ?_⟩
        exact k { a with line := a.line + 1, on := v } (by rw [ev]) H2 ((cZ.mono (by simp)).trans (c2.mono (fun x hx => List.mem_cons_of_mem _ hx))) h2
    | set j e =>
      obtain ⟨q, la, rfl, hq, hi⟩ := hpt
      obtain ⟨ok1, ok2⟩ := lok
      rw [d_set] at kE k
      have ews : U.s.ws[a.line]? = some 2 := by rw [hm.ws, List.getElem?_map, hl]; rfl
      refine ⟨_, rfl, _, _, rfl, h.fli T, _, _, rfl, hL.fw T, _, rfl, _, _, rfl, h.fat T, U.L.w, _, _, _, rfl, rfl, SqL.of hL.ws, atI_nat (nvs_at ews), _, rfl, _, _, rfl, h.fli T, _, _, rfl, hL.fp T, _, rfl, _, _, rfl, h.fat T, U.L.p, vp, _, _, rfl, rfl, SqL.of p1, atI_nat hpv, _, _, rfl, ?_⟩
      have t0 : Same H H := fun _ _ e => e
      refine ⟨_, rfl, sz (show 2 ≤ 100000 by decide), fun q1 hq1 => ⟨q1, [.int 0, .int 1], rfl, .inr (SqT.of upd_same), rfl, rfl, _, rfl, ?_⟩⟩
      have t1 : Same H (upd H q1 (.tup [.int 0, .int 1])) := fun b o e => same_lst hq1 b o (t0 b o e)
      refine ite2 (fun n => absurd n (by decide)) (fun _ => ?_)
      refine ⟨_, rfl, rfl, _, rfl, ?_⟩
      refine ite2 (fun _ => ?_) (fun n => absurd (by decide) n)
      have hZ := h.same t1
      have cZ : Chg [] H _ := chgS t1
      refine ⟨_, rfl, U.g, rfl, hZ.ins, _, rfl, H0, Hb, U, a, n, j, q, la, e, N5 U.r U.L, rfl, hZ, Chg.tup cZ hq, ItL.chg hi cZ (by simp), ok2, ok1, fun kk ev => ?_, fun v ev H2 c2 h2 => ?_⟩
      · exact (kE kk (by rw [ev])).sub (cZ.mono (by simp)) (by simp)
      · refine ⟨_, rfl, _, _, rfl, h2.fat T, _, _, rfl, rfl, ?_⟩
        exact k { a with line := a.line + 1, heads := a.heads.set j v } (by rw [ev]) H2 ((cZ.mono (by simp)).trans (c2.mono (by simp))) h2
    | if_ c =>
      obtain ⟨q, la, vt, rfl, hq, _, hla, ht⟩ := hpt
      rw [d_if] at kE k
      have egs := hm.gs hl
      have ews : U.s.ws[a.line]? = some 3 := by rw [hm.ws, List.getElem?_map, hl]; rfl
      refine ⟨_, rfl, _, _, rfl, h.fli T, _, _, rfl, hL.fw T, _, rfl, _, _, rfl, h.fat T, U.L.w, _, _, _, rfl, rfl, SqL.of hL.ws, atI_nat (nvs_at ews), _, rfl, _, _, rfl, h.fli T, _, _, rfl, hL.fp T, _, rfl, _, _, rfl, h.fat T, U.L.p, vp, _, _, rfl, rfl, SqL.of p1, atI_nat hpv, _, _, rfl, ?_⟩
      have t0 : Same H H := fun _ _ e => e
      refine ⟨_, rfl, sz (show 2 ≤ 100000 by decide), fun q1 hq1 => ⟨q1, [.int 0, .int 1], rfl, .inr (SqT.of upd_same), rfl, rfl, _, rfl, ?_⟩⟩
      have t1 : Same H (upd H q1 (.tup [.int 0, .int 1])) := fun b o e => same_lst hq1 b o (t0 b o e)
      refine ite2 (fun n => absurd n (by decide)) (fun _ => ?_)
      refine ⟨_, rfl, rfl, _, rfl, ?_⟩
      refine ite2 (fun n => absurd n (by decide)) (fun _ => ?_)
      refine ⟨_, rfl, sz (show 2 ≤ 100000 by decide), fun q2 hq2 => ⟨q2, [.int 3, .int 6], rfl, .inr (SqT.of upd_same), rfl, rfl, _, rfl, ?_⟩⟩
      have t2 : Same H (upd (upd H q1 (.tup [.int 0, .int 1])) q2 (.tup [.int 3, .int 6])) := fun b o e => same_lst hq2 b o (t1 b o e)
      refine ite2 (fun _ => ?_) (fun n => absurd (by decide) n)
      have hZ := h.same t2
      have cZ : Chg [] H _ := chgS t2
      refine ⟨_, rfl, U.g, rfl, hZ.ins, _, rfl, q, _, 0, _, rfl, rfl, Chg.tup cZ hq, rfl, H0, Hb, U, a, n, la, vt, c, N5 U.r U.L, rfl, hZ, cZ.1 _ _ (by simp) hla, ht.chg cZ (fun l _ _ => by simp), lok, fun kk ev => ?_, fun v ev H2 s2 => ?_⟩
      · exact (kE kk (by rw [ev])).sub (cZ.mono (by simp)) (by simp)
      · have h2 := hZ.same s2
        have hL2 := h2.ln
        have c2 : Chg (U.hd :: U.Z.own) H H2 := (cZ.mono (by simp)).trans (chgS s2)
        have kk := fun cc e => k cc e H2 c2
        refine ⟨_, rfl, ?_⟩
        cases v with
        | true =>
          refine ite2 (fun _ => ?_) (fun n => absurd rfl n)
          refine ⟨_, rfl, _, _, rfl, h2.fat T, _, _, rfl, rfl, ?_⟩
          exact kk { a with line := a.line + 1 } (by rw [ev]; rfl) h2
        | false =>
          refine ite2 (fun n => absurd n (by decide)) (fun _ => ?_)
          refine ⟨_, rfl, _, _, rfl, h2.fli T, _, _, rfl, hL2.fg T, _, rfl, _, _, rfl, h2.fat T, U.L.g, _, _, _, rfl, rfl, SqL.of hL2.gs, atI_nat (nvs_at egs), ?_⟩
          exact kk { a with line := Na.otherwise_ m a.line } (by rw [ev]; rfl) h2
    | while_ c =>
      obtain ⟨q, la, vt, rfl, hq, _, hla, ht⟩ := hpt
      rw [d_while] at kE k
      have egs := hm.gs hl
      have ews : U.s.ws[a.line]? = some 6 := by rw [hm.ws, List.getElem?_map, hl]; rfl
      refine ⟨_, rfl, _, _, rfl, h.fli T, _, _, rfl, hL.fw T, _, rfl, _, _, rfl, h.fat T, U.L.w, _, _, _, rfl, rfl, SqL.of hL.ws, atI_nat (nvs_at ews), _, rfl, _, _, rfl, h.fli T, _, _, rfl, hL.fp T, _, rfl, _, _, rfl, h.fat T, U.L.p, vp, _, _, rfl, rfl, SqL.of p1, atI_nat hpv, _, _, rfl, ?_⟩
      have t0 : Same H H := fun _ _ e => e
      refine ⟨_, rfl, sz (show 2 ≤ 100000 by decide), fun q1 hq1 => ⟨q1, [.int 0, .int 1], rfl, .inr (SqT.of upd_same), rfl, rfl, _, rfl, ?_⟩⟩
      have t1 : Same H (upd H q1 (.tup [.int 0, .int 1])) := fun b o e => same_lst hq1 b o (t0 b o e)
      refine ite2 (fun n => absurd n (by decide)) (fun _ => ?_)
      refine ⟨_, rfl, rfl, _, rfl, ?_⟩
      refine ite2 (fun n => absurd n (by decide)) (fun _ => ?_)
      refine ⟨_, rfl, sz (show 2 ≤ 100000 by decide), fun q2 hq2 => ⟨q2, [.int 3, .int 6], rfl, .inr (SqT.of upd_same), rfl, rfl, _, rfl, ?_⟩⟩
      have t2 : Same H (upd (upd H q1 (.tup [.int 0, .int 1])) q2 (.tup [.int 3, .int 6])) := fun b o e => same_lst hq2 b o (t1 b o e)
      refine ite2 (fun _ => ?_) (fun n => absurd (by decide) n)
      have hZ := h.same t2
      have cZ : Chg [] H _ := chgS t2
      refine ⟨_, rfl, U.g, rfl, hZ.ins, _, rfl, q, _, 0, _, rfl, rfl, Chg.tup cZ hq, rfl, H0, Hb, U, a, n, la, vt, c, N5 U.r U.L, rfl, hZ, cZ.1 _ _ (by simp) hla, ht.chg cZ (fun l _ _ => by simp), lok, fun kk ev => ?_, fun v ev H2 s2 => ?_⟩
      · exact (kE kk (by rw [ev])).sub (cZ.mono (by simp)) (by simp)
      · have h2 := hZ.same s2
        have hL2 := h2.ln
        have c2 : Chg (U.hd :: U.Z.own) H H2 := (cZ.mono (by simp)).trans (chgS s2)
        have kk := fun cc e => k cc e H2 c2
        refine ⟨_, rfl, ?_⟩
        cases v with
        | true =>
          refine ite2 (fun _ => ?_) (fun n => absurd rfl n)
          refine ⟨_, rfl, _, _, rfl, h2.fat T, _, _, rfl, rfl, ?_⟩
          exact kk { a with line := a.line + 1 } (by rw [ev]; rfl) h2
        | false =>
          refine ite2 (fun n => absurd n (by decide)) (fun _ => ?_)
          refine ⟨_, rfl, _, _, rfl, h2.fli T, _, _, rfl, hL2.fg T, _, rfl, _, _, rfl, h2.fat T, U.L.g, _, _, _, rfl, rfl, SqL.of hL2.gs, atI_nat (nvs_at egs), ?_⟩
          exact kk { a with line := Na.behindEnd m a.line } (by rw [ev]; rfl) h2
    | else_ =>
      have egs := hm.gs hl
      have ews : U.s.ws[a.line]? = some 4 := by rw [hm.ws, List.getElem?_map, hl]; rfl
      refine ⟨_, rfl, _, _, rfl, h.fli T, _, _, rfl, hL.fw T, _, rfl, _, _, rfl, h.fat T, U.L.w, _, _, _, rfl, rfl, SqL.of hL.ws, atI_nat (nvs_at ews), _, rfl, _, _, rfl, h.fli T, _, _, rfl, hL.fp T, _, rfl, _, _, rfl, h.fat T, U.L.p, vp, _, _, rfl, rfl, SqL.of p1, atI_nat hpv, _, _, rfl, ?_⟩
      have t0 : Same H H := fun _ _ e => e
      refine ⟨_, rfl, sz (show 2 ≤ 100000 by decide), fun q1 hq1 => ⟨q1, [.int 0, .int 1], rfl, .inr (SqT.of upd_same), rfl, rfl, _, rfl, ?_⟩⟩
      have t1 : Same H (upd H q1 (.tup [.int 0, .int 1])) := fun b o e => same_lst hq1 b o (t0 b o e)
      refine ite2 (fun n => absurd n (by decide)) (fun _ => ?_)
      refine ⟨_, rfl, rfl, _, rfl, ?_⟩
      refine ite2 (fun n => absurd n (by decide)) (fun _ => ?_)
      refine ⟨_, rfl, sz (show 2 ≤ 100000 by decide), fun q2 hq2 => ⟨q2, [.int 3, .int 6], rfl, .inr (SqT.of upd_same), rfl, rfl, _, rfl, ?_⟩⟩
      have t2 : Same H (upd (upd H q1 (.tup [.int 0, .int 1])) q2 (.tup [.int 3, .int 6])) := fun b o e => same_lst hq2 b o (t1 b o e)
      refine ite2 (fun n => absurd n (by decide)) (fun _ => ?_)
      refine ⟨_, rfl, sz (show 2 ≤ 100000 by decide), fun q3 hq3 => ⟨q3, [.int 4, .int 5], rfl, .inr (SqT.of upd_same), rfl, rfl, _, rfl, ?_⟩⟩
      have t3 : Same H (upd (upd (upd H q1 (.tup [.int 0, .int 1])) q2 (.tup [.int 3, .int 6])) q3 (.tup [.int 4, .int 5])) := fun b o e => same_lst hq3 b o (t2 b o e)
      refine ite2 (fun _ => ?_) (fun n => absurd (by decide) n)
      have hZ := h.same t3
      have cZ : Chg [] H _ := chgS t3
      have hLZ := hZ.ln
      refine ⟨_, rfl, _, _, rfl, hZ.fli T, _, _, rfl, hLZ.fg T, _, rfl, _, _, rfl, hZ.fat T, U.L.g, _, _, _, rfl, rfl, SqL.of hLZ.gs, atI_nat (nvs_at egs), ?_⟩
      exact k { a with line := Na.behindEnd m a.line } rfl _ (cZ.mono (by simp)) hZ
    | end_ =>
      have egs := hm.gs hl
      have ews : U.s.ws[a.line]? = some 5 := by rw [hm.ws, List.getElem?_map, hl]; rfl
      refine ⟨_, rfl, _, _, rfl, h.fli T, _, _, rfl, hL.fw T, _, rfl, _, _, rfl, h.fat T, U.L.w, _, _, _, rfl, rfl, SqL.of hL.ws, atI_nat (nvs_at ews), _, rfl, _, _, rfl, h.fli T, _, _, rfl, hL.fp T, _, rfl, _, _, rfl, h.fat T, U.L.p, vp, _, _, rfl, rfl, SqL.of p1, atI_nat hpv, _, _, rfl, ?_⟩
      have t0 : Same H H := fun _ _ e => e
      refine ⟨_, rfl, sz (show 2 ≤ 100000 by decide), fun q1 hq1 => ⟨q1, [.int 0, .int 1], rfl, .inr (SqT.of upd_same), rfl, rfl, _, rfl, ?_⟩⟩
      have t1 : Same H (upd H q1 (.tup [.int 0, .int 1])) := fun b o e => same_lst hq1 b o (t0 b o e)
      refine ite2 (fun n => absurd n (by decide)) (fun _ => ?_)
      refine ⟨_, rfl, rfl, _, rfl, ?_⟩
      refine ite2 (fun n => absurd n (by decide)) (fun _ => ?_)
      refine ⟨_, rfl, sz (show 2 ≤ 100000 by decide), fun q2 hq2 => ⟨q2, [.int 3, .int 6], rfl, .inr (SqT.of upd_same), rfl, rfl, _, rfl, ?_⟩⟩
      have t2 : Same H (upd (upd H q1 (.tup [.int 0, .int 1])) q2 (.tup [.int 3, .int 6])) := fun b o e => same_lst hq2 b o (t1 b o e)
      refine ite2 (fun n => absurd n (by decide)) (fun _ => ?_)
      refine ⟨_, rfl, sz (show 2 ≤ 100000 by decide), fun q3 hq3 => ⟨q3, [.int 4, .int 5], rfl, .inr (SqT.of upd_same), rfl, rfl, _, rfl, ?_⟩⟩
      have t3 : Same H (upd (upd (upd H q1 (.tup [.int 0, .int 1])) q2 (.tup [.int 3, .int 6])) q3 (.tup [.int 4, .int 5])) := fun b o e => same_lst hq3 b o (t2 b o e)
      refine ite2 (fun _ => ?_) (fun n => absurd (by decide) n)
      have hZ := h.same t3
      have cZ : Chg [] H _ := chgS t3
      have hLZ := hZ.ln
      refine ⟨_, rfl, _, _, rfl, hZ.fli T, _, _, rfl, hLZ.fg T, _, rfl, _, _, rfl, hZ.fat T, U.L.g, _, _, _, rfl, rfl, SqL.of hLZ.gs, atI_nat (nvs_at egs), ?_⟩
      exact k { a with line := Na.ending m a.line } rfl _ (cZ.mono (by simp)) hZ
    | halt_ =>
      have ews : U.s.ws[a.line]? = some 7 := by rw [hm.ws, List.getElem?_map, hl]; rfl
      refine ⟨_, rfl, _, _, rfl, h.fli T, _, _, rfl, hL.fw T, _, rfl, _, _, rfl, h.fat T, U.L.w, _, _, _, rfl, rfl, SqL.of hL.ws, atI_nat (nvs_at ews), _, rfl, _, _, rfl, h.fli T, _, _, rfl, hL.fp T, _, rfl, _, _, rfl, h.fat T, U.L.p, vp, _, _, rfl, rfl, SqL.of p1, atI_nat hpv, _, _, rfl, ?_⟩
      have t0 : Same H H := fun _ _ e => e
      refine ⟨_, rfl, sz (show 2 ≤ 100000 by decide), fun q1 hq1 => ⟨q1, [.int 0, .int 1], rfl, .inr (SqT.of upd_same), rfl, rfl, _, rfl, ?_⟩⟩
      have t1 : Same H (upd H q1 (.tup [.int 0, .int 1])) := fun b o e => same_lst hq1 b o (t0 b o e)
      refine ite2 (fun n => absurd n (by decide)) (fun _ => ?_)
      refine ⟨_, rfl, rfl, _, rfl, ?_⟩
      refine ite2 (fun n => absurd n (by decide)) (fun _ => ?_)
      refine ⟨_, rfl, sz (show 2 ≤ 100000 by decide), fun q2 hq2 => ⟨q2, [.int 3, .int 6], rfl, .inr (SqT.of upd_same), rfl, rfl, _, rfl, ?_⟩⟩
      have t2 : Same H (upd (upd H q1 (.tup [.int 0, .int 1])) q2 (.tup [.int 3, .int 6])) := fun b o e => same_lst hq2 b o (t1 b o e)
      refine ite2 (fun n => absurd n (by decide)) (fun _ => ?_)
      refine ⟨_, rfl, sz (show 2 ≤ 100000 by decide), fun q3 hq3 => ⟨q3, [.int 4, .int 5], rfl, .inr (SqT.of upd_same), rfl, rfl, _, rfl, ?_⟩⟩
      have t3 : Same H (upd (upd (upd H q1 (.tup [.int 0, .int 1])) q2 (.tup [.int 3, .int 6])) q3 (.tup [.int 4, .int 5])) := fun b o e => same_lst hq3 b o (t2 b o e)
      refine ite2 (fun n => absurd n (by decide)) (fun _ => ?_)
      refine ⟨_, rfl, rfl, _, rfl, ?_⟩
      refine ite2 (fun _ => ?_) (fun n => absurd (by decide) n)
      have hZ := h.same t3
      have cZ : Chg [] H _ := chgS t3
      have hLZ := hZ.ln
      refine ⟨_, rfl, _, _, rfl, hZ.fli T, _, _, rfl, hLZ.fw T, U.L.w, _, rfl, .inl (SqL.of hLZ.ws), ?_⟩
      rw [nvs_len, hm.ws, List.length_map]
      exact kN rfl _ (Chg.same cZ)
    | fail =>
      have ews : U.s.ws[a.line]? = some 8 := by rw [hm.ws, List.getElem?_map, hl]; rfl
      refine ⟨_, rfl, _, _, rfl, h.fli T, _, _, rfl, hL.fw T, _, rfl, _, _, rfl, h.fat T, U.L.w, _, _, _, rfl, rfl, SqL.of hL.ws, atI_nat (nvs_at ews), _, rfl, _, _, rfl, h.fli T, _, _, rfl, hL.fp T, _, rfl, _, _, rfl, h.fat T, U.L.p, vp, _, _, rfl, rfl, SqL.of p1, atI_nat hpv, _, _, rfl, ?_⟩
      have t0 : Same H H := fun _ _ e => e
      refine ⟨_, rfl, sz (show 2 ≤ 100000 by decide), fun q1 hq1 => ⟨q1, [.int 0, .int 1], rfl, .inr (SqT.of upd_same), rfl, rfl, _, rfl, ?_⟩⟩
      have t1 : Same H (upd H q1 (.tup [.int 0, .int 1])) := fun b o e => same_lst hq1 b o (t0 b o e)
      refine ite2 (fun n => absurd n (by decide)) (fun _ => ?_)
      refine ⟨_, rfl, rfl, _, rfl, ?_⟩
      refine ite2 (fun n => absurd n (by decide)) (fun _ => ?_)
      refine ⟨_, rfl, sz (show 2 ≤ 100000 by decide), fun q2 hq2 => ⟨q2, [.int 3, .int 6], rfl, .inr (SqT.of upd_same), rfl, rfl, _, rfl, ?_⟩⟩
      have t2 : Same H (upd (upd H q1 (.tup [.int 0, .int 1])) q2 (.tup [.int 3, .int 6])) := fun b o e => same_lst hq2 b o (t1 b o e)
      refine ite2 (fun n => absurd n (by decide)) (fun _ => ?_)
      refine ⟨_, rfl, sz (show 2 ≤ 100000 by decide), fun q3 hq3 => ⟨q3, [.int 4, .int 5], rfl, .inr (SqT.of upd_same), rfl, rfl, _, rfl, ?_⟩⟩
      have t3 : Same H (upd (upd (upd H q1 (.tup [.int 0, .int 1])) q2 (.tup [.int 3, .int 6])) q3 (.tup [.int 4, .int 5])) := fun b o e => same_lst hq3 b o (t2 b o e)
      refine ite2 (fun n => absurd n (by decide)) (fun _ => ?_)
      refine ⟨_, rfl, rfl, _, rfl, ?_⟩
      refine ite2 (fun n => absurd n (by decide)) (fun _ => ?_)
      refine ⟨_, rfl, rfl, _, rfl, ?_⟩
      refine ite2 (fun _ => ?_) (fun n => absurd (by decide) n)
      have hZ := h.same t3
      have cZ : Chg [] H _ := chgS t3
      exact rfault_in fun d H' s e3 => kE 4 rfl d H' ((cZ.mono (by simp)).trans (chgS s)) e3
theorem RunAt.obj {C CL CF : Addr} {H0 Hb H : Hp} {U : RU} {a : Na.Now FS} {n : Nat} (h : RunAt K C CL CF H0 Hb U H a n) (ln n2 : Nat) : RunAt K C CL CF H0 Hb U (upd H U.g (.ins C U.dx (fU U.Z.a U.L.a U.ma U.hd (ln : Int) (n2 : Int)))) { a with line := ln } n2 := by
  have c : Chg [U.g] H (upd H U.g (.ins C U.dx (fU U.Z.a U.L.a U.ma U.hd (ln : Int) (n2 : Int)))) := (Chg.refl H).set (by simp) h.gob (by intro z; exact z)
  refine { base := fun b o e => c.1 b o (fun m => ?_) (h.base b o e), lines := h.lines, gob := upd_same, hob := (upd_ne (ne_of h.hob h.gob (by intro z; cases z))).trans h.hob, new := h.new, gn := h.gn, hn := h.hn, go := h.go, ho := h.ho, fr := h.fr.chg c (fun x hx m => ?_) (fun x hx => (show x = U.g from by simpa using hx) ▸ h.go), mf := h.mf, h8 := h.h8, hh := h.hh, m8 := h.m8, mh := h.mh }
  · have : b = U.g := by simpa using m
    rw [h.new b (by simp [this])] at e; cases e
  · have : x = U.g := by simpa using m
    exact h.gn (this ▸ hx)
theorem runOn_eq {σ : Type} (b : Na.Board σ) (marks : List Nat) (p : Na.Method) (left steps : Nat) (a : Na.Now σ) : Na.runOn b marks p left steps a = match p[a.line]? with
    | none => .ended a.on steps
    | some l => match left with
      | 0 => .long
      | n + 1 => match l.done b marks p a with
        | .error k => .fault k a.line
        | .ok none => .ended a.on (steps + 1)
        | .ok (some c) => Na.runOn b marks p n (steps + 1) c := by
  rw [Na.runOn]
  cases p[a.line]? with
  | none => rfl
  | some l => cases left <;> rfl
def spRun (K : PySem.W.Frag) (C CL CF R TL : Addr) : Sp := fun vs H Q E => ∃ (H0 Hb : Hp) (U : RU) (a : Na.Now FS) (n left : Nat) (m : Na.Method), vs = [.ref U.g, .int ((n + left : Nat) : Int)] ∧ RunAt K C CL CF H0 Hb U H a n ∧ LnM U.s m ∧
  match Na.runOn (brdZ U.Z) U.marks m left n a with
  | .ended v st => ∀ H' c, Chg (U.g :: U.hd :: U.Z.own) H H' → RunAt K C CL CF H0 Hb U H' c st → c.on = v → Q .non H'
  | .fault kk ln => ∀ d H' st, H' U.g = some (.ins C U.dx (fU U.Z.a U.L.a U.ma U.hd ((ln : Nat) : Int) st)) → H' d = some (.xd (fxk (kk : Nat))) → E (.ref R) (some d) H'
  | .long => ∀ H', E (.ref TL) none H'
theorem ok_Run_run (T : Txt K mg cFault cRunFault cTooLong cBeadFrame cReader cLines cRun) : Mf P w K mg base (L2.CX P w) 10 cRun "run" ["self", "most"] (spRun K cRun cLines cBeadFrame cRunFault cTooLong) := by
  refine mf_mk T.cl_Run T.d_Run_run fun f fd F => F.okX sc_Run_run (fun vs H Q E h => ?_) (fun cdv A outer s H vs Q E hr h => ?_)
  · obtain ⟨H0, Hb, U, a, n, left, m, rfl, _⟩ := h
    rfl
  · obtain ⟨H0, Hb, U, a, n, left, m, rfl, h, hm, k⟩ := h
    refine ⟨_, (pss_one (ps_while (passes_of rfl) (pt_cmpR op_lt (pe_get (pv 0)) (pe_callB call_len_seq (by rfl) T.n_len PySem.boot_len (pa_cons (pe_get (pe_get (pv 0))) pa_nil)) (nomark _)) (pss_cons (ps_if (pt_cmpR op_eq (pe_get (pv 0)) (pv 1) (nomark _)) (pss_one (ps_raise rfl (takes_of rfl rfl rfl rfl) (pmk_own PySem.F.excBase_ValueError T.x_TooLong T.g_TooLong T.k_TooLong (raises_own T.b_TooLong T.t_TooLong) (by exact rfl)))) pss_nil) (pss_cons (ps_augF (pv 0) pe_int) (pss_one (ps_put (pv 0) (pe_mf0 (ok_Run_next_line T) (hr.mono (by decide)) (passE (takes_of rfl rfl rfl rfl)) (pv 0)))))))), ?_⟩
    refine ⟨fun μ σ H' => ∃ a' n', σ = [some (.ref U.g), some (.int ((n + left : Nat) : Int))] ∧ RunAt K cRun cLines cBeadFrame H0 Hb U H' a' n' ∧ Chg (U.g :: U.hd :: U.Z.own) H H' ∧ n' + μ = n + left ∧ Na.runOn (brdZ U.Z) U.marks m μ n' a' = Na.runOn (brdZ U.Z) U.marks m left n a,
      ⟨left, a, n, rfl, h, Chg.refl H, rfl, rfl⟩, ?_⟩
    rintro μ σ H1 ⟨a', n', rfl, h1, ch, en, er⟩
    rw [← er] at k
    have hL := h1.ln
    refine ⟨_, rfl, _, _, rfl, h1.fat T, _, rfl, _, _, rfl, h1.fli T, _, _, rfl, hL.fw T, U.L.w, _, rfl, .inl (SqL.of hL.ws), _, _, rfl, rfl, _, rfl, ?_⟩
    rw [nvs_len, hm.ws, List.length_map]
    rw [runOn_eq] at k
    by_cases hlt : a'.line < m.length
    · refine ite2 (fun _ => ?_) (fun n => absurd (decide_eq_true (by omega)) n)
      obtain ⟨l, hl⟩ : ∃ l, m[a'.line]? = some l := ⟨_, List.getElem?_eq_getElem hlt⟩
      rw [hl] at k
      dsimp only at k
      refine ⟨fun σ' H' => ∃ a2 n2 μ2, μ2 < μ ∧ σ' = [some (.ref U.g), some (.int ((n + left : Nat) : Int))] ∧ RunAt K cRun cLines cBeadFrame H0 Hb U H' a2 n2 ∧ Chg (U.g :: U.hd :: U.Z.own) H H' ∧ n2 + μ2 = n + left ∧ Na.runOn (brdZ U.Z) U.marks m μ2 n2 a2 = Na.runOn (brdZ U.Z) U.marks m left n a,
        fun σ' H' ⟨a2, n2, μ2, z1, z2, z3, z4, z5, z6⟩ => ⟨μ2, z1, a2, n2, z2, z3, z4, z5, z6⟩, ?_⟩
      refine ⟨_, rfl, _, _, rfl, h1.fst T, _, rfl, rfl, _, rfl, ?_⟩
      cases μ with
      | zero =>
        have e0 : n' = n + left := by omega
        refine ite2 (fun _ => ?_) (fun n => absurd (decide_eq_true (by rw [e0])) n)
        exact k H1
      | succ μ =>
        dsimp only at k
        refine ite2 (fun n => absurd (V.int.inj (of_decide_eq_true n)) (by omega)) (fun _ => ?_)
        refine ⟨_, rfl, U.g, _, rfl, h1.fst T, _, cRun, U.dx, _, rfl, ⟨h1.gob, T.cl_Run, T.na_Run_steps, (by decide : 6 < 1000)⟩, ?_⟩
        rw [fU_putS]
        have h2 := h1.obj a'.line (n' + 1)
        have e1 : (((n' + 1 : Nat)) : Int) = (n' : Int) + 1 := by omega
        rw [e1] at h2
        have h2 : RunAt K cRun cLines cBeadFrame H0 Hb U (upd H1 U.g (.ins cRun U.dx (fU U.Z.a U.L.a U.ma U.hd (a'.line : Int) ((n' : Int) + 1)))) a' (n' + 1) := h2
        rw [runOn_eq, hl] at er
        dsimp only at er
        have ch2 : Chg (U.g :: U.hd :: U.Z.own) H (upd H1 U.g (.ins cRun U.dx (fU U.Z.a U.L.a U.ma U.hd (a'.line : Int) ((n' : Int) + 1)))) := ch.set (by simp) h1.gob (by intro z; exact z)
        have gnot : U.g ∉ U.hd :: U.Z.own := by
          intro m
          rcases List.mem_cons.mp m with e | m
          · exact (ne_of h2.gob h2.hob (by intro z; cases z)) e
          · exact h2.gn m
        refine ⟨_, rfl, U.g, rfl, h2.ins, H0, Hb, U, a', n' + 1, m, l, rfl, h2, hm, hl, fun kk ed => ?_, fun ed H3 s3 => ?_, fun c ed H3 c3 h3 => ?_⟩
        · rw [ed] at k
          intro d H' cc hd
          exact k d H' _ (cc.1 _ _ gnot h2.gob) hd
        · rw [ed] at er
          have h3 := h2.same s3
          refine ⟨_, rfl, U.g, cRun, U.dx, _, rfl, ⟨h3.gob, T.cl_Run, T.na_Run_at, (by decide : 6 < 1000)⟩, ?_⟩
          rw [fU_putA]
          refine ⟨{ a' with line := m.length }, n' + 1, μ, Nat.lt_succ_self _, rfl, h3.obj m.length (n' + 1), (ch2.trans (chgS s3)).set (by simp) h3.gob (by intro z; exact z), by omega, ?_⟩
          rw [← er, runOn_eq]
          rw [show m[({ a' with line := m.length } : Na.Now FS).line]? = none from List.getElem?_eq_none (Nat.le_refl _)]
        · rw [ed] at er
          refine ⟨_, rfl, U.g, cRun, U.dx, _, rfl, ⟨h3.gob, T.cl_Run, T.na_Run_at, (by decide : 6 < 1000)⟩, ?_⟩
          rw [fU_putA]
          exact ⟨c, n' + 1, μ, Nat.lt_succ_self _, rfl, h3.obj c.line (n' + 1), (ch2.trans (c3.mono (fun x hx => List.mem_cons_of_mem _ hx))).set (by simp) h3.gob (by intro z; exact z), by omega, er⟩
    · refine ite2 (fun n => absurd (of_decide_eq_true n) (by omega)) (fun _ => ?_)
      rw [show m[a'.line]? = none from List.getElem?_eq_none (by omega)] at k
      exact k H1 a' ch h1 rfl
end
end Ab
/-! ## The walk: run -/
namespace Ab
open PySem PySem.Spec PyProof.Rows L2
section
variable {P : Program} {w : World} {K : PySem.W.Frag} {mg : Str → Option Value} {base : Heap} {cFault cRunFault cTooLong cBeadFrame cReader cLines cRun : Addr}
def spRunI (C : Addr) : Sp := fun vs H Q _ => ∃ (x dx fr la ma : Addr), vs = [.ref x, .ref fr, .ref la, .ref ma] ∧ H x = some (.ins C dx []) ∧
  ∀ H' hd, (∀ b o, b ≠ x → H b = some o → H' b = some o) → H hd = none → H' x = some (.ins C dx (fU fr la ma hd 0 0)) → H' hd = some (.lst (nvs (List.replicate 8 0))) → Q .non H'
theorem ok_Run___init__ (T : Txt K mg cFault cRunFault cTooLong cBeadFrame cReader cLines cRun) : Kf P w K mg base CX0 1 "Run" cRun ["self", "frame", "lines", "marks"] (spRunI cRun) := by
  refine kf_mk T.g_Run T.d_Run___init__ fun f fd F => F.ok sc_Run___init__ (fun vs H Q E h => ?_) (fun cdv A outer s H vs Q E hr h => ?_)
  · obtain ⟨x, dx, fr, la, ma, rfl, _⟩ := h
    rfl
  · obtain ⟨x, dx, fr, la, ma, rfl, hx, k⟩ := h
    refine ⟨_, (pss_cons (ps_put (pv 0) (pv 1)) (pss_cons (ps_put (pv 0) (pv 2)) (pss_cons (ps_put (pv 0) (pv 3)) (pss_cons (ps_put (pv 0) (pe_op op_rep (pe_lst (pa_cons pe_int pa_nil)) (pe_gi T.c_MANY_HEADS))) (pss_cons (ps_put (pv 0) pe_int) (pss_one (ps_put (pv 0) pe_int))))))), ?_⟩
    refine ⟨_, rfl, _, rfl, x, cRun, dx, [], rfl, ⟨hx, T.cl_Run, T.na_Run_frame, (by decide : 0 < 1000)⟩, ?_⟩
    refine ⟨_, rfl, _, rfl, x, cRun, dx, _, rfl, ⟨upd_same, T.cl_Run, T.na_Run_lines, (by decide : 1 < 1000)⟩, ?_⟩
    refine ⟨_, rfl, _, rfl, x, cRun, dx, _, rfl, ⟨upd_same, T.cl_Run, T.na_Run_marks, (by decide : 2 < 1000)⟩, ?_⟩
    refine ⟨sz (show 1 ≤ 100000 by decide), fun q hq => ⟨q, 8, [.int 0], rfl, rfl, upd_same, by decide, by decide, (show 1 * 8 ≤ sizeLine by decide), fun hd hhd => ?_⟩⟩
    obtain ⟨dq, hhd⟩ := upd_none hhd
    have xq : x ≠ q := Ne.symm (upd_none hq).1
    have xd : x ≠ hd := Ne.symm (upd_none hhd).1
    obtain ⟨_, hhd⟩ := upd_none hhd
    obtain ⟨_, hhd⟩ := upd_none hhd
    obtain ⟨_, hhd⟩ := upd_none hhd
    obtain ⟨_, hq⟩ := upd_none hq
    obtain ⟨_, hq⟩ := upd_none hq
    obtain ⟨_, hq⟩ := upd_none hq
    refine ⟨_, rfl, x, cRun, dx, _, rfl, ⟨(upd_ne xd).trans ((upd_ne xq).trans upd_same), T.cl_Run, T.na_Run_heads, (by decide : 3 < 1000)⟩, ?_⟩
    refine ⟨_, rfl, x, cRun, dx, _, rfl, ⟨upd_same, T.cl_Run, T.na_Run_at, (by decide : 4 < 1000)⟩, ?_⟩
    refine ⟨_, rfl, x, cRun, dx, _, rfl, ⟨upd_same, T.cl_Run, T.na_Run_steps, (by decide : 5 < 1000)⟩, ?_⟩
    refine k _ hd (fun b o hb e => ?_) hhd ?_ ?_
    · rw [upd_ne hb, upd_ne hb, upd_ne hb, upd_ne (ne_of_none e hhd), upd_ne (ne_of_none e hq), upd_ne hb, upd_ne hb, upd_ne hb]
      exact e
    · rw [upd_same]
      have e : putF "steps" (.int 0) (putF "at" (.int 0) (putF "heads" (.ref hd) (putF "marks" (.ref ma) (putF "lines" (.ref la) (putF "frame" (.ref fr) []))))) = fU fr la ma hd 0 0 := by
        show putF "steps" (.int 0) (putF "at" (.int 0) (putF "heads" (.ref hd) (putF "marks" (.ref ma) (putF "lines" (.ref la) [("frame", .ref fr)])))) = _
        rw [pf_ne (by decide +kernel)]
        show putF "steps" (.int 0) (putF "at" (.int 0) (putF "heads" (.ref hd) (putF "marks" (.ref ma) [("frame", .ref fr), ("lines", .ref la)]))) = _
        rw [pf_ne (by decide +kernel), pf_ne (by decide +kernel)]
        show putF "steps" (.int 0) (putF "at" (.int 0) (putF "heads" (.ref hd) [("frame", .ref fr), ("lines", .ref la), ("marks", .ref ma)])) = _
        rw [pf_ne (by decide +kernel), pf_ne (by decide +kernel), pf_ne (by decide +kernel)]
        show putF "steps" (.int 0) (putF "at" (.int 0) [("frame", .ref fr), ("lines", .ref la), ("marks", .ref ma), ("heads", .ref hd)]) = _
        rw [pf_ne (by decide +kernel), pf_ne (by decide +kernel), pf_ne (by decide +kernel), pf_ne (by decide +kernel)]
        show putF "steps" (.int 0) [("frame", .ref fr), ("lines", .ref la), ("marks", .ref ma), ("heads", .ref hd), ("at", .int 0)] = _
        rw [pf_ne (by decide +kernel), pf_ne (by decide +kernel), pf_ne (by decide +kernel), pf_ne (by decide +kernel), pf_ne (by decide +kernel)]
        rfl
      rw [e]
    · rw [upd_ne (Ne.symm xd), upd_ne (Ne.symm xd), upd_ne (Ne.symm xd), upd_same]
      rfl
def spRight (K : PySem.W.Frag) : Sp := fun vs H Q _ => ∃ (t : Addr) (l : List Nat) (n : Nat), vs = [.ref t, .int (n : Int)] ∧ Fz K H t (nvs l) ∧ l.length ≤ 5000 ∧ ∀ H', Same H H' → Q (.bl (Mv.marksOk l n)) H'
theorem ok_are_right (T : Txt K mg cFault cRunFault cTooLong cBeadFrame cReader cLines cRun) : Df P w K mg base CX0 1 "are_right" ["marks", "most"] (spRight K) := by
  refine df_mk T.d_are_right fun f fd F => F.ok sc_are_right (fun vs H Q E h => ?_) (fun cdv A outer s H vs Q E hr h => ?_)
  · obtain ⟨t, l, n, rfl, _⟩ := h
    rfl
  · obtain ⟨t, l, n, rfl, ht, hl, k⟩ := h
    refine ⟨_, (pss_one (ps_ret (pe_and (pe_cmpR op_eq (pe_callB call_len_seq (by rfl) T.n_len PySem.boot_len (pa_cons (pv 0) pa_nil)) (pe_gi T.c_MANY_MARKS) (nomark _)) (pe_and (pe_callB (cr_all rfl) (by rfl) T.n_all (by decide +kernel) (pa_cons (pe_lc (own := [("mark", 2)]) (g := gName 2) (tt := tYes) rfl sc_are_right.nd (pi_list (pv 0)) (blkOk_by (N := ["marks", "most", "mark"]) (sc := defScope s_are_right) (by decide +kernel)) (fun _ _ _ _ _ => pg_name (i := 2) sc_are_right.nd rfl (Or.inl rfl)) (fun _ _ _ _ _ => pts_nil) (fun _ _ _ _ _ => (pe_cmpR op_le (pv 2) (pe_gi T.c_MOST_MARK) (nomark _)))) pa_nil)) (pe_one (pe_cmpR op_le (pv 1) (pe_gi T.c_MOST_STEPS_methods) (nomark _))))))), ?_⟩
    have elen : (nvs l).length = l.length := nvs_len l
    unfold Mv.marksOk at k
    refine ⟨_, rfl, t, _, rfl, .inl ht.sq, rfl, _, rfl, ?_⟩
    rw [elen]
    have e8 : decide (V.int (l.length : Int) = V.int 8) = (l.length == 8) := vint_dec l.length 8
    rw [e8]
    cases h8 : l.length == 8 with
    | false =>
      rw [h8] at k
      refine ite2 (fun n => absurd n (by decide)) (fun _ => ?_)
      exact k H (fun _ _ e => e)
    | true =>
      rw [h8, Bool.true_and] at k
      refine ite2 (fun _ => ?_) (fun n => absurd rfl n)
      refine ⟨_, rfl, t, rfl, ⟨_, ht.sq⟩, fun D hD => ?_⟩
      refine lc_list (K := K) (a := t) (xs := nvs l) (fun i H' => Same H H' ∧ H' D = some (.lst ((l.take i).map fun n => V.bl (decide (n ≤ 63))))) ⟨same_lst hD, upd_same⟩ (fun i H' _ h => (ht.chg (chgS h.1 : Chg [] H H')).sq) ?_ ?_
      · rintro i x H1 hi ⟨s1, h1⟩
        obtain ⟨c, hc, rfl⟩ : ∃ c, l[i]? = some c ∧ x = .int (c : Int) := by
          unfold nvs at hi
          rw [List.getElem?_map] at hi
          cases hq : l[i]? with
          | none => rw [hq] at hi; cases hi
          | some c => rw [hq] at hi; exact ⟨c, rfl, (Option.some.inj hi).symm⟩
        refine ⟨rfl, ?_⟩
        refine ⟨_, rfl, _, _, rfl, rfl, _, h1, ?_, fun b o e => ?_, ?_⟩
        · rw [List.length_map, List.length_take]
          exact szl (by omega)
        · rw [upd_ne (ne_of_none e hD)]
          exact s1 b o e
        · have et : l.take (i + 1) = l.take i ++ [c] := by rw [List.take_add_one, hc]; rfl
          rw [upd_same, et, List.map_append]
          have e63 : decide ((c : Int) ≤ 63) = decide (c ≤ 63) := nat_dec_le c 63
          show some (HO.lst (_ ++ [V.bl (decide ((c : Int) ≤ 63))])) = _
          rw [e63]; rfl
      · rintro H1 ⟨s1, h1⟩
        rw [elen, List.take_length] at h1
        refine ⟨D, l.map fun n => decide (n ≤ 63), rfl, SqL.of (by rw [h1, List.map_map]; rfl), _, rfl, ?_⟩
        have ea : (l.map fun n => decide (n ≤ 63)).all id = l.all fun x => decide (x ≤ 63) := by
          rw [List.all_map]; rfl
        rw [ea]
        cases hl2 : l.all fun x => decide (x ≤ 63) with
        | false =>
          rw [hl2] at k
          refine ite2 (fun n => absurd n (by decide)) (fun _ => ?_)
          exact k H1 s1
        | true =>
          rw [hl2, Bool.true_and] at k
          refine ite2 (fun _ => ?_) (fun n => absurd rfl n)
          refine ⟨_, rfl, _, _, rfl, rfl, ?_⟩
          have em : decide ((n : Int) ≤ 16777216) = decide (n ≤ Na.MOST) := nat_dec_le n 16777216
          have k := k H1 s1
          rw [← em] at k
          exact k
def tb_fault_of (K : PySem.W.Frag) (cFault cRunFault cTooLong cBeadFrame cReader cLines cRun : Addr) : WX → TS := fun W => tDrop (tMfS cRun "run" (spRun K cRun cLines cBeadFrame cRunFault cTooLong) (WE W) (tVar 0) (tCons (tVar 1) tNil))
def ts_fault_of (K : PySem.W.Frag) (cFault cRunFault cTooLong cBeadFrame cReader cLines cRun : Addr) : Addr → Value → Option Addr → TS := fun a cls d => tAsg (tLst (tCons (tC (.int (-9))) (tCons (tXf a cls d cRunFault "kind" (tVar 3)) (tCons (tGet K (tVar 0) "at") tNil)))) (gName 2)
def ts2_fault_of (K : PySem.W.Frag) (cFault cRunFault cTooLong cBeadFrame cReader cLines cRun : Addr) : Addr → Value → Option Addr → TS := fun a cls d => tAsg (tLst (tCons (tC (.int (-8))) tNil)) (gName 2)
def spFaultOf (K : PySem.W.Frag) (C CL CF : Addr) : Sp := fun vs H Q _ => ∃ (H0 Hb : Hp) (U : RU) (a : Na.Now FS) (left : Nat) (m : Na.Method), vs = [.ref U.g, .int (left : Int)] ∧ RunAt K C CL CF H0 Hb U H a 0 ∧ LnM U.s m ∧
  match Na.runOn (brdZ U.Z) U.marks m left 0 a with
  | .ended v st => ∀ H' c q, RunAt K C CL CF H0 Hb U H' c st → c.on = v → H' q = some (.lst []) → Q (.ref q) H'
  | .fault kk ln => ∀ H' q, H' q = some (.lst [.int (-9), .int ((kk : Nat) : Int), .int ((ln : Nat) : Int)]) → Q (.ref q) H'
  | .long => ∀ H' q, H' q = some (.lst [.int (-8)]) → Q (.ref q) H'
theorem ok_fault_of (T : Txt K mg cFault cRunFault cTooLong cBeadFrame cReader cLines cRun) : Df P w K mg base CX0 11 "fault_of" ["going", "most"] (spFaultOf K cRun cLines cBeadFrame) := by
  refine df_mk T.d_fault_of fun f fd F => F.ok sc_fault_of (fun vs H Q E h => ?_) (fun cdv A outer s H vs Q E hr h => ?_)
  · obtain ⟨H0, Hb, U, a, left, m, rfl, _⟩ := h
    rfl
  · obtain ⟨H0, Hb, U, a, left, m, rfl, h, hm, k⟩ := h
    refine ⟨_, (pss_cons (ps_set (i := 2) sc_fault_of.nd rfl (Or.inl rfl) (pe_lst pa_nil)) (pss_cons (ps_try_two (i := 3) (tb := (tb_fault_of K cFault cRunFault cTooLong cBeadFrame cReader cLines cRun)) (ts := (ts_fault_of K cFault cRunFault cTooLong cBeadFrame cReader cLines cRun)) (l := [(.ref cTooLong, (ts2_fault_of K cFault cRunFault cTooLong cBeadFrame cReader cLines cRun))]) (Wout := fun _ _ _ _ => False) rfl rfl sc_fault_of.nd rfl rfl ⟨rfl, by decide, Or.inl T.g_RunFault⟩ takes0 (fun W pn xe tk hp => (pss_one (ps_expr (by exact (pe_mfS (ok_Run_run T) (hr.mono (by decide)) (fun σ => passAt tk σ) (pv 0) (by exact (pa_cons (pv 1) pa_nil))))))) (fun a oe cls d pn hz hf => (pss_one (ps_set (i := 2) sc_fault_of.nd rfl (Or.inl rfl) (pe_lst (pa_cons (pe_gi T.c_RUN_FAULT) (pa_cons (pe_xf T.xc_RunFault T.na_RunFault_kind hz hf (pv 3)) (pa_cons (pe_get (pv 0)) pa_nil))))))) (.cons ⟨rfl, by decide, Or.inl T.g_TooLong⟩ (fun a oe cls d pn hz hf => (pss_one (ps_set (i := 2) sc_fault_of.nd rfl (Or.inl rfl) (pe_lst (pa_cons (pe_gi T.c_RUN_TOO_LONG) pa_nil))))) .nil)) (pss_one (ps_ret (pv 2))))), ?_⟩
    refine ⟨Nat.zero_le _, fun fa hfa => ?_⟩
    have s0 : Same H (upd H fa (.lst [])) := same_lst hfa
    have h1 := h.same s0
    refine ⟨_, rfl, U.g, rfl, h1.ins, _, rfl, H0, Hb, U, a, 0, left, m, by rw [Nat.zero_add], h1, hm, ?_⟩
    cases hr2 : Na.runOn (brdZ U.Z) U.marks m left 0 a with
    | ended v st =>
      rw [hr2] at k
      intro H' c hch hc he
      have nfa : ∀ x o, H x = some o → fa ≠ x := fun x o e z => by rw [← z, hfa] at e; cases e
      have hn : fa ∉ U.g :: U.hd :: U.Z.own := by
        intro mm
        rcases List.mem_cons.mp mm with z | mm
        · exact nfa _ _ h.gob z
        · rcases List.mem_cons.mp mm with z | mm
          · exact nfa _ _ h.hob z
          · obtain ⟨o, e⟩ := h.fr.here _ mm
            exact nfa _ _ e rfl
      exact ⟨_, rfl, k H' c fa hc he (hch.1 _ _ hn upd_same)⟩
    | fault kk ln =>
      rw [hr2] at k
      intro d H' st hg hd
      refine ⟨true, T.xm_RunFault_RunFault, fun _ a2 ha2 => ?_, fun z => by cases z⟩
      refine ⟨_, rfl, rfl, rfl, d, _, _, rfl, hd, fxk_kind _, _, rfl, _, _, rfl, ⟨_, _, _, hg, T.cl_Run, T.na_Run_at, fU_at _ _ _ _ _ _⟩, sz (show 3 ≤ 100000 by decide), fun q hq => ?_⟩
      exact ⟨_, rfl, k _ q upd_same⟩
    | long =>
      rw [hr2] at k
      intro H'
      refine ⟨false, T.xm_TooLong_RunFault, fun z => (by cases z), fun _ => ⟨true, T.xm_TooLong_TooLong, fun _ a2 ha2 => ?_, fun z => by cases z⟩⟩
      refine ⟨sz (show 1 ≤ 100000 by decide), fun q hq => ?_⟩
      exact ⟨_, rfl, k _ q upd_same⟩
end
end Ab
/-! ## The walk: work (printed by mkM8w.py) -/
namespace Ab
open PySem PySem.Spec PyProof.Rows L2
theorem read_ok5 {t : Na.Bytes} {m : Na.Method} (h : Na.readMethod t = .ok m) (hb : t.length ≤ 5000) : Read 5000 m := ⟨lines_nf _ _ _ _ h, lines_ok _ _ _ _ h hb⟩
/-- what work_of answers -/
def ansWork (h most : Nat) (mk hand st marks : List Nat) (t : List Int) (B : List (List Nat)) : Except Na.Fault (List Int) := match Na.makeOf mk with
  | .error e => .error e
  | .ok x => match Na.handOf hand with
    | .error e => .error e
    | .ok y => match Na.standingOf x st with
      | .error e => .error e
      | .ok u => match Na.bookOf B with
        | .error e => .error e
        | .ok k => match Na.readMethod (by8 t) with
          | .error e => .error ⟨11, e⟩
          | .ok p => if Mv.marksOk marks most = false ∨ x.length ≤ h then .ok [-1] else if Na.formed x u = false then .ok [-3] else match Na.run (Na.beads x y k) marks p most ⟨u, h, 0, 0⟩ with
            | .ended w n => .ok ([0, (n : Int), (w.acts : Int), (w.cost : Int)] ++ (Na.standingNumbers w.s).map fun n : Nat => (n : Int))
            | .fault kk l => .ok [-9, (kk : Int), (l : Int)]
            | .long => .ok [-8]
theorem make_mk (l : List Nat) : (Na.groups 7 l).map Na.rodOf = mkOf (rodsM l) := by
  unfold mkOf rodsM
  rw [List.map_map]
  exact List.map_congr_left fun g _ => rodOf_is g
/-- a make that is fit -/
theorem make_ok {l : List Nat} {x : Na.Make} (h : Na.makeOf l = .ok x) : x = mkOf (rodsM l) ∧ l.length = 7 * (l.length / 7) ∧ 1 ≤ l.length / 7 ∧ l.length / 7 ≤ 64 ∧ ∀ r ∈ rodsM l, decksM r = true ∧ WholeM r := by
  rw [make_is] at h
  by_cases c : l.length % 7 ≠ 0 ∨ ¬ (1 ≤ l.length / 7 ∧ l.length / 7 ≤ 64)
  · rw [if_pos c] at h; cases h
  · rw [if_neg c] at h
    cases hw : wrongAt l with
    | some i => rw [hw] at h; cases h
    | none =>
      rw [hw] at h
      have h := Except.ok.inj h
      refine ⟨by rw [← h, make_mk], by omega, by omega, by omega, fun r hr => ?_⟩
      unfold wrongAt at hw
      have := List.findIdx?_eq_none_iff.mp hw r hr
      have h0 : ruleM r = 0 := by simpa using this
      exact whole_rule h0
theorem vis_nats (l : List Nat) : vis (l.map fun n : Nat => (n : Int)) = nvs l := by
  show List.map V.int (l.map fun n : Nat => (n : Int)) = _
  rw [List.map_map]
  rfl
section
variable {P : Program} {w : World} {K : PySem.W.Frag} {mg : Str → Option Value} {base : Heap} {cFault cRunFault cTooLong cBeadFrame cReader cLines cRun : Addr}
theorem mk_same {H H' : Hp} {x dx : Addr} {o1 o2 : HO} (hx : H x = none) (hdx : H dx = none) (c : ∀ b o, b ≠ x → upd (upd H dx o1) x o2 b = some o → H' b = some o) : Same H H' := fun b o e =>
  c b o (ne_of_none e hx) (by rw [upd_ne (ne_of_none e hx), upd_ne (ne_of_none e hdx)]; exact e)
theorem RulesAt.same {S : Addr → Prop} {H H' : Hp} {a : Addr} {D : List (P3 × List P3)} (h : RulesAt K S H a D) (s : Same H H') : RulesAt K (fun _ => True) H' a D := by
  obtain ⟨kvs, e, hl, hv⟩ := h
  refine ⟨kvs, s _ _ e, hl, fun p => ?_⟩
  have := hv p
  cases hk : D.lookup p with
  | none => rw [hk] at this; exact this
  | some st =>
    rw [hk] at this
    obtain ⟨v, e1, b, vg, e2, _, h1, h2⟩ := this
    exact ⟨v, e1, b, vg, e2, trivial, s _ _ h1, Paired.mapP h2 fun v r ⟨q, e, h⟩ => ⟨q, e, (chgS s : Chg [] _ _).tup h⟩⟩
def spWorkOf (K : PySem.W.Frag) (F : Addr) : Sp := fun vs H Q E => ∃ (h most : Nat) (mk ha sd ma t bk : Addr) (l lh ls lm : List Nat) (tx : List Int) (xs : List V) (B : List (List Nat)), vs = [.int (h : Int), .int (most : Int), .ref mk, .ref ha, .ref sd, .ref ma, .ref t, .ref bk] ∧ Fz K H mk (nvs l) ∧ Fz K H ha (nvs lh) ∧ Fz K H sd (nvs ls) ∧ Fz K H ma (nvs lm) ∧ Fz K H t (vis tx) ∧ Fz K H bk xs ∧ Paired (RowAt K H) xs B ∧ l.length ≤ 5000 ∧ lh.length ≤ 400 ∧ ls.length ≤ 5000 ∧ lm.length ≤ 5000 ∧ tx.length ≤ 5000 ∧ Good tx ∧ B.length ≤ 820 ∧ (∀ l ∈ B, l.length ≤ 36) ∧
  (∀ r i : Nat, ansWork h most l lh ls lm tx B = .error ⟨r, i⟩ → FX F E r i) ∧ ∀ a, ansWork h most l lh ls lm tx B = .ok a → ∀ H' q, H' q = some (.lst (vis a)) → Q (.ref q) H'
theorem fn_work_of (T : Txt K mg cFault cRunFault cTooLong cBeadFrame cReader cLines cRun) (hnl : ∀ b p, cond b p ≠ .lost) : Df P w K mg base (L2.CX P w) 12 "work_of" ["h", "most", "make", "hand", "standing", "marks", "text", "book"] (spWorkOf K cFault) := by
  refine df_mk T.d_work_of fun f fd F => F.okX sc_work_of (fun vs H Q E h => ?_) (fun cdv A outer s H vs Q E hr h => ?_)
  · obtain ⟨h, most, mk, ha, sd, ma, t, bk, l, lh, ls, lm, tx, xs, B, rfl, _⟩ := h
    rfl
  · obtain ⟨h, most, mk, ha, sd, ma, t, bk, l, lh, ls, lm, tx, xs, B, rfl, hmk, hha, hsd, hma, htx, hbk, hB, ll, llh, lls, llm, ltx, gtx, lB, lB2, kE, k⟩ := h
    have ok_lines_of := fun (T : Txt K mg cFault cRunFault cTooLong cBeadFrame cReader cLines cRun) => ok_lines_of (P := P) (w := w) (base := base) T hnl
    refine ⟨_, (pss_cons (ps_expr (pe_df (ok_want_make T) (hr.mono (by decide)) (passE (takes_of rfl rfl rfl rfl)) (by exact (pa_cons (pv 2) pa_nil)))) (pss_cons (ps_expr (pe_df (ok_want_hand T) (hr.mono (by decide)) (passE (takes_of rfl rfl rfl rfl)) (by exact (pa_cons (pv 3) pa_nil)))) (pss_cons (ps_set (i := 8) sc_work_of.nd rfl (Or.inl rfl) (pe_df (ok_rods_of T) (hr.mono (by decide)) pass0 (by exact (pa_cons (pv 2) pa_nil)))) (pss_cons (ps_expr (pe_df (ok_want_standing T) (hr.mono (by decide)) (passE (takes_of rfl rfl rfl rfl)) (by exact (pa_cons (pv 8) (pa_cons (pv 4) pa_nil))))) (pss_cons (ps_set (i := 9) sc_work_of.nd rfl (Or.inl rfl) (pe_df (ok_rules_of T) (hr.mono (by decide)) (passE (takes_of rfl rfl rfl rfl)) (by exact (pa_cons (pv 7) pa_nil)))) (pss_cons (ps_set (i := 10) sc_work_of.nd rfl (Or.inl rfl) (pe_df (ok_lines_of T) (hr.mono (by decide)) (passE (takes_of rfl rfl rfl rfl)) (by exact (pa_cons (pv 6) pa_nil)))) (pss_cons (ps_if (PW.pt (pw_or (pt_not (pt_val (pe_df (ok_are_right T) (hr.mono (by decide)) pass0 (by exact (pa_cons (pv 5) (pa_cons (pv 1) pa_nil)))))) (pw_or1 (pt_cmpR op_ge (pv 0) (pe_callB call_len_seq (by rfl) T.n_len PySem.boot_len (pa_cons (pv 8) pa_nil)) (nomark _))))) (pss_one (ps_ret (pe_lst (pa_cons (pe_gi T.c_BAD_CALL) pa_nil)))) pss_nil) (pss_cons (ps_setLc (i := 11) (own := [("rod", 12)]) (g := gName 12) (tt := tYes) rfl sc_work_of.nd rfl rfl (sw_true rfl rfl rfl (by decide +kernel)) (pi_list (pv 8)) (blkOk_by (N := ["h", "most", "make", "hand", "standing", "marks", "text", "book", "rods", "rules", "lines", "forms", "rod", "frame", "going", "fault"]) (sc := defScope s_work_of) (by decide +kernel)) (fun _ _ _ _ _ => pg_name (i := 12) sc_work_of.nd rfl (Or.inl rfl)) (fun _ _ _ _ _ => pts_nil) (fun _ _ _ _ _ => (pe_df (ok_forms_of T) (hr.mono (by decide)) pass0 (by exact (pa_cons (pv 12) pa_nil))))) (pss_cons (ps_if (pt_not (pt_val (pe_df (ok_is_in_form T) (hr.mono (by decide)) pass0 (by exact (pa_cons (pv 8) (pa_cons (pv 11) (pa_cons (pv 4) pa_nil))))))) (pss_one (ps_ret (pe_lst (pa_cons (pe_gi T.c_NOT_IN_FORM) pa_nil)))) pss_nil) (pss_cons (ps_set (i := 13) sc_work_of.nd rfl (Or.inl rfl) (pe_kf (ok_BeadFrame___init__ T) (hr.mono (by decide)) pass0 (by exact (pa_cons (pv 8) (pa_cons (pv 11) (pa_cons (pe_tup (pa_cons (pe_ix ix_list (pv 3) pe_int (fun _ _ => rfl)) (pa_cons (pe_df (ok_strokes_of T) (hr.mono (by decide)) pass0 (by exact (pa_cons (pv 3) pa_nil))) pa_nil))) (pa_cons (pv 9) (pa_cons (pv 4) (pa_cons (pv 0) pa_nil))))))))) (pss_cons (ps_set (i := 14) sc_work_of.nd rfl (Or.inl rfl) (pe_kf (ok_Run___init__ T) (hr.mono (by decide)) pass0 (by exact (pa_cons (pv 13) (pa_cons (pv 10) (pa_cons (pv 5) pa_nil)))))) (pss_cons (ps_set (i := 15) sc_work_of.nd rfl (Or.inl rfl) (pe_df (ok_fault_of T) (hr.mono (by decide)) pass0 (by exact (pa_cons (pv 14) (pa_cons (pv 1) pa_nil))))) (pss_one (ps_ret (pe_ifExp (pt_cmpR (op_neE hr.units0) (pv 15) (pe_lst pa_nil) (nomark _)) (pv 15) (pe_op op_cat (pe_lst (pa_cons pe_int (pa_cons (pe_get (pv 14)) (pa_cons (pe_get (pv 13)) (pa_cons (pe_get (pv 13)) pa_nil))))) (pe_get (pv 13)))))))))))))))))), ?_⟩
    refine ⟨_, rfl, mk, l, rfl, hmk, ll, fun r i e => kE r i (by unfold ansWork; rw [e]), fun x ex H1 s1 => ?_⟩
    obtain ⟨exm, hn, n1, n64, hdk⟩ := make_ok ex
    unfold ansWork at kE k
    rw [ex] at kE k
    dsimp only at kE k
    have c1 : Chg [] H H1 := chgS s1
    refine ⟨_, rfl, ha, lh, rfl, hha.chg c1, llh, fun r i e => kE r i (by rw [e]), fun y ey H2 s2 => ?_⟩
    rw [ey] at kE k
    dsimp only at kE k
    obtain ⟨o, gr, rfl, ey2, hgs, ho, hg7, hgl⟩ := hand_ok ey
    have c2 : Chg [] H H2 := c1.trans (chgS s2)
    have hlen := rodsM_len hn
    refine ⟨_, rfl, mk, l, l.length / 7, rfl, hmk.chg c2, hn, n64, fun H3 rd vr s3 nrd hrd hrp => ?_⟩
    have c3 : Chg [] H H3 := c2.trans (chgS s3)
    have hAD : AllD (rodsM l) := fun r hr => (hdk r hr).1
    have hWH : ∀ r ∈ rodsM l, WholeM r := fun r hr => (hdk r hr).2
    subst exm
    refine ⟨_, rfl, _, rfl, rd, sd, vr, rodsM l, ls, rfl, hrd, hrp, hsd.chg c3, hAD, lls, fun r i e => kE r i (by rw [show Na.standingOf (mkOf (rodsM l)) ls = .error ⟨r, i⟩ from e]), fun u eu H4 s4 => ?_⟩
    rw [show Na.standingOf (mkOf (rodsM l)) ls = .ok u from eu] at kE k
    dsimp only at kE k
    obtain ⟨rfl, hok⟩ := stand_done hAD eu
    have c4 : Chg [] H H4 := c3.trans (chgS s4)
    refine ⟨_, rfl, bk, xs, B, rfl, hbk.chg c4, Paired.mapP hB fun v r ⟨q, e, h⟩ => ⟨q, e, h.chg c4⟩, lB, lB2, fun r i e => kE r i (by rw [e]), fun D eD hst H5 ru s5 nru hru => ?_⟩
    rw [eD] at kE k
    dsimp only at kE k
    have c5 : Chg [] H H5 := c4.trans (chgS s5)
    have hrdm := read_is tx gtx
    refine ⟨_, rfl, t, tx, rfl, htx.chg c5, gtx, ltx, fun kk e => ?_, fun sl e H6 r L hL => ?_⟩
    · cases hm : Na.readMethod (by8 tx) with
      | error k' =>
        rw [hm] at hrdm kE
        have hrdm : linesOf tx = .bad k' := hrdm
        rw [e] at hrdm
        cases hrdm
        exact kE 11 kk rfl
      | ok m =>
        rw [hm] at hrdm
        have := hrdm.1
        rw [e] at this
        cases this
    · cases hm : Na.readMethod (by8 tx) with
      | error k' =>
        rw [hm] at hrdm
        have hrdm : linesOf tx = .bad k' := hrdm
        rw [e] at hrdm
        cases hrdm
      | ok m =>
        rw [hm] at hrdm kE k
        dsimp only at kE k
        obtain ⟨hls, hos, hft⟩ := hrdm
        have esl : sl = m.foldl stepL .empty := by
          rw [e] at hls
          exact Ab.R.ok.inj hls
        have hlm : LnM sl m := ⟨esl, read_ok5 hm (by rw [by8_len]; exact ltx), hft⟩
        have s56 : Same H5 H6 := hL.base
        have c6 : Chg [] H H6 := c5.trans (chgS s56)
        refine ⟨_, rfl, _, rfl, ma, lm, most, rfl, hma.chg c6, llm, fun H7 s7 => ⟨_, rfl, ?_⟩⟩
        have c7 : Chg [] H H7 := c6.trans (chgS s7)
        have s37 : Same H3 H7 := fun b o e => s7 _ _ (s56 _ _ (s5 _ _ (s4 _ _ e)))
        have hrd7 := s37 _ _ hrd
        have hrp7 : Paired (RodAt K H7) vr (rodsM l) := Paired.mapP hrp fun v r h => h.chg (chgS s37 : Chg [] _ _)
        have lr := Paired.length hrp
        cases hmk1 : Mv.marksOk lm most with
        | false =>
          rw [if_pos (.inl hmk1)] at k
          refine ite2 (fun _ => ?_) (fun n => absurd rfl n)
          refine ite2 (fun _ => ?_) (fun n => absurd rfl n)
          exact ⟨sz (show 1 ≤ 100000 by decide), fun q hq => k _ rfl _ q upd_same⟩
        | true =>
          refine ite2 (fun n => absurd n (by decide)) (fun _ => ?_)
          refine ⟨_, rfl, _, rfl, rd, _, rfl, .inl (SqL.of hrd7), _, _, rfl, rfl, _, rfl, ?_⟩
          rw [lr]
          by_cases hh : (rodsM l).length ≤ h
          · rw [if_pos (.inr (by rw [mkOf_len]; exact hh))] at k
            refine ite2 (fun _ => ?_) (fun n => absurd (decide_eq_true (by omega)) n)
            exact ⟨sz (show 1 ≤ 100000 by decide), fun q hq => k _ rfl _ q upd_same⟩
          · rw [if_neg (by rw [hmk1, mkOf_len]; simp; omega)] at k
            refine ite2 (fun n => absurd (of_decide_eq_true n) (by omega)) (fun _ => ?_)
            have hL7 := hL.same s7
            refine ⟨_, rfl, rd, rfl, ⟨_, SqL.of hrd7⟩, fun fo hfo => ?_⟩
            refine lc_list (K := K) (a := rd) (xs := vr) (fun i H' => Same H7 H' ∧ ∃ vf, H' fo = some (.lst vf) ∧ Paired (fun v r => ∃ a, v = .ref a ∧ FormAt K H' a r.q (formsM r)) vf ((rodsM l).take i)) ⟨same_lst hfo, [], upd_same, .nil⟩ (fun i H' _ h => SqL.of (h.1 _ _ hrd7)) ?_ ?_
            · rintro i x H8 hx ⟨s8, vf, hf8, hp8⟩
              obtain ⟨r8, hr8, hx8⟩ := paired_at hrp7 hx
              refine ⟨rfl, ?_⟩
              have hil : i < (rodsM l).length := (List.getElem?_eq_some_iff.mp hr8).1
              refine ⟨_, rfl, x, r8, rfl, hx8.chg (chgS s8 : Chg [] _ _), hAD r8 (List.mem_of_getElem? hr8), fun H9 p9 s9 np9 hfm => ?_⟩
              have hf9 := s9 _ _ hf8
              have nfp : p9 ≠ fo := fun z => by rw [z, hf8] at np9; cases np9
              have c9 : Chg [fo] H9 (upd H9 fo (.lst (vf ++ [.ref p9]))) := (Chg.refl H9).set (by simp) hf9 (by intro z; exact z)
              refine ⟨vf, hf9, szl (by rw [Paired.length hp8, List.length_take]; omega), fun b o e => ?_, vf ++ [.ref p9], upd_same, ?_⟩
              · rw [upd_ne (ne_of_none e hfo)]
                exact s9 _ _ (s8 _ _ e)
              · rw [List.take_succ, hr8]
                refine paired_snoc ⟨p9, rfl, hfm.chg c9 (by simpa using nfp)⟩ (Paired.mapP hp8 fun v r ⟨a, e, hh⟩ => ⟨a, e, ?_⟩)
                obtain ⟨kvs, ek, _⟩ := id hh
                exact (hh.chg (chgS s9 : Chg [] _ _) (by simp)).chg c9 (by simpa using ne_of ek hf8 (by intro z; cases z))
            · rintro H8 ⟨s8, vf, hf8, hp8⟩
              rw [List.take_of_length_le (by omega)] at hp8
              have hrd8 := s8 _ _ hrd7
              have hrp8 : Paired (RodAt K H8) vr (rodsM l) := Paired.mapP hrp7 fun v r h => h.chg (chgS s8 : Chg [] _ _)
              have c8 : Chg [] H H8 := c7.trans (chgS s8)
              refine ⟨_, rfl, _, rfl, _, rfl, rd, fo, sd, vr, vf, rodsM l, ls, rfl, hrd8, hrp8, hf8, hp8, (hsd.chg c8).sq, fun H' s' => (hsd.chg (c8.trans (chgS s'))).sq, hAD, hWH, hok, by omega, fun H9 s9 => ⟨_, rfl, ?_⟩⟩
              have c9 : Chg [] H H9 := c8.trans (chgS s9)
              have efm : Na.formed (mkR (rodsM l)) (sOf (rodsM l) ls) = Na.formed (mkOf (rodsM l)) (sOf (rodsM l) ls) := rfl
              rw [efm]
              cases hfm : Na.formed (mkOf (rodsM l)) (sOf (rodsM l) ls) with
              | false =>
                rw [if_pos hfm] at k
                refine ite2 (fun _ => ?_) (fun n => absurd rfl n)
                exact ⟨sz (show 1 ≤ 100000 by decide), fun q hq => k _ rfl _ q upd_same⟩
              | true =>
                rw [if_neg (by rw [hfm]; decide)] at k
                refine ite2 (fun n => absurd n (by decide)) (fun _ => ?_)
                subst ey2
                refine ⟨_, rfl, _, rfl, _, rfl, ha, _, _, _, rfl, rfl, (hha.chg c9).sq, at_of (j := 0) (by omega) rfl, _, rfl, ha, o :: gr, gr.length / 7, rfl, hha.chg c9, by rw [List.length_cons]; omega, by omega, fun H10 sk vg s10 nsk hsk hsg => ⟨sz (show 2 ≤ 100000 by decide), fun hdt hhdt => ⟨_, rfl, _, rfl, _, rfl, fun fr fdx hfr hfdx ne => ?_⟩⟩⟩
                have hsg : Paired (StrokeAt K H10) vg (Na.groups 7 gr) := hsg
                have s11 : Same H10 (upd H10 hdt (.tup [.int (o : Int), .ref sk])) := same_lst hhdt
                have t11 : SqT K (upd H10 hdt (.tup [.int (o : Int), .ref sk])) hdt [.int (o : Int), .ref sk] := SqT.of upd_same
                have hfr : (upd H10 hdt (.tup [.int (o : Int), .ref sk])) fr = none := hfr
                have hfdx : (upd H10 hdt (.tup [.int (o : Int), .ref sk])) fdx = none := hfdx
                refine ⟨fr, fdx, rd, fo, hdt, sk, ru, sd, vr, rodsM l, o, ls, h, rfl, upd_same, ?_⟩
                show _ ∧ _
                generalize upd H10 hdt (.tup [.int (o : Int), .ref sk]) = H11 at s11 t11 hfr hfdx ⊢
                have sa : Same H11 (upd (upd H11 fdx (.own fr)) fr (.ins cBeadFrame fdx [])) := fun b o e => by rw [upd_ne (ne_of_none e hfr), upd_ne (ne_of_none e hfdx)]; exact e
                have s711 : Same H7 H11 := fun b o e => s11 _ _ (s10 _ _ (s9 _ _ (s8 _ _ e)))
                have s811 : Same H8 H11 := fun b o e => s11 _ _ (s10 _ _ (s9 _ _ e))
                have s511 : Same H5 H11 := fun b o e => s711 _ _ (s7 _ _ (s56 _ _ e))
                have hrd11 := s711 _ _ hrd7
                have hrp11 : Paired (RodAt K H11) vr (rodsM l) := Paired.mapP hrp7 fun v r h => h.chg (chgS s711 : Chg [] _ _)
                have c11 : Chg [] H H11 := c7.trans (chgS s711)
                have q20 : ∀ r ∈ rodsM l, r.q ≤ 20 := fun r hr => (decks_cases (hAD r hr)).1.2
                refine ⟨sa _ _ hrd11, Paired.mapP hrp11 fun v r h => h.chg (chgS sa : Chg [] _ _), by omega, q20, (chgS sa : Chg [] _ _).tup t11, hsd.chg (c11.trans (chgS sa)), fun H12 pl pu c12 npl npu nn ho12 hpl hpu => ⟨rfl, ?_⟩⟩
                have s1112 : Same H11 H12 := mk_same hfr hfdx c12
                refine ⟨_, rfl, _, rfl, _, rfl, fun g gdx hg hgdx ne2 => ?_⟩
                refine ⟨g, gdx, fr, L.a, ma, rfl, upd_same, fun H13 hd c13 nhd hgo hho => ⟨rfl, ?_⟩⟩
                have s1213 : Same H12 H13 := mk_same hg hgdx c13
                have back : ∀ {A B : Hp} {x : Addr}, Same A B → B x = none → A x = none := fun {A B x} s e => by
                  cases q : A x with
                  | none => rfl
                  | some o => rw [s x o q] at e; cases e
                have hhd12 : H12 hd = none := (upd_none (upd_none nhd).2).2
                have pl11 : H11 pl = none := (upd_none (upd_none npl).2).2
                have pu11 : H11 pu = none := (upd_none (upd_none npu).2).2
                have s1113 : Same H11 H13 := fun b o e => s1213 _ _ (s1112 _ _ e)
                have s713 : Same H7 H13 := fun b o e => s1113 _ _ (s711 _ _ e)
                have hmk8 : (lm.length == 8) = true ∧ (lm.all fun x => decide (x ≤ 63)) = true := by
                  unfold Mv.marksOk at hmk1
                  have := Bool.and_eq_true_iff.mp hmk1
                  exact ⟨this.1, (Bool.and_eq_true_iff.mp this.2).1⟩
                have hfo11 : FrOk K ⟨fr, fdx, rd, fo, pl, sk, ru, pu, rodsM l, o, Na.groups 7 gr, D, H11⟩ := {
                  rods := ⟨vr, hrd11, hrp11⟩
                  forms := ⟨vf, s811 _ _ hf8, Paired.mapP hp8 fun v r ⟨a, e, hh⟩ => ⟨a, e, hh.chg (chgS s811 : Chg [] _ _) (by simp)⟩⟩
                  stk := ⟨vg, s11 _ _ hsk, Paired.mapP hsg fun v r ⟨a, e, hh, h7⟩ => ⟨a, e, (chgS s11 : Chg [] _ _).tup hh, h7⟩⟩
                  rul := RulesAt.same hru s511
                  few := by show (rodsM l).length ≤ 64; omega
                  one := by show 1 ≤ (rodsM l).length; omega
                  dek := hAD
                  whl := hWH
                  str := hgs
                  stp := hst
                  ovl := ho }
                have hbd : BdAt K cBeadFrame ⟨fr, fdx, rd, fo, pl, sk, ru, pu, rodsM l, o, Na.groups 7 gr, D, H11⟩ H13 ls h 0 0 := {
                  st := hfo11
                  base := s1113
                  new := fun x hx => by
                    simp only [Frm.own, List.mem_cons, List.not_mem_nil, or_false] at hx
                    rcases hx with z | z | z
                    · rw [z]; exact hfr
                    · rw [z]; exact pl11
                    · rw [z]; exact pu11
                  obj := s1213 _ _ ho12
                  plc := s1213 _ _ hpl
                  pus := s1213 _ _ hpu
                  npl := nn
                  ok := hok
                  hat := by show h < (rodsM l).length; omega }
                have own12 : ∀ x ∈ (Frm.own ⟨fr, fdx, rd, fo, pl, sk, ru, pu, rodsM l, o, Na.groups 7 gr, D, H11⟩), ∃ o, H12 x = some o := fun x hx => by
                  simp only [Frm.own, List.mem_cons, List.not_mem_nil, or_false] at hx
                  rcases hx with z | z | z
                  · rw [z]; exact ⟨_, ho12⟩
                  · rw [z]; exact ⟨_, hpl⟩
                  · rw [z]; exact ⟨_, hpu⟩
                have hrun : RunAt K cRun cLines cBeadFrame H5 H7 ⟨g, gdx, hd, ma, r, L, sl, lm, ⟨fr, fdx, rd, fo, pl, sk, ru, pu, rodsM l, o, Na.groups 7 gr, D, H11⟩⟩ H13 ⟨0, List.replicate 8 0, ⟨sOf (rodsM l) ls, h, 0, 0⟩⟩ 0 := {
                  base := s713
                  lines := hL7
                  gob := hgo
                  hob := hho
                  new := fun x hx => by
                    rcases List.mem_cons.mp hx with z | hx
                    · rw [z]; exact back s711 (back s1112 hg)
                    · rcases List.mem_cons.mp hx with z | hx
                      · rw [z]; exact back s711 (back s1112 hhd12)
                      · exact back s711 (hbd.new x hx)
                  gn := fun mm => by
                    obtain ⟨oo, eo⟩ := own12 _ mm
                    rw [show H12 g = none from hg] at eo
                    cases eo
                  go := back s1112 hg
                  ho := back s1112 hhd12
                  hn := fun mm => by
                    obtain ⟨oo, eo⟩ := own12 _ mm
                    rw [show H12 hd = none from hhd12] at eo
                    cases eo
                  fr := ⟨ls, hbd, rfl⟩
                  mf := hma.chg c7
                  h8 := rfl
                  hh := fun k => by
                    show (List.replicate 8 0).getD k 0 ≤ 99
                    rw [List.getD_eq_getElem?_getD, List.getElem?_replicate]
                    split <;> exact Nat.zero_le _
                  m8 := by simpa using hmk8.1
                  mh := fun k => by
                    show lm.getD k 0 ≤ 63
                    rw [List.getD_eq_getElem?_getD]
                    cases hq : lm[k]? with
                    | none => exact Nat.zero_le _
                    | some y =>
                      have := List.all_eq_true.mp hmk8.2 y (List.mem_of_getElem? hq)
                      exact of_decide_eq_true this }
                refine ⟨_, rfl, _, rfl, H5, H7, ⟨g, gdx, hd, ma, r, L, sl, lm, ⟨fr, fdx, rd, fo, pl, sk, ru, pu, rodsM l, o, Na.groups 7 gr, D, H11⟩⟩, ⟨0, List.replicate 8 0, ⟨sOf (rodsM l) ls, h, 0, 0⟩⟩, most, m, rfl, hrun, hlm, ?_⟩
                generalize hZ : (⟨fr, fdx, rd, fo, pl, sk, ru, pu, rodsM l, o, Na.groups 7 gr, D, H11⟩ : Frm) = Z at hrun hbd ⊢
                have er : Na.run (Na.beads (mkOf (rodsM l)) ⟨o, (Na.groups 7 gr).map Na.strokeOf⟩ (D.map ruleAs)) lm m most ⟨sOf (rodsM l) ls, h, 0, 0⟩ = Na.runOn (brdZ Z) lm m most 0 ⟨0, List.replicate 8 0, ⟨sOf (rodsM l) ls, h, 0, 0⟩⟩ := by rw [← hZ]; rfl
                have ers : Z.rs = rodsM l := by rw [← hZ]
                rw [er] at k
                show match Na.runOn (brdZ Z) lm m most 0 ⟨0, List.replicate 8 0, ⟨sOf (rodsM l) ls, h, 0, 0⟩⟩ with | .ended v st => _ | .fault kk ln => _ | .long => _
                cases hro : Na.runOn (brdZ Z) lm m most 0 ⟨0, List.replicate 8 0, ⟨sOf (rodsM l) ls, h, 0, 0⟩⟩ with
                | ended v2 st =>
                  rw [hro] at k
                  intro H14 c q hc he hq
                  have s14 : ∀ {q2}, H14 q2 = none → Same H14 (upd H14 q2 (.lst [])) := fun h => same_lst h
                  refine ⟨_, rfl, Nat.zero_le _, fun q2 hq2 => ⟨q, q2, [], rfl, rfl, SqL.of (s14 hq2 _ _ hq), SqL.of upd_same, _, rfl, ?_⟩⟩
                  refine ite2 (fun n => absurd n (by decide)) (fun _ => ?_)
                  have h9 := hc.same (s14 hq2)
                  subst he
                  obtain ⟨l', hb, hs⟩ := h9.fr
                  have k := k _ rfl
                  rw [show c.on.s = sOf (rodsM l) l' from by rw [← ers]; exact hs, numbers_is hAD (ers ▸ hb.ok)] at k
                  subst hZ
                  refine ⟨_, rfl, _, _, rfl, h9.fst T, _, rfl, _, _, rfl, BdAt.fac T hb, _, rfl, _, _, rfl, BdAt.fco T hb, sz (show 4 ≤ 100000 by decide), fun q3 hq3 => ?_⟩
                  refine ⟨_, rfl, _, _, rfl, BdAt.fpu T (hb.same (same_lst hq3)), q3, pu, _, _, rfl, rfl, upd_same, same_lst hq3 _ _ hb.pus, ?_, fun q4 hq4 => ?_⟩
                  · have := hb.ok.len
                    have := hb.st.few
                    refine sz ?_
                    rw [nvs_len]
                    show 4 + l'.length ≤ 100000
                    omega
                  · refine k _ q4 (upd_same.trans ?_)
                    have ev : vis ([0, (st : Int), (c.on.acts : Int), (c.on.cost : Int)] ++ l'.map fun n : Nat => (n : Int)) = [V.int 0, V.int (st : Int), V.int (c.on.acts : Int), V.int (c.on.cost : Int)] ++ nvs l' := by
                      rw [← vis_nats]
                      exact List.map_append ..
                    rw [ev]
                | fault kk ln =>
                  rw [hro] at k
                  intro H14 q hq
                  refine ⟨_, rfl, Nat.zero_le _, fun q2 hq2 => ⟨q, q2, _, rfl, rfl, SqL.of (same_lst hq2 _ _ hq), SqL.of upd_same, _, rfl, ?_⟩⟩
                  refine ite2 (fun _ => ?_) (fun n => absurd rfl n)
                  exact ⟨_, rfl, k _ rfl _ q (same_lst hq2 _ _ hq)⟩
                | long =>
                  rw [hro] at k
                  intro H14 q hq
                  refine ⟨_, rfl, Nat.zero_le _, fun q2 hq2 => ⟨q, q2, _, rfl, rfl, SqL.of (same_lst hq2 _ _ hq), SqL.of upd_same, _, rfl, ?_⟩⟩
                  refine ite2 (fun _ => ?_) (fun n => absurd rfl n)
                  exact ⟨_, rfl, k _ rfl _ q (same_lst hq2 _ _ hq)⟩
def tb_work (K : PySem.W.Frag) (cFault cRunFault cTooLong cBeadFrame cReader cLines cRun : Addr) : WX → TS := fun W => tAsg (tCallS (spWorkOf K cFault) (WE W) (tCons (tVar 0) (tCons (tVar 1) (tCons (tVar 2) (tCons (tVar 3) (tCons (tVar 4) (tCons (tVar 5) (tCons (tVar 6) (tCons (tVar 7) tNil))))))))) (gName 8)
def ts_work (K : PySem.W.Frag) (cFault cRunFault cTooLong cBeadFrame cReader cLines cRun : Addr) : Addr → Value → Option Addr → TS := fun a cls d => tAsg (tLst (tCons (tC (.int (-5))) (tCons (tXf a cls d cFault "rule" (tVar 9)) (tCons (tXf a cls d cFault "place" (tVar 9)) tNil)))) (gName 8)
def spWorkC (K : PySem.W.Frag) : Sp := fun vs H Q _ => ∃ (h most : Nat) (mk ha sd ma t bk : Addr) (l lh ls lm : List Nat) (tx : List Int) (xs : List V) (B : List (List Nat)), vs = [.int (h : Int), .int (most : Int), .ref mk, .ref ha, .ref sd, .ref ma, .ref t, .ref bk] ∧ Fz K H mk (nvs l) ∧ Fz K H ha (nvs lh) ∧ Fz K H sd (nvs ls) ∧ Fz K H ma (nvs lm) ∧ Fz K H t (vis tx) ∧ Fz K H bk xs ∧ Paired (RowAt K H) xs B ∧ l.length ≤ 5000 ∧ lh.length ≤ 400 ∧ ls.length ≤ 5000 ∧ lm.length ≤ 5000 ∧ tx.length ≤ 50000 ∧ Good tx ∧ B.length ≤ 820 ∧ (∀ l ∈ B, l.length ≤ 36) ∧
  ∀ H' q, H' q = some (.lst (vis (if 4096 < tx.length then [-6] else match ansWork h most l lh ls lm tx B with
    | .error e => [-5, (e.rule : Int), (e.place : Int)]
    | .ok a => a))) → Q (.ref q) H'
theorem fn_work (T : Txt K mg cFault cRunFault cTooLong cBeadFrame cReader cLines cRun) (hnl : ∀ b p, cond b p ≠ .lost) {f : Addr} {fd : FuncData} (F : Fun K "work" "work" s_work f fd) : FnOk P w K mg base CX0 13 f fd ["h", "most", "make", "hand", "standing", "marks", "text", "book"] (spWorkC K) := by
  refine F.ok sc_work (fun vs H Q E h => ?_) (fun cdv A outer s H vs Q E hr h => ?_)
  · obtain ⟨h, most, mk, ha, sd, ma, t, bk, l, lh, ls, lm, tx, xs, B, rfl, _⟩ := h
    rfl
  · obtain ⟨h, most, mk, ha, sd, ma, t, bk, l, lh, ls, lm, tx, xs, B, rfl, hmk, hha, hsd, hma, htx, hbk, hB, ll, llh, lls, llm, ltx, gtx, lB, lB2, k⟩ := h
    have ok_work_of := fun (T : Txt K mg cFault cRunFault cTooLong cBeadFrame cReader cLines cRun) => fn_work_of (P := P) (w := w) (base := base) T hnl
    refine ⟨_, (pss_cons (ps_if (pt_cmpR op_gt (pe_callB call_len_seq (by rfl) T.n_len PySem.boot_len (pa_cons (pv 6) pa_nil)) (pe_gi T.c_MOST_BYTES) (nomark _)) (pss_one (ps_ret (pe_lst (pa_cons (pe_gi T.c_TEXT_TOO_LONG) pa_nil)))) pss_nil) (pss_cons (ps_try_as (i := 9) (tb := (tb_work K cFault cRunFault cTooLong cBeadFrame cReader cLines cRun)) (ts := (ts_work K cFault cRunFault cTooLong cBeadFrame cReader cLines cRun)) (Wout := fun _ _ _ _ => False) rfl rfl sc_work.nd rfl rfl ⟨rfl, by decide, Or.inl T.g_Fault⟩ takes0 (fun W pn xe tk hp => (pss_one (ps_set (i := 8) sc_work.nd rfl (Or.inl rfl) (by exact (pe_dfS (ok_work_of T) (hr.mono (by decide)) (fun σ => passAt tk σ) (by exact (pa_cons (pv 0) (pa_cons (pv 1) (pa_cons (pv 2) (pa_cons (pv 3) (pa_cons (pv 4) (pa_cons (pv 5) (pa_cons (pv 6) (pa_cons (pv 7) pa_nil)))))))))))))) (fun a oe cls d pn hz hf => (pss_one (ps_set (i := 8) sc_work.nd rfl (Or.inl rfl) (pe_lst (pa_cons (pe_gi T.c_FAULTY) (pa_cons (pe_xf T.xc_Fault T.na_Fault_rule hz hf (pv 9)) (pa_cons (pe_xf T.xc_Fault T.na_Fault_place hz hf (pv 9)) pa_nil)))))))) (pss_one (ps_ret (pv 8))))), ?_⟩
    have elen : (vis tx).length = tx.length := vis_len tx
    refine ⟨_, rfl, t, vis tx, rfl, .inl htx.sq, _, _, rfl, rfl, _, rfl, ?_⟩
    by_cases hl : 4096 < tx.length
    · rw [if_pos hl] at k
      refine ite2 (fun _ => ?_) (fun n => absurd (decide_eq_true (by omega)) n)
      exact ⟨sz (show 1 ≤ 100000 by decide), fun q hq => k _ q upd_same⟩
    · rw [if_neg hl] at k
      refine ite2 (fun n => absurd (of_decide_eq_true n) (by omega)) (fun _ => ?_)
      refine ⟨_, rfl, _, rfl, _, rfl, _, rfl, _, rfl, _, rfl, _, rfl, _, rfl, h, most, mk, ha, sd, ma, t, bk, l, lh, ls, lm, tx, xs, B, rfl, hmk, hha, hsd, hma, htx, hbk, hB, ll, llh, lls, llm, by omega, gtx, lB, lB2, fun r i e => ?_, fun a e H1 q hq => ?_⟩
      · rw [e] at k
        intro d H' hd
        refine ⟨true, T.xm_Fault_Fault, fun _ a ha => ?_, fun z => by cases z⟩
        refine ⟨_, rfl, rfl, rfl, d, _, _, rfl, hd, fxd_rule _ _, _, rfl, rfl, rfl, d, _, _, rfl, hd, fxd_place _ _, sz (show 3 ≤ 100000 by decide), fun q hq => ?_⟩
        exact ⟨_, rfl, k _ q upd_same⟩
      · rw [e] at k
        exact ⟨_, rfl, k H1 q hq⟩
end
end Ab
/-! ## The law of work -/
namespace Ab
open PySem PySem.Spec PyProof.Rows L2
theorem work_is (h most : Int) (mk ha sd ma : List Int) (t : List Int) (bk : List (List Int)) (g : Good t) : PyYqacda.work h most mk ha sd ma t bk = if 4096 < t.length then [-6] else match ansWork h.toNat most.toNat (mk.map Int.toNat) (ha.map Int.toNat) (sd.map Int.toNat) (ma.map Int.toNat) t (bk.map fun r => r.map Int.toNat) with
    | .error e => [-5, (e.rule : Int), (e.place : Int)]
    | .ok a => a := by
  have e : PyYqacda.work h most mk ha sd ma t bk = MvNeutral.told (Mv.answer (.work h.toNat most.toNat (mk.map Int.toNat) (ha.map Int.toNat) (sd.map Int.toNat) (ma.map Int.toNat) (by8 t) (bk.map fun r => r.map Int.toNat))) := by
    show (MvNeutral.step MvNeutral.start ([4, h, most] :: mk :: ha :: sd :: ma :: t :: bk)).2 = _
    unfold MvNeutral.step
    show (match ((MvNeutral.bytesOf t).map fun (t : List UInt8) => Mv.Call.work h.toNat most.toNat (MvNeutral.nats mk) (MvNeutral.nats ha) (MvNeutral.nats sd) (MvNeutral.nats ma) t (MvNeutral.rows bk)) with | some x => _ | none => _ : MvNeutral.S × List Int).2 = _
    rw [good_bytes g]
    rfl
  rw [e]
  unfold Mv.answer ansWork
  dsimp only
  rw [by8_len]
  by_cases hl : 4096 < t.length
  · rw [if_pos (show Mv.LONGEST < t.length from hl), if_pos hl]
    rfl
  · rw [if_neg (show ¬ Mv.LONGEST < t.length from hl), if_neg hl]
    cases Na.makeOf (mk.map Int.toNat) with
    | error e => rfl
    | ok x =>
      dsimp only
      cases Na.handOf (ha.map Int.toNat) with
      | error e => rfl
      | ok y =>
        dsimp only
        cases Na.standingOf x (sd.map Int.toNat) with
        | error e => rfl
        | ok u =>
          dsimp only
          cases Na.bookOf (bk.map fun r => r.map Int.toNat) with
          | error e => rfl
          | ok k =>
            dsimp only
            unfold Mv.withMethod
            cases Na.readMethod (by8 t) with
            | error k => rfl
            | ok p =>
              dsimp only
              by_cases h1 : Mv.marksOk (ma.map Int.toNat) most.toNat = false ∨ x.length ≤ h.toNat
              · rw [if_pos h1, if_pos h1]; rfl
              · rw [if_neg h1, if_neg h1]
                by_cases h2 : Na.formed x u = false
                · rw [if_pos h2, if_pos h2]; rfl
                · rw [if_neg h2, if_neg h2]
                  cases Na.run (Na.beads x y k) (ma.map Int.toNat) p most.toNat ⟨u, h.toNat, 0, 0⟩ <;> rfl
theorem nvs_nats : ∀ {l : List Int}, (∀ c ∈ l, 0 ≤ c) → nvs (l.map Int.toNat) = vis l
  | [], _ => rfl
  | c :: l, h => by
    have ih := nvs_nats (l := l) (fun d hd => h d (List.mem_cons_of_mem _ hd))
    have hc := h c (List.mem_cons_self ..)
    show V.int ((c.toNat : Nat) : Int) :: nvs (l.map Int.toNat) = V.int c :: vis l
    rw [ih, Int.toNat_of_nonneg hc]
open PySem.W in
theorem int_in {lo hi z : Int} (h : (Codec.int lo hi).within z = true) : lo ≤ z ∧ z ≤ hi := by
  have h : (decide (lo ≤ z) && decide (z ≤ hi)) = true := h
  exact ⟨of_decide_eq_true (Bool.and_eq_true_iff.mp h).1, of_decide_eq_true (Bool.and_eq_true_iff.mp h).2⟩
open PySem.W in
theorem list_in {n : Nat} {lo hi : Int} {l : List Int} (h : (Codec.list 0 n (.int lo hi)).within l = true) : l.length ≤ n ∧ ∀ c ∈ l, lo ≤ c ∧ c ≤ hi := by
  have h : (Codec.inLen 0 n l && l.all (Codec.inInt lo hi)) = true := h
  have z : (decide (0 ≤ l.length) && decide (l.length ≤ n)) = true := (Bool.and_eq_true_iff.mp h).1
  refine ⟨of_decide_eq_true (Bool.and_eq_true_iff.mp z).2, fun c hc => ?_⟩
  exact int_in (List.all_eq_true.mp (Bool.and_eq_true_iff.mp h).2 c hc)
open PySem.W in
theorem rows_in {n m : Nat} {lo hi : Int} {l : List (List Int)} (h : (Codec.list 0 n (.list 0 m (.int lo hi))).within l = true) : l.length ≤ n ∧ ∀ r ∈ l, r.length ≤ m ∧ ∀ c ∈ r, lo ≤ c ∧ c ≤ hi := by
  have h : (Codec.inLen 0 n l && l.all fun r => (Codec.list 0 m (.int lo hi)).within r) = true := h
  have z : (decide (0 ≤ l.length) && decide (l.length ≤ n)) = true := (Bool.and_eq_true_iff.mp h).1
  refine ⟨of_decide_eq_true (Bool.and_eq_true_iff.mp z).2, fun r hr => ?_⟩
  exact list_in (List.all_eq_true.mp (Bool.and_eq_true_iff.mp h).2 r hr)
theorem rows_dw {K : PySem.W.Frag} {H : Hp} (hO : OnlyF H) : ∀ (bk : List (List Int)) (xs : List V), (∀ r ∈ bk, ∀ c ∈ r, 0 ≤ c) → DwAll K H xs (bk.map fun r => PySem.W.WData.list (r.map PySem.W.WData.int)) → Paired (RowAt K H) xs (bk.map fun r => r.map Int.toNat)
  | [], xs, _, h => by
    cases h
    exact .nil
  | r :: bk, xs, hn, h => by
    cases h with
    | cons h1 h2 =>
      cases h1 with
      | lst hs hd =>
        have e := ints_dw r _ hd
        subst e
        refine .cons ⟨_, rfl, ?_⟩ (rows_dw hO bk _ (fun r hr => hn r (List.mem_cons_of_mem _ hr)) h2)
        rw [nvs_nats (hn r (List.mem_cons_self ..))]
        exact Fz.of hs hO
theorem work_S (K : PySem.W.Frag) (H : Hp) (xs : List V) (a : PySem.W.Codec.denoteAll PySem.Challenge.rw_abacusways_s04_work.args) (hO : OnlyF H) (hwi : PySem.W.Codec.withinAll PySem.Challenge.rw_abacusways_s04_work.args a = true)
    (hx : DwAll K H xs (PySem.W.Codec.encAll PySem.Challenge.rw_abacusways_s04_work.args a)) :
    spWorkC K xs H (fun v H' => Dw K H' v (PySem.Challenge.rw_abacusways_s04_work.ret.enc (PySem.W.Codec.app PySem.Challenge.rw_abacusways_s04_work.args PySem.Challenge.rw_abacusways_s04_work.f a))) fun _ _ _ => False := by
  obtain ⟨h, most, mk, ha, sd, ma, t, bk, u⟩ := a
  have w1 := Bool.and_eq_true_iff.mp hwi
  have w2 := Bool.and_eq_true_iff.mp w1.2
  have w3 := Bool.and_eq_true_iff.mp w2.2
  have w4 := Bool.and_eq_true_iff.mp w3.2
  have w5 := Bool.and_eq_true_iff.mp w4.2
  have w6 := Bool.and_eq_true_iff.mp w5.2
  have w7 := Bool.and_eq_true_iff.mp w6.2
  have w8 := Bool.and_eq_true_iff.mp w7.2
  have i1 := int_in w1.1
  have i2 := int_in w2.1
  have l3 := list_in w3.1
  have l4 := list_in w4.1
  have l5 := list_in w5.1
  have l6 := list_in w6.1
  have l7 := list_in w7.1
  have l8 := rows_in w8.1
  cases hx with
  | cons h1 hx =>
    cases hx with
    | cons h2 hx =>
      cases hx with
      | cons h3 hx =>
        cases hx with
        | cons h4 hx =>
          cases hx with
          | cons h5 hx =>
            cases hx with
            | cons h6 hx =>
              cases hx with
              | cons h7 hx =>
                cases hx with
                | cons h8 hx =>
                  cases hx
                  cases h1
                  cases h2
                  cases h3 with
                  | lst hs3 hd3 =>
                    cases h4 with
                    | lst hs4 hd4 =>
                      cases h5 with
                      | lst hs5 hd5 =>
                        cases h6 with
                        | lst hs6 hd6 =>
                          cases h7 with
                          | lst hs7 hd7 =>
                            cases h8 with
                            | lst hs8 hd8 =>
                              have e3 := ints_dw mk _ hd3
                              have e4 := ints_dw ha _ hd4
                              have e5 := ints_dw sd _ hd5
                              have e6 := ints_dw ma _ hd6
                              have e7 := ints_dw t _ hd7
                              have n8 : ∀ r ∈ bk, ∀ c ∈ r, 0 ≤ c := fun r hr c hc => ((l8.2 r hr).2 c hc).1
                              have p8 := rows_dw hO bk _ n8 hd8
                              subst e3 e4 e5 e6 e7
                              rename_i a3 a4 a5 a6 a7 a8 xs8
                              have n3 : ∀ c ∈ mk, 0 ≤ c := fun c hc => (l3.2 c hc).1
                              have n4 : ∀ c ∈ ha, 0 ≤ c := fun c hc => (l4.2 c hc).1
                              have n5 : ∀ c ∈ sd, 0 ≤ c := fun c hc => (l5.2 c hc).1
                              have n6 : ∀ c ∈ ma, 0 ≤ c := fun c hc => (l6.2 c hc).1
                              have hg : Good t := l7.2
                              refine ⟨h.toNat, most.toNat, a3, a4, a5, a6, a7, a8, mk.map Int.toNat, ha.map Int.toNat, sd.map Int.toNat, ma.map Int.toNat, t, _, bk.map fun r => r.map Int.toNat, ?_, ?_, ?_, ?_, ?_, Fz.of hs7 hO, Fz.of hs8 hO, p8, ?_, ?_, ?_, ?_, ?_, hg, ?_, ?_, fun H' p hp => ?_⟩
                              · rw [Int.toNat_of_nonneg i1.1, Int.toNat_of_nonneg i2.1]
                              · rw [nvs_nats n3]
                                exact Fz.of hs3 hO
                              · rw [nvs_nats n4]
                                exact Fz.of hs4 hO
                              · rw [nvs_nats n5]
                                exact Fz.of hs5 hO
                              · rw [nvs_nats n6]
                                exact Fz.of hs6 hO
                              · rw [List.length_map]
                                exact Nat.le_trans l3.1 (by decide)
                              · rw [List.length_map]
                                exact Nat.le_trans l4.1 (by decide)
                              · rw [List.length_map]
                                exact Nat.le_trans l5.1 (by decide)
                              · rw [List.length_map]
                                exact Nat.le_trans l6.1 (by decide)
                              · exact Nat.le_trans l7.1 (by decide)
                              · rw [List.length_map]
                                exact l8.1
                              · intro r hr
                                obtain ⟨r0, hr0, rfl⟩ := List.mem_map.mp hr
                                rw [List.length_map]
                                exact (l8.2 r0 hr0).1
                              · have hp2 : H' p = some (.lst (vis (PyYqacda.work h most mk ha sd ma t bk))) := hp.trans (congrArg (fun z => some (HO.lst (vis z))) (work_is h most mk ha sd ma t bk hg).symm)
                                exact .lst (SqL.of hp2) (dw_ints _)
end Ab
namespace Ab
open PySem PySem.Spec PyProof.Rows L2
theorem exm_of2 {K : PySem.W.Frag} {A C : Addr} {b : Bool} (h1 : PySem.W.subIn K (.ref C) (.type "BaseException") = some true) (h2 : PySem.W.isClsIn K C = true) (h3 : PySem.W.typeIn K (.ref C) = some (.type "type")) (h4 : PySem.W.subIn K (.ref A) (.ref C) = some b) :
    PySem.W.exmOne K (.ref A) (.ref C) = some b := by
  have e1 : (PySem.W.subIn K (.ref C) (.type "BaseException") == some true) = true := by rw [h1] <;> rfl
  have e2 : ((PySem.W.clsIn K C).isSome && PySem.W.typeIn K (.ref C) == some (.type "type")) = true := by
    have h2' : (PySem.W.clsIn K C).isSome = true := h2
    rw [h2', h3] <;> rfl
  show (if (PySem.W.subIn K (.ref C) (.type "BaseException") == some true) = true then (if ((PySem.W.clsIn K C).isSome && PySem.W.typeIn K (.ref C) == some (.type "type")) = true then PySem.W.subIn K (.ref A) (.ref C) else none) else none) = some b
  rw [if_pos e1, if_pos e2]
  exact h4
theorem txt_mk {K : PySem.W.Frag} {h : Heap} {mg : Str → Option Value} {cFault cRunFault cTooLong cBeadFrame cReader cLines cRun : Addr} (X : K.In h) (G : h.Ns mainGlobals mg)
    {tkNO_ROD : Tok}
    {tkNO_ROOM : Tok}
    {tkOUT_OF_RANGE : Tok}
    {tkFAILED : Tok}
    {tkWRONG : Tok}
    {tkNUMBERS_A_ROD : Tok}
    {tkDECKS : Tok}
    {tkMOST_RODS : Tok}
    {tkLEAST_RATIO : Tok}
    {tkMOST_RATIO : Tok}
    {tkMOST_BEADS : Tok}
    {tkMOST_WORTH : Tok}
    {tkMOST_OF_ROD : Tok}
    {tkNUMBERS_A_STROKE : Tok}
    {tkMOST_STROKES : Tok}
    {tkMOST_COST : Tok}
    {acDIRECTIONS : Addr} {odDIRECTIONS : Option Addr} {nnDIRECTIONS : Nat} {slDIRECTIONS : Array (Option Value)} {tDIRECTIONS0 tDIRECTIONS1 : Tok}
    {tkMOST_DIGIT : Tok}
    {tkMOST_STEPS_hands : Tok}
    {acCARRY : Addr} {odCARRY : Option Addr} {nnCARRY : Nat} {slCARRY : Array (Option Value)} {tCARRY0 tCARRY1 tCARRY2 : Tok}
    {tkMOST_STEPS_beads : Tok}
    {tkTO_BEAM : Tok}
    {tkRULE : Tok}
    {tkMOST_BRACKETS : Tok}
    {tkLINE_FEED : Tok}
    {tkBLANK : Tok}
    {acDIGITS : Addr} {odDIGITS : Option Addr} {nnDIGITS : Nat} {slDIGITS : Array (Option Value)} {tDIGITS0 tDIGITS1 tDIGITS2 tDIGITS3 tDIGITS4 tDIGITS5 tDIGITS6 tDIGITS7 tDIGITS8 tDIGITS9 : Tok}
    {tkNOUGHT : Tok}
    {tkMOST_DIGITS : Tok}
    {acHEADS : Addr} {odHEADS : Option Addr} {nnHEADS : Nat} {slHEADS : Array (Option Value)} {tHEADS0 tHEADS1 tHEADS2 tHEADS3 tHEADS4 tHEADS5 tHEADS6 tHEADS7 : Tok}
    {acMARKS : Addr} {odMARKS : Option Addr} {nnMARKS : Nat} {slMARKS : Array (Option Value)} {tMARKS0 tMARKS1 tMARKS2 tMARKS3 tMARKS4 tMARKS5 tMARKS6 tMARKS7 : Tok}
    {tkROUND : Tok}
    {tkSQUARE : Tok}
    {acOPENERS : Addr} {odOPENERS : Option Addr} {nnOPENERS : Nat} {slOPENERS : Array (Option Value)} {tOPENERS0 tOPENERS1 : Tok}
    {acCLOSERS : Addr} {nnCLOSERS : Nat} {tCLOSERS0 uCLOSERS0 tCLOSERS1 uCLOSERS1 : Tok}
    {tkTIMES : Tok}
    {tkPLUS : Tok}
    {tkMINUS : Tok}
    {acOPERATORS : Addr} {odOPERATORS : Option Addr} {nnOPERATORS : Nat} {slOPERATORS : Array (Option Value)} {tOPERATORS0 tOPERATORS1 tOPERATORS2 : Tok}
    {tkLESS : Tok}
    {tkEQUAL : Tok}
    {tkGREATER : Tok}
    {tkNUMBER : Tok}
    {tkHEAD : Tok}
    {tkMARK : Tok}
    {tkDIGIT : Tok}
    {tkADD : Tok}
    {tkTAKE : Tok}
    {tkSET : Tok}
    {tkIF : Tok}
    {tkELSE : Tok}
    {tkEND : Tok}
    {tkWHILE : Tok}
    {tkSTOP : Tok}
    {tkFAIL : Tok}
    {tkMOST_OPEN : Tok}
    {tkFAR : Tok}
    {tkMOST_HEAD : Tok}
    {tkMANY_HEADS : Tok}
    {acOPS : Addr} {nnOPS : Nat} {tOPS0 uOPS0 tOPS1 uOPS1 : Tok}
    {tkMOST_BYTES : Tok}
    {tkMANY_MARKS : Tok}
    {tkMOST_MARK : Tok}
    {tkMOST_STEPS_methods : Tok}
    {tkBAD_CALL : Tok}
    {tkNOT_IN_FORM : Tok}
    {tkFAULTY : Tok}
    {tkTEXT_TOO_LONG : Tok}
    {tkRUN_TOO_LONG : Tok}
    {tkRUN_FAULT : Tok}
    {nmFault qFault : Str} {NFault : Addr} {bsFault : List Value} {snFault : List Str} {subFault : List Value} {abFault : Bool} {colFault : Option Bool} {ddFault : Option Addr} {m0Fault m1Fault m2Fault m3Fault m5Fault : Option Value}
    {fFault___init__ : Addr} {odFault___init__ anFault___init__ : Option Addr} {slFault___init__ : Array (Option Value)} {ocFault___init__ kVFault___init__ dcFault___init__ pmFault___init__ cdFault___init__ ctFault___init__ : Value}
    {nmRunFault qRunFault : Str} {NRunFault : Addr} {bsRunFault : List Value} {snRunFault : List Str} {subRunFault : List Value} {abRunFault : Bool} {colRunFault : Option Bool} {ddRunFault : Option Addr} {m0RunFault m1RunFault m2RunFault m3RunFault m5RunFault : Option Value}
    {fRunFault___init__ : Addr} {odRunFault___init__ anRunFault___init__ : Option Addr} {slRunFault___init__ : Array (Option Value)} {ocRunFault___init__ kVRunFault___init__ dcRunFault___init__ pmRunFault___init__ cdRunFault___init__ ctRunFault___init__ : Value}
    {fBeadFrame___init__ : Addr} {odBeadFrame___init__ anBeadFrame___init__ : Option Addr} {slBeadFrame___init__ : Array (Option Value)} {ocBeadFrame___init__ kVBeadFrame___init__ dcBeadFrame___init__ pmBeadFrame___init__ cdBeadFrame___init__ ctBeadFrame___init__ : Value}
    {fBeadFrame_shown : Addr} {odBeadFrame_shown anBeadFrame_shown : Option Addr} {slBeadFrame_shown : Array (Option Value)} {ocBeadFrame_shown kVBeadFrame_shown dcBeadFrame_shown pmBeadFrame_shown cdBeadFrame_shown ctBeadFrame_shown : Value}
    {fBeadFrame_want_rod : Addr} {odBeadFrame_want_rod anBeadFrame_want_rod : Option Addr} {slBeadFrame_want_rod : Array (Option Value)} {ocBeadFrame_want_rod kVBeadFrame_want_rod dcBeadFrame_want_rod pmBeadFrame_want_rod cdBeadFrame_want_rod ctBeadFrame_want_rod : Value}
    {fBeadFrame_digit : Addr} {odBeadFrame_digit anBeadFrame_digit : Option Addr} {slBeadFrame_digit : Array (Option Value)} {ocBeadFrame_digit kVBeadFrame_digit dcBeadFrame_digit pmBeadFrame_digit cdBeadFrame_digit ctBeadFrame_digit : Value}
    {fBeadFrame_change : Addr} {odBeadFrame_change anBeadFrame_change : Option Addr} {slBeadFrame_change : Array (Option Value)} {ocBeadFrame_change kVBeadFrame_change dcBeadFrame_change pmBeadFrame_change cdBeadFrame_change ctBeadFrame_change : Value}
    {fBeadFrame_sum_digit : Addr} {odBeadFrame_sum_digit anBeadFrame_sum_digit : Option Addr} {slBeadFrame_sum_digit : Array (Option Value)} {ocBeadFrame_sum_digit kVBeadFrame_sum_digit dcBeadFrame_sum_digit pmBeadFrame_sum_digit cdBeadFrame_sum_digit ctBeadFrame_sum_digit : Value}
    {fBeadFrame_carried : Addr} {odBeadFrame_carried anBeadFrame_carried : Option Addr} {slBeadFrame_carried : Array (Option Value)} {ocBeadFrame_carried kVBeadFrame_carried dcBeadFrame_carried pmBeadFrame_carried cdBeadFrame_carried ctBeadFrame_carried : Value}
    {fBeadFrame_told_rule : Addr} {odBeadFrame_told_rule anBeadFrame_told_rule : Option Addr} {slBeadFrame_told_rule : Array (Option Value)} {ocBeadFrame_told_rule kVBeadFrame_told_rule dcBeadFrame_told_rule pmBeadFrame_told_rule cdBeadFrame_told_rule ctBeadFrame_told_rule : Value}
    {fBeadFrame_act : Addr} {odBeadFrame_act anBeadFrame_act : Option Addr} {slBeadFrame_act : Array (Option Value)} {ocBeadFrame_act kVBeadFrame_act dcBeadFrame_act pmBeadFrame_act cdBeadFrame_act ctBeadFrame_act : Value}
    {fBeadFrame_push : Addr} {odBeadFrame_push anBeadFrame_push : Option Addr} {slBeadFrame_push : Array (Option Value)} {ocBeadFrame_push kVBeadFrame_push dcBeadFrame_push pmBeadFrame_push cdBeadFrame_push ctBeadFrame_push : Value}
    {fReader___init__ : Addr} {odReader___init__ anReader___init__ : Option Addr} {slReader___init__ : Array (Option Value)} {ocReader___init__ kVReader___init__ dcReader___init__ pmReader___init__ cdReader___init__ ctReader___init__ : Value}
    {fReader_sees : Addr} {odReader_sees anReader_sees : Option Addr} {slReader_sees : Array (Option Value)} {ocReader_sees kVReader_sees dcReader_sees pmReader_sees cdReader_sees ctReader_sees : Value}
    {fReader_next_of : Addr} {odReader_next_of anReader_next_of : Option Addr} {slReader_next_of : Array (Option Value)} {ocReader_next_of kVReader_next_of dcReader_next_of pmReader_next_of cdReader_next_of ctReader_next_of : Value}
    {fReader_word : Addr} {odReader_word anReader_word : Option Addr} {slReader_word : Array (Option Value)} {ocReader_word kVReader_word dcReader_word pmReader_word cdReader_word ctReader_word : Value}
    {fLines___init__ : Addr} {odLines___init__ anLines___init__ : Option Addr} {slLines___init__ : Array (Option Value)} {ocLines___init__ kVLines___init__ dcLines___init__ pmLines___init__ cdLines___init__ ctLines___init__ : Value}
    {fLines_put : Addr} {odLines_put anLines_put : Option Addr} {slLines_put : Array (Option Value)} {ocLines_put kVLines_put dcLines_put pmLines_put cdLines_put ctLines_put : Value}
    {fLines_may_have_else : Addr} {odLines_may_have_else anLines_may_have_else : Option Addr} {slLines_may_have_else : Array (Option Value)} {ocLines_may_have_else kVLines_may_have_else dcLines_may_have_else pmLines_may_have_else cdLines_may_have_else ctLines_may_have_else : Value}
    {fLines_opened : Addr} {odLines_opened anLines_opened : Option Addr} {slLines_opened : Array (Option Value)} {ocLines_opened kVLines_opened dcLines_opened pmLines_opened cdLines_opened ctLines_opened : Value}
    {fLines_put_else : Addr} {odLines_put_else anLines_put_else : Option Addr} {slLines_put_else : Array (Option Value)} {ocLines_put_else kVLines_put_else dcLines_put_else pmLines_put_else cdLines_put_else ctLines_put_else : Value}
    {fLines_put_end : Addr} {odLines_put_end anLines_put_end : Option Addr} {slLines_put_end : Array (Option Value)} {ocLines_put_end kVLines_put_end dcLines_put_end pmLines_put_end cdLines_put_end ctLines_put_end : Value}
    {fRun___init__ : Addr} {odRun___init__ anRun___init__ : Option Addr} {slRun___init__ : Array (Option Value)} {ocRun___init__ kVRun___init__ dcRun___init__ pmRun___init__ cdRun___init__ ctRun___init__ : Value}
    {fRun_worked_out : Addr} {odRun_worked_out anRun_worked_out : Option Addr} {slRun_worked_out : Array (Option Value)} {ocRun_worked_out kVRun_worked_out dcRun_worked_out pmRun_worked_out cdRun_worked_out ctRun_worked_out : Value}
    {fRun_is_so : Addr} {odRun_is_so anRun_is_so : Option Addr} {slRun_is_so : Array (Option Value)} {ocRun_is_so kVRun_is_so dcRun_is_so pmRun_is_so cdRun_is_so ctRun_is_so : Value}
    {fRun_change : Addr} {odRun_change anRun_change : Option Addr} {slRun_change : Array (Option Value)} {ocRun_change kVRun_change dcRun_change pmRun_change cdRun_change ctRun_change : Value}
    {fRun_set_head : Addr} {odRun_set_head anRun_set_head : Option Addr} {slRun_set_head : Array (Option Value)} {ocRun_set_head kVRun_set_head dcRun_set_head pmRun_set_head cdRun_set_head ctRun_set_head : Value}
    {fRun_next_line : Addr} {odRun_next_line anRun_next_line : Option Addr} {slRun_next_line : Array (Option Value)} {ocRun_next_line kVRun_next_line dcRun_next_line pmRun_next_line cdRun_next_line ctRun_next_line : Value}
    {fRun_run : Addr} {odRun_run anRun_run : Option Addr} {slRun_run : Array (Option Value)} {ocRun_run kVRun_run dcRun_run pmRun_run cdRun_run ctRun_run : Value}
    {frods_of : Addr} {odrods_of anrods_of : Option Addr} {slrods_of : Array (Option Value)} {ocrods_of kVrods_of dcrods_of pmrods_of cdrods_of ctrods_of : Value}
    {fare_decks : Addr} {odare_decks anare_decks : Option Addr} {slare_decks : Array (Option Value)} {ocare_decks kVare_decks dcare_decks pmare_decks cdare_decks ctare_decks : Value}
    {fworth_of : Addr} {odworth_of anworth_of : Option Addr} {slworth_of : Array (Option Value)} {ocworth_of kVworth_of dcworth_of pmworth_of cdworth_of ctworth_of : Value}
    {frank_of : Addr} {odrank_of anrank_of : Option Addr} {slrank_of : Array (Option Value)} {ocrank_of kVrank_of dcrank_of pmrank_of cdrank_of ctrank_of : Value}
    {fways_of : Addr} {odways_of anways_of : Option Addr} {slways_of : Array (Option Value)} {ocways_of kVways_of dcways_of pmways_of cdways_of ctways_of : Value}
    {fforms_of : Addr} {odforms_of anforms_of : Option Addr} {slforms_of : Array (Option Value)} {ocforms_of kVforms_of dcforms_of pmforms_of cdforms_of ctforms_of : Value}
    {frod_rule : Addr} {odrod_rule anrod_rule : Option Addr} {slrod_rule : Array (Option Value)} {ocrod_rule kVrod_rule dcrod_rule pmrod_rule cdrod_rule ctrod_rule : Value}
    {fwant_make : Addr} {odwant_make anwant_make : Option Addr} {slwant_make : Array (Option Value)} {ocwant_make kVwant_make dcwant_make pmwant_make cdwant_make ctwant_make : Value}
    {fwant_standing : Addr} {odwant_standing anwant_standing : Option Addr} {slwant_standing : Array (Option Value)} {ocwant_standing kVwant_standing dcwant_standing pmwant_standing cdwant_standing ctwant_standing : Value}
    {fplaces_of : Addr} {odplaces_of anplaces_of : Option Addr} {slplaces_of : Array (Option Value)} {ocplaces_of kVplaces_of dcplaces_of pmplaces_of cdplaces_of ctplaces_of : Value}
    {fpushed_on : Addr} {odpushed_on anpushed_on : Option Addr} {slpushed_on : Array (Option Value)} {ocpushed_on kVpushed_on dcpushed_on pmpushed_on cdpushed_on ctpushed_on : Value}
    {fdigit_shown : Addr} {oddigit_shown andigit_shown : Option Addr} {sldigit_shown : Array (Option Value)} {ocdigit_shown kVdigit_shown dcdigit_shown pmdigit_shown cddigit_shown ctdigit_shown : Value}
    {fis_in_form : Addr} {odis_in_form anis_in_form : Option Addr} {slis_in_form : Array (Option Value)} {ocis_in_form kVis_in_form dcis_in_form pmis_in_form cdis_in_form ctis_in_form : Value}
    {fstrokes_of : Addr} {odstrokes_of anstrokes_of : Option Addr} {slstrokes_of : Array (Option Value)} {ocstrokes_of kVstrokes_of dcstrokes_of pmstrokes_of cdstrokes_of ctstrokes_of : Value}
    {fis_deck : Addr} {odis_deck anis_deck : Option Addr} {slis_deck : Array (Option Value)} {ocis_deck kVis_deck dcis_deck pmis_deck cdis_deck ctis_deck : Value}
    {fhas_second : Addr} {odhas_second anhas_second : Option Addr} {slhas_second : Array (Option Value)} {ochas_second kVhas_second dchas_second pmhas_second cdhas_second cthas_second : Value}
    {fis_stroke : Addr} {odis_stroke anis_stroke : Option Addr} {slis_stroke : Array (Option Value)} {ocis_stroke kVis_stroke dcis_stroke pmis_stroke cdis_stroke ctis_stroke : Value}
    {fwant_hand : Addr} {odwant_hand anwant_hand : Option Addr} {slwant_hand : Array (Option Value)} {ocwant_hand kVwant_hand dcwant_hand pmwant_hand cdwant_hand ctwant_hand : Value}
    {fsteps_of : Addr} {odsteps_of ansteps_of : Option Addr} {slsteps_of : Array (Option Value)} {ocsteps_of kVsteps_of dcsteps_of pmsteps_of cdsteps_of ctsteps_of : Value}
    {fis_step : Addr} {odis_step anis_step : Option Addr} {slis_step : Array (Option Value)} {ocis_step kVis_step dcis_step pmis_step cdis_step ctis_step : Value}
    {fis_rule : Addr} {odis_rule anis_rule : Option Addr} {slis_rule : Array (Option Value)} {ocis_rule kVis_rule dcis_rule pmis_rule cdis_rule ctis_rule : Value}
    {frules_of : Addr} {odrules_of anrules_of : Option Addr} {slrules_of : Array (Option Value)} {ocrules_of kVrules_of dcrules_of pmrules_of cdrules_of ctrules_of : Value}
    {fbytes_of : Addr} {odbytes_of anbytes_of : Option Addr} {slbytes_of : Array (Option Value)} {ocbytes_of kVbytes_of dcbytes_of pmbytes_of cdbytes_of ctbytes_of : Value}
    {fnumber_from : Addr} {odnumber_from annumber_from : Option Addr} {slnumber_from : Array (Option Value)} {ocnumber_from kVnumber_from dcnumber_from pmnumber_from cdnumber_from ctnumber_from : Value}
    {foperand : Addr} {odoperand anoperand : Option Addr} {sloperand : Array (Option Value)} {ocoperand kVoperand dcoperand pmoperand cdoperand ctoperand : Value}
    {fopen_brackets : Addr} {odopen_brackets anopen_brackets : Option Addr} {slopen_brackets : Array (Option Value)} {ocopen_brackets kVopen_brackets dcopen_brackets pmopen_brackets cdopen_brackets ctopen_brackets : Value}
    {fread_operand : Addr} {odread_operand anread_operand : Option Addr} {slread_operand : Array (Option Value)} {ocread_operand kVread_operand dcread_operand pmread_operand cdread_operand ctread_operand : Value}
    {fclose : Addr} {odclose anclose : Option Addr} {slclose : Array (Option Value)} {occlose kVclose dcclose pmclose cdclose ctclose : Value}
    {fbinds : Addr} {odbinds anbinds : Option Addr} {slbinds : Array (Option Value)} {ocbinds kVbinds dcbinds pmbinds cdbinds ctbinds : Value}
    {fread_operator : Addr} {odread_operator anread_operator : Option Addr} {slread_operator : Array (Option Value)} {ocread_operator kVread_operator dcread_operator pmread_operator cdread_operator ctread_operator : Value}
    {fread_closers : Addr} {odread_closers anread_closers : Option Addr} {slread_closers : Array (Option Value)} {ocread_closers kVread_closers dcread_closers pmread_closers cdread_closers ctread_closers : Value}
    {fexpression : Addr} {odexpression anexpression : Option Addr} {slexpression : Array (Option Value)} {ocexpression kVexpression dcexpression pmexpression cdexpression ctexpression : Value}
    {fcompared : Addr} {odcompared ancompared : Option Addr} {slcompared : Array (Option Value)} {occompared kVcompared dccompared pmcompared cdcompared ctcompared : Value}
    {fcondition : Addr} {odcondition ancondition : Option Addr} {slcondition : Array (Option Value)} {occondition kVcondition dccondition pmcondition cdcondition ctcondition : Value}
    {ffirst_bytes : Addr} {odfirst_bytes anfirst_bytes : Option Addr} {slfirst_bytes : Array (Option Value)} {ocfirst_bytes kVfirst_bytes dcfirst_bytes pmfirst_bytes cdfirst_bytes ctfirst_bytes : Value}
    {fread_change : Addr} {odread_change anread_change : Option Addr} {slread_change : Array (Option Value)} {ocread_change kVread_change dcread_change pmread_change cdread_change ctread_change : Value}
    {fread_set_or_stop : Addr} {odread_set_or_stop anread_set_or_stop : Option Addr} {slread_set_or_stop : Array (Option Value)} {ocread_set_or_stop kVread_set_or_stop dcread_set_or_stop pmread_set_or_stop cdread_set_or_stop ctread_set_or_stop : Value}
    {fread_else_or_end : Addr} {odread_else_or_end anread_else_or_end : Option Addr} {slread_else_or_end : Array (Option Value)} {ocread_else_or_end kVread_else_or_end dcread_else_or_end pmread_else_or_end cdread_else_or_end ctread_else_or_end : Value}
    {fread_line : Addr} {odread_line anread_line : Option Addr} {slread_line : Array (Option Value)} {ocread_line kVread_line dcread_line pmread_line cdread_line ctread_line : Value}
    {flines_of : Addr} {odlines_of anlines_of : Option Addr} {sllines_of : Array (Option Value)} {oclines_of kVlines_of dclines_of pmlines_of cdlines_of ctlines_of : Value}
    {fin_range : Addr} {odin_range anin_range : Option Addr} {slin_range : Array (Option Value)} {ocin_range kVin_range dcin_range pmin_range cdin_range ctin_range : Value}
    {fjoined : Addr} {odjoined anjoined : Option Addr} {sljoined : Array (Option Value)} {ocjoined kVjoined dcjoined pmjoined cdjoined ctjoined : Value}
    {fare_right : Addr} {odare_right anare_right : Option Addr} {slare_right : Array (Option Value)} {ocare_right kVare_right dcare_right pmare_right cdare_right ctare_right : Value}
    {ffault_of : Addr} {odfault_of anfault_of : Option Addr} {slfault_of : Array (Option Value)} {ocfault_of kVfault_of dcfault_of pmfault_of cdfault_of ctfault_of : Value}
    {fwork_of : Addr} {odwork_of anwork_of : Option Addr} {slwork_of : Array (Option Value)} {ocwork_of kVwork_of dcwork_of pmwork_of cdwork_of ctwork_of : Value}
    {fwork : Addr} {odwork anwork : Option Addr} {slwork : Array (Option Value)} {ocwork kVwork dcwork pmwork cdwork ctwork : Value}
    (zValueError : PySem.W.nsIn K mainGlobals "ValueError" = some none)
    (zabs : PySem.W.nsIn K mainGlobals "abs" = some none)
    (zall : PySem.W.nsIn K mainGlobals "all" = some none)
    (zenumerate : PySem.W.nsIn K mainGlobals "enumerate" = some none)
    (zint : PySem.W.nsIn K mainGlobals "int" = some none)
    (zlen : PySem.W.nsIn K mainGlobals "len" = some none)
    (zlist : PySem.W.nsIn K mainGlobals "list" = some none)
    (zord : PySem.W.nsIn K mainGlobals "ord" = some none)
    (zrange : PySem.W.nsIn K mainGlobals "range" = some none)
    (ztuple : PySem.W.nsIn K mainGlobals "tuple" = some none)
    (zzip : PySem.W.nsIn K mainGlobals "zip" = some none)
    (gcNO_ROD : PySem.W.nsIn K mainGlobals "NO_ROD" = some (some (.int (1) tkNO_ROD)))
    (gcNO_ROOM : PySem.W.nsIn K mainGlobals "NO_ROOM" = some (some (.int (2) tkNO_ROOM)))
    (gcOUT_OF_RANGE : PySem.W.nsIn K mainGlobals "OUT_OF_RANGE" = some (some (.int (3) tkOUT_OF_RANGE)))
    (gcFAILED : PySem.W.nsIn K mainGlobals "FAILED" = some (some (.int (4) tkFAILED)))
    (gcWRONG : PySem.W.nsIn K mainGlobals "WRONG" = some (some (.int (5) tkWRONG)))
    (gcNUMBERS_A_ROD : PySem.W.nsIn K mainGlobals "NUMBERS_A_ROD" = some (some (.int (7) tkNUMBERS_A_ROD)))
    (gcDECKS : PySem.W.nsIn K mainGlobals "DECKS" = some (some (.int (3) tkDECKS)))
    (gcMOST_RODS : PySem.W.nsIn K mainGlobals "MOST_RODS" = some (some (.int (64) tkMOST_RODS)))
    (gcLEAST_RATIO : PySem.W.nsIn K mainGlobals "LEAST_RATIO" = some (some (.int (2) tkLEAST_RATIO)))
    (gcMOST_RATIO : PySem.W.nsIn K mainGlobals "MOST_RATIO" = some (some (.int (20) tkMOST_RATIO)))
    (gcMOST_BEADS : PySem.W.nsIn K mainGlobals "MOST_BEADS" = some (some (.int (15) tkMOST_BEADS)))
    (gcMOST_WORTH : PySem.W.nsIn K mainGlobals "MOST_WORTH" = some (some (.int (63) tkMOST_WORTH)))
    (gcMOST_OF_ROD : PySem.W.nsIn K mainGlobals "MOST_OF_ROD" = some (some (.int (255) tkMOST_OF_ROD)))
    (gcNUMBERS_A_STROKE : PySem.W.nsIn K mainGlobals "NUMBERS_A_STROKE" = some (some (.int (7) tkNUMBERS_A_STROKE)))
    (gcMOST_STROKES : PySem.W.nsIn K mainGlobals "MOST_STROKES" = some (some (.int (32) tkMOST_STROKES)))
    (gcMOST_COST : PySem.W.nsIn K mainGlobals "MOST_COST" = some (some (.int (255) tkMOST_COST)))
    (gcDIRECTIONS : PySem.W.nsIn K mainGlobals "DIRECTIONS" = some (some (.ref acDIRECTIONS)))
    (lcDIRECTIONS : K.lookup acDIRECTIONS = some ⟨.type "tuple", odDIRECTIONS, .seq #[.int 1 tDIRECTIONS0, .int 2 tDIRECTIONS1] nnDIRECTIONS, slDIRECTIONS⟩)
    (gcMOST_DIGIT : PySem.W.nsIn K mainGlobals "MOST_DIGIT" = some (some (.int (19) tkMOST_DIGIT)))
    (gcMOST_STEPS_hands : PySem.W.nsIn K mainGlobals "MOST_STEPS_hands" = some (some (.int (10) tkMOST_STEPS_hands)))
    (gcCARRY : PySem.W.nsIn K mainGlobals "CARRY" = some (some (.ref acCARRY)))
    (lcCARRY : K.lookup acCARRY = some ⟨.type "tuple", odCARRY, .seq #[.int 0 tCARRY0, .int 0 tCARRY1, .int 0 tCARRY2] nnCARRY, slCARRY⟩)
    (gcMOST_STEPS_beads : PySem.W.nsIn K mainGlobals "MOST_STEPS_beads" = some (some (.int (65536) tkMOST_STEPS_beads)))
    (gcTO_BEAM : PySem.W.nsIn K mainGlobals "TO_BEAM" = some (some (.int (1) tkTO_BEAM)))
    (gcRULE : PySem.W.nsIn K mainGlobals "RULE" = some (some (.int (11) tkRULE)))
    (gcMOST_BRACKETS : PySem.W.nsIn K mainGlobals "MOST_BRACKETS" = some (some (.int (16) tkMOST_BRACKETS)))
    (gcLINE_FEED : PySem.W.nsIn K mainGlobals "LINE_FEED" = some (some (.int (10) tkLINE_FEED)))
    (gcBLANK : PySem.W.nsIn K mainGlobals "BLANK" = some (some (.int (32) tkBLANK)))
    (gcDIGITS : PySem.W.nsIn K mainGlobals "DIGITS" = some (some (.ref acDIGITS)))
    (lcDIGITS : K.lookup acDIGITS = some ⟨.type "tuple", odDIGITS, .seq #[.int 48 tDIGITS0, .int 49 tDIGITS1, .int 50 tDIGITS2, .int 51 tDIGITS3, .int 52 tDIGITS4, .int 53 tDIGITS5, .int 54 tDIGITS6, .int 55 tDIGITS7, .int 56 tDIGITS8, .int 57 tDIGITS9] nnDIGITS, slDIGITS⟩)
    (gcNOUGHT : PySem.W.nsIn K mainGlobals "NOUGHT" = some (some (.int (48) tkNOUGHT)))
    (gcMOST_DIGITS : PySem.W.nsIn K mainGlobals "MOST_DIGITS" = some (some (.int (4) tkMOST_DIGITS)))
    (gcHEADS : PySem.W.nsIn K mainGlobals "HEADS" = some (some (.ref acHEADS)))
    (lcHEADS : K.lookup acHEADS = some ⟨.type "tuple", odHEADS, .seq #[.int 97 tHEADS0, .int 98 tHEADS1, .int 99 tHEADS2, .int 100 tHEADS3, .int 101 tHEADS4, .int 102 tHEADS5, .int 103 tHEADS6, .int 104 tHEADS7] nnHEADS, slHEADS⟩)
    (gcMARKS : PySem.W.nsIn K mainGlobals "MARKS" = some (some (.ref acMARKS)))
    (lcMARKS : K.lookup acMARKS = some ⟨.type "tuple", odMARKS, .seq #[.int 65 tMARKS0, .int 66 tMARKS1, .int 67 tMARKS2, .int 68 tMARKS3, .int 69 tMARKS4, .int 70 tMARKS5, .int 71 tMARKS6, .int 72 tMARKS7] nnMARKS, slMARKS⟩)
    (gcROUND : PySem.W.nsIn K mainGlobals "ROUND" = some (some (.int (40) tkROUND)))
    (gcSQUARE : PySem.W.nsIn K mainGlobals "SQUARE" = some (some (.int (91) tkSQUARE)))
    (gcOPENERS : PySem.W.nsIn K mainGlobals "OPENERS" = some (some (.ref acOPENERS)))
    (lcOPENERS : K.lookup acOPENERS = some ⟨.type "tuple", odOPENERS, .seq #[.int 40 tOPENERS0, .int 91 tOPENERS1] nnOPENERS, slOPENERS⟩)
    (gcCLOSERS : PySem.W.nsIn K mainGlobals "CLOSERS" = some (some (.ref acCLOSERS)))
    (lcCLOSERS : K.lookup acCLOSERS = some ⟨.type "dict", none, .dict #[⟨40, .int 40 tCLOSERS0, .int 41 uCLOSERS0⟩, ⟨91, .int 91 tCLOSERS1, .int 93 uCLOSERS1⟩] nnCLOSERS, #[]⟩)
    (gcTIMES : PySem.W.nsIn K mainGlobals "TIMES" = some (some (.int (42) tkTIMES)))
    (gcPLUS : PySem.W.nsIn K mainGlobals "PLUS" = some (some (.int (43) tkPLUS)))
    (gcMINUS : PySem.W.nsIn K mainGlobals "MINUS" = some (some (.int (45) tkMINUS)))
    (gcOPERATORS : PySem.W.nsIn K mainGlobals "OPERATORS" = some (some (.ref acOPERATORS)))
    (lcOPERATORS : K.lookup acOPERATORS = some ⟨.type "tuple", odOPERATORS, .seq #[.int 42 tOPERATORS0, .int 43 tOPERATORS1, .int 45 tOPERATORS2] nnOPERATORS, slOPERATORS⟩)
    (gcLESS : PySem.W.nsIn K mainGlobals "LESS" = some (some (.int (60) tkLESS)))
    (gcEQUAL : PySem.W.nsIn K mainGlobals "EQUAL" = some (some (.int (61) tkEQUAL)))
    (gcGREATER : PySem.W.nsIn K mainGlobals "GREATER" = some (some (.int (62) tkGREATER)))
    (gcNUMBER : PySem.W.nsIn K mainGlobals "NUMBER" = some (some (.int (0) tkNUMBER)))
    (gcHEAD : PySem.W.nsIn K mainGlobals "HEAD" = some (some (.int (1) tkHEAD)))
    (gcMARK : PySem.W.nsIn K mainGlobals "MARK" = some (some (.int (2) tkMARK)))
    (gcDIGIT : PySem.W.nsIn K mainGlobals "DIGIT" = some (some (.int (3) tkDIGIT)))
    (gcADD : PySem.W.nsIn K mainGlobals "ADD" = some (some (.int (0) tkADD)))
    (gcTAKE : PySem.W.nsIn K mainGlobals "TAKE" = some (some (.int (1) tkTAKE)))
    (gcSET : PySem.W.nsIn K mainGlobals "SET" = some (some (.int (2) tkSET)))
    (gcIF : PySem.W.nsIn K mainGlobals "IF" = some (some (.int (3) tkIF)))
    (gcELSE : PySem.W.nsIn K mainGlobals "ELSE" = some (some (.int (4) tkELSE)))
    (gcEND : PySem.W.nsIn K mainGlobals "END" = some (some (.int (5) tkEND)))
    (gcWHILE : PySem.W.nsIn K mainGlobals "WHILE" = some (some (.int (6) tkWHILE)))
    (gcSTOP : PySem.W.nsIn K mainGlobals "STOP" = some (some (.int (7) tkSTOP)))
    (gcFAIL : PySem.W.nsIn K mainGlobals "FAIL" = some (some (.int (8) tkFAIL)))
    (gcMOST_OPEN : PySem.W.nsIn K mainGlobals "MOST_OPEN" = some (some (.int (16) tkMOST_OPEN)))
    (gcFAR : PySem.W.nsIn K mainGlobals "FAR" = some (some (.int (9999) tkFAR)))
    (gcMOST_HEAD : PySem.W.nsIn K mainGlobals "MOST_HEAD" = some (some (.int (99) tkMOST_HEAD)))
    (gcMANY_HEADS : PySem.W.nsIn K mainGlobals "MANY_HEADS" = some (some (.int (8) tkMANY_HEADS)))
    (gcOPS : PySem.W.nsIn K mainGlobals "OPS" = some (some (.ref acOPS)))
    (lcOPS : K.lookup acOPS = some ⟨.type "dict", none, .dict #[⟨0, .int 0 tOPS0, .int 0 uOPS0⟩, ⟨1, .int 1 tOPS1, .int 1 uOPS1⟩] nnOPS, #[]⟩)
    (gcMOST_BYTES : PySem.W.nsIn K mainGlobals "MOST_BYTES" = some (some (.int (4096) tkMOST_BYTES)))
    (gcMANY_MARKS : PySem.W.nsIn K mainGlobals "MANY_MARKS" = some (some (.int (8) tkMANY_MARKS)))
    (gcMOST_MARK : PySem.W.nsIn K mainGlobals "MOST_MARK" = some (some (.int (63) tkMOST_MARK)))
    (gcMOST_STEPS_methods : PySem.W.nsIn K mainGlobals "MOST_STEPS_methods" = some (some (.int (16777216) tkMOST_STEPS_methods)))
    (gcBAD_CALL : PySem.W.nsIn K mainGlobals "BAD_CALL" = some (some (.int (-1) tkBAD_CALL)))
    (gcNOT_IN_FORM : PySem.W.nsIn K mainGlobals "NOT_IN_FORM" = some (some (.int (-3) tkNOT_IN_FORM)))
    (gcFAULTY : PySem.W.nsIn K mainGlobals "FAULTY" = some (some (.int (-5) tkFAULTY)))
    (gcTEXT_TOO_LONG : PySem.W.nsIn K mainGlobals "TEXT_TOO_LONG" = some (some (.int (-6) tkTEXT_TOO_LONG)))
    (gcRUN_TOO_LONG : PySem.W.nsIn K mainGlobals "RUN_TOO_LONG" = some (some (.int (-8) tkRUN_TOO_LONG)))
    (gcRUN_FAULT : PySem.W.nsIn K mainGlobals "RUN_FAULT" = some (some (.int (-9) tkRUN_FAULT)))
    (gFault : PySem.W.nsIn K mainGlobals "Fault" = some (some (.ref cFault)))
    (kcFault : PySem.W.keepIn K (.ref cFault) = true)
    (ecFault : PySem.W.subIn K (.ref cFault) (.type "BaseException") = some true)
    (tcFault : PySem.W.typeIn K (.ref cFault) = some (.type "type"))
    (icFault : PySem.W.isClsIn K cFault = true)
    (xlFault : K.lookup cFault = some (excClassObj nmFault qFault cFault NFault bsFault [.type "ValueError", .type "Exception", .type "BaseException", .type "object"] true snFault subFault abFault colFault ddFault m0Fault m1Fault m2Fault m3Fault m5Fault "ValueError.__new__"))
    (saFault : PySem.W.findIn K (.ref cFault) "__setattr__" = some (some (.builtin "object.__setattr__")))
    (gaFault : PySem.W.findIn K (.ref cFault) "__getattribute__" = some (some (.builtin "BaseException.__getattribute__")))
    (ggFault : PySem.W.findIn K (.ref cFault) "__getattr__" = some none)
    (hdFault : PySem.W.hasDictIn K cFault = true)
    (naFaultrule : PySem.W.findIn K (.ref cFault) "rule" = some none)
    (naFaultplace : PySem.W.findIn K (.ref cFault) "place" = some none)
    (aFault___init__ : PySem.W.findIn K (.ref cFault) "__init__" = some (some (.ref fFault___init__)))
    (tFault___init__ : PySem.W.typeIn K (.ref fFault___init__) = some (.type "function"))
    (lFault___init__ : K.lookup fFault___init__ = some ⟨ocFault___init__, odFault___init__, .func (PySem.W.fnOf "__init__" "Fault.__init__" (defArgs s_Fault___init__) (defBody s_Fault___init__) (defScope s_Fault___init__) .none kVFault___init__ dcFault___init__ pmFault___init__ anFault___init__ cdFault___init__ ctFault___init__), slFault___init__⟩)
    (cFault___init__ : PySem.W.codeIn K cdFault___init__ "Fault.__init__" = true)
    (kFault___init__ : PySem.W.keepIn K (.ref fFault___init__) = true)
    (gRunFault : PySem.W.nsIn K mainGlobals "RunFault" = some (some (.ref cRunFault)))
    (kcRunFault : PySem.W.keepIn K (.ref cRunFault) = true)
    (ecRunFault : PySem.W.subIn K (.ref cRunFault) (.type "BaseException") = some true)
    (tcRunFault : PySem.W.typeIn K (.ref cRunFault) = some (.type "type"))
    (icRunFault : PySem.W.isClsIn K cRunFault = true)
    (xlRunFault : K.lookup cRunFault = some (excClassObj nmRunFault qRunFault cRunFault NRunFault bsRunFault [.type "ValueError", .type "Exception", .type "BaseException", .type "object"] true snRunFault subRunFault abRunFault colRunFault ddRunFault m0RunFault m1RunFault m2RunFault m3RunFault m5RunFault "ValueError.__new__"))
    (saRunFault : PySem.W.findIn K (.ref cRunFault) "__setattr__" = some (some (.builtin "object.__setattr__")))
    (gaRunFault : PySem.W.findIn K (.ref cRunFault) "__getattribute__" = some (some (.builtin "BaseException.__getattribute__")))
    (ggRunFault : PySem.W.findIn K (.ref cRunFault) "__getattr__" = some none)
    (hdRunFault : PySem.W.hasDictIn K cRunFault = true)
    (naRunFaultkind : PySem.W.findIn K (.ref cRunFault) "kind" = some none)
    (aRunFault___init__ : PySem.W.findIn K (.ref cRunFault) "__init__" = some (some (.ref fRunFault___init__)))
    (tRunFault___init__ : PySem.W.typeIn K (.ref fRunFault___init__) = some (.type "function"))
    (lRunFault___init__ : K.lookup fRunFault___init__ = some ⟨ocRunFault___init__, odRunFault___init__, .func (PySem.W.fnOf "__init__" "RunFault.__init__" (defArgs s_RunFault___init__) (defBody s_RunFault___init__) (defScope s_RunFault___init__) .none kVRunFault___init__ dcRunFault___init__ pmRunFault___init__ anRunFault___init__ cdRunFault___init__ ctRunFault___init__), slRunFault___init__⟩)
    (cRunFault___init__ : PySem.W.codeIn K cdRunFault___init__ "RunFault.__init__" = true)
    (kRunFault___init__ : PySem.W.keepIn K (.ref fRunFault___init__) = true)
    (gTooLong : PySem.W.nsIn K mainGlobals "TooLong" = some (some (.ref cTooLong)))
    (kcTooLong : PySem.W.keepIn K (.ref cTooLong) = true)
    (ecTooLong : PySem.W.subIn K (.ref cTooLong) (.type "BaseException") = some true)
    (tcTooLong : PySem.W.typeIn K (.ref cTooLong) = some (.type "type"))
    (icTooLong : PySem.W.isClsIn K cTooLong = true)
    (xcTooLong : PySem.W.excIn K cTooLong [.type "ValueError", .type "Exception", .type "BaseException", .type "object"] "ValueError.__new__" = true)
    (gBeadFrame : PySem.W.nsIn K mainGlobals "BeadFrame" = some (some (.ref cBeadFrame)))
    (pgBeadFrame : PySem.W.plainGet K cBeadFrame Str.empty = true)
    (hdBeadFrame : PySem.W.hasDictIn K cBeadFrame = true)
    (poBeadFrame : PySem.W.plainOver K cBeadFrame = true)
    (saBeadFrame : PySem.W.findIn K (.ref cBeadFrame) "__setattr__" = some (some (.builtin "object.__setattr__")))
    (mkBeadFrame : PySem.W.makesIn K cBeadFrame = true)
    (kcBeadFrame : PySem.W.keepIn K (.ref cBeadFrame) = true)
    (naBeadFramerods : PySem.W.findIn K (.ref cBeadFrame) "rods" = some none)
    (naBeadFrameforms : PySem.W.findIn K (.ref cBeadFrame) "forms" = some none)
    (naBeadFrameplaces : PySem.W.findIn K (.ref cBeadFrame) "places" = some none)
    (naBeadFramemoving : PySem.W.findIn K (.ref cBeadFrame) "moving" = some none)
    (naBeadFramestrokes : PySem.W.findIn K (.ref cBeadFrame) "strokes" = some none)
    (naBeadFramerules : PySem.W.findIn K (.ref cBeadFrame) "rules" = some none)
    (naBeadFramepushed : PySem.W.findIn K (.ref cBeadFrame) "pushed" = some none)
    (naBeadFramehand_at : PySem.W.findIn K (.ref cBeadFrame) "hand_at" = some none)
    (naBeadFrameacts : PySem.W.findIn K (.ref cBeadFrame) "acts" = some none)
    (naBeadFramecost : PySem.W.findIn K (.ref cBeadFrame) "cost" = some none)
    (aBeadFrame___init__ : PySem.W.findIn K (.ref cBeadFrame) "__init__" = some (some (.ref fBeadFrame___init__)))
    (iBeadFrame___init__ : PySem.W.isFn K (.ref fBeadFrame___init__) = true)
    (lBeadFrame___init__ : K.lookup fBeadFrame___init__ = some ⟨ocBeadFrame___init__, odBeadFrame___init__, .func (PySem.W.fnOf "__init__" "BeadFrame.__init__" (defArgs s_BeadFrame___init__) (defBody s_BeadFrame___init__) (defScope s_BeadFrame___init__) .none kVBeadFrame___init__ dcBeadFrame___init__ pmBeadFrame___init__ anBeadFrame___init__ cdBeadFrame___init__ ctBeadFrame___init__), slBeadFrame___init__⟩)
    (cBeadFrame___init__ : PySem.W.codeIn K cdBeadFrame___init__ "BeadFrame.__init__" = true)
    (kBeadFrame___init__ : PySem.W.keepIn K (.ref fBeadFrame___init__) = true)
    (aBeadFrame_shown : PySem.W.findIn K (.ref cBeadFrame) "shown" = some (some (.ref fBeadFrame_shown)))
    (iBeadFrame_shown : PySem.W.isFn K (.ref fBeadFrame_shown) = true)
    (lBeadFrame_shown : K.lookup fBeadFrame_shown = some ⟨ocBeadFrame_shown, odBeadFrame_shown, .func (PySem.W.fnOf "shown" "BeadFrame.shown" (defArgs s_BeadFrame_shown) (defBody s_BeadFrame_shown) (defScope s_BeadFrame_shown) .none kVBeadFrame_shown dcBeadFrame_shown pmBeadFrame_shown anBeadFrame_shown cdBeadFrame_shown ctBeadFrame_shown), slBeadFrame_shown⟩)
    (cBeadFrame_shown : PySem.W.codeIn K cdBeadFrame_shown "BeadFrame.shown" = true)
    (kBeadFrame_shown : PySem.W.keepIn K (.ref fBeadFrame_shown) = true)
    (aBeadFrame_want_rod : PySem.W.findIn K (.ref cBeadFrame) "want_rod" = some (some (.ref fBeadFrame_want_rod)))
    (iBeadFrame_want_rod : PySem.W.isFn K (.ref fBeadFrame_want_rod) = true)
    (lBeadFrame_want_rod : K.lookup fBeadFrame_want_rod = some ⟨ocBeadFrame_want_rod, odBeadFrame_want_rod, .func (PySem.W.fnOf "want_rod" "BeadFrame.want_rod" (defArgs s_BeadFrame_want_rod) (defBody s_BeadFrame_want_rod) (defScope s_BeadFrame_want_rod) .none kVBeadFrame_want_rod dcBeadFrame_want_rod pmBeadFrame_want_rod anBeadFrame_want_rod cdBeadFrame_want_rod ctBeadFrame_want_rod), slBeadFrame_want_rod⟩)
    (cBeadFrame_want_rod : PySem.W.codeIn K cdBeadFrame_want_rod "BeadFrame.want_rod" = true)
    (kBeadFrame_want_rod : PySem.W.keepIn K (.ref fBeadFrame_want_rod) = true)
    (aBeadFrame_digit : PySem.W.findIn K (.ref cBeadFrame) "digit" = some (some (.ref fBeadFrame_digit)))
    (iBeadFrame_digit : PySem.W.isFn K (.ref fBeadFrame_digit) = true)
    (lBeadFrame_digit : K.lookup fBeadFrame_digit = some ⟨ocBeadFrame_digit, odBeadFrame_digit, .func (PySem.W.fnOf "digit" "BeadFrame.digit" (defArgs s_BeadFrame_digit) (defBody s_BeadFrame_digit) (defScope s_BeadFrame_digit) .none kVBeadFrame_digit dcBeadFrame_digit pmBeadFrame_digit anBeadFrame_digit cdBeadFrame_digit ctBeadFrame_digit), slBeadFrame_digit⟩)
    (cBeadFrame_digit : PySem.W.codeIn K cdBeadFrame_digit "BeadFrame.digit" = true)
    (kBeadFrame_digit : PySem.W.keepIn K (.ref fBeadFrame_digit) = true)
    (aBeadFrame_change : PySem.W.findIn K (.ref cBeadFrame) "change" = some (some (.ref fBeadFrame_change)))
    (iBeadFrame_change : PySem.W.isFn K (.ref fBeadFrame_change) = true)
    (lBeadFrame_change : K.lookup fBeadFrame_change = some ⟨ocBeadFrame_change, odBeadFrame_change, .func (PySem.W.fnOf "change" "BeadFrame.change" (defArgs s_BeadFrame_change) (defBody s_BeadFrame_change) (defScope s_BeadFrame_change) .none kVBeadFrame_change dcBeadFrame_change pmBeadFrame_change anBeadFrame_change cdBeadFrame_change ctBeadFrame_change), slBeadFrame_change⟩)
    (cBeadFrame_change : PySem.W.codeIn K cdBeadFrame_change "BeadFrame.change" = true)
    (kBeadFrame_change : PySem.W.keepIn K (.ref fBeadFrame_change) = true)
    (aBeadFrame_sum_digit : PySem.W.findIn K (.ref cBeadFrame) "sum_digit" = some (some (.ref fBeadFrame_sum_digit)))
    (iBeadFrame_sum_digit : PySem.W.isFn K (.ref fBeadFrame_sum_digit) = true)
    (lBeadFrame_sum_digit : K.lookup fBeadFrame_sum_digit = some ⟨ocBeadFrame_sum_digit, odBeadFrame_sum_digit, .func (PySem.W.fnOf "sum_digit" "BeadFrame.sum_digit" (defArgs s_BeadFrame_sum_digit) (defBody s_BeadFrame_sum_digit) (defScope s_BeadFrame_sum_digit) .none kVBeadFrame_sum_digit dcBeadFrame_sum_digit pmBeadFrame_sum_digit anBeadFrame_sum_digit cdBeadFrame_sum_digit ctBeadFrame_sum_digit), slBeadFrame_sum_digit⟩)
    (cBeadFrame_sum_digit : PySem.W.codeIn K cdBeadFrame_sum_digit "BeadFrame.sum_digit" = true)
    (kBeadFrame_sum_digit : PySem.W.keepIn K (.ref fBeadFrame_sum_digit) = true)
    (aBeadFrame_carried : PySem.W.findIn K (.ref cBeadFrame) "carried" = some (some (.ref fBeadFrame_carried)))
    (iBeadFrame_carried : PySem.W.isFn K (.ref fBeadFrame_carried) = true)
    (lBeadFrame_carried : K.lookup fBeadFrame_carried = some ⟨ocBeadFrame_carried, odBeadFrame_carried, .func (PySem.W.fnOf "carried" "BeadFrame.carried" (defArgs s_BeadFrame_carried) (defBody s_BeadFrame_carried) (defScope s_BeadFrame_carried) .none kVBeadFrame_carried dcBeadFrame_carried pmBeadFrame_carried anBeadFrame_carried cdBeadFrame_carried ctBeadFrame_carried), slBeadFrame_carried⟩)
    (cBeadFrame_carried : PySem.W.codeIn K cdBeadFrame_carried "BeadFrame.carried" = true)
    (kBeadFrame_carried : PySem.W.keepIn K (.ref fBeadFrame_carried) = true)
    (aBeadFrame_told_rule : PySem.W.findIn K (.ref cBeadFrame) "told_rule" = some (some (.ref fBeadFrame_told_rule)))
    (iBeadFrame_told_rule : PySem.W.isFn K (.ref fBeadFrame_told_rule) = true)
    (lBeadFrame_told_rule : K.lookup fBeadFrame_told_rule = some ⟨ocBeadFrame_told_rule, odBeadFrame_told_rule, .func (PySem.W.fnOf "told_rule" "BeadFrame.told_rule" (defArgs s_BeadFrame_told_rule) (defBody s_BeadFrame_told_rule) (defScope s_BeadFrame_told_rule) .none kVBeadFrame_told_rule dcBeadFrame_told_rule pmBeadFrame_told_rule anBeadFrame_told_rule cdBeadFrame_told_rule ctBeadFrame_told_rule), slBeadFrame_told_rule⟩)
    (cBeadFrame_told_rule : PySem.W.codeIn K cdBeadFrame_told_rule "BeadFrame.told_rule" = true)
    (kBeadFrame_told_rule : PySem.W.keepIn K (.ref fBeadFrame_told_rule) = true)
    (aBeadFrame_act : PySem.W.findIn K (.ref cBeadFrame) "act" = some (some (.ref fBeadFrame_act)))
    (iBeadFrame_act : PySem.W.isFn K (.ref fBeadFrame_act) = true)
    (lBeadFrame_act : K.lookup fBeadFrame_act = some ⟨ocBeadFrame_act, odBeadFrame_act, .func (PySem.W.fnOf "act" "BeadFrame.act" (defArgs s_BeadFrame_act) (defBody s_BeadFrame_act) (defScope s_BeadFrame_act) .none kVBeadFrame_act dcBeadFrame_act pmBeadFrame_act anBeadFrame_act cdBeadFrame_act ctBeadFrame_act), slBeadFrame_act⟩)
    (cBeadFrame_act : PySem.W.codeIn K cdBeadFrame_act "BeadFrame.act" = true)
    (kBeadFrame_act : PySem.W.keepIn K (.ref fBeadFrame_act) = true)
    (aBeadFrame_push : PySem.W.findIn K (.ref cBeadFrame) "push" = some (some (.ref fBeadFrame_push)))
    (iBeadFrame_push : PySem.W.isFn K (.ref fBeadFrame_push) = true)
    (lBeadFrame_push : K.lookup fBeadFrame_push = some ⟨ocBeadFrame_push, odBeadFrame_push, .func (PySem.W.fnOf "push" "BeadFrame.push" (defArgs s_BeadFrame_push) (defBody s_BeadFrame_push) (defScope s_BeadFrame_push) .none kVBeadFrame_push dcBeadFrame_push pmBeadFrame_push anBeadFrame_push cdBeadFrame_push ctBeadFrame_push), slBeadFrame_push⟩)
    (cBeadFrame_push : PySem.W.codeIn K cdBeadFrame_push "BeadFrame.push" = true)
    (kBeadFrame_push : PySem.W.keepIn K (.ref fBeadFrame_push) = true)
    (gReader : PySem.W.nsIn K mainGlobals "Reader" = some (some (.ref cReader)))
    (pgReader : PySem.W.plainGet K cReader Str.empty = true)
    (hdReader : PySem.W.hasDictIn K cReader = true)
    (poReader : PySem.W.plainOver K cReader = true)
    (saReader : PySem.W.findIn K (.ref cReader) "__setattr__" = some (some (.builtin "object.__setattr__")))
    (mkReader : PySem.W.makesIn K cReader = true)
    (kcReader : PySem.W.keepIn K (.ref cReader) = true)
    (naReadertext : PySem.W.findIn K (.ref cReader) "text" = some none)
    (naReaderat : PySem.W.findIn K (.ref cReader) "at" = some none)
    (aReader___init__ : PySem.W.findIn K (.ref cReader) "__init__" = some (some (.ref fReader___init__)))
    (iReader___init__ : PySem.W.isFn K (.ref fReader___init__) = true)
    (lReader___init__ : K.lookup fReader___init__ = some ⟨ocReader___init__, odReader___init__, .func (PySem.W.fnOf "__init__" "Reader.__init__" (defArgs s_Reader___init__) (defBody s_Reader___init__) (defScope s_Reader___init__) .none kVReader___init__ dcReader___init__ pmReader___init__ anReader___init__ cdReader___init__ ctReader___init__), slReader___init__⟩)
    (cReader___init__ : PySem.W.codeIn K cdReader___init__ "Reader.__init__" = true)
    (kReader___init__ : PySem.W.keepIn K (.ref fReader___init__) = true)
    (aReader_sees : PySem.W.findIn K (.ref cReader) "sees" = some (some (.ref fReader_sees)))
    (iReader_sees : PySem.W.isFn K (.ref fReader_sees) = true)
    (lReader_sees : K.lookup fReader_sees = some ⟨ocReader_sees, odReader_sees, .func (PySem.W.fnOf "sees" "Reader.sees" (defArgs s_Reader_sees) (defBody s_Reader_sees) (defScope s_Reader_sees) .none kVReader_sees dcReader_sees pmReader_sees anReader_sees cdReader_sees ctReader_sees), slReader_sees⟩)
    (cReader_sees : PySem.W.codeIn K cdReader_sees "Reader.sees" = true)
    (kReader_sees : PySem.W.keepIn K (.ref fReader_sees) = true)
    (aReader_next_of : PySem.W.findIn K (.ref cReader) "next_of" = some (some (.ref fReader_next_of)))
    (iReader_next_of : PySem.W.isFn K (.ref fReader_next_of) = true)
    (lReader_next_of : K.lookup fReader_next_of = some ⟨ocReader_next_of, odReader_next_of, .func (PySem.W.fnOf "next_of" "Reader.next_of" (defArgs s_Reader_next_of) (defBody s_Reader_next_of) (defScope s_Reader_next_of) .none kVReader_next_of dcReader_next_of pmReader_next_of anReader_next_of cdReader_next_of ctReader_next_of), slReader_next_of⟩)
    (cReader_next_of : PySem.W.codeIn K cdReader_next_of "Reader.next_of" = true)
    (kReader_next_of : PySem.W.keepIn K (.ref fReader_next_of) = true)
    (aReader_word : PySem.W.findIn K (.ref cReader) "word" = some (some (.ref fReader_word)))
    (iReader_word : PySem.W.isFn K (.ref fReader_word) = true)
    (lReader_word : K.lookup fReader_word = some ⟨ocReader_word, odReader_word, .func (PySem.W.fnOf "word" "Reader.word" (defArgs s_Reader_word) (defBody s_Reader_word) (defScope s_Reader_word) .none kVReader_word dcReader_word pmReader_word anReader_word cdReader_word ctReader_word), slReader_word⟩)
    (cReader_word : PySem.W.codeIn K cdReader_word "Reader.word" = true)
    (kReader_word : PySem.W.keepIn K (.ref fReader_word) = true)
    (gLines : PySem.W.nsIn K mainGlobals "Lines" = some (some (.ref cLines)))
    (pgLines : PySem.W.plainGet K cLines Str.empty = true)
    (hdLines : PySem.W.hasDictIn K cLines = true)
    (poLines : PySem.W.plainOver K cLines = true)
    (saLines : PySem.W.findIn K (.ref cLines) "__setattr__" = some (some (.builtin "object.__setattr__")))
    (mkLines : PySem.W.makesIn K cLines = true)
    (kcLines : PySem.W.keepIn K (.ref cLines) = true)
    (naLineswords : PySem.W.findIn K (.ref cLines) "words" = some none)
    (naLinesparts : PySem.W.findIn K (.ref cLines) "parts" = some none)
    (naLinesgoals : PySem.W.findIn K (.ref cLines) "goals" = some none)
    (naLinesopen_ones : PySem.W.findIn K (.ref cLines) "open_ones" = some none)
    (aLines___init__ : PySem.W.findIn K (.ref cLines) "__init__" = some (some (.ref fLines___init__)))
    (iLines___init__ : PySem.W.isFn K (.ref fLines___init__) = true)
    (lLines___init__ : K.lookup fLines___init__ = some ⟨ocLines___init__, odLines___init__, .func (PySem.W.fnOf "__init__" "Lines.__init__" (defArgs s_Lines___init__) (defBody s_Lines___init__) (defScope s_Lines___init__) .none kVLines___init__ dcLines___init__ pmLines___init__ anLines___init__ cdLines___init__ ctLines___init__), slLines___init__⟩)
    (cLines___init__ : PySem.W.codeIn K cdLines___init__ "Lines.__init__" = true)
    (kLines___init__ : PySem.W.keepIn K (.ref fLines___init__) = true)
    (aLines_put : PySem.W.findIn K (.ref cLines) "put" = some (some (.ref fLines_put)))
    (iLines_put : PySem.W.isFn K (.ref fLines_put) = true)
    (lLines_put : K.lookup fLines_put = some ⟨ocLines_put, odLines_put, .func (PySem.W.fnOf "put" "Lines.put" (defArgs s_Lines_put) (defBody s_Lines_put) (defScope s_Lines_put) .none kVLines_put dcLines_put pmLines_put anLines_put cdLines_put ctLines_put), slLines_put⟩)
    (cLines_put : PySem.W.codeIn K cdLines_put "Lines.put" = true)
    (kLines_put : PySem.W.keepIn K (.ref fLines_put) = true)
    (aLines_may_have_else : PySem.W.findIn K (.ref cLines) "may_have_else" = some (some (.ref fLines_may_have_else)))
    (iLines_may_have_else : PySem.W.isFn K (.ref fLines_may_have_else) = true)
    (lLines_may_have_else : K.lookup fLines_may_have_else = some ⟨ocLines_may_have_else, odLines_may_have_else, .func (PySem.W.fnOf "may_have_else" "Lines.may_have_else" (defArgs s_Lines_may_have_else) (defBody s_Lines_may_have_else) (defScope s_Lines_may_have_else) .none kVLines_may_have_else dcLines_may_have_else pmLines_may_have_else anLines_may_have_else cdLines_may_have_else ctLines_may_have_else), slLines_may_have_else⟩)
    (cLines_may_have_else : PySem.W.codeIn K cdLines_may_have_else "Lines.may_have_else" = true)
    (kLines_may_have_else : PySem.W.keepIn K (.ref fLines_may_have_else) = true)
    (aLines_opened : PySem.W.findIn K (.ref cLines) "opened" = some (some (.ref fLines_opened)))
    (iLines_opened : PySem.W.isFn K (.ref fLines_opened) = true)
    (lLines_opened : K.lookup fLines_opened = some ⟨ocLines_opened, odLines_opened, .func (PySem.W.fnOf "opened" "Lines.opened" (defArgs s_Lines_opened) (defBody s_Lines_opened) (defScope s_Lines_opened) .none kVLines_opened dcLines_opened pmLines_opened anLines_opened cdLines_opened ctLines_opened), slLines_opened⟩)
    (cLines_opened : PySem.W.codeIn K cdLines_opened "Lines.opened" = true)
    (kLines_opened : PySem.W.keepIn K (.ref fLines_opened) = true)
    (aLines_put_else : PySem.W.findIn K (.ref cLines) "put_else" = some (some (.ref fLines_put_else)))
    (iLines_put_else : PySem.W.isFn K (.ref fLines_put_else) = true)
    (lLines_put_else : K.lookup fLines_put_else = some ⟨ocLines_put_else, odLines_put_else, .func (PySem.W.fnOf "put_else" "Lines.put_else" (defArgs s_Lines_put_else) (defBody s_Lines_put_else) (defScope s_Lines_put_else) .none kVLines_put_else dcLines_put_else pmLines_put_else anLines_put_else cdLines_put_else ctLines_put_else), slLines_put_else⟩)
    (cLines_put_else : PySem.W.codeIn K cdLines_put_else "Lines.put_else" = true)
    (kLines_put_else : PySem.W.keepIn K (.ref fLines_put_else) = true)
    (aLines_put_end : PySem.W.findIn K (.ref cLines) "put_end" = some (some (.ref fLines_put_end)))
    (iLines_put_end : PySem.W.isFn K (.ref fLines_put_end) = true)
    (lLines_put_end : K.lookup fLines_put_end = some ⟨ocLines_put_end, odLines_put_end, .func (PySem.W.fnOf "put_end" "Lines.put_end" (defArgs s_Lines_put_end) (defBody s_Lines_put_end) (defScope s_Lines_put_end) .none kVLines_put_end dcLines_put_end pmLines_put_end anLines_put_end cdLines_put_end ctLines_put_end), slLines_put_end⟩)
    (cLines_put_end : PySem.W.codeIn K cdLines_put_end "Lines.put_end" = true)
    (kLines_put_end : PySem.W.keepIn K (.ref fLines_put_end) = true)
    (gRun : PySem.W.nsIn K mainGlobals "Run" = some (some (.ref cRun)))
    (pgRun : PySem.W.plainGet K cRun Str.empty = true)
    (hdRun : PySem.W.hasDictIn K cRun = true)
    (poRun : PySem.W.plainOver K cRun = true)
    (saRun : PySem.W.findIn K (.ref cRun) "__setattr__" = some (some (.builtin "object.__setattr__")))
    (mkRun : PySem.W.makesIn K cRun = true)
    (kcRun : PySem.W.keepIn K (.ref cRun) = true)
    (naRunframe : PySem.W.findIn K (.ref cRun) "frame" = some none)
    (naRunlines : PySem.W.findIn K (.ref cRun) "lines" = some none)
    (naRunmarks : PySem.W.findIn K (.ref cRun) "marks" = some none)
    (naRunheads : PySem.W.findIn K (.ref cRun) "heads" = some none)
    (naRunat : PySem.W.findIn K (.ref cRun) "at" = some none)
    (naRunsteps : PySem.W.findIn K (.ref cRun) "steps" = some none)
    (aRun___init__ : PySem.W.findIn K (.ref cRun) "__init__" = some (some (.ref fRun___init__)))
    (iRun___init__ : PySem.W.isFn K (.ref fRun___init__) = true)
    (lRun___init__ : K.lookup fRun___init__ = some ⟨ocRun___init__, odRun___init__, .func (PySem.W.fnOf "__init__" "Run.__init__" (defArgs s_Run___init__) (defBody s_Run___init__) (defScope s_Run___init__) .none kVRun___init__ dcRun___init__ pmRun___init__ anRun___init__ cdRun___init__ ctRun___init__), slRun___init__⟩)
    (cRun___init__ : PySem.W.codeIn K cdRun___init__ "Run.__init__" = true)
    (kRun___init__ : PySem.W.keepIn K (.ref fRun___init__) = true)
    (aRun_worked_out : PySem.W.findIn K (.ref cRun) "worked_out" = some (some (.ref fRun_worked_out)))
    (iRun_worked_out : PySem.W.isFn K (.ref fRun_worked_out) = true)
    (lRun_worked_out : K.lookup fRun_worked_out = some ⟨ocRun_worked_out, odRun_worked_out, .func (PySem.W.fnOf "worked_out" "Run.worked_out" (defArgs s_Run_worked_out) (defBody s_Run_worked_out) (defScope s_Run_worked_out) .none kVRun_worked_out dcRun_worked_out pmRun_worked_out anRun_worked_out cdRun_worked_out ctRun_worked_out), slRun_worked_out⟩)
    (cRun_worked_out : PySem.W.codeIn K cdRun_worked_out "Run.worked_out" = true)
    (kRun_worked_out : PySem.W.keepIn K (.ref fRun_worked_out) = true)
    (aRun_is_so : PySem.W.findIn K (.ref cRun) "is_so" = some (some (.ref fRun_is_so)))
    (iRun_is_so : PySem.W.isFn K (.ref fRun_is_so) = true)
    (lRun_is_so : K.lookup fRun_is_so = some ⟨ocRun_is_so, odRun_is_so, .func (PySem.W.fnOf "is_so" "Run.is_so" (defArgs s_Run_is_so) (defBody s_Run_is_so) (defScope s_Run_is_so) .none kVRun_is_so dcRun_is_so pmRun_is_so anRun_is_so cdRun_is_so ctRun_is_so), slRun_is_so⟩)
    (cRun_is_so : PySem.W.codeIn K cdRun_is_so "Run.is_so" = true)
    (kRun_is_so : PySem.W.keepIn K (.ref fRun_is_so) = true)
    (aRun_change : PySem.W.findIn K (.ref cRun) "change" = some (some (.ref fRun_change)))
    (iRun_change : PySem.W.isFn K (.ref fRun_change) = true)
    (lRun_change : K.lookup fRun_change = some ⟨ocRun_change, odRun_change, .func (PySem.W.fnOf "change" "Run.change" (defArgs s_Run_change) (defBody s_Run_change) (defScope s_Run_change) .none kVRun_change dcRun_change pmRun_change anRun_change cdRun_change ctRun_change), slRun_change⟩)
    (cRun_change : PySem.W.codeIn K cdRun_change "Run.change" = true)
    (kRun_change : PySem.W.keepIn K (.ref fRun_change) = true)
    (aRun_set_head : PySem.W.findIn K (.ref cRun) "set_head" = some (some (.ref fRun_set_head)))
    (iRun_set_head : PySem.W.isFn K (.ref fRun_set_head) = true)
    (lRun_set_head : K.lookup fRun_set_head = some ⟨ocRun_set_head, odRun_set_head, .func (PySem.W.fnOf "set_head" "Run.set_head" (defArgs s_Run_set_head) (defBody s_Run_set_head) (defScope s_Run_set_head) .none kVRun_set_head dcRun_set_head pmRun_set_head anRun_set_head cdRun_set_head ctRun_set_head), slRun_set_head⟩)
    (cRun_set_head : PySem.W.codeIn K cdRun_set_head "Run.set_head" = true)
    (kRun_set_head : PySem.W.keepIn K (.ref fRun_set_head) = true)
    (aRun_next_line : PySem.W.findIn K (.ref cRun) "next_line" = some (some (.ref fRun_next_line)))
    (iRun_next_line : PySem.W.isFn K (.ref fRun_next_line) = true)
    (lRun_next_line : K.lookup fRun_next_line = some ⟨ocRun_next_line, odRun_next_line, .func (PySem.W.fnOf "next_line" "Run.next_line" (defArgs s_Run_next_line) (defBody s_Run_next_line) (defScope s_Run_next_line) .none kVRun_next_line dcRun_next_line pmRun_next_line anRun_next_line cdRun_next_line ctRun_next_line), slRun_next_line⟩)
    (cRun_next_line : PySem.W.codeIn K cdRun_next_line "Run.next_line" = true)
    (kRun_next_line : PySem.W.keepIn K (.ref fRun_next_line) = true)
    (aRun_run : PySem.W.findIn K (.ref cRun) "run" = some (some (.ref fRun_run)))
    (iRun_run : PySem.W.isFn K (.ref fRun_run) = true)
    (lRun_run : K.lookup fRun_run = some ⟨ocRun_run, odRun_run, .func (PySem.W.fnOf "run" "Run.run" (defArgs s_Run_run) (defBody s_Run_run) (defScope s_Run_run) .none kVRun_run dcRun_run pmRun_run anRun_run cdRun_run ctRun_run), slRun_run⟩)
    (cRun_run : PySem.W.codeIn K cdRun_run "Run.run" = true)
    (kRun_run : PySem.W.keepIn K (.ref fRun_run) = true)
    (arods_of : PySem.W.nsIn K mainGlobals "rods_of" = some (some (.ref frods_of)))
    (lrods_of : K.lookup frods_of = some ⟨ocrods_of, odrods_of, .func (PySem.W.fnOf "rods_of" "rods_of" (defArgs s_rods_of) (defBody s_rods_of) (defScope s_rods_of) .none kVrods_of dcrods_of pmrods_of anrods_of cdrods_of ctrods_of), slrods_of⟩)
    (crods_of : PySem.W.codeIn K cdrods_of "rods_of" = true)
    (krods_of : PySem.W.keepIn K (.ref frods_of) = true)
    (aare_decks : PySem.W.nsIn K mainGlobals "are_decks" = some (some (.ref fare_decks)))
    (lare_decks : K.lookup fare_decks = some ⟨ocare_decks, odare_decks, .func (PySem.W.fnOf "are_decks" "are_decks" (defArgs s_are_decks) (defBody s_are_decks) (defScope s_are_decks) .none kVare_decks dcare_decks pmare_decks anare_decks cdare_decks ctare_decks), slare_decks⟩)
    (care_decks : PySem.W.codeIn K cdare_decks "are_decks" = true)
    (kare_decks : PySem.W.keepIn K (.ref fare_decks) = true)
    (aworth_of : PySem.W.nsIn K mainGlobals "worth_of" = some (some (.ref fworth_of)))
    (lworth_of : K.lookup fworth_of = some ⟨ocworth_of, odworth_of, .func (PySem.W.fnOf "worth_of" "worth_of" (defArgs s_worth_of) (defBody s_worth_of) (defScope s_worth_of) .none kVworth_of dcworth_of pmworth_of anworth_of cdworth_of ctworth_of), slworth_of⟩)
    (cworth_of : PySem.W.codeIn K cdworth_of "worth_of" = true)
    (kworth_of : PySem.W.keepIn K (.ref fworth_of) = true)
    (arank_of : PySem.W.nsIn K mainGlobals "rank_of" = some (some (.ref frank_of)))
    (lrank_of : K.lookup frank_of = some ⟨ocrank_of, odrank_of, .func (PySem.W.fnOf "rank_of" "rank_of" (defArgs s_rank_of) (defBody s_rank_of) (defScope s_rank_of) .none kVrank_of dcrank_of pmrank_of anrank_of cdrank_of ctrank_of), slrank_of⟩)
    (crank_of : PySem.W.codeIn K cdrank_of "rank_of" = true)
    (krank_of : PySem.W.keepIn K (.ref frank_of) = true)
    (aways_of : PySem.W.nsIn K mainGlobals "ways_of" = some (some (.ref fways_of)))
    (lways_of : K.lookup fways_of = some ⟨ocways_of, odways_of, .func (PySem.W.fnOf "ways_of" "ways_of" (defArgs s_ways_of) (defBody s_ways_of) (defScope s_ways_of) .none kVways_of dcways_of pmways_of anways_of cdways_of ctways_of), slways_of⟩)
    (cways_of : PySem.W.codeIn K cdways_of "ways_of" = true)
    (kways_of : PySem.W.keepIn K (.ref fways_of) = true)
    (aforms_of : PySem.W.nsIn K mainGlobals "forms_of" = some (some (.ref fforms_of)))
    (lforms_of : K.lookup fforms_of = some ⟨ocforms_of, odforms_of, .func (PySem.W.fnOf "forms_of" "forms_of" (defArgs s_forms_of) (defBody s_forms_of) (defScope s_forms_of) .none kVforms_of dcforms_of pmforms_of anforms_of cdforms_of ctforms_of), slforms_of⟩)
    (cforms_of : PySem.W.codeIn K cdforms_of "forms_of" = true)
    (kforms_of : PySem.W.keepIn K (.ref fforms_of) = true)
    (arod_rule : PySem.W.nsIn K mainGlobals "rod_rule" = some (some (.ref frod_rule)))
    (lrod_rule : K.lookup frod_rule = some ⟨ocrod_rule, odrod_rule, .func (PySem.W.fnOf "rod_rule" "rod_rule" (defArgs s_rod_rule) (defBody s_rod_rule) (defScope s_rod_rule) .none kVrod_rule dcrod_rule pmrod_rule anrod_rule cdrod_rule ctrod_rule), slrod_rule⟩)
    (crod_rule : PySem.W.codeIn K cdrod_rule "rod_rule" = true)
    (krod_rule : PySem.W.keepIn K (.ref frod_rule) = true)
    (awant_make : PySem.W.nsIn K mainGlobals "want_make" = some (some (.ref fwant_make)))
    (lwant_make : K.lookup fwant_make = some ⟨ocwant_make, odwant_make, .func (PySem.W.fnOf "want_make" "want_make" (defArgs s_want_make) (defBody s_want_make) (defScope s_want_make) .none kVwant_make dcwant_make pmwant_make anwant_make cdwant_make ctwant_make), slwant_make⟩)
    (cwant_make : PySem.W.codeIn K cdwant_make "want_make" = true)
    (kwant_make : PySem.W.keepIn K (.ref fwant_make) = true)
    (awant_standing : PySem.W.nsIn K mainGlobals "want_standing" = some (some (.ref fwant_standing)))
    (lwant_standing : K.lookup fwant_standing = some ⟨ocwant_standing, odwant_standing, .func (PySem.W.fnOf "want_standing" "want_standing" (defArgs s_want_standing) (defBody s_want_standing) (defScope s_want_standing) .none kVwant_standing dcwant_standing pmwant_standing anwant_standing cdwant_standing ctwant_standing), slwant_standing⟩)
    (cwant_standing : PySem.W.codeIn K cdwant_standing "want_standing" = true)
    (kwant_standing : PySem.W.keepIn K (.ref fwant_standing) = true)
    (aplaces_of : PySem.W.nsIn K mainGlobals "places_of" = some (some (.ref fplaces_of)))
    (lplaces_of : K.lookup fplaces_of = some ⟨ocplaces_of, odplaces_of, .func (PySem.W.fnOf "places_of" "places_of" (defArgs s_places_of) (defBody s_places_of) (defScope s_places_of) .none kVplaces_of dcplaces_of pmplaces_of anplaces_of cdplaces_of ctplaces_of), slplaces_of⟩)
    (cplaces_of : PySem.W.codeIn K cdplaces_of "places_of" = true)
    (kplaces_of : PySem.W.keepIn K (.ref fplaces_of) = true)
    (apushed_on : PySem.W.nsIn K mainGlobals "pushed_on" = some (some (.ref fpushed_on)))
    (lpushed_on : K.lookup fpushed_on = some ⟨ocpushed_on, odpushed_on, .func (PySem.W.fnOf "pushed_on" "pushed_on" (defArgs s_pushed_on) (defBody s_pushed_on) (defScope s_pushed_on) .none kVpushed_on dcpushed_on pmpushed_on anpushed_on cdpushed_on ctpushed_on), slpushed_on⟩)
    (cpushed_on : PySem.W.codeIn K cdpushed_on "pushed_on" = true)
    (kpushed_on : PySem.W.keepIn K (.ref fpushed_on) = true)
    (adigit_shown : PySem.W.nsIn K mainGlobals "digit_shown" = some (some (.ref fdigit_shown)))
    (ldigit_shown : K.lookup fdigit_shown = some ⟨ocdigit_shown, oddigit_shown, .func (PySem.W.fnOf "digit_shown" "digit_shown" (defArgs s_digit_shown) (defBody s_digit_shown) (defScope s_digit_shown) .none kVdigit_shown dcdigit_shown pmdigit_shown andigit_shown cddigit_shown ctdigit_shown), sldigit_shown⟩)
    (cdigit_shown : PySem.W.codeIn K cddigit_shown "digit_shown" = true)
    (kdigit_shown : PySem.W.keepIn K (.ref fdigit_shown) = true)
    (ais_in_form : PySem.W.nsIn K mainGlobals "is_in_form" = some (some (.ref fis_in_form)))
    (lis_in_form : K.lookup fis_in_form = some ⟨ocis_in_form, odis_in_form, .func (PySem.W.fnOf "is_in_form" "is_in_form" (defArgs s_is_in_form) (defBody s_is_in_form) (defScope s_is_in_form) .none kVis_in_form dcis_in_form pmis_in_form anis_in_form cdis_in_form ctis_in_form), slis_in_form⟩)
    (cis_in_form : PySem.W.codeIn K cdis_in_form "is_in_form" = true)
    (kis_in_form : PySem.W.keepIn K (.ref fis_in_form) = true)
    (astrokes_of : PySem.W.nsIn K mainGlobals "strokes_of" = some (some (.ref fstrokes_of)))
    (lstrokes_of : K.lookup fstrokes_of = some ⟨ocstrokes_of, odstrokes_of, .func (PySem.W.fnOf "strokes_of" "strokes_of" (defArgs s_strokes_of) (defBody s_strokes_of) (defScope s_strokes_of) .none kVstrokes_of dcstrokes_of pmstrokes_of anstrokes_of cdstrokes_of ctstrokes_of), slstrokes_of⟩)
    (cstrokes_of : PySem.W.codeIn K cdstrokes_of "strokes_of" = true)
    (kstrokes_of : PySem.W.keepIn K (.ref fstrokes_of) = true)
    (ais_deck : PySem.W.nsIn K mainGlobals "is_deck" = some (some (.ref fis_deck)))
    (lis_deck : K.lookup fis_deck = some ⟨ocis_deck, odis_deck, .func (PySem.W.fnOf "is_deck" "is_deck" (defArgs s_is_deck) (defBody s_is_deck) (defScope s_is_deck) .none kVis_deck dcis_deck pmis_deck anis_deck cdis_deck ctis_deck), slis_deck⟩)
    (cis_deck : PySem.W.codeIn K cdis_deck "is_deck" = true)
    (kis_deck : PySem.W.keepIn K (.ref fis_deck) = true)
    (ahas_second : PySem.W.nsIn K mainGlobals "has_second" = some (some (.ref fhas_second)))
    (lhas_second : K.lookup fhas_second = some ⟨ochas_second, odhas_second, .func (PySem.W.fnOf "has_second" "has_second" (defArgs s_has_second) (defBody s_has_second) (defScope s_has_second) .none kVhas_second dchas_second pmhas_second anhas_second cdhas_second cthas_second), slhas_second⟩)
    (chas_second : PySem.W.codeIn K cdhas_second "has_second" = true)
    (khas_second : PySem.W.keepIn K (.ref fhas_second) = true)
    (ais_stroke : PySem.W.nsIn K mainGlobals "is_stroke" = some (some (.ref fis_stroke)))
    (lis_stroke : K.lookup fis_stroke = some ⟨ocis_stroke, odis_stroke, .func (PySem.W.fnOf "is_stroke" "is_stroke" (defArgs s_is_stroke) (defBody s_is_stroke) (defScope s_is_stroke) .none kVis_stroke dcis_stroke pmis_stroke anis_stroke cdis_stroke ctis_stroke), slis_stroke⟩)
    (cis_stroke : PySem.W.codeIn K cdis_stroke "is_stroke" = true)
    (kis_stroke : PySem.W.keepIn K (.ref fis_stroke) = true)
    (awant_hand : PySem.W.nsIn K mainGlobals "want_hand" = some (some (.ref fwant_hand)))
    (lwant_hand : K.lookup fwant_hand = some ⟨ocwant_hand, odwant_hand, .func (PySem.W.fnOf "want_hand" "want_hand" (defArgs s_want_hand) (defBody s_want_hand) (defScope s_want_hand) .none kVwant_hand dcwant_hand pmwant_hand anwant_hand cdwant_hand ctwant_hand), slwant_hand⟩)
    (cwant_hand : PySem.W.codeIn K cdwant_hand "want_hand" = true)
    (kwant_hand : PySem.W.keepIn K (.ref fwant_hand) = true)
    (asteps_of : PySem.W.nsIn K mainGlobals "steps_of" = some (some (.ref fsteps_of)))
    (lsteps_of : K.lookup fsteps_of = some ⟨ocsteps_of, odsteps_of, .func (PySem.W.fnOf "steps_of" "steps_of" (defArgs s_steps_of) (defBody s_steps_of) (defScope s_steps_of) .none kVsteps_of dcsteps_of pmsteps_of ansteps_of cdsteps_of ctsteps_of), slsteps_of⟩)
    (csteps_of : PySem.W.codeIn K cdsteps_of "steps_of" = true)
    (ksteps_of : PySem.W.keepIn K (.ref fsteps_of) = true)
    (ais_step : PySem.W.nsIn K mainGlobals "is_step" = some (some (.ref fis_step)))
    (lis_step : K.lookup fis_step = some ⟨ocis_step, odis_step, .func (PySem.W.fnOf "is_step" "is_step" (defArgs s_is_step) (defBody s_is_step) (defScope s_is_step) .none kVis_step dcis_step pmis_step anis_step cdis_step ctis_step), slis_step⟩)
    (cis_step : PySem.W.codeIn K cdis_step "is_step" = true)
    (kis_step : PySem.W.keepIn K (.ref fis_step) = true)
    (ais_rule : PySem.W.nsIn K mainGlobals "is_rule" = some (some (.ref fis_rule)))
    (lis_rule : K.lookup fis_rule = some ⟨ocis_rule, odis_rule, .func (PySem.W.fnOf "is_rule" "is_rule" (defArgs s_is_rule) (defBody s_is_rule) (defScope s_is_rule) .none kVis_rule dcis_rule pmis_rule anis_rule cdis_rule ctis_rule), slis_rule⟩)
    (cis_rule : PySem.W.codeIn K cdis_rule "is_rule" = true)
    (kis_rule : PySem.W.keepIn K (.ref fis_rule) = true)
    (arules_of : PySem.W.nsIn K mainGlobals "rules_of" = some (some (.ref frules_of)))
    (lrules_of : K.lookup frules_of = some ⟨ocrules_of, odrules_of, .func (PySem.W.fnOf "rules_of" "rules_of" (defArgs s_rules_of) (defBody s_rules_of) (defScope s_rules_of) .none kVrules_of dcrules_of pmrules_of anrules_of cdrules_of ctrules_of), slrules_of⟩)
    (crules_of : PySem.W.codeIn K cdrules_of "rules_of" = true)
    (krules_of : PySem.W.keepIn K (.ref frules_of) = true)
    (abytes_of : PySem.W.nsIn K mainGlobals "bytes_of" = some (some (.ref fbytes_of)))
    (lbytes_of : K.lookup fbytes_of = some ⟨ocbytes_of, odbytes_of, .func (PySem.W.fnOf "bytes_of" "bytes_of" (defArgs s_bytes_of) (defBody s_bytes_of) (defScope s_bytes_of) .none kVbytes_of dcbytes_of pmbytes_of anbytes_of cdbytes_of ctbytes_of), slbytes_of⟩)
    (cbytes_of : PySem.W.codeIn K cdbytes_of "bytes_of" = true)
    (kbytes_of : PySem.W.keepIn K (.ref fbytes_of) = true)
    (anumber_from : PySem.W.nsIn K mainGlobals "number_from" = some (some (.ref fnumber_from)))
    (lnumber_from : K.lookup fnumber_from = some ⟨ocnumber_from, odnumber_from, .func (PySem.W.fnOf "number_from" "number_from" (defArgs s_number_from) (defBody s_number_from) (defScope s_number_from) .none kVnumber_from dcnumber_from pmnumber_from annumber_from cdnumber_from ctnumber_from), slnumber_from⟩)
    (cnumber_from : PySem.W.codeIn K cdnumber_from "number_from" = true)
    (knumber_from : PySem.W.keepIn K (.ref fnumber_from) = true)
    (aoperand : PySem.W.nsIn K mainGlobals "operand" = some (some (.ref foperand)))
    (loperand : K.lookup foperand = some ⟨ocoperand, odoperand, .func (PySem.W.fnOf "operand" "operand" (defArgs s_operand) (defBody s_operand) (defScope s_operand) .none kVoperand dcoperand pmoperand anoperand cdoperand ctoperand), sloperand⟩)
    (coperand : PySem.W.codeIn K cdoperand "operand" = true)
    (koperand : PySem.W.keepIn K (.ref foperand) = true)
    (aopen_brackets : PySem.W.nsIn K mainGlobals "open_brackets" = some (some (.ref fopen_brackets)))
    (lopen_brackets : K.lookup fopen_brackets = some ⟨ocopen_brackets, odopen_brackets, .func (PySem.W.fnOf "open_brackets" "open_brackets" (defArgs s_open_brackets) (defBody s_open_brackets) (defScope s_open_brackets) .none kVopen_brackets dcopen_brackets pmopen_brackets anopen_brackets cdopen_brackets ctopen_brackets), slopen_brackets⟩)
    (copen_brackets : PySem.W.codeIn K cdopen_brackets "open_brackets" = true)
    (kopen_brackets : PySem.W.keepIn K (.ref fopen_brackets) = true)
    (aread_operand : PySem.W.nsIn K mainGlobals "read_operand" = some (some (.ref fread_operand)))
    (lread_operand : K.lookup fread_operand = some ⟨ocread_operand, odread_operand, .func (PySem.W.fnOf "read_operand" "read_operand" (defArgs s_read_operand) (defBody s_read_operand) (defScope s_read_operand) .none kVread_operand dcread_operand pmread_operand anread_operand cdread_operand ctread_operand), slread_operand⟩)
    (cread_operand : PySem.W.codeIn K cdread_operand "read_operand" = true)
    (kread_operand : PySem.W.keepIn K (.ref fread_operand) = true)
    (aclose : PySem.W.nsIn K mainGlobals "close" = some (some (.ref fclose)))
    (lclose : K.lookup fclose = some ⟨occlose, odclose, .func (PySem.W.fnOf "close" "close" (defArgs s_close) (defBody s_close) (defScope s_close) .none kVclose dcclose pmclose anclose cdclose ctclose), slclose⟩)
    (cclose : PySem.W.codeIn K cdclose "close" = true)
    (kclose : PySem.W.keepIn K (.ref fclose) = true)
    (abinds : PySem.W.nsIn K mainGlobals "binds" = some (some (.ref fbinds)))
    (lbinds : K.lookup fbinds = some ⟨ocbinds, odbinds, .func (PySem.W.fnOf "binds" "binds" (defArgs s_binds) (defBody s_binds) (defScope s_binds) .none kVbinds dcbinds pmbinds anbinds cdbinds ctbinds), slbinds⟩)
    (cbinds : PySem.W.codeIn K cdbinds "binds" = true)
    (kbinds : PySem.W.keepIn K (.ref fbinds) = true)
    (aread_operator : PySem.W.nsIn K mainGlobals "read_operator" = some (some (.ref fread_operator)))
    (lread_operator : K.lookup fread_operator = some ⟨ocread_operator, odread_operator, .func (PySem.W.fnOf "read_operator" "read_operator" (defArgs s_read_operator) (defBody s_read_operator) (defScope s_read_operator) .none kVread_operator dcread_operator pmread_operator anread_operator cdread_operator ctread_operator), slread_operator⟩)
    (cread_operator : PySem.W.codeIn K cdread_operator "read_operator" = true)
    (kread_operator : PySem.W.keepIn K (.ref fread_operator) = true)
    (aread_closers : PySem.W.nsIn K mainGlobals "read_closers" = some (some (.ref fread_closers)))
    (lread_closers : K.lookup fread_closers = some ⟨ocread_closers, odread_closers, .func (PySem.W.fnOf "read_closers" "read_closers" (defArgs s_read_closers) (defBody s_read_closers) (defScope s_read_closers) .none kVread_closers dcread_closers pmread_closers anread_closers cdread_closers ctread_closers), slread_closers⟩)
    (cread_closers : PySem.W.codeIn K cdread_closers "read_closers" = true)
    (kread_closers : PySem.W.keepIn K (.ref fread_closers) = true)
    (aexpression : PySem.W.nsIn K mainGlobals "expression" = some (some (.ref fexpression)))
    (lexpression : K.lookup fexpression = some ⟨ocexpression, odexpression, .func (PySem.W.fnOf "expression" "expression" (defArgs s_expression) (defBody s_expression) (defScope s_expression) .none kVexpression dcexpression pmexpression anexpression cdexpression ctexpression), slexpression⟩)
    (cexpression : PySem.W.codeIn K cdexpression "expression" = true)
    (kexpression : PySem.W.keepIn K (.ref fexpression) = true)
    (acompared : PySem.W.nsIn K mainGlobals "compared" = some (some (.ref fcompared)))
    (lcompared : K.lookup fcompared = some ⟨occompared, odcompared, .func (PySem.W.fnOf "compared" "compared" (defArgs s_compared) (defBody s_compared) (defScope s_compared) .none kVcompared dccompared pmcompared ancompared cdcompared ctcompared), slcompared⟩)
    (ccompared : PySem.W.codeIn K cdcompared "compared" = true)
    (kcompared : PySem.W.keepIn K (.ref fcompared) = true)
    (acondition : PySem.W.nsIn K mainGlobals "condition" = some (some (.ref fcondition)))
    (lcondition : K.lookup fcondition = some ⟨occondition, odcondition, .func (PySem.W.fnOf "condition" "condition" (defArgs s_condition) (defBody s_condition) (defScope s_condition) .none kVcondition dccondition pmcondition ancondition cdcondition ctcondition), slcondition⟩)
    (ccondition : PySem.W.codeIn K cdcondition "condition" = true)
    (kcondition : PySem.W.keepIn K (.ref fcondition) = true)
    (afirst_bytes : PySem.W.nsIn K mainGlobals "first_bytes" = some (some (.ref ffirst_bytes)))
    (lfirst_bytes : K.lookup ffirst_bytes = some ⟨ocfirst_bytes, odfirst_bytes, .func (PySem.W.fnOf "first_bytes" "first_bytes" (defArgs s_first_bytes) (defBody s_first_bytes) (defScope s_first_bytes) .none kVfirst_bytes dcfirst_bytes pmfirst_bytes anfirst_bytes cdfirst_bytes ctfirst_bytes), slfirst_bytes⟩)
    (cfirst_bytes : PySem.W.codeIn K cdfirst_bytes "first_bytes" = true)
    (kfirst_bytes : PySem.W.keepIn K (.ref ffirst_bytes) = true)
    (aread_change : PySem.W.nsIn K mainGlobals "read_change" = some (some (.ref fread_change)))
    (lread_change : K.lookup fread_change = some ⟨ocread_change, odread_change, .func (PySem.W.fnOf "read_change" "read_change" (defArgs s_read_change) (defBody s_read_change) (defScope s_read_change) .none kVread_change dcread_change pmread_change anread_change cdread_change ctread_change), slread_change⟩)
    (cread_change : PySem.W.codeIn K cdread_change "read_change" = true)
    (kread_change : PySem.W.keepIn K (.ref fread_change) = true)
    (aread_set_or_stop : PySem.W.nsIn K mainGlobals "read_set_or_stop" = some (some (.ref fread_set_or_stop)))
    (lread_set_or_stop : K.lookup fread_set_or_stop = some ⟨ocread_set_or_stop, odread_set_or_stop, .func (PySem.W.fnOf "read_set_or_stop" "read_set_or_stop" (defArgs s_read_set_or_stop) (defBody s_read_set_or_stop) (defScope s_read_set_or_stop) .none kVread_set_or_stop dcread_set_or_stop pmread_set_or_stop anread_set_or_stop cdread_set_or_stop ctread_set_or_stop), slread_set_or_stop⟩)
    (cread_set_or_stop : PySem.W.codeIn K cdread_set_or_stop "read_set_or_stop" = true)
    (kread_set_or_stop : PySem.W.keepIn K (.ref fread_set_or_stop) = true)
    (aread_else_or_end : PySem.W.nsIn K mainGlobals "read_else_or_end" = some (some (.ref fread_else_or_end)))
    (lread_else_or_end : K.lookup fread_else_or_end = some ⟨ocread_else_or_end, odread_else_or_end, .func (PySem.W.fnOf "read_else_or_end" "read_else_or_end" (defArgs s_read_else_or_end) (defBody s_read_else_or_end) (defScope s_read_else_or_end) .none kVread_else_or_end dcread_else_or_end pmread_else_or_end anread_else_or_end cdread_else_or_end ctread_else_or_end), slread_else_or_end⟩)
    (cread_else_or_end : PySem.W.codeIn K cdread_else_or_end "read_else_or_end" = true)
    (kread_else_or_end : PySem.W.keepIn K (.ref fread_else_or_end) = true)
    (aread_line : PySem.W.nsIn K mainGlobals "read_line" = some (some (.ref fread_line)))
    (lread_line : K.lookup fread_line = some ⟨ocread_line, odread_line, .func (PySem.W.fnOf "read_line" "read_line" (defArgs s_read_line) (defBody s_read_line) (defScope s_read_line) .none kVread_line dcread_line pmread_line anread_line cdread_line ctread_line), slread_line⟩)
    (cread_line : PySem.W.codeIn K cdread_line "read_line" = true)
    (kread_line : PySem.W.keepIn K (.ref fread_line) = true)
    (alines_of : PySem.W.nsIn K mainGlobals "lines_of" = some (some (.ref flines_of)))
    (llines_of : K.lookup flines_of = some ⟨oclines_of, odlines_of, .func (PySem.W.fnOf "lines_of" "lines_of" (defArgs s_lines_of) (defBody s_lines_of) (defScope s_lines_of) .none kVlines_of dclines_of pmlines_of anlines_of cdlines_of ctlines_of), sllines_of⟩)
    (clines_of : PySem.W.codeIn K cdlines_of "lines_of" = true)
    (klines_of : PySem.W.keepIn K (.ref flines_of) = true)
    (ain_range : PySem.W.nsIn K mainGlobals "in_range" = some (some (.ref fin_range)))
    (lin_range : K.lookup fin_range = some ⟨ocin_range, odin_range, .func (PySem.W.fnOf "in_range" "in_range" (defArgs s_in_range) (defBody s_in_range) (defScope s_in_range) .none kVin_range dcin_range pmin_range anin_range cdin_range ctin_range), slin_range⟩)
    (cin_range : PySem.W.codeIn K cdin_range "in_range" = true)
    (kin_range : PySem.W.keepIn K (.ref fin_range) = true)
    (ajoined : PySem.W.nsIn K mainGlobals "joined" = some (some (.ref fjoined)))
    (ljoined : K.lookup fjoined = some ⟨ocjoined, odjoined, .func (PySem.W.fnOf "joined" "joined" (defArgs s_joined) (defBody s_joined) (defScope s_joined) .none kVjoined dcjoined pmjoined anjoined cdjoined ctjoined), sljoined⟩)
    (cjoined : PySem.W.codeIn K cdjoined "joined" = true)
    (kjoined : PySem.W.keepIn K (.ref fjoined) = true)
    (aare_right : PySem.W.nsIn K mainGlobals "are_right" = some (some (.ref fare_right)))
    (lare_right : K.lookup fare_right = some ⟨ocare_right, odare_right, .func (PySem.W.fnOf "are_right" "are_right" (defArgs s_are_right) (defBody s_are_right) (defScope s_are_right) .none kVare_right dcare_right pmare_right anare_right cdare_right ctare_right), slare_right⟩)
    (care_right : PySem.W.codeIn K cdare_right "are_right" = true)
    (kare_right : PySem.W.keepIn K (.ref fare_right) = true)
    (afault_of : PySem.W.nsIn K mainGlobals "fault_of" = some (some (.ref ffault_of)))
    (lfault_of : K.lookup ffault_of = some ⟨ocfault_of, odfault_of, .func (PySem.W.fnOf "fault_of" "fault_of" (defArgs s_fault_of) (defBody s_fault_of) (defScope s_fault_of) .none kVfault_of dcfault_of pmfault_of anfault_of cdfault_of ctfault_of), slfault_of⟩)
    (cfault_of : PySem.W.codeIn K cdfault_of "fault_of" = true)
    (kfault_of : PySem.W.keepIn K (.ref ffault_of) = true)
    (awork_of : PySem.W.nsIn K mainGlobals "work_of" = some (some (.ref fwork_of)))
    (lwork_of : K.lookup fwork_of = some ⟨ocwork_of, odwork_of, .func (PySem.W.fnOf "work_of" "work_of" (defArgs s_work_of) (defBody s_work_of) (defScope s_work_of) .none kVwork_of dcwork_of pmwork_of anwork_of cdwork_of ctwork_of), slwork_of⟩)
    (cwork_of : PySem.W.codeIn K cdwork_of "work_of" = true)
    (kwork_of : PySem.W.keepIn K (.ref fwork_of) = true)
    (awork : PySem.W.nsIn K mainGlobals "work" = some (some (.ref fwork)))
    (lwork : K.lookup fwork = some ⟨ocwork, odwork, .func (PySem.W.fnOf "work" "work" (defArgs s_work) (defBody s_work) (defScope s_work) .none kVwork dcwork pmwork anwork cdwork ctwork), slwork⟩)
    (cwork : PySem.W.codeIn K cdwork "work" = true)
    (kwork : PySem.W.keepIn K (.ref fwork) = true)
    (zVI : PySem.W.findCls K (.type "ValueError") (.type "type") "__init__" = some (.val (.builtin "ValueError.__init__")))
    (xmFaultFault : PySem.W.subIn K (.ref cFault) (.ref cFault) = some true)
    (xmFaultRunFault : PySem.W.subIn K (.ref cFault) (.ref cRunFault) = some false)
    (xmFaultTooLong : PySem.W.subIn K (.ref cFault) (.ref cTooLong) = some false)
    (xmRunFaultFault : PySem.W.subIn K (.ref cRunFault) (.ref cFault) = some false)
    (xmRunFaultRunFault : PySem.W.subIn K (.ref cRunFault) (.ref cRunFault) = some true)
    (xmRunFaultTooLong : PySem.W.subIn K (.ref cRunFault) (.ref cTooLong) = some false)
    (xmTooLongFault : PySem.W.subIn K (.ref cTooLong) (.ref cFault) = some false)
    (xmTooLongRunFault : PySem.W.subIn K (.ref cTooLong) (.ref cRunFault) = some false)
    (xmTooLongTooLong : PySem.W.subIn K (.ref cTooLong) (.ref cTooLong) = some true)
    : Txt K mg cFault cRunFault cTooLong cBeadFrame cReader cLines cRun where
  n_ValueError := PySem.W.mg_none_of X G zValueError
  n_abs := PySem.W.mg_none_of X G zabs
  n_all := PySem.W.mg_none_of X G zall
  n_enumerate := PySem.W.mg_none_of X G zenumerate
  n_int := PySem.W.mg_none_of X G zint
  n_len := PySem.W.mg_none_of X G zlen
  n_list := PySem.W.mg_none_of X G zlist
  n_ord := PySem.W.mg_none_of X G zord
  n_range := PySem.W.mg_none_of X G zrange
  n_tuple := PySem.W.mg_none_of X G ztuple
  n_zip := PySem.W.mg_none_of X G zzip
  c_NO_ROD := ⟨_, PySem.W.mg_of X G gcNO_ROD⟩
  c_NO_ROOM := ⟨_, PySem.W.mg_of X G gcNO_ROOM⟩
  c_OUT_OF_RANGE := ⟨_, PySem.W.mg_of X G gcOUT_OF_RANGE⟩
  c_FAILED := ⟨_, PySem.W.mg_of X G gcFAILED⟩
  c_WRONG := ⟨_, PySem.W.mg_of X G gcWRONG⟩
  c_NUMBERS_A_ROD := ⟨_, PySem.W.mg_of X G gcNUMBERS_A_ROD⟩
  c_DECKS := ⟨_, PySem.W.mg_of X G gcDECKS⟩
  c_MOST_RODS := ⟨_, PySem.W.mg_of X G gcMOST_RODS⟩
  c_LEAST_RATIO := ⟨_, PySem.W.mg_of X G gcLEAST_RATIO⟩
  c_MOST_RATIO := ⟨_, PySem.W.mg_of X G gcMOST_RATIO⟩
  c_MOST_BEADS := ⟨_, PySem.W.mg_of X G gcMOST_BEADS⟩
  c_MOST_WORTH := ⟨_, PySem.W.mg_of X G gcMOST_WORTH⟩
  c_MOST_OF_ROD := ⟨_, PySem.W.mg_of X G gcMOST_OF_ROD⟩
  c_NUMBERS_A_STROKE := ⟨_, PySem.W.mg_of X G gcNUMBERS_A_STROKE⟩
  c_MOST_STROKES := ⟨_, PySem.W.mg_of X G gcMOST_STROKES⟩
  c_MOST_COST := ⟨_, PySem.W.mg_of X G gcMOST_COST⟩
  c_DIRECTIONS := ⟨_, PySem.W.mg_of X G gcDIRECTIONS, fun H => .inr ⟨_, _, _, lcDIRECTIONS, rfl, rfl, (show 2 ≤ sizeLine by decide), .cons ⟨_, rfl⟩ (.cons ⟨_, rfl⟩ .nil)⟩⟩
  c_MOST_DIGIT := ⟨_, PySem.W.mg_of X G gcMOST_DIGIT⟩
  c_MOST_STEPS_hands := ⟨_, PySem.W.mg_of X G gcMOST_STEPS_hands⟩
  c_CARRY := ⟨_, PySem.W.mg_of X G gcCARRY, fun H => .inr ⟨_, _, _, lcCARRY, rfl, rfl, (show 3 ≤ sizeLine by decide), .cons ⟨_, rfl⟩ (.cons ⟨_, rfl⟩ (.cons ⟨_, rfl⟩ .nil))⟩⟩
  c_MOST_STEPS_beads := ⟨_, PySem.W.mg_of X G gcMOST_STEPS_beads⟩
  c_TO_BEAM := ⟨_, PySem.W.mg_of X G gcTO_BEAM⟩
  c_RULE := ⟨_, PySem.W.mg_of X G gcRULE⟩
  c_MOST_BRACKETS := ⟨_, PySem.W.mg_of X G gcMOST_BRACKETS⟩
  c_LINE_FEED := ⟨_, PySem.W.mg_of X G gcLINE_FEED⟩
  c_BLANK := ⟨_, PySem.W.mg_of X G gcBLANK⟩
  c_DIGITS := ⟨_, PySem.W.mg_of X G gcDIGITS, fun H => .inr ⟨_, _, _, lcDIGITS, rfl, rfl, (show 10 ≤ sizeLine by decide), .cons ⟨_, rfl⟩ (.cons ⟨_, rfl⟩ (.cons ⟨_, rfl⟩ (.cons ⟨_, rfl⟩ (.cons ⟨_, rfl⟩ (.cons ⟨_, rfl⟩ (.cons ⟨_, rfl⟩ (.cons ⟨_, rfl⟩ (.cons ⟨_, rfl⟩ (.cons ⟨_, rfl⟩ .nil)))))))))⟩⟩
  c_NOUGHT := ⟨_, PySem.W.mg_of X G gcNOUGHT⟩
  c_MOST_DIGITS := ⟨_, PySem.W.mg_of X G gcMOST_DIGITS⟩
  c_HEADS := ⟨_, PySem.W.mg_of X G gcHEADS, fun H => .inr ⟨_, _, _, lcHEADS, rfl, rfl, (show 8 ≤ sizeLine by decide), .cons ⟨_, rfl⟩ (.cons ⟨_, rfl⟩ (.cons ⟨_, rfl⟩ (.cons ⟨_, rfl⟩ (.cons ⟨_, rfl⟩ (.cons ⟨_, rfl⟩ (.cons ⟨_, rfl⟩ (.cons ⟨_, rfl⟩ .nil)))))))⟩⟩
  c_MARKS := ⟨_, PySem.W.mg_of X G gcMARKS, fun H => .inr ⟨_, _, _, lcMARKS, rfl, rfl, (show 8 ≤ sizeLine by decide), .cons ⟨_, rfl⟩ (.cons ⟨_, rfl⟩ (.cons ⟨_, rfl⟩ (.cons ⟨_, rfl⟩ (.cons ⟨_, rfl⟩ (.cons ⟨_, rfl⟩ (.cons ⟨_, rfl⟩ (.cons ⟨_, rfl⟩ .nil)))))))⟩⟩
  c_ROUND := ⟨_, PySem.W.mg_of X G gcROUND⟩
  c_SQUARE := ⟨_, PySem.W.mg_of X G gcSQUARE⟩
  c_OPENERS := ⟨_, PySem.W.mg_of X G gcOPENERS, fun H => .inr ⟨_, _, _, lcOPENERS, rfl, rfl, (show 2 ≤ sizeLine by decide), .cons ⟨_, rfl⟩ (.cons ⟨_, rfl⟩ .nil)⟩⟩
  c_CLOSERS := ⟨_, PySem.W.mg_of X G gcCLOSERS, _, _, lcCLOSERS, .cons ⟨rfl, ⟨_, rfl⟩, ⟨_, rfl⟩⟩ (.cons ⟨rfl, ⟨_, rfl⟩, ⟨_, rfl⟩⟩ .nil)⟩
  c_TIMES := ⟨_, PySem.W.mg_of X G gcTIMES⟩
  c_PLUS := ⟨_, PySem.W.mg_of X G gcPLUS⟩
  c_MINUS := ⟨_, PySem.W.mg_of X G gcMINUS⟩
  c_OPERATORS := ⟨_, PySem.W.mg_of X G gcOPERATORS, fun H => .inr ⟨_, _, _, lcOPERATORS, rfl, rfl, (show 3 ≤ sizeLine by decide), .cons ⟨_, rfl⟩ (.cons ⟨_, rfl⟩ (.cons ⟨_, rfl⟩ .nil))⟩⟩
  c_LESS := ⟨_, PySem.W.mg_of X G gcLESS⟩
  c_EQUAL := ⟨_, PySem.W.mg_of X G gcEQUAL⟩
  c_GREATER := ⟨_, PySem.W.mg_of X G gcGREATER⟩
  c_NUMBER := ⟨_, PySem.W.mg_of X G gcNUMBER⟩
  c_HEAD := ⟨_, PySem.W.mg_of X G gcHEAD⟩
  c_MARK := ⟨_, PySem.W.mg_of X G gcMARK⟩
  c_DIGIT := ⟨_, PySem.W.mg_of X G gcDIGIT⟩
  c_ADD := ⟨_, PySem.W.mg_of X G gcADD⟩
  c_TAKE := ⟨_, PySem.W.mg_of X G gcTAKE⟩
  c_SET := ⟨_, PySem.W.mg_of X G gcSET⟩
  c_IF := ⟨_, PySem.W.mg_of X G gcIF⟩
  c_ELSE := ⟨_, PySem.W.mg_of X G gcELSE⟩
  c_END := ⟨_, PySem.W.mg_of X G gcEND⟩
  c_WHILE := ⟨_, PySem.W.mg_of X G gcWHILE⟩
  c_STOP := ⟨_, PySem.W.mg_of X G gcSTOP⟩
  c_FAIL := ⟨_, PySem.W.mg_of X G gcFAIL⟩
  c_MOST_OPEN := ⟨_, PySem.W.mg_of X G gcMOST_OPEN⟩
  c_FAR := ⟨_, PySem.W.mg_of X G gcFAR⟩
  c_MOST_HEAD := ⟨_, PySem.W.mg_of X G gcMOST_HEAD⟩
  c_MANY_HEADS := ⟨_, PySem.W.mg_of X G gcMANY_HEADS⟩
  c_OPS := ⟨_, PySem.W.mg_of X G gcOPS, _, _, lcOPS, .cons ⟨rfl, ⟨_, rfl⟩, ⟨_, rfl⟩⟩ (.cons ⟨rfl, ⟨_, rfl⟩, ⟨_, rfl⟩⟩ .nil)⟩
  c_MOST_BYTES := ⟨_, PySem.W.mg_of X G gcMOST_BYTES⟩
  c_MANY_MARKS := ⟨_, PySem.W.mg_of X G gcMANY_MARKS⟩
  c_MOST_MARK := ⟨_, PySem.W.mg_of X G gcMOST_MARK⟩
  c_MOST_STEPS_methods := ⟨_, PySem.W.mg_of X G gcMOST_STEPS_methods⟩
  c_BAD_CALL := ⟨_, PySem.W.mg_of X G gcBAD_CALL⟩
  c_NOT_IN_FORM := ⟨_, PySem.W.mg_of X G gcNOT_IN_FORM⟩
  c_FAULTY := ⟨_, PySem.W.mg_of X G gcFAULTY⟩
  c_TEXT_TOO_LONG := ⟨_, PySem.W.mg_of X G gcTEXT_TOO_LONG⟩
  c_RUN_TOO_LONG := ⟨_, PySem.W.mg_of X G gcRUN_TOO_LONG⟩
  c_RUN_FAULT := ⟨_, PySem.W.mg_of X G gcRUN_FAULT⟩
  g_Fault := PySem.W.mg_of X G gFault
  ox_Fault := ⟨⟨_, _, _, _, _, _, _, _, _, _, _, _, _, _, _, xlFault, by decide +kernel⟩, saFault, ecFault, tcFault, kcFault⟩
  xc_Fault := ⟨gaFault, ggFault, ecFault, hdFault⟩
  na_Fault_rule := naFaultrule
  na_Fault_place := naFaultplace
  d_Fault___init__ := ⟨_, _, fun_mk (st := s_Fault___init__) lFault___init__ cFault___init__ kFault___init__, ⟨aFault___init__, tFault___init__⟩, ((fun_mk (st := s_Fault___init__) lFault___init__ cFault___init__ kFault___init__).binds fun _ _ _ _ _ _ us hl => match us, hl with | [_, _, _], _ => rfl)⟩
  g_RunFault := PySem.W.mg_of X G gRunFault
  ox_RunFault := ⟨⟨_, _, _, _, _, _, _, _, _, _, _, _, _, _, _, xlRunFault, by decide +kernel⟩, saRunFault, ecRunFault, tcRunFault, kcRunFault⟩
  xc_RunFault := ⟨gaRunFault, ggRunFault, ecRunFault, hdRunFault⟩
  na_RunFault_kind := naRunFaultkind
  d_RunFault___init__ := ⟨_, _, fun_mk (st := s_RunFault___init__) lRunFault___init__ cRunFault___init__ kRunFault___init__, ⟨aRunFault___init__, tRunFault___init__⟩, ((fun_mk (st := s_RunFault___init__) lRunFault___init__ cRunFault___init__ kRunFault___init__).binds fun _ _ _ _ _ _ us hl => match us, hl with | [_, _], _ => rfl)⟩
  g_TooLong := PySem.W.mg_of X G gTooLong
  x_TooLong := xcTooLong
  k_TooLong := kcTooLong
  b_TooLong := ecTooLong
  t_TooLong := tcTooLong
  g_BeadFrame := PySem.W.mg_of X G gBeadFrame
  cl_BeadFrame := ⟨pgBeadFrame, hdBeadFrame, poBeadFrame, saBeadFrame⟩
  na_BeadFrame_rods := naBeadFramerods
  na_BeadFrame_forms := naBeadFrameforms
  na_BeadFrame_places := naBeadFrameplaces
  na_BeadFrame_moving := naBeadFramemoving
  na_BeadFrame_strokes := naBeadFramestrokes
  na_BeadFrame_rules := naBeadFramerules
  na_BeadFrame_pushed := naBeadFramepushed
  na_BeadFrame_hand_at := naBeadFramehand_at
  na_BeadFrame_acts := naBeadFrameacts
  na_BeadFrame_cost := naBeadFramecost
  d_BeadFrame___init__ := ⟨_, _, fun_mk (st := s_BeadFrame___init__) lBeadFrame___init__ cBeadFrame___init__ kBeadFrame___init__, ⟨mkBeadFrame, aBeadFrame___init__, iBeadFrame___init__, kcBeadFrame⟩, ((fun_mk (st := s_BeadFrame___init__) lBeadFrame___init__ cBeadFrame___init__ kBeadFrame___init__).binds fun _ _ _ _ _ _ us hl => match us, hl with | [_, _, _, _, _, _, _], _ => rfl)⟩
  d_BeadFrame_shown := ⟨_, _, fun_mk (st := s_BeadFrame_shown) lBeadFrame_shown cBeadFrame_shown kBeadFrame_shown, ⟨aBeadFrame_shown, iBeadFrame_shown, kBeadFrame_shown⟩, ((fun_mk (st := s_BeadFrame_shown) lBeadFrame_shown cBeadFrame_shown kBeadFrame_shown).binds fun _ _ _ _ _ _ us hl => match us, hl with | [_, _], _ => rfl)⟩
  d_BeadFrame_want_rod := ⟨_, _, fun_mk (st := s_BeadFrame_want_rod) lBeadFrame_want_rod cBeadFrame_want_rod kBeadFrame_want_rod, ⟨aBeadFrame_want_rod, iBeadFrame_want_rod, kBeadFrame_want_rod⟩, ((fun_mk (st := s_BeadFrame_want_rod) lBeadFrame_want_rod cBeadFrame_want_rod kBeadFrame_want_rod).binds fun _ _ _ _ _ _ us hl => match us, hl with | [_, _], _ => rfl)⟩
  d_BeadFrame_digit := ⟨_, _, fun_mk (st := s_BeadFrame_digit) lBeadFrame_digit cBeadFrame_digit kBeadFrame_digit, ⟨aBeadFrame_digit, iBeadFrame_digit, kBeadFrame_digit⟩, ((fun_mk (st := s_BeadFrame_digit) lBeadFrame_digit cBeadFrame_digit kBeadFrame_digit).binds fun _ _ _ _ _ _ us hl => match us, hl with | [_, _], _ => rfl)⟩
  d_BeadFrame_change := ⟨_, _, fun_mk (st := s_BeadFrame_change) lBeadFrame_change cBeadFrame_change kBeadFrame_change, ⟨aBeadFrame_change, iBeadFrame_change, kBeadFrame_change⟩, ((fun_mk (st := s_BeadFrame_change) lBeadFrame_change cBeadFrame_change kBeadFrame_change).binds fun _ _ _ _ _ _ us hl => match us, hl with | [_, _, _, _], _ => rfl)⟩
  d_BeadFrame_sum_digit := ⟨_, _, fun_mk (st := s_BeadFrame_sum_digit) lBeadFrame_sum_digit cBeadFrame_sum_digit kBeadFrame_sum_digit, ⟨aBeadFrame_sum_digit, iBeadFrame_sum_digit, kBeadFrame_sum_digit⟩, ((fun_mk (st := s_BeadFrame_sum_digit) lBeadFrame_sum_digit cBeadFrame_sum_digit kBeadFrame_sum_digit).binds fun _ _ _ _ _ _ us hl => match us, hl with | [_, _, _, _, _], _ => rfl)⟩
  d_BeadFrame_carried := ⟨_, _, fun_mk (st := s_BeadFrame_carried) lBeadFrame_carried cBeadFrame_carried kBeadFrame_carried, ⟨aBeadFrame_carried, iBeadFrame_carried, kBeadFrame_carried⟩, ((fun_mk (st := s_BeadFrame_carried) lBeadFrame_carried cBeadFrame_carried kBeadFrame_carried).binds fun _ _ _ _ _ _ us hl => match us, hl with | [_, _, _], _ => rfl)⟩
  d_BeadFrame_told_rule := ⟨_, _, fun_mk (st := s_BeadFrame_told_rule) lBeadFrame_told_rule cBeadFrame_told_rule kBeadFrame_told_rule, ⟨aBeadFrame_told_rule, iBeadFrame_told_rule, kBeadFrame_told_rule⟩, ((fun_mk (st := s_BeadFrame_told_rule) lBeadFrame_told_rule cBeadFrame_told_rule kBeadFrame_told_rule).binds fun _ _ _ _ _ _ us hl => match us, hl with | [_, _, _, _], _ => rfl)⟩
  d_BeadFrame_act := ⟨_, _, fun_mk (st := s_BeadFrame_act) lBeadFrame_act cBeadFrame_act kBeadFrame_act, ⟨aBeadFrame_act, iBeadFrame_act, kBeadFrame_act⟩, ((fun_mk (st := s_BeadFrame_act) lBeadFrame_act cBeadFrame_act kBeadFrame_act).binds fun _ _ _ _ _ _ us hl => match us, hl with | [_, _, _], _ => rfl)⟩
  d_BeadFrame_push := ⟨_, _, fun_mk (st := s_BeadFrame_push) lBeadFrame_push cBeadFrame_push kBeadFrame_push, ⟨aBeadFrame_push, iBeadFrame_push, kBeadFrame_push⟩, ((fun_mk (st := s_BeadFrame_push) lBeadFrame_push cBeadFrame_push kBeadFrame_push).binds fun _ _ _ _ _ _ us hl => match us, hl with | [_, _, _, _], _ => rfl)⟩
  g_Reader := PySem.W.mg_of X G gReader
  cl_Reader := ⟨pgReader, hdReader, poReader, saReader⟩
  na_Reader_text := naReadertext
  na_Reader_at := naReaderat
  d_Reader___init__ := ⟨_, _, fun_mk (st := s_Reader___init__) lReader___init__ cReader___init__ kReader___init__, ⟨mkReader, aReader___init__, iReader___init__, kcReader⟩, ((fun_mk (st := s_Reader___init__) lReader___init__ cReader___init__ kReader___init__).binds fun _ _ _ _ _ _ us hl => match us, hl with | [_, _], _ => rfl)⟩
  d_Reader_sees := ⟨_, _, fun_mk (st := s_Reader_sees) lReader_sees cReader_sees kReader_sees, ⟨aReader_sees, iReader_sees, kReader_sees⟩, ((fun_mk (st := s_Reader_sees) lReader_sees cReader_sees kReader_sees).binds fun _ _ _ _ _ _ us hl => match us, hl with | [_, _], _ => rfl)⟩
  d_Reader_next_of := ⟨_, _, fun_mk (st := s_Reader_next_of) lReader_next_of cReader_next_of kReader_next_of, ⟨aReader_next_of, iReader_next_of, kReader_next_of⟩, ((fun_mk (st := s_Reader_next_of) lReader_next_of cReader_next_of kReader_next_of).binds fun _ _ _ _ _ _ us hl => match us, hl with | [_, _], _ => rfl)⟩
  d_Reader_word := ⟨_, _, fun_mk (st := s_Reader_word) lReader_word cReader_word kReader_word, ⟨aReader_word, iReader_word, kReader_word⟩, ((fun_mk (st := s_Reader_word) lReader_word cReader_word kReader_word).binds fun _ _ _ _ _ _ us hl => match us, hl with | [_, _], _ => rfl)⟩
  g_Lines := PySem.W.mg_of X G gLines
  cl_Lines := ⟨pgLines, hdLines, poLines, saLines⟩
  na_Lines_words := naLineswords
  na_Lines_parts := naLinesparts
  na_Lines_goals := naLinesgoals
  na_Lines_open_ones := naLinesopen_ones
  d_Lines___init__ := ⟨_, _, fun_mk (st := s_Lines___init__) lLines___init__ cLines___init__ kLines___init__, ⟨mkLines, aLines___init__, iLines___init__, kcLines⟩, ((fun_mk (st := s_Lines___init__) lLines___init__ cLines___init__ kLines___init__).binds fun _ _ _ _ _ _ us hl => match us, hl with | [_], _ => rfl)⟩
  d_Lines_put := ⟨_, _, fun_mk (st := s_Lines_put) lLines_put cLines_put kLines_put, ⟨aLines_put, iLines_put, kLines_put⟩, ((fun_mk (st := s_Lines_put) lLines_put cLines_put kLines_put).binds fun _ _ _ _ _ _ us hl => match us, hl with | [_, _, _], _ => rfl)⟩
  d_Lines_may_have_else := ⟨_, _, fun_mk (st := s_Lines_may_have_else) lLines_may_have_else cLines_may_have_else kLines_may_have_else, ⟨aLines_may_have_else, iLines_may_have_else, kLines_may_have_else⟩, ((fun_mk (st := s_Lines_may_have_else) lLines_may_have_else cLines_may_have_else kLines_may_have_else).binds fun _ _ _ _ _ _ us hl => match us, hl with | [_], _ => rfl)⟩
  d_Lines_opened := ⟨_, _, fun_mk (st := s_Lines_opened) lLines_opened cLines_opened kLines_opened, ⟨aLines_opened, iLines_opened, kLines_opened⟩, ((fun_mk (st := s_Lines_opened) lLines_opened cLines_opened kLines_opened).binds fun _ _ _ _ _ _ us hl => match us, hl with | [_, _, _], _ => rfl)⟩
  d_Lines_put_else := ⟨_, _, fun_mk (st := s_Lines_put_else) lLines_put_else cLines_put_else kLines_put_else, ⟨aLines_put_else, iLines_put_else, kLines_put_else⟩, ((fun_mk (st := s_Lines_put_else) lLines_put_else cLines_put_else kLines_put_else).binds fun _ _ _ _ _ _ us hl => match us, hl with | [_], _ => rfl)⟩
  d_Lines_put_end := ⟨_, _, fun_mk (st := s_Lines_put_end) lLines_put_end cLines_put_end kLines_put_end, ⟨aLines_put_end, iLines_put_end, kLines_put_end⟩, ((fun_mk (st := s_Lines_put_end) lLines_put_end cLines_put_end kLines_put_end).binds fun _ _ _ _ _ _ us hl => match us, hl with | [_], _ => rfl)⟩
  g_Run := PySem.W.mg_of X G gRun
  cl_Run := ⟨pgRun, hdRun, poRun, saRun⟩
  na_Run_frame := naRunframe
  na_Run_lines := naRunlines
  na_Run_marks := naRunmarks
  na_Run_heads := naRunheads
  na_Run_at := naRunat
  na_Run_steps := naRunsteps
  d_Run___init__ := ⟨_, _, fun_mk (st := s_Run___init__) lRun___init__ cRun___init__ kRun___init__, ⟨mkRun, aRun___init__, iRun___init__, kcRun⟩, ((fun_mk (st := s_Run___init__) lRun___init__ cRun___init__ kRun___init__).binds fun _ _ _ _ _ _ us hl => match us, hl with | [_, _, _, _], _ => rfl)⟩
  d_Run_worked_out := ⟨_, _, fun_mk (st := s_Run_worked_out) lRun_worked_out cRun_worked_out kRun_worked_out, ⟨aRun_worked_out, iRun_worked_out, kRun_worked_out⟩, ((fun_mk (st := s_Run_worked_out) lRun_worked_out cRun_worked_out kRun_worked_out).binds fun _ _ _ _ _ _ us hl => match us, hl with | [_, _], _ => rfl)⟩
  d_Run_is_so := ⟨_, _, fun_mk (st := s_Run_is_so) lRun_is_so cRun_is_so kRun_is_so, ⟨aRun_is_so, iRun_is_so, kRun_is_so⟩, ((fun_mk (st := s_Run_is_so) lRun_is_so cRun_is_so kRun_is_so).binds fun _ _ _ _ _ _ us hl => match us, hl with | [_, _], _ => rfl)⟩
  d_Run_change := ⟨_, _, fun_mk (st := s_Run_change) lRun_change cRun_change kRun_change, ⟨aRun_change, iRun_change, kRun_change⟩, ((fun_mk (st := s_Run_change) lRun_change cRun_change kRun_change).binds fun _ _ _ _ _ _ us hl => match us, hl with | [_, _, _], _ => rfl)⟩
  d_Run_set_head := ⟨_, _, fun_mk (st := s_Run_set_head) lRun_set_head cRun_set_head kRun_set_head, ⟨aRun_set_head, iRun_set_head, kRun_set_head⟩, ((fun_mk (st := s_Run_set_head) lRun_set_head cRun_set_head kRun_set_head).binds fun _ _ _ _ _ _ us hl => match us, hl with | [_, _], _ => rfl)⟩
  d_Run_next_line := ⟨_, _, fun_mk (st := s_Run_next_line) lRun_next_line cRun_next_line kRun_next_line, ⟨aRun_next_line, iRun_next_line, kRun_next_line⟩, ((fun_mk (st := s_Run_next_line) lRun_next_line cRun_next_line kRun_next_line).binds fun _ _ _ _ _ _ us hl => match us, hl with | [_], _ => rfl)⟩
  d_Run_run := ⟨_, _, fun_mk (st := s_Run_run) lRun_run cRun_run kRun_run, ⟨aRun_run, iRun_run, kRun_run⟩, ((fun_mk (st := s_Run_run) lRun_run cRun_run kRun_run).binds fun _ _ _ _ _ _ us hl => match us, hl with | [_, _], _ => rfl)⟩
  d_rods_of := ⟨_, _, fun_mk (st := s_rods_of) lrods_of crods_of krods_of, PySem.W.mg_of X G arods_of, ((fun_mk (st := s_rods_of) lrods_of crods_of krods_of).binds fun _ _ _ _ _ _ us hl => match us, hl with | [_], _ => rfl)⟩
  d_are_decks := ⟨_, _, fun_mk (st := s_are_decks) lare_decks care_decks kare_decks, PySem.W.mg_of X G aare_decks, ((fun_mk (st := s_are_decks) lare_decks care_decks kare_decks).binds fun _ _ _ _ _ _ us hl => match us, hl with | [_], _ => rfl)⟩
  d_worth_of := ⟨_, _, fun_mk (st := s_worth_of) lworth_of cworth_of kworth_of, PySem.W.mg_of X G aworth_of, ((fun_mk (st := s_worth_of) lworth_of cworth_of kworth_of).binds fun _ _ _ _ _ _ us hl => match us, hl with | [_, _], _ => rfl)⟩
  d_rank_of := ⟨_, _, fun_mk (st := s_rank_of) lrank_of crank_of krank_of, PySem.W.mg_of X G arank_of, ((fun_mk (st := s_rank_of) lrank_of crank_of krank_of).binds fun _ _ _ _ _ _ us hl => match us, hl with | [_], _ => rfl)⟩
  d_ways_of := ⟨_, _, fun_mk (st := s_ways_of) lways_of cways_of kways_of, PySem.W.mg_of X G aways_of, ((fun_mk (st := s_ways_of) lways_of cways_of kways_of).binds fun _ _ _ _ _ _ us hl => match us, hl with | [_], _ => rfl)⟩
  d_forms_of := ⟨_, _, fun_mk (st := s_forms_of) lforms_of cforms_of kforms_of, PySem.W.mg_of X G aforms_of, ((fun_mk (st := s_forms_of) lforms_of cforms_of kforms_of).binds fun _ _ _ _ _ _ us hl => match us, hl with | [_], _ => rfl)⟩
  d_rod_rule := ⟨_, _, fun_mk (st := s_rod_rule) lrod_rule crod_rule krod_rule, PySem.W.mg_of X G arod_rule, ((fun_mk (st := s_rod_rule) lrod_rule crod_rule krod_rule).binds fun _ _ _ _ _ _ us hl => match us, hl with | [_], _ => rfl)⟩
  d_want_make := ⟨_, _, fun_mk (st := s_want_make) lwant_make cwant_make kwant_make, PySem.W.mg_of X G awant_make, ((fun_mk (st := s_want_make) lwant_make cwant_make kwant_make).binds fun _ _ _ _ _ _ us hl => match us, hl with | [_], _ => rfl)⟩
  d_want_standing := ⟨_, _, fun_mk (st := s_want_standing) lwant_standing cwant_standing kwant_standing, PySem.W.mg_of X G awant_standing, ((fun_mk (st := s_want_standing) lwant_standing cwant_standing kwant_standing).binds fun _ _ _ _ _ _ us hl => match us, hl with | [_, _], _ => rfl)⟩
  d_places_of := ⟨_, _, fun_mk (st := s_places_of) lplaces_of cplaces_of kplaces_of, PySem.W.mg_of X G aplaces_of, ((fun_mk (st := s_places_of) lplaces_of cplaces_of kplaces_of).binds fun _ _ _ _ _ _ us hl => match us, hl with | [_], _ => rfl)⟩
  d_pushed_on := ⟨_, _, fun_mk (st := s_pushed_on) lpushed_on cpushed_on kpushed_on, PySem.W.mg_of X G apushed_on, ((fun_mk (st := s_pushed_on) lpushed_on cpushed_on kpushed_on).binds fun _ _ _ _ _ _ us hl => match us, hl with | [_, _], _ => rfl)⟩
  d_digit_shown := ⟨_, _, fun_mk (st := s_digit_shown) ldigit_shown cdigit_shown kdigit_shown, PySem.W.mg_of X G adigit_shown, ((fun_mk (st := s_digit_shown) ldigit_shown cdigit_shown kdigit_shown).binds fun _ _ _ _ _ _ us hl => match us, hl with | [_, _, _, _], _ => rfl)⟩
  d_is_in_form := ⟨_, _, fun_mk (st := s_is_in_form) lis_in_form cis_in_form kis_in_form, PySem.W.mg_of X G ais_in_form, ((fun_mk (st := s_is_in_form) lis_in_form cis_in_form kis_in_form).binds fun _ _ _ _ _ _ us hl => match us, hl with | [_, _, _], _ => rfl)⟩
  d_strokes_of := ⟨_, _, fun_mk (st := s_strokes_of) lstrokes_of cstrokes_of kstrokes_of, PySem.W.mg_of X G astrokes_of, ((fun_mk (st := s_strokes_of) lstrokes_of cstrokes_of kstrokes_of).binds fun _ _ _ _ _ _ us hl => match us, hl with | [_], _ => rfl)⟩
  d_is_deck := ⟨_, _, fun_mk (st := s_is_deck) lis_deck cis_deck kis_deck, PySem.W.mg_of X G ais_deck, ((fun_mk (st := s_is_deck) lis_deck cis_deck kis_deck).binds fun _ _ _ _ _ _ us hl => match us, hl with | [_, _, _], _ => rfl)⟩
  d_has_second := ⟨_, _, fun_mk (st := s_has_second) lhas_second chas_second khas_second, PySem.W.mg_of X G ahas_second, ((fun_mk (st := s_has_second) lhas_second chas_second khas_second).binds fun _ _ _ _ _ _ us hl => match us, hl with | [_], _ => rfl)⟩
  d_is_stroke := ⟨_, _, fun_mk (st := s_is_stroke) lis_stroke cis_stroke kis_stroke, PySem.W.mg_of X G ais_stroke, ((fun_mk (st := s_is_stroke) lis_stroke cis_stroke kis_stroke).binds fun _ _ _ _ _ _ us hl => match us, hl with | [_], _ => rfl)⟩
  d_want_hand := ⟨_, _, fun_mk (st := s_want_hand) lwant_hand cwant_hand kwant_hand, PySem.W.mg_of X G awant_hand, ((fun_mk (st := s_want_hand) lwant_hand cwant_hand kwant_hand).binds fun _ _ _ _ _ _ us hl => match us, hl with | [_], _ => rfl)⟩
  d_steps_of := ⟨_, _, fun_mk (st := s_steps_of) lsteps_of csteps_of ksteps_of, PySem.W.mg_of X G asteps_of, ((fun_mk (st := s_steps_of) lsteps_of csteps_of ksteps_of).binds fun _ _ _ _ _ _ us hl => match us, hl with | [_], _ => rfl)⟩
  d_is_step := ⟨_, _, fun_mk (st := s_is_step) lis_step cis_step kis_step, PySem.W.mg_of X G ais_step, ((fun_mk (st := s_is_step) lis_step cis_step kis_step).binds fun _ _ _ _ _ _ us hl => match us, hl with | [_], _ => rfl)⟩
  d_is_rule := ⟨_, _, fun_mk (st := s_is_rule) lis_rule cis_rule kis_rule, PySem.W.mg_of X G ais_rule, ((fun_mk (st := s_is_rule) lis_rule cis_rule kis_rule).binds fun _ _ _ _ _ _ us hl => match us, hl with | [_], _ => rfl)⟩
  d_rules_of := ⟨_, _, fun_mk (st := s_rules_of) lrules_of crules_of krules_of, PySem.W.mg_of X G arules_of, ((fun_mk (st := s_rules_of) lrules_of crules_of krules_of).binds fun _ _ _ _ _ _ us hl => match us, hl with | [_], _ => rfl)⟩
  d_bytes_of := ⟨_, _, fun_mk (st := s_bytes_of) lbytes_of cbytes_of kbytes_of, PySem.W.mg_of X G abytes_of, ((fun_mk (st := s_bytes_of) lbytes_of cbytes_of kbytes_of).binds fun _ _ _ _ _ _ us hl => match us, hl with | [_], _ => rfl)⟩
  d_number_from := ⟨_, _, fun_mk (st := s_number_from) lnumber_from cnumber_from knumber_from, PySem.W.mg_of X G anumber_from, ((fun_mk (st := s_number_from) lnumber_from cnumber_from knumber_from).binds fun _ _ _ _ _ _ us hl => match us, hl with | [_, _], _ => rfl)⟩
  d_operand := ⟨_, _, fun_mk (st := s_operand) loperand coperand koperand, PySem.W.mg_of X G aoperand, ((fun_mk (st := s_operand) loperand coperand koperand).binds fun _ _ _ _ _ _ us hl => match us, hl with | [_, _], _ => rfl)⟩
  d_open_brackets := ⟨_, _, fun_mk (st := s_open_brackets) lopen_brackets copen_brackets kopen_brackets, PySem.W.mg_of X G aopen_brackets, ((fun_mk (st := s_open_brackets) lopen_brackets copen_brackets kopen_brackets).binds fun _ _ _ _ _ _ us hl => match us, hl with | [_], _ => rfl)⟩
  d_read_operand := ⟨_, _, fun_mk (st := s_read_operand) lread_operand cread_operand kread_operand, PySem.W.mg_of X G aread_operand, ((fun_mk (st := s_read_operand) lread_operand cread_operand kread_operand).binds fun _ _ _ _ _ _ us hl => match us, hl with | [_, _, _], _ => rfl)⟩
  d_close := ⟨_, _, fun_mk (st := s_close) lclose cclose kclose, PySem.W.mg_of X G aclose, ((fun_mk (st := s_close) lclose cclose kclose).binds fun _ _ _ _ _ _ us hl => match us, hl with | [_, _], _ => rfl)⟩
  d_binds := ⟨_, _, fun_mk (st := s_binds) lbinds cbinds kbinds, PySem.W.mg_of X G abinds, ((fun_mk (st := s_binds) lbinds cbinds kbinds).binds fun _ _ _ _ _ _ us hl => match us, hl with | [_], _ => rfl)⟩
  d_read_operator := ⟨_, _, fun_mk (st := s_read_operator) lread_operator cread_operator kread_operator, PySem.W.mg_of X G aread_operator, ((fun_mk (st := s_read_operator) lread_operator cread_operator kread_operator).binds fun _ _ _ _ _ _ us hl => match us, hl with | [_, _, _], _ => rfl)⟩
  d_read_closers := ⟨_, _, fun_mk (st := s_read_closers) lread_closers cread_closers kread_closers, PySem.W.mg_of X G aread_closers, ((fun_mk (st := s_read_closers) lread_closers cread_closers kread_closers).binds fun _ _ _ _ _ _ us hl => match us, hl with | [_, _, _], _ => rfl)⟩
  d_expression := ⟨_, _, fun_mk (st := s_expression) lexpression cexpression kexpression, PySem.W.mg_of X G aexpression, ((fun_mk (st := s_expression) lexpression cexpression kexpression).binds fun _ _ _ _ _ _ us hl => match us, hl with | [_, _], _ => rfl)⟩
  d_compared := ⟨_, _, fun_mk (st := s_compared) lcompared ccompared kcompared, PySem.W.mg_of X G acompared, ((fun_mk (st := s_compared) lcompared ccompared kcompared).binds fun _ _ _ _ _ _ us hl => match us, hl with | [_], _ => rfl)⟩
  d_condition := ⟨_, _, fun_mk (st := s_condition) lcondition ccondition kcondition, PySem.W.mg_of X G acondition, ((fun_mk (st := s_condition) lcondition ccondition kcondition).binds fun _ _ _ _ _ _ us hl => match us, hl with | [_], _ => rfl)⟩
  d_first_bytes := ⟨_, _, fun_mk (st := s_first_bytes) lfirst_bytes cfirst_bytes kfirst_bytes, PySem.W.mg_of X G afirst_bytes, ((fun_mk (st := s_first_bytes) lfirst_bytes cfirst_bytes kfirst_bytes).binds fun _ _ _ _ _ _ us hl => match us, hl with | [_], _ => rfl)⟩
  d_read_change := ⟨_, _, fun_mk (st := s_read_change) lread_change cread_change kread_change, PySem.W.mg_of X G aread_change, ((fun_mk (st := s_read_change) lread_change cread_change kread_change).binds fun _ _ _ _ _ _ us hl => match us, hl with | [_, _, _, _], _ => rfl)⟩
  d_read_set_or_stop := ⟨_, _, fun_mk (st := s_read_set_or_stop) lread_set_or_stop cread_set_or_stop kread_set_or_stop, PySem.W.mg_of X G aread_set_or_stop, ((fun_mk (st := s_read_set_or_stop) lread_set_or_stop cread_set_or_stop kread_set_or_stop).binds fun _ _ _ _ _ _ us hl => match us, hl with | [_, _], _ => rfl)⟩
  d_read_else_or_end := ⟨_, _, fun_mk (st := s_read_else_or_end) lread_else_or_end cread_else_or_end kread_else_or_end, PySem.W.mg_of X G aread_else_or_end, ((fun_mk (st := s_read_else_or_end) lread_else_or_end cread_else_or_end kread_else_or_end).binds fun _ _ _ _ _ _ us hl => match us, hl with | [_, _], _ => rfl)⟩
  d_read_line := ⟨_, _, fun_mk (st := s_read_line) lread_line cread_line kread_line, PySem.W.mg_of X G aread_line, ((fun_mk (st := s_read_line) lread_line cread_line kread_line).binds fun _ _ _ _ _ _ us hl => match us, hl with | [_, _], _ => rfl)⟩
  d_lines_of := ⟨_, _, fun_mk (st := s_lines_of) llines_of clines_of klines_of, PySem.W.mg_of X G alines_of, ((fun_mk (st := s_lines_of) llines_of clines_of klines_of).binds fun _ _ _ _ _ _ us hl => match us, hl with | [_], _ => rfl)⟩
  d_in_range := ⟨_, _, fun_mk (st := s_in_range) lin_range cin_range kin_range, PySem.W.mg_of X G ain_range, ((fun_mk (st := s_in_range) lin_range cin_range kin_range).binds fun _ _ _ _ _ _ us hl => match us, hl with | [_], _ => rfl)⟩
  d_joined := ⟨_, _, fun_mk (st := s_joined) ljoined cjoined kjoined, PySem.W.mg_of X G ajoined, ((fun_mk (st := s_joined) ljoined cjoined kjoined).binds fun _ _ _ _ _ _ us hl => match us, hl with | [_, _, _], _ => rfl)⟩
  d_are_right := ⟨_, _, fun_mk (st := s_are_right) lare_right care_right kare_right, PySem.W.mg_of X G aare_right, ((fun_mk (st := s_are_right) lare_right care_right kare_right).binds fun _ _ _ _ _ _ us hl => match us, hl with | [_, _], _ => rfl)⟩
  d_fault_of := ⟨_, _, fun_mk (st := s_fault_of) lfault_of cfault_of kfault_of, PySem.W.mg_of X G afault_of, ((fun_mk (st := s_fault_of) lfault_of cfault_of kfault_of).binds fun _ _ _ _ _ _ us hl => match us, hl with | [_, _], _ => rfl)⟩
  d_work_of := ⟨_, _, fun_mk (st := s_work_of) lwork_of cwork_of kwork_of, PySem.W.mg_of X G awork_of, ((fun_mk (st := s_work_of) lwork_of cwork_of kwork_of).binds fun _ _ _ _ _ _ us hl => match us, hl with | [_, _, _, _, _, _, _, _], _ => rfl)⟩
  d_work := ⟨_, _, fun_mk (st := s_work) lwork cwork kwork, PySem.W.mg_of X G awork, ((fun_mk (st := s_work) lwork cwork kwork).binds fun _ _ _ _ _ _ us hl => match us, hl with | [_, _, _, _, _, _, _, _], _ => rfl)⟩
  veInit := zVI
  xm_Fault_Fault := exm_of2 ecFault icFault tcFault xmFaultFault
  xm_Fault_RunFault := exm_of2 ecRunFault icRunFault tcRunFault xmFaultRunFault
  xm_Fault_TooLong := exm_of2 ecTooLong icTooLong tcTooLong xmFaultTooLong
  xm_RunFault_Fault := exm_of2 ecFault icFault tcFault xmRunFaultFault
  xm_RunFault_RunFault := exm_of2 ecRunFault icRunFault tcRunFault xmRunFaultRunFault
  xm_RunFault_TooLong := exm_of2 ecTooLong icTooLong tcTooLong xmRunFaultTooLong
  xm_TooLong_Fault := exm_of2 ecFault icFault tcFault xmTooLongFault
  xm_TooLong_RunFault := exm_of2 ecRunFault icRunFault tcRunFault xmTooLongRunFault
  xm_TooLong_TooLong := exm_of2 ecTooLong icTooLong tcTooLong xmTooLongTooLong
theorem all_mk {P : Program} {w : World} {K : PySem.W.Frag} {mg : Str → Option Value} {fa : Addr} {cFault cRunFault cTooLong cBeadFrame cReader cLines cRun : Addr} (hfa : mg "work" = some (.ref fa)) (T : Txt K mg cFault cRunFault cTooLong cBeadFrame cReader cLines cRun) :
    ∃ fd : FuncData, (∀ (s : Shared) (us : List Value), us.length = (["h", "most", "make", "hand", "standing", "marks", "text", "book"] : List Str).length → BindsTo s fd ⟨us, []⟩ ((["h", "most", "make", "hand", "standing", "marks", "text", "book"] : List Str).zip us)) ∧ ∀ base : Heap, K.In base → base.Ns mainGlobals mg → FnOk P w K mg base CX0 13 fa fd ["h", "most", "make", "hand", "standing", "marks", "text", "book"] (spWorkC K) := by
  obtain ⟨f, fd, F, hm, hb⟩ := T.d_work
  have e := hfa.symm.trans hm
  cases e
  have F' := F
  obtain ⟨oc, od, kV, doc, pm, an, cdv, ct, osl, rfl, lk, hcd⟩ := F.ex
  exact ⟨_, fun s us hu => match us, hu with | [_, _, _, _, _, _, _, _], _ => .of_eq rfl, fun base _ _ => fn_work T (fun b p => cond_fuel b p) F'⟩
end Ab
open PySem PySem.W PyProof.Rows
set_option maxRecDepth 100000 in
set_option maxHeartbeats 16000000 in
theorem PySem.Challenge.cw_abacusways_s04_work_holds : PySem.Challenge.rw_abacusways_s04_work.Holds := by
  w_on; k_headS; (case hw => exact ⟨[.int 0, .int 0, .list [], .list [], .list [], .list [], .list [], .list []], by decide +kernel, by decide +kernel⟩)
  k_fillS
  refine L2.walk_specK (r := PySem.Challenge.rw_abacusways_s04_work) (k := 13) (CX := L2.CX0) (ps := ["h", "most", "make", "hand", "standing", "marks", "text", "book"]) (sp := Ab.spWorkC) (by decide +kernel) rfl rfl ⟨rfl, by decide, by decide⟩ (fun w h Y => PySem.W.kIn_of Y) ?F ?S (fun _ _ _ _ z => z)
  case F =>
    intro w mg fa h Y KX G hmg
    refine' Ab.all_mk hmg (Ab.txt_mk KX G ?zValueError ?zabs ?zall ?zenumerate ?zint ?zlen ?zlist ?zord ?zrange ?ztuple ?zzip ?gcNO_ROD ?gcNO_ROOM ?gcOUT_OF_RANGE ?gcFAILED ?gcWRONG ?gcNUMBERS_A_ROD ?gcDECKS ?gcMOST_RODS ?gcLEAST_RATIO ?gcMOST_RATIO ?gcMOST_BEADS ?gcMOST_WORTH ?gcMOST_OF_ROD ?gcNUMBERS_A_STROKE ?gcMOST_STROKES ?gcMOST_COST ?gcDIRECTIONS ?lcDIRECTIONS ?gcMOST_DIGIT ?gcMOST_STEPS_hands ?gcCARRY ?lcCARRY ?gcMOST_STEPS_beads ?gcTO_BEAM ?gcRULE ?gcMOST_BRACKETS ?gcLINE_FEED ?gcBLANK ?gcDIGITS ?lcDIGITS ?gcNOUGHT ?gcMOST_DIGITS ?gcHEADS ?lcHEADS ?gcMARKS ?lcMARKS ?gcROUND ?gcSQUARE ?gcOPENERS ?lcOPENERS ?gcCLOSERS ?lcCLOSERS ?gcTIMES ?gcPLUS ?gcMINUS ?gcOPERATORS ?lcOPERATORS ?gcLESS ?gcEQUAL ?gcGREATER ?gcNUMBER ?gcHEAD ?gcMARK ?gcDIGIT ?gcADD ?gcTAKE ?gcSET ?gcIF ?gcELSE ?gcEND ?gcWHILE ?gcSTOP ?gcFAIL ?gcMOST_OPEN ?gcFAR ?gcMOST_HEAD ?gcMANY_HEADS ?gcOPS ?lcOPS ?gcMOST_BYTES ?gcMANY_MARKS ?gcMOST_MARK ?gcMOST_STEPS_methods ?gcBAD_CALL ?gcNOT_IN_FORM ?gcFAULTY ?gcTEXT_TOO_LONG ?gcRUN_TOO_LONG ?gcRUN_FAULT ?gFault ?kcFault ?ecFault ?tcFault ?icFault ?xlFault ?saFault ?gaFault ?ggFault ?hdFault ?naFaultrule ?naFaultplace ?aFault___init__ ?tFault___init__ ?lFault___init__ ?cFault___init__ ?kFault___init__ ?gRunFault ?kcRunFault ?ecRunFault ?tcRunFault ?icRunFault ?xlRunFault ?saRunFault ?gaRunFault ?ggRunFault ?hdRunFault ?naRunFaultkind ?aRunFault___init__ ?tRunFault___init__ ?lRunFault___init__ ?cRunFault___init__ ?kRunFault___init__ ?gTooLong ?kcTooLong ?ecTooLong ?tcTooLong ?icTooLong ?xcTooLong ?gBeadFrame ?pgBeadFrame ?hdBeadFrame ?poBeadFrame ?saBeadFrame ?mkBeadFrame ?kcBeadFrame ?naBeadFramerods ?naBeadFrameforms ?naBeadFrameplaces ?naBeadFramemoving ?naBeadFramestrokes ?naBeadFramerules ?naBeadFramepushed ?naBeadFramehand_at ?naBeadFrameacts ?naBeadFramecost ?aBeadFrame___init__ ?iBeadFrame___init__ ?lBeadFrame___init__ ?cBeadFrame___init__ ?kBeadFrame___init__ ?aBeadFrame_shown ?iBeadFrame_shown ?lBeadFrame_shown ?cBeadFrame_shown ?kBeadFrame_shown ?aBeadFrame_want_rod ?iBeadFrame_want_rod ?lBeadFrame_want_rod ?cBeadFrame_want_rod ?kBeadFrame_want_rod ?aBeadFrame_digit ?iBeadFrame_digit ?lBeadFrame_digit ?cBeadFrame_digit ?kBeadFrame_digit ?aBeadFrame_change ?iBeadFrame_change ?lBeadFrame_change ?cBeadFrame_change ?kBeadFrame_change ?aBeadFrame_sum_digit ?iBeadFrame_sum_digit ?lBeadFrame_sum_digit ?cBeadFrame_sum_digit ?kBeadFrame_sum_digit ?aBeadFrame_carried ?iBeadFrame_carried ?lBeadFrame_carried ?cBeadFrame_carried ?kBeadFrame_carried ?aBeadFrame_told_rule ?iBeadFrame_told_rule ?lBeadFrame_told_rule ?cBeadFrame_told_rule ?kBeadFrame_told_rule ?aBeadFrame_act ?iBeadFrame_act ?lBeadFrame_act ?cBeadFrame_act ?kBeadFrame_act ?aBeadFrame_push ?iBeadFrame_push ?lBeadFrame_push ?cBeadFrame_push ?kBeadFrame_push ?gReader ?pgReader ?hdReader ?poReader ?saReader ?mkReader ?kcReader ?naReadertext ?naReaderat ?aReader___init__ ?iReader___init__ ?lReader___init__ ?cReader___init__ ?kReader___init__ ?aReader_sees ?iReader_sees ?lReader_sees ?cReader_sees ?kReader_sees ?aReader_next_of ?iReader_next_of ?lReader_next_of ?cReader_next_of ?kReader_next_of ?aReader_word ?iReader_word ?lReader_word ?cReader_word ?kReader_word ?gLines ?pgLines ?hdLines ?poLines ?saLines ?mkLines ?kcLines ?naLineswords ?naLinesparts ?naLinesgoals ?naLinesopen_ones ?aLines___init__ ?iLines___init__ ?lLines___init__ ?cLines___init__ ?kLines___init__ ?aLines_put ?iLines_put ?lLines_put ?cLines_put ?kLines_put ?aLines_may_have_else ?iLines_may_have_else ?lLines_may_have_else ?cLines_may_have_else ?kLines_may_have_else ?aLines_opened ?iLines_opened ?lLines_opened ?cLines_opened ?kLines_opened ?aLines_put_else ?iLines_put_else ?lLines_put_else ?cLines_put_else ?kLines_put_else ?aLines_put_end ?iLines_put_end ?lLines_put_end ?cLines_put_end ?kLines_put_end ?gRun ?pgRun ?hdRun ?poRun ?saRun ?mkRun ?kcRun ?naRunframe ?naRunlines ?naRunmarks ?naRunheads ?naRunat ?naRunsteps ?aRun___init__ ?iRun___init__ ?lRun___init__ ?cRun___init__ ?kRun___init__ ?aRun_worked_out ?iRun_worked_out ?lRun_worked_out ?cRun_worked_out ?kRun_worked_out ?aRun_is_so ?iRun_is_so ?lRun_is_so ?cRun_is_so ?kRun_is_so ?aRun_change ?iRun_change ?lRun_change ?cRun_change ?kRun_change ?aRun_set_head ?iRun_set_head ?lRun_set_head ?cRun_set_head ?kRun_set_head ?aRun_next_line ?iRun_next_line ?lRun_next_line ?cRun_next_line ?kRun_next_line ?aRun_run ?iRun_run ?lRun_run ?cRun_run ?kRun_run ?arods_of ?lrods_of ?crods_of ?krods_of ?aare_decks ?lare_decks ?care_decks ?kare_decks ?aworth_of ?lworth_of ?cworth_of ?kworth_of ?arank_of ?lrank_of ?crank_of ?krank_of ?aways_of ?lways_of ?cways_of ?kways_of ?aforms_of ?lforms_of ?cforms_of ?kforms_of ?arod_rule ?lrod_rule ?crod_rule ?krod_rule ?awant_make ?lwant_make ?cwant_make ?kwant_make ?awant_standing ?lwant_standing ?cwant_standing ?kwant_standing ?aplaces_of ?lplaces_of ?cplaces_of ?kplaces_of ?apushed_on ?lpushed_on ?cpushed_on ?kpushed_on ?adigit_shown ?ldigit_shown ?cdigit_shown ?kdigit_shown ?ais_in_form ?lis_in_form ?cis_in_form ?kis_in_form ?astrokes_of ?lstrokes_of ?cstrokes_of ?kstrokes_of ?ais_deck ?lis_deck ?cis_deck ?kis_deck ?ahas_second ?lhas_second ?chas_second ?khas_second ?ais_stroke ?lis_stroke ?cis_stroke ?kis_stroke ?awant_hand ?lwant_hand ?cwant_hand ?kwant_hand ?asteps_of ?lsteps_of ?csteps_of ?ksteps_of ?ais_step ?lis_step ?cis_step ?kis_step ?ais_rule ?lis_rule ?cis_rule ?kis_rule ?arules_of ?lrules_of ?crules_of ?krules_of ?abytes_of ?lbytes_of ?cbytes_of ?kbytes_of ?anumber_from ?lnumber_from ?cnumber_from ?knumber_from ?aoperand ?loperand ?coperand ?koperand ?aopen_brackets ?lopen_brackets ?copen_brackets ?kopen_brackets ?aread_operand ?lread_operand ?cread_operand ?kread_operand ?aclose ?lclose ?cclose ?kclose ?abinds ?lbinds ?cbinds ?kbinds ?aread_operator ?lread_operator ?cread_operator ?kread_operator ?aread_closers ?lread_closers ?cread_closers ?kread_closers ?aexpression ?lexpression ?cexpression ?kexpression ?acompared ?lcompared ?ccompared ?kcompared ?acondition ?lcondition ?ccondition ?kcondition ?afirst_bytes ?lfirst_bytes ?cfirst_bytes ?kfirst_bytes ?aread_change ?lread_change ?cread_change ?kread_change ?aread_set_or_stop ?lread_set_or_stop ?cread_set_or_stop ?kread_set_or_stop ?aread_else_or_end ?lread_else_or_end ?cread_else_or_end ?kread_else_or_end ?aread_line ?lread_line ?cread_line ?kread_line ?alines_of ?llines_of ?clines_of ?klines_of ?ain_range ?lin_range ?cin_range ?kin_range ?ajoined ?ljoined ?cjoined ?kjoined ?aare_right ?lare_right ?care_right ?kare_right ?afault_of ?lfault_of ?cfault_of ?kfault_of ?awork_of ?lwork_of ?cwork_of ?kwork_of ?awork ?lwork ?cwork ?kwork ?zVI ?xmFaultFault ?xmFaultRunFault ?xmFaultTooLong ?xmRunFaultFault ?xmRunFaultRunFault ?xmRunFaultTooLong ?xmTooLongFault ?xmTooLongRunFault ?xmTooLongTooLong)
    (case zValueError => k_is)
    (case zabs => k_is)
    (case zall => k_is)
    (case zenumerate => k_is)
    (case zint => k_is)
    (case zlen => k_is)
    (case zlist => k_is)
    (case zord => k_is)
    (case zrange => k_is)
    (case ztuple => k_is)
    (case zzip => k_is)
    (case gcNO_ROD => k_is)
    (case gcNO_ROOM => k_is)
    (case gcOUT_OF_RANGE => k_is)
    (case gcFAILED => k_is)
    (case gcWRONG => k_is)
    (case gcNUMBERS_A_ROD => k_is)
    (case gcDECKS => k_is)
    (case gcMOST_RODS => k_is)
    (case gcLEAST_RATIO => k_is)
    (case gcMOST_RATIO => k_is)
    (case gcMOST_BEADS => k_is)
    (case gcMOST_WORTH => k_is)
    (case gcMOST_OF_ROD => k_is)
    (case gcNUMBERS_A_STROKE => k_is)
    (case gcMOST_STROKES => k_is)
    (case gcMOST_COST => k_is)
    (case gcDIRECTIONS => k_is)
    (case lcDIRECTIONS => k_is)
    (case gcMOST_DIGIT => k_is)
    (case gcMOST_STEPS_hands => k_is)
    (case gcCARRY => k_is)
    (case lcCARRY => k_is)
    (case gcMOST_STEPS_beads => k_is)
    (case gcTO_BEAM => k_is)
    (case gcRULE => k_is)
    (case gcMOST_BRACKETS => k_is)
    (case gcLINE_FEED => k_is)
    (case gcBLANK => k_is)
    (case gcDIGITS => k_is)
    (case lcDIGITS => k_is)
    (case gcNOUGHT => k_is)
    (case gcMOST_DIGITS => k_is)
    (case gcHEADS => k_is)
    (case lcHEADS => k_is)
    (case gcMARKS => k_is)
    (case lcMARKS => k_is)
    (case gcROUND => k_is)
    (case gcSQUARE => k_is)
    (case gcOPENERS => k_is)
    (case lcOPENERS => k_is)
    (case gcCLOSERS => k_is)
    (case lcCLOSERS => k_is)
    (case gcTIMES => k_is)
    (case gcPLUS => k_is)
    (case gcMINUS => k_is)
    (case gcOPERATORS => k_is)
    (case lcOPERATORS => k_is)
    (case gcLESS => k_is)
    (case gcEQUAL => k_is)
    (case gcGREATER => k_is)
    (case gcNUMBER => k_is)
    (case gcHEAD => k_is)
    (case gcMARK => k_is)
    (case gcDIGIT => k_is)
    (case gcADD => k_is)
    (case gcTAKE => k_is)
    (case gcSET => k_is)
    (case gcIF => k_is)
    (case gcELSE => k_is)
    (case gcEND => k_is)
    (case gcWHILE => k_is)
    (case gcSTOP => k_is)
    (case gcFAIL => k_is)
    (case gcMOST_OPEN => k_is)
    (case gcFAR => k_is)
    (case gcMOST_HEAD => k_is)
    (case gcMANY_HEADS => k_is)
    (case gcOPS => k_is)
    (case lcOPS => k_is)
    (case gcMOST_BYTES => k_is)
    (case gcMANY_MARKS => k_is)
    (case gcMOST_MARK => k_is)
    (case gcMOST_STEPS_methods => k_is)
    (case gcBAD_CALL => k_is)
    (case gcNOT_IN_FORM => k_is)
    (case gcFAULTY => k_is)
    (case gcTEXT_TOO_LONG => k_is)
    (case gcRUN_TOO_LONG => k_is)
    (case gcRUN_FAULT => k_is)
    (case gFault => k_is)
    (case kcFault => k_is)
    (case ecFault => k_is)
    (case tcFault => k_is)
    (case icFault => k_is)
    (case xlFault => k_is)
    (case saFault => k_is)
    (case gaFault => k_is)
    (case ggFault => k_is)
    (case hdFault => k_is)
    (case naFaultrule => k_is)
    (case naFaultplace => k_is)
    (case aFault___init__ => k_is)
    (case tFault___init__ => k_is)
    (case lFault___init__ => k_is)
    (case cFault___init__ => k_is)
    (case kFault___init__ => k_is)
    (case gRunFault => k_is)
    (case kcRunFault => k_is)
    (case ecRunFault => k_is)
    (case tcRunFault => k_is)
    (case icRunFault => k_is)
    (case xlRunFault => k_is)
    (case saRunFault => k_is)
    (case gaRunFault => k_is)
    (case ggRunFault => k_is)
    (case hdRunFault => k_is)
    (case naRunFaultkind => k_is)
    (case aRunFault___init__ => k_is)
    (case tRunFault___init__ => k_is)
    (case lRunFault___init__ => k_is)
    (case cRunFault___init__ => k_is)
    (case kRunFault___init__ => k_is)
    (case gTooLong => k_is)
    (case kcTooLong => k_is)
    (case ecTooLong => k_is)
    (case tcTooLong => k_is)
    (case icTooLong => k_is)
    (case xcTooLong => k_exc)
    (case gBeadFrame => k_is)
    (case pgBeadFrame => k_is)
    (case hdBeadFrame => k_is)
    (case poBeadFrame => k_is)
    (case saBeadFrame => k_is)
    (case mkBeadFrame => k_is)
    (case kcBeadFrame => k_is)
    (case naBeadFramerods => k_is)
    (case naBeadFrameforms => k_is)
    (case naBeadFrameplaces => k_is)
    (case naBeadFramemoving => k_is)
    (case naBeadFramestrokes => k_is)
    (case naBeadFramerules => k_is)
    (case naBeadFramepushed => k_is)
    (case naBeadFramehand_at => k_is)
    (case naBeadFrameacts => k_is)
    (case naBeadFramecost => k_is)
    (case aBeadFrame___init__ => k_is)
    (case iBeadFrame___init__ => k_is)
    (case lBeadFrame___init__ => k_is)
    (case cBeadFrame___init__ => k_is)
    (case kBeadFrame___init__ => k_is)
    (case aBeadFrame_shown => k_is)
    (case iBeadFrame_shown => k_is)
    (case lBeadFrame_shown => k_is)
    (case cBeadFrame_shown => k_is)
    (case kBeadFrame_shown => k_is)
    (case aBeadFrame_want_rod => k_is)
    (case iBeadFrame_want_rod => k_is)
    (case lBeadFrame_want_rod => k_is)
    (case cBeadFrame_want_rod => k_is)
    (case kBeadFrame_want_rod => k_is)
    (case aBeadFrame_digit => k_is)
    (case iBeadFrame_digit => k_is)
    (case lBeadFrame_digit => k_is)
    (case cBeadFrame_digit => k_is)
    (case kBeadFrame_digit => k_is)
    (case aBeadFrame_change => k_is)
    (case iBeadFrame_change => k_is)
    (case lBeadFrame_change => k_is)
    (case cBeadFrame_change => k_is)
    (case kBeadFrame_change => k_is)
    (case aBeadFrame_sum_digit => k_is)
    (case iBeadFrame_sum_digit => k_is)
    (case lBeadFrame_sum_digit => k_is)
    (case cBeadFrame_sum_digit => k_is)
    (case kBeadFrame_sum_digit => k_is)
    (case aBeadFrame_carried => k_is)
    (case iBeadFrame_carried => k_is)
    (case lBeadFrame_carried => k_is)
    (case cBeadFrame_carried => k_is)
    (case kBeadFrame_carried => k_is)
    (case aBeadFrame_told_rule => k_is)
    (case iBeadFrame_told_rule => k_is)
    (case lBeadFrame_told_rule => k_is)
    (case cBeadFrame_told_rule => k_is)
    (case kBeadFrame_told_rule => k_is)
    (case aBeadFrame_act => k_is)
    (case iBeadFrame_act => k_is)
    (case lBeadFrame_act => k_is)
    (case cBeadFrame_act => k_is)
    (case kBeadFrame_act => k_is)
    (case aBeadFrame_push => k_is)
    (case iBeadFrame_push => k_is)
    (case lBeadFrame_push => k_is)
    (case cBeadFrame_push => k_is)
    (case kBeadFrame_push => k_is)
    (case gReader => k_is)
    (case pgReader => k_is)
    (case hdReader => k_is)
    (case poReader => k_is)
    (case saReader => k_is)
    (case mkReader => k_is)
    (case kcReader => k_is)
    (case naReadertext => k_is)
    (case naReaderat => k_is)
    (case aReader___init__ => k_is)
    (case iReader___init__ => k_is)
    (case lReader___init__ => k_is)
    (case cReader___init__ => k_is)
    (case kReader___init__ => k_is)
    (case aReader_sees => k_is)
    (case iReader_sees => k_is)
    (case lReader_sees => k_is)
    (case cReader_sees => k_is)
    (case kReader_sees => k_is)
    (case aReader_next_of => k_is)
    (case iReader_next_of => k_is)
    (case lReader_next_of => k_is)
    (case cReader_next_of => k_is)
    (case kReader_next_of => k_is)
    (case aReader_word => k_is)
    (case iReader_word => k_is)
    (case lReader_word => k_is)
    (case cReader_word => k_is)
    (case kReader_word => k_is)
    (case gLines => k_is)
    (case pgLines => k_is)
    (case hdLines => k_is)
    (case poLines => k_is)
    (case saLines => k_is)
    (case mkLines => k_is)
    (case kcLines => k_is)
    (case naLineswords => k_is)
    (case naLinesparts => k_is)
    (case naLinesgoals => k_is)
    (case naLinesopen_ones => k_is)
    (case aLines___init__ => k_is)
    (case iLines___init__ => k_is)
    (case lLines___init__ => k_is)
    (case cLines___init__ => k_is)
    (case kLines___init__ => k_is)
    (case aLines_put => k_is)
    (case iLines_put => k_is)
    (case lLines_put => k_is)
    (case cLines_put => k_is)
    (case kLines_put => k_is)
    (case aLines_may_have_else => k_is)
    (case iLines_may_have_else => k_is)
    (case lLines_may_have_else => k_is)
    (case cLines_may_have_else => k_is)
    (case kLines_may_have_else => k_is)
    (case aLines_opened => k_is)
    (case iLines_opened => k_is)
    (case lLines_opened => k_is)
    (case cLines_opened => k_is)
    (case kLines_opened => k_is)
    (case aLines_put_else => k_is)
    (case iLines_put_else => k_is)
    (case lLines_put_else => k_is)
    (case cLines_put_else => k_is)
    (case kLines_put_else => k_is)
    (case aLines_put_end => k_is)
    (case iLines_put_end => k_is)
    (case lLines_put_end => k_is)
    (case cLines_put_end => k_is)
    (case kLines_put_end => k_is)
    (case gRun => k_is)
    (case pgRun => k_is)
    (case hdRun => k_is)
    (case poRun => k_is)
    (case saRun => k_is)
    (case mkRun => k_is)
    (case kcRun => k_is)
    (case naRunframe => k_is)
    (case naRunlines => k_is)
    (case naRunmarks => k_is)
    (case naRunheads => k_is)
    (case naRunat => k_is)
    (case naRunsteps => k_is)
    (case aRun___init__ => k_is)
    (case iRun___init__ => k_is)
    (case lRun___init__ => k_is)
    (case cRun___init__ => k_is)
    (case kRun___init__ => k_is)
    (case aRun_worked_out => k_is)
    (case iRun_worked_out => k_is)
    (case lRun_worked_out => k_is)
    (case cRun_worked_out => k_is)
    (case kRun_worked_out => k_is)
    (case aRun_is_so => k_is)
    (case iRun_is_so => k_is)
    (case lRun_is_so => k_is)
    (case cRun_is_so => k_is)
    (case kRun_is_so => k_is)
    (case aRun_change => k_is)
    (case iRun_change => k_is)
    (case lRun_change => k_is)
    (case cRun_change => k_is)
    (case kRun_change => k_is)
    (case aRun_set_head => k_is)
    (case iRun_set_head => k_is)
    (case lRun_set_head => k_is)
    (case cRun_set_head => k_is)
    (case kRun_set_head => k_is)
    (case aRun_next_line => k_is)
    (case iRun_next_line => k_is)
    (case lRun_next_line => k_is)
    (case cRun_next_line => k_is)
    (case kRun_next_line => k_is)
    (case aRun_run => k_is)
    (case iRun_run => k_is)
    (case lRun_run => k_is)
    (case cRun_run => k_is)
    (case kRun_run => k_is)
    (case arods_of => k_is)
    (case lrods_of => k_is)
    (case crods_of => k_is)
    (case krods_of => k_is)
    (case aare_decks => k_is)
    (case lare_decks => k_is)
    (case care_decks => k_is)
    (case kare_decks => k_is)
    (case aworth_of => k_is)
    (case lworth_of => k_is)
    (case cworth_of => k_is)
    (case kworth_of => k_is)
    (case arank_of => k_is)
    (case lrank_of => k_is)
    (case crank_of => k_is)
    (case krank_of => k_is)
    (case aways_of => k_is)
    (case lways_of => k_is)
    (case cways_of => k_is)
    (case kways_of => k_is)
    (case aforms_of => k_is)
    (case lforms_of => k_is)
    (case cforms_of => k_is)
    (case kforms_of => k_is)
    (case arod_rule => k_is)
    (case lrod_rule => k_is)
    (case crod_rule => k_is)
    (case krod_rule => k_is)
    (case awant_make => k_is)
    (case lwant_make => k_is)
    (case cwant_make => k_is)
    (case kwant_make => k_is)
    (case awant_standing => k_is)
    (case lwant_standing => k_is)
    (case cwant_standing => k_is)
    (case kwant_standing => k_is)
    (case aplaces_of => k_is)
    (case lplaces_of => k_is)
    (case cplaces_of => k_is)
    (case kplaces_of => k_is)
    (case apushed_on => k_is)
    (case lpushed_on => k_is)
    (case cpushed_on => k_is)
    (case kpushed_on => k_is)
    (case adigit_shown => k_is)
    (case ldigit_shown => k_is)
    (case cdigit_shown => k_is)
    (case kdigit_shown => k_is)
    (case ais_in_form => k_is)
    (case lis_in_form => k_is)
    (case cis_in_form => k_is)
    (case kis_in_form => k_is)
    (case astrokes_of => k_is)
    (case lstrokes_of => k_is)
    (case cstrokes_of => k_is)
    (case kstrokes_of => k_is)
    (case ais_deck => k_is)
    (case lis_deck => k_is)
    (case cis_deck => k_is)
    (case kis_deck => k_is)
    (case ahas_second => k_is)
    (case lhas_second => k_is)
    (case chas_second => k_is)
    (case khas_second => k_is)
    (case ais_stroke => k_is)
    (case lis_stroke => k_is)
    (case cis_stroke => k_is)
    (case kis_stroke => k_is)
    (case awant_hand => k_is)
    (case lwant_hand => k_is)
    (case cwant_hand => k_is)
    (case kwant_hand => k_is)
    (case asteps_of => k_is)
    (case lsteps_of => k_is)
    (case csteps_of => k_is)
    (case ksteps_of => k_is)
    (case ais_step => k_is)
    (case lis_step => k_is)
    (case cis_step => k_is)
    (case kis_step => k_is)
    (case ais_rule => k_is)
    (case lis_rule => k_is)
    (case cis_rule => k_is)
    (case kis_rule => k_is)
    (case arules_of => k_is)
    (case lrules_of => k_is)
    (case crules_of => k_is)
    (case krules_of => k_is)
    (case abytes_of => k_is)
    (case lbytes_of => k_is)
    (case cbytes_of => k_is)
    (case kbytes_of => k_is)
    (case anumber_from => k_is)
    (case lnumber_from => k_is)
    (case cnumber_from => k_is)
    (case knumber_from => k_is)
    (case aoperand => k_is)
    (case loperand => k_is)
    (case coperand => k_is)
    (case koperand => k_is)
    (case aopen_brackets => k_is)
    (case lopen_brackets => k_is)
    (case copen_brackets => k_is)
    (case kopen_brackets => k_is)
    (case aread_operand => k_is)
    (case lread_operand => k_is)
    (case cread_operand => k_is)
    (case kread_operand => k_is)
    (case aclose => k_is)
    (case lclose => k_is)
    (case cclose => k_is)
    (case kclose => k_is)
    (case abinds => k_is)
    (case lbinds => k_is)
    (case cbinds => k_is)
    (case kbinds => k_is)
    (case aread_operator => k_is)
    (case lread_operator => k_is)
    (case cread_operator => k_is)
    (case kread_operator => k_is)
    (case aread_closers => k_is)
    (case lread_closers => k_is)
    (case cread_closers => k_is)
    (case kread_closers => k_is)
    (case aexpression => k_is)
    (case lexpression => k_is)
    (case cexpression => k_is)
    (case kexpression => k_is)
    (case acompared => k_is)
    (case lcompared => k_is)
    (case ccompared => k_is)
    (case kcompared => k_is)
    (case acondition => k_is)
    (case lcondition => k_is)
    (case ccondition => k_is)
    (case kcondition => k_is)
    (case afirst_bytes => k_is)
    (case lfirst_bytes => k_is)
    (case cfirst_bytes => k_is)
    (case kfirst_bytes => k_is)
    (case aread_change => k_is)
    (case lread_change => k_is)
    (case cread_change => k_is)
    (case kread_change => k_is)
    (case aread_set_or_stop => k_is)
    (case lread_set_or_stop => k_is)
    (case cread_set_or_stop => k_is)
    (case kread_set_or_stop => k_is)
    (case aread_else_or_end => k_is)
    (case lread_else_or_end => k_is)
    (case cread_else_or_end => k_is)
    (case kread_else_or_end => k_is)
    (case aread_line => k_is)
    (case lread_line => k_is)
    (case cread_line => k_is)
    (case kread_line => k_is)
    (case alines_of => k_is)
    (case llines_of => k_is)
    (case clines_of => k_is)
    (case klines_of => k_is)
    (case ain_range => k_is)
    (case lin_range => k_is)
    (case cin_range => k_is)
    (case kin_range => k_is)
    (case ajoined => k_is)
    (case ljoined => k_is)
    (case cjoined => k_is)
    (case kjoined => k_is)
    (case aare_right => k_is)
    (case lare_right => k_is)
    (case care_right => k_is)
    (case kare_right => k_is)
    (case afault_of => k_is)
    (case lfault_of => k_is)
    (case cfault_of => k_is)
    (case kfault_of => k_is)
    (case awork_of => k_is)
    (case lwork_of => k_is)
    (case cwork_of => k_is)
    (case kwork_of => k_is)
    (case awork => k_is)
    (case lwork => k_is)
    (case cwork => k_is)
    (case kwork => k_is)
    (case zVI => k_is)
    (case xmFaultFault => first | k_is | rfl)
    (case xmFaultRunFault => first | k_is | rfl)
    (case xmFaultTooLong => first | k_is | rfl)
    (case xmRunFaultFault => first | k_is | rfl)
    (case xmRunFaultRunFault => first | k_is | rfl)
    (case xmRunFaultTooLong => first | k_is | rfl)
    (case xmTooLongFault => first | k_is | rfl)
    (case xmTooLongRunFault => first | k_is | rfl)
    (case xmTooLongTooLong => first | k_is | rfl)
  case S =>
    intro K H xs a hO hwi hask hx
    exact Ab.work_S K H xs a hO hwi hx
#print axioms PySem.Challenge.cw_abacusways_s04_work_holds
