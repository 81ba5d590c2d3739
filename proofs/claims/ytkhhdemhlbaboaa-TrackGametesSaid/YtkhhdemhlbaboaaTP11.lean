/- Small parsimony, in plain lists: two columns of two states. -/
import Derived.Test.YtkhhdemhlbaboaaTP10
set_option linter.unusedVariables false
set_option linter.unusedSimpArgs false
set_option maxRecDepth 100000
namespace Go.AM.TP

/-- A set of numbers, as bits. -/
def mkS (g : Nat → Nat) : Nat → Nat
  | 0 => 0
  | i + 1 => mkS g i ||| (1 <<< g i)
def bitL (k S : Nat) : List Int := ((List.range k).filter fun i => S.testBit i).map Int.ofNat
def pairsS (x y : List Int) (n : Nat) : Nat := mkS (fun i => (2 * x.getD i 0 + y.getD i 0).toNat) n
def oneS (x : List Int) (n : Nat) : Nat := mkS (fun i => (x.getD i 0).toNat) n
def leastS (x y : List Int) (n : Nat) : Nat := (bitL 4 (oneS x n)).length + (bitL 4 (oneS y n)).length - 2
/-- All columns. -/
def allL : Nat → List (List Int)
  | 0 => [[]]
  | n + 1 => (allL n).flatMap fun l => [0 :: l, 1 :: l]
theorem mem_allL : ∀ (l : List Int), (∀ x ∈ l, x = 0 ∨ x = 1) → l ∈ allL l.length
  | [], _ => by simp [allL]
  | a :: l, h => by
    have ih := mem_allL l (fun x hx => h x (by simp [hx]))
    rw [List.length_cons, allL]
    refine List.mem_flatMap.2 ⟨l, ih, ?_⟩
    rcases h a (by simp) with rfl | rfl <;> simp

def lenC (J : List (Int × Int)) (x : List Int) : Nat := (fitchN (bitsOf x) 0 J).2

/-- A tree that takes the leaves one after the other. -/
def catT : Int → Nat → List Int → List (Int × Int)
  | _, _, [] => []
  | c, k, o :: r => (c, o) :: catT (k : Int) (k + 1) r
def pathT (x y : List Int) (n : Nat) : List Int :=
  let P := pairsS x y n
  let path : List Nat := if P.testBit 3 = false then [2, 0, 1] else if P.testBit 0 = false then [1, 3, 2] else if P.testBit 1 = false then [3, 2, 0] else [0, 1, 3]
  path.flatMap fun p => ((List.range n).filter fun i => (2 * x.getD i 0 + y.getD i 0).toNat == p).map Int.ofNat
def treeT (x y : List Int) (n : Nat) : List (Int × Int) := match pathT x y n with
  | [] => []
  | a :: r => catT a n r

/-- With three combinations there is a tree. -/
def chkA (n : Nat) : Bool := (allL n).all fun x => (allL n).all fun y => pairsS x y n == 15 || (treeB n (treeT x y n) && decide (lenC (treeT x y n) x + lenC (treeT x y n) y ≤ leastS x y n))
/-- Each column needs its changes. -/
def chkB (n : Nat) : Bool := (treesN n (n - 1) [] (upto n)).all fun J => (allL n).all fun x => decide ((bitL 4 (oneS x n)).length ≤ lenC J x + 1)
/-- Four combinations need three. -/
def chkC (n : Nat) : Bool := (treesN n (n - 1) [] (upto n)).all fun J => ((allL n).filter fun x => decide (lenC J x ≤ 1)).all fun x => ((allL n).filter fun y => decide (lenC J y ≤ 1)).all fun y => pairsS x y n != 15
/-- Four combinations need both states in both columns. -/
def chkD (n : Nat) : Bool := (allL n).all fun x => (allL n).all fun y => pairsS x y n != 15 || leastS x y n == 2
def chkE (n : Nat) : Bool := (allL n).all fun x => decide (1 ≤ (bitL 4 (oneS x n)).length ∧ (bitL 4 (oneS x n)).length ≤ 2)

theorem chkA_all : ∀ n, 2 ≤ n → n ≤ 5 → chkA n = true := by
  have : ∀ n < 6, 2 ≤ n → chkA n = true := by decide +kernel
  exact fun n h2 h5 => this n (by omega) h2
theorem chkD_all : ∀ n, 2 ≤ n → n ≤ 5 → chkD n = true := by
  have : ∀ n < 6, 2 ≤ n → chkD n = true := by decide +kernel
  exact fun n h2 h5 => this n (by omega) h2
theorem chkE_all : ∀ n, 2 ≤ n → n ≤ 5 → chkE n = true := by
  have : ∀ n < 6, 2 ≤ n → chkE n = true := by decide +kernel
  exact fun n h2 h5 => this n (by omega) h2

theorem chkB_all : ∀ n, 2 ≤ n → n ≤ 5 → chkB n = true := by
  have : ∀ n < 6, 2 ≤ n → chkB n = true := by decide +kernel
  exact fun n h2 h5 => this n (by omega) h2
theorem chkC_all : ∀ n, 2 ≤ n → n ≤ 5 → chkC n = true := by
  have : ∀ n < 6, 2 ≤ n → chkC n = true := by decide +kernel
  exact fun n h2 h5 => this n (by omega) h2

theorem gametes {n : Nat} (h2 : 2 ≤ n) (h5 : n ≤ 5) {x y : List Int} (hx : x ∈ allL n) (hy : y ∈ allL n) {f : List (Int × Int) → Int} (hf : ∀ J, f J = ((lenC J x + lenC J y : Nat) : Int)) {v : Int} (hb : IsBest n f v) {J : List (Int × Int)} (hJ : J ∈ treesN n (n - 1) [] (upto n)) (hv : v = f J) :
    (pairsS x y n = 15 → (leastS x y n : Int) < v) ∧ (pairsS x y n ≠ 15 → v = (leastS x y n : Int)) := by
  have A := chkA_all n h2 h5
  have B := chkB_all n h2 h5
  have C := chkC_all n h2 h5
  have D := chkD_all n h2 h5
  have E := chkE_all n h2 h5
  simp only [chkA, List.all_eq_true, Bool.or_eq_true, beq_iff_eq, Bool.and_eq_true, decide_eq_true_eq] at A
  simp only [chkB, List.all_eq_true, decide_eq_true_eq] at B
  simp only [chkC, List.all_eq_true, List.mem_filter, decide_eq_true_eq, bne_iff_ne, and_imp] at C
  simp only [chkD, List.all_eq_true, Bool.or_eq_true, beq_iff_eq, bne_iff_ne] at D
  simp only [chkE, List.all_eq_true, decide_eq_true_eq] at E
  have b1 := B J hJ x hx
  have b2 := B J hJ y hy
  have e1 := E x hx
  have e2 := E y hy
  rw [hf] at hv
  refine ⟨fun h15 => ?_, fun hne => ?_⟩
  · have d := (D x hx y hy).resolve_left (fun h => h h15)
    have hl : leastS x y n = (bitL 4 (oneS x n)).length + (bitL 4 (oneS y n)).length - 2 := rfl
    rw [hl] at d ⊢
    by_cases c1 : lenC J x ≤ 1
    · by_cases c2 : lenC J y ≤ 1
      · exact absurd h15 (C J hJ x hx c1 y hy c2)
      · omega
    · by_cases c2 : lenC J y ≤ 1
      · omega
      · omega
  · obtain ⟨a1, a2⟩ := (A x hx y hy).resolve_left hne
    have h := hb.2 _ a1
    rw [hf] at h
    have hl : leastS x y n = (bitL 4 (oneS x n)).length + (bitL 4 (oneS y n)).length - 2 := rfl
    rw [hl] at a2 ⊢
    omega

end Go.AM.TP
