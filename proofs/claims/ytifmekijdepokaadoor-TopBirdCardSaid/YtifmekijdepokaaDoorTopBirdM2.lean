/- Laws and contracts that the proof of TopBird uses, part 2. -/
import Derived.Test.YtifmekijdepokaaDoorTopBirdM1
import Derived.Deep.QuietTactic
import Derived.BigQuiet
import Derived.Below
import Derived.StillTail
import Derived.Deep.LoopGhost
import Derived.Deep.DeepCutAuto
namespace Go.Proofs.YtifmekijdepokaaDoor
open Go.RowKit

/- The memory of a system of equations, and its elimination: plain definitions, no program. -/

/-- The system: n rows of n + 1 numbers, each in a block of its own. -/
structure Mtx (w : World) (g n : Nat) (R C : Nat → Nat) (f : Nat → Nat → Int) : Prop where
  rows : ∀ i, i < n → w.cell? ⟨g, i, none⟩ = some (.slice (some ⟨R i, 0, none⟩) (n + 1) (C i)) ∧ w.frozen? ⟨g, i, none⟩ = false
  cells : ∀ i j, i < n → j ≤ n → w.cell? ⟨R i, j, none⟩ = some (.int .i64 (f i j)) ∧ w.frozen? ⟨R i, j, none⟩ = false
  inj : ∀ i j, i < n → j < n → R i = R j → i = j
  ne : ∀ i, i < n → R i ≠ g

def upd (f : Nat → Nat → Int) (i j : Nat) (v : Int) : Nat → Nat → Int := fun a b => if a = i ∧ b = j then v else f a b
section
variable {w : World} {g n : Nat} {R C : Nat → Nat} {f f' : Nat → Nat → Int}
theorem Mtx.congr (h : Mtx w g n R C f) (hf : ∀ i j, i < n → j ≤ n → f i j = f' i j) : Mtx w g n R C f' :=
  ⟨h.rows, fun i j hi hj => by rw [← hf i j hi hj]; exact h.cells i j hi hj, h.inj, h.ne⟩
theorem Mtx.drewN (h : Mtx w g n R C f) (k : Nat) : Mtx (w.drewN k) g n R C f := ⟨h.rows, h.cells, h.inj, h.ne⟩
theorem Mtx.drew (h : Mtx w g n R C f) : Mtx w.drew g n R C f := ⟨h.rows, h.cells, h.inj, h.ne⟩
theorem Mtx.set (h : Mtx w g n R C f) {i j : Nat} (hi : i < n) (hj : j ≤ n) (v : Int) : Mtx (w.setCell ⟨R i, j, none⟩ (.int .i64 v)) g n R C (upd f i j v) := by
  refine ⟨fun a ha => ?_, fun a b ha hb => ?_, h.inj, h.ne⟩
  · rw [World.cell?_setCell_other _ _ _ _ (by intro e; injection e with e; exact h.ne i hi e), World.frozen?_setCell]
    exact h.rows a ha
  · rw [World.frozen?_setCell]
    refine ⟨?_, (h.cells a b ha hb).2⟩
    unfold upd
    by_cases e : a = i ∧ b = j
    · rw [if_pos e, e.1, e.2]
      exact World.cell?_setCell_same _ _ _ (h.cells i j hi hj).1
    · rw [if_neg e, World.cell?_setCell_other _ _ _ _ ?_]
      · exact (h.cells a b ha hb).1
      · intro e2
        injection e2 with e3 e4
        exact e ⟨h.inj a i ha hi e3.symm, e4.symm⟩
def swp (k p i : Nat) : Nat := if i = k then p else if i = p then k else i
theorem swp_lt {k p i : Nat} (hk : k < n) (hp : p < n) (hi : i < n) : swp k p i < n := by unfold swp; split; exact hp; split; exact hk; exact hi
theorem swp_inj {k p i j : Nat} (h : swp k p i = swp k p j) : i = j := by
  unfold swp at h
  split at h <;> split at h <;> (try split at h) <;> (try split at h) <;> omega
theorem Mtx.swap (h : Mtx w g n R C f) {k p : Nat} (hk : k < n) (hp : p < n) (hkp : p ≠ k) :
    Mtx ((w.setCell ⟨g, k, none⟩ (.slice (some ⟨R p, 0, none⟩) (n + 1) (C p))).setCell ⟨g, p, none⟩ (.slice (some ⟨R k, 0, none⟩) (n + 1) (C k))) g n (fun i => R (swp k p i)) (fun i => C (swp k p i)) (fun i j => f (swp k p i) j) := by
  refine ⟨fun a ha => ?_, fun a b ha hb => ?_, fun a b ha hb e => swp_inj (h.inj _ _ (swp_lt hk hp ha) (swp_lt hk hp hb) e), fun a ha => h.ne _ (swp_lt hk hp ha)⟩
  · rw [World.frozen?_setCell, World.frozen?_setCell]
    refine ⟨?_, (h.rows a ha).2⟩
    by_cases e : a = p
    · have hs : swp k p a = k := by unfold swp; rw [e, if_neg hkp, if_pos rfl]
      rw [hs, e]
      exact World.cell?_setCell_same _ _ _ (by rw [World.cell?_setCell_other _ _ _ _ (by intro e; injection e with _ e; omega)]; exact (h.rows p hp).1)
    · rw [World.cell?_setCell_other _ _ _ _ (by intro e2; injection e2 with _ e2; omega)]
      by_cases e3 : a = k
      · have hs : swp k p a = p := by unfold swp; rw [if_pos e3]
        rw [hs, e3]
        exact World.cell?_setCell_same _ _ _ (h.rows k hk).1
      · have hs : swp k p a = a := by unfold swp; rw [if_neg e3, if_neg e]
        rw [hs, World.cell?_setCell_other _ _ _ _ (by intro e2; injection e2 with _ e2; omega)]
        exact (h.rows a ha).1
  · rw [World.frozen?_setCell, World.frozen?_setCell, World.cell?_setCell_other _ _ _ _ (by intro e; injection e with e; exact h.ne _ (swp_lt hk hp ha) e.symm), World.cell?_setCell_other _ _ _ _ (by intro e; injection e with e; exact h.ne _ (swp_lt hk hp ha) e.symm)]
    exact h.cells _ _ (swp_lt hk hp ha) hb
end

/-- The first row from p on whose entry in column k is not 0, with so many looked at. -/
def pivA (h : Nat → Nat → Int) (k : Nat) : Nat → Nat → Nat
  | 0, p => p
  | m + 1, p => if h p k = 0 then pivA h k m (p + 1) else p
def piv (h : Nat → Nat → Int) (n k : Nat) : Nat := pivA h k (n - k) k
theorem pivA_skip {h : Nat → Nat → Int} {k : Nat} : ∀ (m p q : Nat), q ≤ m → (∀ r, p ≤ r → r < p + q → h r k = 0) → pivA h k m p = pivA h k (m - q) (p + q) := by
  intro m
  induction m with
  | zero => intro p q hq _; have : q = 0 := by omega
            subst this; rfl
  | succ m ih =>
    intro p q hq h0
    cases q with
    | zero => rfl
    | succ q =>
      rw [pivA, if_pos (h0 p (Nat.le_refl _) (by omega)), ih (p + 1) q (by omega) (fun r h1 h2 => h0 r (by omega) (by omega))]
      rw [show m + 1 - (q + 1) = m - q from by omega, show p + (q + 1) = p + 1 + q from by omega]
theorem piv_hit {h : Nat → Nat → Int} {n k p : Nat} (hkp : k ≤ p) (hp : p < n) (h0 : ∀ r, k ≤ r → r < p → h r k = 0) (hne : h p k ≠ 0) : piv h n k = p := by
  unfold piv
  rw [pivA_skip (n - k) k (p - k) (by omega) (fun r h1 h2 => h0 r h1 (by omega)), show n - k - (p - k) = (n - p - 1) + 1 from by omega, show k + (p - k) = p from by omega, pivA, if_neg hne]
theorem piv_miss {h : Nat → Nat → Int} {n k : Nat} (hk : k ≤ n) (h0 : ∀ r, k ≤ r → r < n → h r k = 0) : piv h n k = n := by
  unfold piv
  rw [pivA_skip (n - k) k (n - k) (Nat.le_refl _) (fun r h1 h2 => h0 r h1 (by omega)), show n - k - (n - k) = 0 from by omega, pivA]
  omega
theorem piv_le {h : Nat → Nat → Int} {n k : Nat} (hk : k ≤ n) : k ≤ piv h n k ∧ piv h n k ≤ n ∧ (piv h n k < n → h (piv h n k) k ≠ 0) := by
  have key : ∀ m p, p ≤ pivA h k m p ∧ pivA h k m p ≤ p + m ∧ (pivA h k m p < p + m → h (pivA h k m p) k ≠ 0) := by
    intro m
    induction m with
    | zero => intro p; exact ⟨Nat.le_refl _, Nat.le_refl _, fun h => by simp [pivA] at h⟩
    | succ m ih =>
      intro p
      rw [pivA]
      by_cases e : h p k = 0
      · rw [if_pos e]
        obtain ⟨a, b, c⟩ := ih (p + 1)
        exact ⟨by omega, by omega, fun hlt => c (by omega)⟩
      · rw [if_neg e]
        exact ⟨Nat.le_refl _, by omega, fun _ => e⟩
  obtain ⟨a, b, c⟩ := key (n - k) k
  unfold piv
  exact ⟨a, by omega, fun hlt => c (by omega)⟩

/-- Row p comes to place k, with its sign turned. -/
def swapM (f : Nat → Nat → Int) (k p : Nat) : Nat → Nat → Int := if p = k then f else fun i j => if i = k then -(f p j) else if i = p then f k j else f i j
/-- Column k is cleared but for row k. -/
def red (f : Nat → Nat → Int) (k : Nat) (last : Int) : Nat → Nat → Int := fun i j => if i = k then f k j else if j = k then 0 else (f i j * f k k - f i k * f k j).tdiv last
/-- The elimination, after so many columns. -/
def slvTo (f : Nat → Nat → Int) (n : Nat) : Nat → Option ((Nat → Nat → Int) × Int)
  | 0 => some (f, 1)
  | k + 1 => match slvTo f n k with
    | none => none
    | some (h, l) => if piv h n k = n then none else some (red (swapM h k (piv h n k)) k l, swapM h k (piv h n k) k k)
theorem slvTo_none {f : Nat → Nat → Int} {n k : Nat} (h : slvTo f n k = none) (m : Nat) : slvTo f n (k + m) = none := by
  induction m with
  | zero => exact h
  | succ m ih => rw [← Nat.add_assoc, slvTo, ih]
/-- All numbers on the way are small. -/
def SafeM (f : Nat → Nat → Int) (n : Nat) : Prop := ∀ k h l, k ≤ n → slvTo f n k = some (h, l) → l ≠ 0 ∧ -100000000 ≤ l ∧ l ≤ 100000000 ∧ ∀ i j, i < n → j ≤ n → -100000000 ≤ h i j ∧ h i j ≤ 100000000

/-- Rows up to i are done, and of row i the entries from q on. -/
def midM (f1 f2 : Nat → Nat → Int) (k i q : Nat) : Nat → Nat → Int := fun a b => if (a < i ∧ a ≠ k) ∨ (a = i ∧ q ≤ b ∧ b ≠ k) then f2 a b else f1 a b

/- The numbers in the elimination of a system of zeros and ones stay small. Plain Lean. -/

/-- All entries of h are at most a, those on the right b. -/
def BdM (a b : Nat) (h : Nat → Nat → Int) (n : Nat) : Prop := (∀ i j, i < n → j < n → (h i j).natAbs ≤ a) ∧ ∀ i, i < n → (h i n).natAbs ≤ b
theorem swapM_bd {a b n k p : Nat} {h : Nat → Nat → Int} (hb : BdM a b h n) (hk : k < n) (hp : p < n) : BdM a b (swapM h k p) n := by
  unfold swapM
  split
  · exact hb
  · refine ⟨fun i j hi hj => ?_, fun i hi => ?_⟩
    · dsimp only
      split
      · rw [Int.natAbs_neg]; exact hb.1 p j hp hj
      · split
        · exact hb.1 k j hk hj
        · exact hb.1 i j hi hj
    · dsimp only
      split
      · rw [Int.natAbs_neg]; exact hb.2 p hp
      · split
        · exact hb.2 k hk
        · exact hb.2 i hi
theorem diff_bd {x y z u : Int} {a b : Nat} (hx : x.natAbs ≤ b) (hy : y.natAbs ≤ a) (hz : z.natAbs ≤ a) (hu : u.natAbs ≤ b) (l : Int) : ((x * y - z * u).tdiv l).natAbs ≤ 2 * a * b := by
  rw [Int.natAbs_tdiv]
  refine Nat.le_trans (Nat.div_le_self _ _) ?_
  have h1 : (x * y).natAbs ≤ b * a := by rw [Int.natAbs_mul]; exact Nat.mul_le_mul hx hy
  have h2 : (z * u).natAbs ≤ a * b := by rw [Int.natAbs_mul]; exact Nat.mul_le_mul hz hu
  have h3 : b * a = a * b := Nat.mul_comm _ _
  have h4 : 2 * a * b = a * b + a * b := by rw [Nat.mul_assoc]; omega
  omega
theorem red_bd {a b n k : Nat} {h : Nat → Nat → Int} (ha : 1 ≤ a) (hb : BdM a b h n) (hk : k < n) (l : Int) : BdM (2 * a * a) (2 * a * b) (red h k l) n := by
  have e1 : a ≤ 2 * a * a := by
    have := Nat.mul_le_mul_right a (show 1 ≤ 2 * a by omega)
    omega
  have e2 : b ≤ 2 * a * b := by
    have := Nat.mul_le_mul_right b (show 1 ≤ 2 * a by omega)
    omega
  refine ⟨fun i j hi hj => ?_, fun i hi => ?_⟩
  · unfold red
    split
    · exact Nat.le_trans (hb.1 k j hk hj) e1
    · split
      · simp
      · exact diff_bd (hb.1 i j hi hj) (hb.1 k k hk hk) (hb.1 i k hi hk) (hb.1 k j hk hj) l
  · unfold red
    split
    · exact Nat.le_trans (hb.2 k hk) e2
    · split
      · simp
      · exact diff_bd (hb.2 i hi) (hb.1 k k hk hk) (hb.1 i k hi hk) (hb.2 k hk) l

/-- The bounds after so many columns. -/
def bA : Nat → Nat
  | 0 => 1
  | k + 1 => 2 * bA k * bA k
def bB : Nat → Nat
  | 0 => 1000
  | k + 1 => 2 * bA k * bB k
theorem bA_pos (k : Nat) : 1 ≤ bA k := by
  induction k with
  | zero => exact Nat.le_refl _
  | succ k ih =>
    simp only [bA]
    have := Nat.mul_le_mul ih ih
    rw [Nat.mul_assoc]
    omega
theorem swapM_piv {n k : Nat} {h : Nat → Nat → Int} (hk : k < n) (hp : piv h n k < n) : swapM h k (piv h n k) k k ≠ 0 := by
  have h1 := (piv_le (h := h) (n := n) (k := k) (by omega)).2.2 hp
  unfold swapM
  split
  · rename_i e; rw [e] at h1; exact h1
  · dsimp only
    rw [if_pos rfl]
    omega
theorem slvTo_bd {f : Nat → Nat → Int} {n : Nat} (h0 : BdM 1 1000 f n) : ∀ k h l, k ≤ n → slvTo f n k = some (h, l) → BdM (bA k) (bB k) h n ∧ l ≠ 0 ∧ (k = 0 ∧ l = 1 ∨ 0 < k ∧ l.natAbs ≤ bA (k - 1)) := by
  intro k
  induction k with
  | zero =>
    intro h l _ e
    simp only [slvTo, Option.some.injEq, Prod.mk.injEq] at e
    obtain ⟨rfl, rfl⟩ := e
    exact ⟨h0, by omega, .inl ⟨rfl, rfl⟩⟩
  | succ k ih =>
    intro h l hk e
    rw [slvTo] at e
    cases hs : slvTo f n k with
    | none => rw [hs] at e; cases e
    | some q =>
      obtain ⟨g, m⟩ := q
      rw [hs] at e
      simp only at e
      obtain ⟨hb, _, _⟩ := ih g m (by omega) hs
      have hpl := piv_le (h := g) (n := n) (k := k) (by omega)
      by_cases hp : piv g n k = n
      · rw [if_pos hp] at e; cases e
      · rw [if_neg hp] at e
        injection e with e
        injection e with e1 e2
        have hpn : piv g n k < n := by omega
        have hsw := swapM_bd hb (show k < n by omega) hpn
        refine ⟨?_, ?_, .inr ⟨by omega, ?_⟩⟩
        · rw [← e1]; exact red_bd (bA_pos k) hsw (by omega) m
        · rw [← e2]; exact swapM_piv (by omega) hpn
        · rw [← e2]; exact hsw.1 k k (by omega) (by omega)
theorem bA_4 (k : Nat) (hk : k ≤ 4) : bA k ≤ 100000000 ∧ bB k ≤ 100000000 := by
  match k, hk with
  | 0, _ => decide
  | 1, _ => decide
  | 2, _ => decide
  | 3, _ => decide
  | 4, _ => decide
theorem safe_of {f : Nat → Nat → Int} {n : Nat} (hn : n ≤ 4) (h0 : BdM 1 1000 f n) : SafeM f n := by
  intro k h l hk e
  obtain ⟨hb, hl, hl2⟩ := slvTo_bd h0 k h l hk e
  have h4 := bA_4 k (by omega)
  have h5 := bA_4 (k - 1) (by omega)
  refine ⟨hl, ?_, ?_, fun i j hi hj => ?_⟩
  · omega
  · omega
  · by_cases hjn : j = n
    · subst hjn
      have := hb.2 i hi
      omega
    · have := hb.1 i j hi (by omega)
      omega

/- What the elimination finds: the unknowns, or an answer that is not 0 of the homogeneous equations. Plain Lean. -/

/-- y answers all the equations: its last number stands with a minus for the right side. -/
def Hom (f : Nat → Nat → Int) (n : Nat) (y : Nat → Rat) : Prop := ∀ i, i < n → sumQ (fun j => (f i j : Rat) * y j) (n + 1) = 0
/-- l divides all products across. -/
def Crs (l : Int) (h : Nat → Nat → Int) (n : Nat) : Prop := ∀ i r j s, i < n → r < n → j ≤ n → s ≤ n → l ∣ h i j * h r s - h i s * h r j
/-- The columns up to k are done. -/
def Dgl (h : Nat → Nat → Int) (l : Int) (n k : Nat) : Prop := ∀ i j, i < n → j < k → h i j = if i = j then l else 0

theorem crs_unit {l : Int} {h : Nat → Nat → Int} {n : Nat} (hl : l = 1 ∨ l = -1) : Crs l h n := by
  intro i r j s _ _ _ _
  rcases hl with rfl | rfl
  · exact ⟨_, (Int.one_mul _).symm⟩
  · exact ⟨-(h i j * h r s - h i s * h r j), by omega⟩
theorem crs_swap {l : Int} {h : Nat → Nat → Int} {n k p : Nat} (hk : k < n) (hp : p < n) (hc : Crs l h n) : Crs l (swapM h k p) n := by
  unfold swapM
  split
  · exact hc
  · have key : ∀ i, i < n → ∃ (e : Int) (a : Nat), a < n ∧ ∀ j, (if i = k then -(h p j) else if i = p then h k j else h i j) = e * h a j := by
      intro i hi
      by_cases e1 : i = k
      · exact ⟨-1, p, hp, fun j => by rw [if_pos e1]; omega⟩
      · by_cases e2 : i = p
        · exact ⟨1, k, hk, fun j => by rw [if_neg e1, if_pos e2]; omega⟩
        · exact ⟨1, i, hi, fun j => by rw [if_neg e1, if_neg e2]; omega⟩
    intro i r j s hi hr hj hs
    obtain ⟨e, a, ha, h1⟩ := key i hi
    obtain ⟨e', a', ha', h2⟩ := key r hr
    simp only [h1, h2]
    obtain ⟨q, hq⟩ := hc a a' j s ha ha' hj hs
    exact ⟨e * e' * q, by grind⟩
theorem red_mul {l : Int} {h : Nat → Nat → Int} {n k i j : Nat} (hc : Crs l h n) (hk : k < n) (hi : i < n) (hj : j ≤ n) (hik : i ≠ k) : l * red h k l i j = h i j * h k k - h i k * h k j := by
  unfold red
  rw [if_neg hik]
  by_cases e : j = k
  · subst e
    rw [if_pos rfl]
    grind
  · rw [if_neg e, Int.mul_tdiv_cancel']
    exact hc i k j k hi hk hj (by omega)
theorem crs_red {l : Int} {h : Nat → Nat → Int} {n k : Nat} (hl : l = 1 ∨ l = -1) (hk : k < n) : Crs (h k k) (red h k l) n := by
  have hc : Crs l h n := crs_unit hl
  have hll : l * l = 1 := by rcases hl with rfl | rfl <;> rfl
  have key : ∀ i j, i < n → j ≤ n → i ≠ k → red h k l i j = l * (h i j * h k k - h i k * h k j) := by
    intro i j hi hj hik
    rw [← red_mul hc hk hi hj hik, ← Int.mul_assoc, hll, Int.one_mul]
  have keyk : ∀ j, red h k l k j = h k j := by intro j; unfold red; rw [if_pos rfl]
  intro i r j s hi hr hj hs
  by_cases e1 : i = k <;> by_cases e2 : r = k
  · subst e1; subst e2
    exact ⟨0, by grind⟩
  · subst e1
    rw [keyk, keyk, key r s hr hs e2, key r j hr hj e2]
    exact ⟨l * (h i j * h r s - h i s * h r j), by grind⟩
  · subst e2
    rw [keyk, keyk, key i s hi hs e1, key i j hi hj e1]
    exact ⟨l * (h i j * h r s - h i s * h r j), by grind⟩
  · rw [key r s hr hs e2, key r j hr hj e2, key i s hi hs e1, key i j hi hj e1]
    exact ⟨h i j * h r s * h k k - h i j * h r k * h k s - h i k * h k j * h r s - (h i s * h r j * h k k - h i s * h r k * h k j - h i k * h k s * h r j), by grind⟩

theorem hom_swap {h : Nat → Nat → Int} {n k p : Nat} {y : Nat → Rat} (hk : k < n) (hp : p < n) : Hom (swapM h k p) n y ↔ Hom h n y := by
  unfold swapM
  split
  · rfl
  · rename_i hne
    have hneg : ∀ (g : Nat → Int) m, sumQ (fun j => ((-(g j) : Int) : Rat) * y j) m = - sumQ (fun j => (g j : Rat) * y j) m := by
      intro g m
      have := sumQ_mul (-1) (fun j => (g j : Rat) * y j) m
      rw [show -sumQ (fun j => (g j : Rat) * y j) m = -1 * sumQ (fun j => (g j : Rat) * y j) m from by grind, ← this]
      exact sumQ_congr fun j _ => by rw [Rat.intCast_neg]; grind
    constructor
    · intro H i hi
      by_cases e1 : i = k
      · subst e1
        have := H p hp
        simp only [if_neg hne, if_true] at this
        exact this
      · by_cases e2 : i = p
        · subst e2
          have := H k hk
          simp only [if_true] at this
          rw [hneg] at this
          grind
        · have := H i hi
          simp only [if_neg e1, if_neg e2] at this
          exact this
    · intro H i hi
      by_cases e1 : i = k
      · subst e1
        simp only [if_true]
        rw [hneg, H p hp]
        grind
      · by_cases e2 : i = p
        · subst e2
          simp only [if_neg e1, if_true]
          exact H k hk
        · simp only [if_neg e1, if_neg e2]
          exact H i hi
theorem hom_red {h : Nat → Nat → Int} {n k : Nat} {l : Int} {y : Nat → Rat} (hk : k < n) (hl : l ≠ 0) (hp : h k k ≠ 0) (hc : Crs l h n) : Hom (red h k l) n y ↔ Hom h n y := by
  have hlq : (l : Rat) ≠ 0 := by simpa using hl
  have hpq : (h k k : Rat) ≠ 0 := by simpa using hp
  have hrk : sumQ (fun j => (red h k l k j : Rat) * y j) (n + 1) = sumQ (fun j => (h k j : Rat) * y j) (n + 1) := sumQ_congr fun j _ => by unfold red; rw [if_pos rfl]
  have hri : ∀ i, i < n → i ≠ k → (l : Rat) * sumQ (fun j => (red h k l i j : Rat) * y j) (n + 1) = (h k k : Rat) * sumQ (fun j => (h i j : Rat) * y j) (n + 1) - (h i k : Rat) * sumQ (fun j => (h k j : Rat) * y j) (n + 1) := by
    intro i hi hik
    rw [← sumQ_mul, ← sumQ_mul, ← sumQ_mul, show ∀ a b : Rat, a - b = a + (-1) * b from fun a b => by grind, ← sumQ_mul (-1), ← sumQ_add]
    refine sumQ_congr fun j hj => ?_
    have e := red_mul hc hk hi (show j ≤ n by omega) hik
    have e2 : (l : Rat) * (red h k l i j : Rat) = (h i j : Rat) * (h k k : Rat) - (h i k : Rat) * (h k j : Rat) := by
      rw [← Rat.intCast_mul, e, Rat.intCast_sub, Rat.intCast_mul, Rat.intCast_mul]
    grind
  constructor
  · intro H i hi
    have h0 := H k hk
    rw [hrk] at h0
    by_cases e : i = k
    · subst e; exact h0
    · have h1 := hri i hi e
      rw [H i hi, h0] at h1
      have : (h k k : Rat) * sumQ (fun j => (h i j : Rat) * y j) (n + 1) = 0 := by grind
      rcases Rat.mul_eq_zero.1 this with h2 | h2
      · exact absurd h2 hpq
      · exact h2
  · intro H i hi
    by_cases e : i = k
    · subst e; rw [hrk]; exact H i hi
    · have h1 := hri i hi e
      rw [H i hi, H k hk] at h1
      have : (l : Rat) * sumQ (fun j => (red h k l i j : Rat) * y j) (n + 1) = 0 := by grind
      rcases Rat.mul_eq_zero.1 this with h2 | h2
      · exact absurd h2 hlq
      · exact h2
theorem dgl_swap {h : Nat → Nat → Int} {l : Int} {n k p : Nat} (hkp : k ≤ p) (hp : p < n) (hd : Dgl h l n k) : Dgl (swapM h k p) l n k := by
  unfold swapM
  split
  · exact hd
  · intro i j hi hj
    dsimp only
    have a1 := hd p j hp hj
    have a2 := hd k j (by omega) hj
    have a3 := hd i j hi hj
    rw [if_neg (by omega)] at a1 a2
    split
    · rw [a1, if_neg (by omega)]; rfl
    · split
      · rw [a2, if_neg (by omega)]
      · exact a3
theorem dgl_red {h : Nat → Nat → Int} {l : Int} {n k : Nat} (hk : k < n) (hl : l ≠ 0) (hd : Dgl h l n k) : Dgl (red h k l) (h k k) n (k + 1) := by
  intro i j hi hj
  unfold red
  by_cases e : i = k
  · subst e
    rw [if_pos rfl]
    by_cases e2 : j = i
    · rw [e2, if_pos rfl]
    · rw [if_neg (fun h => e2 h.symm), hd i j hi (by omega), if_neg (fun h => e2 h.symm)]
  · rw [if_neg e]
    by_cases e2 : j = k
    · subst e2
      rw [if_pos rfl, if_neg e]
    · rw [if_neg e2, hd k j hk (by omega), if_neg (fun h => e2 h.symm), hd i j hi (by omega), Int.mul_zero, Int.sub_zero]
      split
      · rw [Int.mul_comm, Int.mul_tdiv_cancel _ hl]
      · rw [Int.zero_mul, Int.zero_tdiv]

/-- All entries left of the right side are at most a. -/
def BdA (a : Nat) (h : Nat → Nat → Int) (n : Nat) : Prop := ∀ i j, i < n → j < n → (h i j).natAbs ≤ a
theorem swap_bdA {a n k p : Nat} {h : Nat → Nat → Int} (hb : BdA a h n) (hk : k < n) (hp : p < n) : BdA a (swapM h k p) n := by
  unfold swapM
  split
  · exact hb
  · intro i j hi hj
    dsimp only
    split
    · rw [Int.natAbs_neg]; exact hb p j hp hj
    · split
      · exact hb k j hk hj
      · exact hb i j hi hj
theorem red_bdA {a n k : Nat} {h : Nat → Nat → Int} (ha : 1 ≤ a) (hb : BdA a h n) (hk : k < n) (l : Int) : BdA (2 * a * a) (red h k l) n := by
  have e1 : a ≤ 2 * a * a := by
    have := Nat.mul_le_mul_right a (show 1 ≤ 2 * a by omega)
    omega
  intro i j hi hj
  unfold red
  split
  · exact Nat.le_trans (hb k j hk hj) e1
  · split
    · simp
    · exact diff_bd (hb i j hi hj) (hb k k hk hk) (hb i k hi hk) (hb k j hk hj) l
/-- All entries are 0 or 1. -/
def Bits (f : Nat → Nat → Int) (n : Nat) : Prop := ∀ i j, i < n → j < n → f i j = 0 ∨ f i j = 1
/-- After the first column all entries are still small. -/
theorem red_bits {n p : Nat} {f : Nat → Nat → Int} (hf : Bits f n) (hn : 0 < n) (hp : p < n) (hne : swapM f 0 p 0 0 ≠ 0) : BdA 1 (red (swapM f 0 p) 0 1) n := by
  have hs : ∃ s : Int, (s = 1 ∨ s = -1) ∧ (∀ j, j < n → swapM f 0 p 0 j = 0 ∨ swapM f 0 p 0 j = s) ∧ ∀ i j, i < n → j < n → i ≠ 0 → swapM f 0 p i j = 0 ∨ swapM f 0 p i j = 1 := by
    unfold swapM
    split
    · exact ⟨1, .inl rfl, fun j hj => hf 0 j hn hj, fun i j hi hj _ => hf i j hi hj⟩
    · refine ⟨-1, .inr rfl, fun j hj => ?_, fun i j hi hj h0 => ?_⟩
      · dsimp only
        rw [if_pos rfl]
        rcases hf p j hp hj with e | e <;> rw [e]
        · exact .inl rfl
        · exact .inr rfl
      · dsimp only
        rw [if_neg h0]
        split
        · exact hf 0 j hn hj
        · exact hf i j hi hj
  obtain ⟨s, hs1, hs2, hs3⟩ := hs
  have h00 : swapM f 0 p 0 0 = s := by
    rcases hs2 0 hn with e | e
    · exact absurd e hne
    · exact e
  intro i j hi hj
  unfold red
  by_cases e : i = 0
  · subst e
    rw [if_pos rfl]
    rcases hs2 j hj with e | e <;> rcases hs1 with e1 | e1 <;> rw [e] <;> simp [e1]
  · rw [if_neg e]
    split
    · simp
    · rw [Int.tdiv_one, h00]
      rcases hs2 j hj with e1 | e1 <;> rcases hs1 with e2 | e2 <;> rcases hs3 i j hi hj e with e3 | e3 <;> rcases hs3 i 0 hi hn e with e4 | e4 <;> rw [e1, e3, e4] <;> simp [e2]
/-- What holds after so many columns. -/
def bdS : Nat → Nat
  | 0 => 1
  | 1 => 1
  | 2 => 2
  | 3 => 8
  | _ => 128
structure StA (f h : Nat → Nat → Int) (l : Int) (n k : Nat) : Prop where
  nz : l ≠ 0
  crs : Crs l h n
  dgl : Dgl h l n k
  bd : BdA (bdS k) h n
  hom : ∀ y, Hom h n y ↔ Hom f n y
  lb : l.natAbs ≤ 8
theorem natAbs_one {x : Int} (h : x.natAbs ≤ 1) (h0 : x ≠ 0) : x = 1 ∨ x = -1 := by omega
theorem stA {f : Nat → Nat → Int} {n : Nat} (hf : Bits f n) (hn : n ≤ 4) : ∀ k h l, k ≤ n → slvTo f n k = some (h, l) → ((k < 4 → StA f h l n k) ∧ l ≠ 0 ∧ Dgl h l n k ∧ (∀ y, Hom h n y ↔ Hom f n y) ∧ l.natAbs ≤ 8) ∧ (k ≤ 2 → l = 1 ∨ l = -1) ∧ (k = 0 → h = f) := by
  intro k
  induction k with
  | zero =>
    intro h l _ e
    simp only [slvTo, Option.some.injEq, Prod.mk.injEq] at e
    obtain ⟨rfl, rfl⟩ := e
    have hd : Dgl f 1 n 0 := fun i j hi hj => by omega
    refine ⟨⟨fun _ => ⟨by decide, crs_unit (.inl rfl), hd, fun i j hi hj => ?_, fun y => Iff.rfl, by decide⟩, by decide, hd, fun y => Iff.rfl, by decide⟩, fun _ => .inl rfl, fun _ => rfl⟩
    rcases hf i j hi hj with e | e <;> rw [e] <;> decide
  | succ k ih =>
    intro h l hk e
    rw [slvTo] at e
    cases hs : slvTo f n k with
    | none => rw [hs] at e; cases e
    | some q =>
      obtain ⟨g, m⟩ := q
      rw [hs] at e
      simp only at e
      obtain ⟨⟨hst, _⟩, hu, h0⟩ := ih g m (by omega) hs
      have st := hst (by omega)
      have hpl := piv_le (h := g) (n := n) (k := k) (by omega)
      by_cases hp : piv g n k = n
      · rw [if_pos hp] at e; cases e
      · rw [if_neg hp] at e
        injection e with e
        injection e with e1 e2
        have hpn : piv g n k < n := by omega
        have hpz : swapM g k (piv g n k) k k ≠ 0 := swapM_piv (by omega) hpn
        have hc := crs_swap (show k < n by omega) hpn st.crs
        have hd := dgl_red (show k < n by omega) st.nz (dgl_swap hpl.1 hpn st.dgl)
        have hh : ∀ y, Hom (red (swapM g k (piv g n k)) k m) n y ↔ Hom f n y := fun y => by
          rw [hom_red (by omega) st.nz hpz hc, hom_swap (by omega) hpn, st.hom]
        have hbs := swap_bdA st.bd (show k < n by omega) hpn
        have hlb : (swapM g k (piv g n k) k k).natAbs ≤ bdS k := hbs k k (by omega) (by omega)
        have hl8 : bdS k ≤ 8 := by
          have : k = 0 ∨ k = 1 ∨ k = 2 ∨ k = 3 := by omega
          rcases this with rfl | rfl | rfl | rfl <;> decide
        have hu2 : k ≤ 1 → swapM g k (piv g n k) k k = 1 ∨ swapM g k (piv g n k) k k = -1 := by
          intro hk1
          refine natAbs_one (Nat.le_trans hlb ?_) hpz
          have : k = 0 ∨ k = 1 := by omega
          rcases this with rfl | rfl <;> decide
        rw [← e1, ← e2]
        refine ⟨⟨fun hk4 => ⟨hpz, ?_, hd, ?_, hh, by omega⟩, hpz, hd, hh, by omega⟩, fun hk2 => hu2 (by omega), fun h => by omega⟩
        · by_cases hk1 : k ≤ 1
          · exact crs_unit (hu2 hk1)
          · exact crs_red (hu (by omega)) (by omega)
        · by_cases hk0 : k = 0
          · subst hk0
            have hg := h0 rfl
            subst hg
            simp only [slvTo, Option.some.injEq, Prod.mk.injEq] at hs
            rw [← hs.2]
            exact red_bits hf (by omega) hpn hpz
          · have hb := red_bdA (show 1 ≤ bdS k by
              have : k = 1 ∨ k = 2 := by omega
              rcases this with rfl | rfl <;> decide) hbs (show k < n by omega) m
            have : k = 1 ∨ k = 2 := by omega
            rcases this with rfl | rfl <;> exact hb
theorem slv_some {f h : Nat → Nat → Int} {n : Nat} {l : Int} (hf : Bits f n) (hn : n ≤ 4) (e : slvTo f n n = some (h, l)) : l ≠ 0 ∧ l.natAbs ≤ 8 ∧ ∀ y, Hom f n y ↔ ∀ i, i < n → (l : Rat) * y i + (h i n : Rat) * y n = 0 := by
  obtain ⟨⟨_, h1, h2, h3, h4⟩, _⟩ := stA hf hn n h l (Nat.le_refl _) e
  refine ⟨h1, h4, fun y => ?_⟩
  rw [← h3 y]
  have key : ∀ i, i < n → sumQ (fun j => (h i j : Rat) * y j) (n + 1) = (l : Rat) * y i + (h i n : Rat) * y n := by
    intro i hi
    rw [sumQ]
    congr 1
    rw [sumQ_one hi (fun j hj hne => by rw [h2 i j hi hj, if_neg (fun e => hne e.symm)]; simp)]
    rw [h2 i i hi hi, if_pos rfl]
  constructor
  · intro H i hi
    rw [← key i hi]; exact H i hi
  · intro H i hi
    rw [key i hi]; exact H i hi
theorem slv_none {f : Nat → Nat → Int} {n : Nat} (hf : Bits f n) (hn : n ≤ 4) (e : slvTo f n n = none) : ∃ y, Hom f n y ∧ y n = 0 ∧ ∃ j, j < n ∧ y j ≠ 0 := by
  have key : ∀ k, k ≤ n → slvTo f n k = none → ∃ y, Hom f n y ∧ y n = 0 ∧ ∃ j, j < n ∧ y j ≠ 0 := by
    intro k
    induction k with
    | zero => intro _ e; cases e
    | succ k ih =>
      intro hk e
      rw [slvTo] at e
      cases hs : slvTo f n k with
      | none => exact ih (by omega) hs
      | some q =>
        obtain ⟨g, m⟩ := q
        rw [hs] at e
        simp only at e
        by_cases hp : piv g n k = n
        · obtain ⟨⟨_, h1, h2, h3, _⟩, _⟩ := stA hf hn k g m (by omega) hs
          have hz : ∀ r, k ≤ r → r < n → g r k = 0 := by
            intro r hr1 hr2
            have aux : ∀ d p, p + d = n → pivA g k d p = n → ∀ r, p ≤ r → r < n → g r k = 0 := by
              intro d
              induction d with
              | zero => intro p h _ r h1 h2; omega
              | succ d ih =>
                intro p hpd hpv r h1 h2
                rw [pivA] at hpv
                by_cases e0 : g p k = 0
                · rw [if_pos e0] at hpv
                  by_cases e1 : r = p
                  · rw [e1]; exact e0
                  · exact ih (p + 1) (by omega) hpv r (by omega) h2
                · rw [if_neg e0] at hpv; omega
            exact aux (n - k) k (by omega) hp r hr1 hr2
          refine ⟨fun j => if j < k then -((g j k : Int) : Rat) else if j = k then (m : Rat) else 0, ?_, ?_, k, by omega, ?_⟩
          · rw [← h3]
            intro i hi
            by_cases hik : i < k
            · have e1 := sumQ_skip (fun j => (g i j : Rat) * (if j < k then -((g j k : Int) : Rat) else if j = k then (m : Rat) else 0)) k n (by omega)
              rw [e1]
              simp only [Nat.lt_irrefl, if_false, if_true]
              rw [sumQ_one (k := i) (by omega) (fun j hj hne => ?_)]
              · unfold skip
                rw [if_pos hik, if_pos hik, h2 i i hi hik, if_pos rfl]
                grind
              · unfold skip
                by_cases hjk : j < k
                · rw [if_pos hjk, if_pos hjk, h2 i j hi hjk, if_neg (fun e => hne e.symm)]; simp
                · rw [if_neg hjk, if_neg (by omega), if_neg (by omega)]; simp
            · refine sumQ_zero fun j hj => ?_
              by_cases hjk : j < k
              · rw [h2 i j hi hjk, if_neg (by omega)]; simp
              · by_cases hjk2 : j = k
                · rw [hjk2, hz i (by omega) hi]; simp
                · show (g i j : Rat) * (if j < k then -((g j k : Int) : Rat) else if j = k then (m : Rat) else 0) = 0
                  rw [if_neg hjk, if_neg hjk2]; simp
          · dsimp only
            rw [if_neg (by omega), if_neg (by omega)]
          · dsimp only
            rw [if_neg (by omega), if_pos rfl]
            simpa using h1
        · rw [if_neg hp] at e; cases e
  exact key n (Nat.le_refl _) e

/- Contract: slices.Clone of ints. -/

theorem info_int : (Tryd.prog.info? 3).map (fun i => (i.zero, i.size, i.bytes)) = some (some (.int .i64 0), 1, 8) := by kernel_rfl

theorem ints_one (xs : List Int) : ∀ u ∈ xs.map (Value.int .i64), u.oneCell' = true := ints_oneCell _ _

/-- A value that the call owns, as a slice. -/
theorem own_form {w : World} {base e size n : Nat} {v : Value} {xs : List Value} (h : w.ownsRow base e size v n xs) : ∃ A c, v = .slice A n c ∧ n ≤ c ∧ c ≤ 9223372036854775807 ∧ (A = none → n = 0 ∧ c = 0) := by
  rcases h.2 with ⟨rfl, rfl⟩ | ⟨g, cap, cur, rfl, _, _, h1, h2, _⟩
  · exact ⟨none, 0, rfl, by omega, by omega, fun _ => ⟨rfl, rfl⟩⟩
  · exact ⟨_, cap, rfl, h1, by unfold maxLen at h2; omega, fun h => by cases h⟩

set_option maxHeartbeats 400000 in
theorem clone_any (A : Option Addr) (n cap : Nat) (xs : List Int) (w : World) (hl : xs.length = n) (hm : n ≤ 1000000000) (h : Ints w A xs) :
    Calls Tryd.prog 67 #[.slice A n cap] w fun e w' => ∃ A' c, e = .returned (.slice A' n c) ∧ w'.ownsRow w.heap.size 3 1 (.slice A' n c) n (xs.map (Value.int .i64)) ∧ Below w.heap.size w w' := by
  have qT : ∀ (w : World) (a : Option Addr) (n c n' c' : Nat), (binOp .eql 22 (.slice a n c) (.slice none n' c')).run Tryd.prog w = .ok (.bool a.isNone) w := fun w a n c n' c' => Lib.run_eql_slice_nil w _ _ a n c n' c' Tryd.underlying22
  obtain ⟨i0, hi, hz0, hz1, hz2⟩ := info_parts info_int
  rcases A with _ | ad
  · have h0 : xs = [] := by
      cases xs with
      | nil => rfl
      | cons x l => obtain ⟨ad, e, _⟩ := h 0 (.int .i64 x) rfl; cases e
    subst h0
    obtain rfl : n = 0 := by simpa using hl.symm
    clear h hl
    go_enter Tryd.func67, Tryd.ntmps67
    go_wp2
    go_ret
    exact ⟨none, 0, rfl, World.ownsRow_nil _ _ _ _, Below.refl _ _⟩
  · have HL := Lib.hid hl
    have HC := Lib.hid (At.some2 h)
    clear hl h
    go_enter Tryd.func67, Tryd.ntmps67
    go_wp2_with (at_builtin; refine wpList_append_own _ rfl _ _ 22 rfl w.heap.size 3 i0 (.int .i64 0) 1 8 Tryd.underlying22 hi hz0 hz1 hz2 rfl (by decide) _ 0 [] rfl (World.ownsRow_made w #[] 0 (Nat.le_refl _) (by decide) rfl) ad n cap (xs.map (Value.int .i64)) rfl ?c1 ?c2 ?c3 ?c4 ?c5 ?c6 ?_)
    case c1 => simpa using HL.out
    case c2 => exact At.new HC.out
    case c3 => exact ints_one xs
    case c4 => unfold maxLen; omega
    case c5 => omega
    case c6 => go_size
    intro v' w1 hown hgrow _
    obtain ⟨A', c, rfl, _⟩ := own_form hown
    go_wp2
    go_ret
    refine ⟨A', c, by simp, by simpa using hown, ?_⟩
    exact (((Below.refl _ _).alloc (Nat.le_refl _) _)).grown hgrow (by go_size) (by intro k hk; simp [Value.ownBlock] at hk; omega)

theorem Ints.take {w : World} {A : Option Addr} {xs : List Int} (h : Ints w A xs) (k : Nat) : Ints w A (xs.take k) := by
  intro i v hv
  refine h i v ?_
  rw [List.map_take] at hv
  rw [List.getElem?_take] at hv
  split at hv
  · exact hv
  · cases hv

/- Appending one element to a slice that the call owns, as one law for every element type. -/

/-- A slice type of the program: its element's type, zero value, cells and bytes. -/
structure STy (T e : TypeId) (z : Value) (size bytes : Nat) : Prop where
  ht : Tryd.prog.underlying T = some (.slice e)
  inf : (Tryd.prog.info? e).map (fun i => (i.zero, i.size, i.bytes)) = some (some z, size, bytes)
  hzs : z.cells.size = size
  hsz : 0 < size
  hby : bytes ≤ 100

theorem sty_int : STy 22 3 (.int .i64 0) 1 8 := ⟨Tryd.underlying22, info_int, rfl, by decide, by decide⟩

/-- What is owned stays owned while older or other blocks turn, and under a smaller base. -/
theorem own_mono {w : World} {base base' e size n : Nat} {v : Value} {xs : List Value} (h : w.ownsRow base e size v n xs) (hb : base' ≤ base) : w.ownsRow base' e size v n xs := by
  obtain ⟨h1, h2⟩ := h
  refine ⟨h1, ?_⟩
  rcases h2 with h2 | ⟨g, cap, cur, hv, a1, a3⟩
  · exact .inl h2
  · exact .inr ⟨g, cap, cur, hv, by omega, a3⟩
theorem own_below {w w' : World} {base e size n : Nat} {v : Value} {xs : List Value} (h : w.ownsRow base e size v n xs) (hb : Below w.heap.size w w') : w'.ownsRow base e size v n xs := by
  obtain ⟨h1, h2⟩ := h
  refine ⟨h1, ?_⟩
  rcases h2 with h2 | ⟨g, cap, cur, hv, a1, a2, a3⟩
  · exact .inl h2
  · exact .inr ⟨g, cap, cur, hv, a1, (hb.block g (lt_of_block a2)).trans a2, a3⟩

theorem own_some {w : World} {base e n c : Nat} {A : Option Addr} {xs : List Value} (h : w.ownsRow base e 1 (.slice A n c) n xs) (hn : 0 < n) : ∃ g, A = some ⟨g, 0, none⟩ ∧ base ≤ g ∧ g < w.heap.size := by
  rcases h.2 with ⟨_, h⟩ | ⟨g, cap, cur, hv, h1, h2, _⟩
  · omega
  · injection hv with e1
    exact ⟨g, e1, h1, lt_of_block h2⟩

theorem wp_app1 {T e : TypeId} {z : Value} {size bytes : Nat} (ty : STy T e z size bytes) {o : Oper} {a : Act} {K : Act → World → Prop} {Q : Exit → Act → World → Prop} {w : World}
    (s x : Operand) (ho : o.op = .call { callee := .builtin .append, args := #[s, x], argTypes := #[T, T] })
    (base : Nat) (A : Option Addr) (n k : Nat) (xs : List Value) (cs : Array Value) (hcs : cs.size = size) (h1 : ∀ u ∈ cs.toList, u.oneCell' = true)
    (hs : a.eval s = .slice A n k) (hown : w.ownsRow base e size (.slice A n k) n xs) (hx : a.eval x = .slice (some ⟨w.heap.size, 0, none⟩) 1 1)
    (hn : n ≤ 1000000) (hb : base ≤ w.heap.size)
    (h : ∀ (A' : Option Addr) (k' : Nat) (w' : World), w'.ownsRow base e size (.slice A' (n + 1) k') (n + 1) (xs ++ cs.toList) → w.grownBy w' (Value.slice A n k).ownBlock → Below base w w' → n + 1 ≤ k' → k' ≤ 9223372036854775807 →
      K (a.put o.dst (.slice A' (n + 1) k')) w') : o.wp Tryd.prog a (w.alloc (.cells cs e)) K Q := by
  obtain ⟨i0, hi, hz0, hz1, hz2⟩ := info_parts ty.inf
  refine wp_append_own _ s x T ho base e i0 z size bytes ty.ht hi hz0 hz1 hz2 ty.hzs ty.hsz _ n xs hs (hown.alloc _) ⟨w.heap.size, 0, none⟩ 1 1 cs.toList hx (by simpa using hcs) ?_ h1 (by unfold maxLen; omega) ?_ (by go_size) ?_
  · intro j u hu
    have hB := (Blk.new w e cs rfl).at_
    exact (At.some2 hB) j u hu
  · have h2 := ty.hby
    calc (n + 1) * bytes ≤ 1000001 * 100 := Nat.mul_le_mul (by omega) h2
      _ ≤ _ := by decide
  · intro v' w' hown' hg hv
    obtain ⟨A', k', rfl, hk, hk', _⟩ := own_form hown'
    have hg' : w.grownBy w' (Value.slice A n k).ownBlock :=
      ⟨hg.os, hg.tape, hg.output, Nat.le_trans (by simp) hg.size, fun b hb hne => (hg.block b (Nat.lt_of_lt_of_le hb (by simp)) hne).trans (Below.heap_alloc w _ b hb)⟩
    refine h A' k' w' hown' hg' ?_ hk hk'
    refine ⟨hg'.os, hg'.tape, hg'.output, hg'.size, fun b hb' => hg'.block b (by omega) fun he => ?_⟩
    have := (hown.lt b he.symm).1
    omega

theorem app1 {T e : TypeId} {z : Value} {size bytes : Nat} (ty : STy T e z size bytes) {ops : Array Oper} {rest : List Oper} {o : Oper} {a : Act} {Q : Exit → Act → World → Prop} {w : World}
    (hgd : o.guard = none) (s x : Operand) (ho : o.op = .call { callee := .builtin .append, args := #[s, x], argTypes := #[T, T] })
    (base : Nat) (A : Option Addr) (n k : Nat) (xs : List Value) (cs : Array Value) (hcs : cs.size = size) (h1 : ∀ u ∈ cs.toList, u.oneCell' = true)
    (hs : a.eval s = .slice A n k) (hown : w.ownsRow base e size (.slice A n k) n xs) (hx : a.eval x = .slice (some ⟨w.heap.size, 0, none⟩) 1 1)
    (hn : n ≤ 1000000) (hb : base ≤ w.heap.size)
    (h : ∀ (A' : Option Addr) (k' : Nat) (w' : World), w'.ownsRow base e size (.slice A' (n + 1) k') (n + 1) (xs ++ cs.toList) → w.grownBy w' (Value.slice A n k).ownBlock → Below base w w' → n + 1 ≤ k' → k' ≤ 9223372036854775807 →
      wpList Tryd.prog ops Q rest (a.put o.dst (.slice A' (n + 1) k')) w') : wpList Tryd.prog ops Q (o :: rest) a (w.alloc (.cells cs e)) :=
  wpList_plain hgd fun _ hK => wp_app1 ty s x ho base A n k xs cs hcs h1 hs hown hx hn hb fun A' k' w' a1 a2 a3 a4 a5 => hK _ _ (h A' k' w' a1 a2 a3 a4 a5)

/-- The same as one step of a region that draws its order. -/
theorem step_app1 {T e : TypeId} {z : Value} {size bytes : Nat} (ty : STy T e z size bytes) {ops : Array Oper} {o : Oper} {a : Act} {K : Act → World → Prop} {Q : Exit → Act → World → Prop} {E : Prop} {w : World}
    (hgd : o.guard = none) (s x : Operand) (ho : o.op = .call { callee := .builtin .append, args := #[s, x], argTypes := #[T, T] })
    (base : Nat) (A : Option Addr) (n k : Nat) (xs : List Value) (cs : Array Value) (hcs : cs.size = size) (h1 : ∀ u ∈ cs.toList, u.oneCell' = true)
    (hs : a.eval s = .slice A n k) (hown : w.ownsRow base e size (.slice A n k) n xs) (hx : a.eval x = .slice (some ⟨w.heap.size, 0, none⟩) 1 1)
    (hn : n ≤ 1000000) (hb : base ≤ w.heap.size)
    (h : ∀ (A' : Option Addr) (k' : Nat) (w' : World), w'.ownsRow base e size (.slice A' (n + 1) k') (n + 1) (xs ++ cs.toList) → w.grownBy w' (Value.slice A n k).ownBlock → Below base w w' → n + 1 ≤ k' → k' ≤ 9223372036854775807 →
      K (a.put o.dst (.slice A' (n + 1) k')) w') : if Region.wanted o (yielded ops a.tmps) = true then Oper.wp Tryd.prog o a (w.alloc (.cells cs e)) K Q else E := by
  have hw : Region.wanted o (yielded ops a.tmps) = true := by simp [Region.wanted, hgd]
  rw [if_pos hw]
  exact wp_app1 ty s x ho base A n k xs cs hcs h1 hs hown hx hn hb h

/- More laws of append: one element to a slice without room that need not be owned (always a new row), and many elements to an owned one. -/

theorem run_fresh {T e : TypeId} {z : Value} {size bytes : Nat} (ty : STy T e z size bytes) (rt : TypeId) (w : World) (A : Option Addr) (n : Nat) (olds : List Value) (hlo : olds.length = n * size) (hA : At w A olds) (h0 : A = none → n = 0)
    (a : Addr) (m c : Nat) (news : List Value) (hl : news.length = m * size) (hnews : ∀ j u, news[j]? = some u → w.cell? (a.add j) = some u) (hm : 0 < m) (hn : n + m ≤ 1000000) (hd : n ≠ 0 → ∃ ad, A = some ad) :
    ∃ (k' : Nat) (w' : World), (Builtin.append_ #[T, T] rt #[.slice A n n, .slice (some a) m c]).run Tryd.prog w = .ok (.slice (some ⟨w.heap.size, 0, none⟩) (n + m) k') w' ∧
      w'.ownsRow w.heap.size e size (.slice (some ⟨w.heap.size, 0, none⟩) (n + m) k') (n + m) (olds ++ news) ∧ Below w.heap.size w w' ∧ n + m ≤ k' ∧ k' ≤ 9223372036854775807 := by
  obtain ⟨i, hi, hz0, hz1, hz2⟩ := info_parts ty.inf
  subst hz1
  subst hz2
  have hlen : (olds ++ news).length = (n + m) * i.size := by rw [List.length_append, hlo, hl, Nat.add_mul]
  have hby := ty.hby
  have hbytes : (n + m) * i.bytes ≤ 140737488355328 := by
    calc (n + m) * i.bytes ≤ 1000000 * 100 := Nat.mul_le_mul hn hby
      _ ≤ _ := by decide
  have grown : ∀ (old : Nat), old < n + m →
      (w.drew.alloc (.cells (olds.toArray ++ news.toArray ++ Builtin.zeroCells z.cells (grownCap w (n + m) old e - (n + m))) e)).ownsRow w.heap.size e i.size
        (.slice (some ⟨w.heap.size, 0, none⟩) (n + m) (grownCap w (n + m) old e)) (n + m) (olds ++ news) ∧
      Below w.heap.size w (w.drew.alloc (.cells (olds.toArray ++ news.toArray ++ Builtin.zeroCells z.cells (grownCap w (n + m) old e - (n + m))) e)) ∧ n + m ≤ grownCap w (n + m) old e ∧ grownCap w (n + m) old e ≤ 9223372036854775807 := by
    intro old ho
    have hge := grownCap_ge w (n + m) old e
    have hcm : grownCap w (n + m) old e ≤ maxLen := grownCap_le_maxLen w (n + m) old e (by unfold maxLen; omega)
    refine ⟨⟨hlen, .inr ⟨w.heap.size, _, _, rfl, Nat.le_refl _, heap_alloc_new w.drew _, hge, hcm, ?_, ?_⟩⟩, ((Below.refl _ _).drew).alloc (by simp) _, hge, by unfold maxLen at hcm; omega⟩
    · simp only [Array.size_append, List.size_toArray, size_zeroCells, ty.hzs, hlo, hl, ← Nat.add_mul]
      rw [Nat.add_sub_cancel' hge]
    · simp only [Array.toList_append, List.append_assoc]
      rw [← List.append_assoc, ← hlen]
      exact List.take_left
  cases A with
  | none =>
    obtain rfl : n = 0 := h0 rfl
    have hx : olds = [] := List.eq_nil_of_length_eq_zero (by simpa using hlo)
    subst hx
    have hr := run_append_nil (P := Tryd.prog) w T rt e i z ty.ht hi hz0 a m c news hl hnews hm (by omega) (by have hb := hbytes; simp only [Nat.zero_add] at hb; omega)
    have hgr := grown 0 (by omega)
    simp only [Nat.zero_add, List.nil_append, Array.empty_append] at hgr ⊢
    exact ⟨_, _, hr, hgr⟩
  | some b =>
    have hr := run_append_grow (P := Tryd.prog) w T rt e i z ty.ht hi hz0 b n n olds hlo (At.some2 hA) a m c news hl hnews (by omega) (by omega) (growslice_fits (by omega) hbytes)
    exact ⟨_, _, hr, grown n (by omega)⟩

theorem wp_fresh {T e : TypeId} {z : Value} {size bytes : Nat} (ty : STy T e z size bytes) {o : Oper} {a : Act} {K : Act → World → Prop} {Q : Exit → Act → World → Prop} {w : World}
    (s x : Operand) (ho : o.op = .call { callee := .builtin .append, args := #[s, x], argTypes := #[T, T] })
    (A : Option Addr) (n : Nat) (olds : List Value) (hlo : olds.length = n * size) (hA : At w A olds) (h0 : A = none → n = 0) (hd : n ≠ 0 → ∃ ad, A = some ad)
    (ad : Addr) (m c : Nat) (news : List Value) (hl : news.length = m * size) (hnews : ∀ j u, news[j]? = some u → w.cell? (ad.add j) = some u)
    (hs : a.eval s = .slice A n n) (hx : a.eval x = .slice (some ad) m c) (hm : 0 < m) (hn : n + m ≤ 1000000)
    (h : ∀ (k' : Nat) (w' : World), w'.ownsRow w.heap.size e size (.slice (some ⟨w.heap.size, 0, none⟩) (n + m) k') (n + m) (olds ++ news) → Below w.heap.size w w' → n + m ≤ k' → k' ≤ 9223372036854775807 →
      K (a.put o.dst (.slice (some ⟨w.heap.size, 0, none⟩) (n + m) k')) w') : o.wp Tryd.prog a w K Q := by
  obtain ⟨k', w', hr, h2, h3, h4, h5⟩ := run_fresh ty o.type w A n olds hlo hA h0 ad m c news hl hnews hm hn hd
  unfold Oper.wp execOp
  simp only [ho, resolve, invoke, builtin, Sem.run_bind, Sem.run_pure, Result.andThen_ok, List.map_toArray, List.map_cons, List.map_nil, hs, hx, hr]
  exact h k' w' h2 h3 h4 h5

/-- Many elements to an owned slice. -/
theorem wp_appN {T e : TypeId} {z : Value} {size bytes : Nat} (ty : STy T e z size bytes) {o : Oper} {a : Act} {K : Act → World → Prop} {Q : Exit → Act → World → Prop} {w : World}
    (s x : Operand) (ho : o.op = .call { callee := .builtin .append, args := #[s, x], argTypes := #[T, T] })
    (base : Nat) (A : Option Addr) (n k : Nat) (xs : List Value)
    (hs : a.eval s = .slice A n k) (hown : w.ownsRow base e size (.slice A n k) n xs)
    (ad : Addr) (m c : Nat) (news : List Value) (hl : news.length = m * size) (hnews : ∀ j u, news[j]? = some u → w.cell? (ad.add j) = some u) (h1 : ∀ u ∈ news, u.oneCell' = true) (hx : a.eval x = .slice (some ad) m c)
    (hn : n + m ≤ 1000000) (hb : base ≤ w.heap.size)
    (h : ∀ (A' : Option Addr) (k' : Nat) (w' : World), w'.ownsRow base e size (.slice A' (n + m) k') (n + m) (xs ++ news) → w.grownBy w' (Value.slice A n k).ownBlock → Below base w w' → n + m ≤ k' → k' ≤ 9223372036854775807 →
      K (a.put o.dst (.slice A' (n + m) k')) w') : o.wp Tryd.prog a w K Q := by
  obtain ⟨i0, hi, hz0, hz1, hz2⟩ := info_parts ty.inf
  refine wp_append_own _ s x T ho base e i0 z size bytes ty.ht hi hz0 hz1 hz2 ty.hzs ty.hsz _ n xs hs hown ad m c news hx hl hnews h1 (by unfold maxLen; omega) ?_ hb ?_
  · have h2 := ty.hby
    calc (n + m) * bytes ≤ 1000000 * 100 := Nat.mul_le_mul (by omega) h2
      _ ≤ _ := by decide
  · intro v' w' hown' hg hv
    obtain ⟨A', k', rfl, hk, hk', _⟩ := own_form hown'
    refine h A' k' w' hown' hg ?_ hk hk'
    refine ⟨hg.os, hg.tape, hg.output, hg.size, fun b hb' => hg.block b (by omega) fun he => ?_⟩
    have := (hown.lt b he.symm).1
    omega

/- What a slice of slices of ints holds. -/

/-- One of the inner slices: it holds ints, and lies where the row that holds the slices cannot. -/
def Row1 (w : World) (b : Nat) (v : Value) (os : List Int) : Prop :=
  ∃ A c, v = .slice A os.length c ∧ os.length ≤ c ∧ c ≤ 9223372036854775807 ∧ Ints w A os ∧ ∀ ad, A = some ad → ad.block < b ∨ ∃ cs f, w.heap[ad.block]? = some (.cells cs 3 f)
def Rows (w : World) (b : Nat) (vs : List Value) (L : List (List Int)) : Prop :=
  vs.length = L.length ∧ ∀ (j : Nat) (os : List Int), L[j]? = some os → ∃ v, vs[j]? = some v ∧ Row1 w b v os

theorem Row1.below {w w' : World} {b : Nat} {v : Value} {os : List Int} (h : Row1 w b v os) (hb : Below w.heap.size w w') : Row1 w' b v os := by
  obtain ⟨A, c, hv, h1, h2, h3, h4⟩ := h
  refine ⟨A, c, hv, h1, h2, h3.below hb, fun ad hA => ?_⟩
  rcases h4 ad hA with h | ⟨cs, f, h⟩
  · exact .inl h
  · exact .inr ⟨cs, f, (hb.block _ (lt_of_block h)).trans h⟩
theorem Row1.mono {w : World} {b b' : Nat} {v : Value} {os : List Int} (h : Row1 w b v os) (hb : b ≤ b') : Row1 w b' v os := by
  obtain ⟨A, c, hv, h1, h2, h3, h4⟩ := h
  refine ⟨A, c, hv, h1, h2, h3, fun ad hA => ?_⟩
  rcases h4 ad hA with h | h
  · exact .inl (by omega)
  · exact .inr h
theorem Row1.of_own {w : World} {base n c : Nat} {A : Option Addr} {os : List Int} (h : w.ownsRow base 3 1 (.slice A n c) n (os.map (Value.int .i64))) (b : Nat) : Row1 w b (.slice A n c) os := by
  obtain ⟨A', c', he, h1, h2, _⟩ := own_form h
  injection he with e1 e2 e3
  subst e1; subst e3
  have hl : os.length = n := by have := h.1; simpa using this
  subst hl
  refine ⟨A, c, rfl, h1, h2, At.of_own h, fun ad hA => .inr ?_⟩
  rcases h.2 with ⟨h0, _⟩ | ⟨g, cap, cur, hv, _, hg, _⟩
  · rw [hA] at h0; cases h0
  · rw [hA] at hv
    injection hv with e1 _ _
    injection e1 with e1
    subst e1
    exact ⟨cur, _, hg⟩
theorem Row1.grown {w w' : World} {b base n : Nat} {v v' : Value} {os : List Int} {xs : List Value} (h : Row1 w b v os) (hown : w.ownsRow base 22 1 v' n xs) (hb : b ≤ base) (hg : w.grownBy w' v'.ownBlock) : Row1 w' b v os := by
  obtain ⟨A, c, hv, h1, h2, h3, h4⟩ := h
  have key : ∀ ad, A = some ad → (ad.block < b ∨ ∃ cs f, w.heap[ad.block]? = some (.cells cs 3 f)) → some ad.block ≠ v'.ownBlock := by
    intro ad hA hc he
    rcases hown.2 with ⟨h0, _⟩ | ⟨g, cap, cur, hv', hbg, hgg, _⟩
    · subst h0; cases he
    · subst hv'
      injection he with he
      rcases hc with hc | ⟨cs, f, hc⟩
      · have : ad.block = g := he
        omega
      · have : ad.block = g := he
        rw [this, hgg] at hc
        injection hc with hc
        injection hc with _ hc _
        exact absurd hc (by decide)
  refine ⟨A, c, hv, h1, h2, ?_, fun ad hA => ?_⟩
  · intro i u hu
    obtain ⟨ad, hA, hcell⟩ := h3 i u hu
    refine ⟨ad, hA, hg.cell hcell ?_⟩
    rw [add_block]
    exact key ad hA (h4 ad hA)
  · rcases h4 ad hA with h | ⟨cs, f, h⟩
    · exact .inl h
    · exact .inr ⟨cs, f, (hg.block _ (lt_of_block h) (key ad hA (h4 ad hA))).trans h⟩
theorem Row1.one {w : World} {b : Nat} {v : Value} {os : List Int} (h : Row1 w b v os) : v.oneCell' = true := by
  obtain ⟨A, c, rfl, _⟩ := h; rfl

section
variable {w w' : World} {b b' : Nat} {vs vs' : List Value} {L L' : List (List Int)}
theorem Rows.nil : Rows w b [] [] := ⟨rfl, fun j os h => by simp at h⟩
theorem Rows.below (h : Rows w b vs L) (hb : Below w.heap.size w w') : Rows w' b vs L :=
  ⟨h.1, fun j os hj => by obtain ⟨v, hv, hr⟩ := h.2 j os hj; exact ⟨v, hv, hr.below hb⟩⟩
theorem Rows.mono (h : Rows w b vs L) (hb : b ≤ b') : Rows w b' vs L :=
  ⟨h.1, fun j os hj => by obtain ⟨v, hv, hr⟩ := h.2 j os hj; exact ⟨v, hv, hr.mono hb⟩⟩
theorem Rows.grown {base n : Nat} {v' : Value} {xs : List Value} (h : Rows w b vs L) (hown : w.ownsRow base 22 1 v' n xs) (hb : b ≤ base) (hg : w.grownBy w' v'.ownBlock) : Rows w' b vs L :=
  ⟨h.1, fun j os hj => by obtain ⟨v, hv, hr⟩ := h.2 j os hj; exact ⟨v, hv, hr.grown hown hb hg⟩⟩
theorem Rows.append (h : Rows w b vs L) (h' : Rows w b vs' L') : Rows w b (vs ++ vs') (L ++ L') := by
  refine ⟨by rw [List.length_append, List.length_append, h.1, h'.1], fun j os hj => ?_⟩
  by_cases hlt : j < L.length
  · rw [List.getElem?_append_left hlt] at hj
    rw [List.getElem?_append_left (by rw [h.1]; exact hlt)]
    exact h.2 j os hj
  · rw [List.getElem?_append_right (by omega)] at hj
    rw [List.getElem?_append_right (by rw [h.1]; omega), h.1]
    exact h'.2 _ os hj
theorem Rows.one_ {v : Value} {os : List Int} (h : Row1 w b v os) : Rows w b [v] [os] :=
  ⟨rfl, fun j x hj => by cases j with
    | zero => simp at hj; subst hj; exact ⟨v, rfl, h⟩
    | succ j => simp at hj⟩
theorem Rows.one (h : Rows w b vs L) : ∀ u ∈ vs, u.oneCell' = true := by
  intro u hu
  obtain ⟨j, hj⟩ := List.getElem?_of_mem hu
  have hlt : j < L.length := by have := (List.getElem?_eq_some_iff.1 hj).1; have := h.1; omega
  obtain ⟨v, hv, hr⟩ := h.2 j _ (List.getElem?_eq_getElem hlt)
  rw [hj] at hv
  injection hv with hv
  subst hv
  exact hr.one
end

theorem info_ints : (Tryd.prog.info? 22).map (fun i => (i.zero, i.size, i.bytes)) = some (some (.slice none 0 0), 1, 24) := by kernel_rfl
theorem sty_intss : STy 47 22 (.slice none 0 0) 1 24 := ⟨Tryd.underlying47, info_ints, rfl, by decide, by decide⟩

/- Rows of ints that a call owns and may write. No program. -/

/-- Rows of ints that the call owns, each in a later block than those before it. -/
def ORows (w : World) (base : Nat) (vs : List Value) (L : List (List Int)) : Prop :=
  vs.length = L.length ∧ (∀ (j : Nat) (os : List Int), L[j]? = some os → ∃ A c, vs[j]? = some (.slice A os.length c) ∧ w.ownsRow base 3 1 (.slice A os.length c) os.length (os.map (Value.int .i64))) ∧
  ∀ (i j : Nat) (a b : Addr) (n c n' c' : Nat), i < j → vs[i]? = some (.slice (some a) n c) → vs[j]? = some (.slice (some b) n' c') → a.block < b.block

theorem own_ne {w : World} {base base' n n' : Nat} {v v' : Value} {xs ys : List Value} (h : w.ownsRow base 3 1 v n xs) (h' : w.ownsRow base' 22 1 v' n' ys) (hs : v.ownBlock.isSome) : v.ownBlock ≠ v'.ownBlock := by
  intro he
  rcases h.2 with ⟨h0, _⟩ | ⟨g, cap, cur, hv, _, hg, _⟩
  · subst h0; cases hs
  · rcases h'.2 with ⟨h0, _⟩ | ⟨g', cap', cur', hv', _, hg', _⟩
    · subst h0; subst hv; cases he
    · subst hv; subst hv'
      injection he with he
      have : g = g' := he
      subst this
      rw [hg] at hg'
      injection hg' with h1
      injection h1 with _ h1 _
      exact absurd h1 (by decide)
theorem own_grown_ne {w w' : World} {base base' n n' : Nat} {v v' : Value} {xs ys : List Value} (h : w.ownsRow base 3 1 v n xs) (h' : w.ownsRow base' 22 1 v' n' ys) (hg : w.grownBy w' v'.ownBlock) : w'.ownsRow base 3 1 v n xs := by
  refine ⟨h.1, ?_⟩
  rcases h.2 with h0 | ⟨g, cap, cur, hv, a1, a2, a3⟩
  · exact .inl h0
  · refine .inr ⟨g, cap, cur, hv, a1, ?_, a3⟩
    have hne := own_ne h h' (by rw [hv]; rfl)
    rw [hv] at hne
    exact (hg.block g (lt_of_block a2) hne).trans a2
section
variable {w w' : World} {base : Nat} {vs : List Value} {L : List (List Int)}
theorem ORows.nil (w : World) (base : Nat) : ORows w base [] [] := ⟨rfl, fun j os h => by simp at h, fun i j a b n c n' c' _ h => by simp at h⟩
theorem ORows.below (h : ORows w base vs L) (hb : Below w.heap.size w w') : ORows w' base vs L :=
  ⟨h.1, fun j os hj => by obtain ⟨A, c, h1, h2⟩ := h.2.1 j os hj; exact ⟨A, c, h1, own_below h2 hb⟩, h.2.2⟩
theorem ORows.grown {base' n : Nat} {v' : Value} {xs : List Value} (h : ORows w base vs L) (hown : w.ownsRow base' 22 1 v' n xs) (hg : w.grownBy w' v'.ownBlock) : ORows w' base vs L :=
  ⟨h.1, fun j os hj => by obtain ⟨A, c, h1, h2⟩ := h.2.1 j os hj; exact ⟨A, c, h1, own_grown_ne h2 hown hg⟩, h.2.2⟩
theorem ORows.lt (h : ORows w base vs L) : ∀ (i : Nat) (a : Addr) (n c : Nat), vs[i]? = some (.slice (some a) n c) → a.block < w.heap.size := by
  intro i a n c hi
  have hil : i < L.length := by rw [← h.1]; exact (List.getElem?_eq_some_iff.1 hi).1
  obtain ⟨A, c', h1, h2⟩ := h.2.1 i _ (List.getElem?_eq_getElem hil)
  rw [h1] at hi
  injection hi with hi
  injection hi with e1 _ _
  subst e1
  rcases h2.2 with ⟨h0, _⟩ | ⟨g, cap, cur, hv, _, hg, _⟩
  · cases h0
  · injection hv with e1 _ _
    injection e1 with e1
    subst e1
    exact lt_of_block hg
theorem ORows.snoc {w2 : World} {b2 : Nat} {A : Option Addr} {c : Nat} {os : List Int} (h : ORows w2 base vs L) (hb : base ≤ b2) (hown : w2.ownsRow b2 3 1 (.slice A os.length c) os.length (os.map (Value.int .i64)))
    (hlt : ∀ (i : Nat) (a : Addr) (n c : Nat), vs[i]? = some (.slice (some a) n c) → a.block < b2) : ORows w2 base (vs ++ [.slice A os.length c]) (L ++ [os]) := by
  refine ⟨by simp [h.1], fun j r hj => ?_, fun i j a b n c1 n' c2 hij hi hj => ?_⟩
  · by_cases hl : j < L.length
    · rw [List.getElem?_append_left hl] at hj
      rw [List.getElem?_append_left (by rw [h.1]; exact hl)]
      exact h.2.1 j r hj
    · have hj' : j = L.length := by
        have := (List.getElem?_eq_some_iff.1 hj).1
        simp at this; omega
      subst hj'
      rw [List.getElem?_append_right (Nat.le_refl _)] at hj
      simp at hj
      subst hj
      refine ⟨A, c, by rw [List.getElem?_append_right (by rw [h.1]; exact Nat.le_refl _)]; simp [h.1], hown.1, ?_⟩
      rcases hown.2 with h0 | ⟨g, cap, cur, hv, a1, a2⟩
      · exact .inl h0
      · exact .inr ⟨g, cap, cur, hv, by omega, a2⟩
  · have hjl := (List.getElem?_eq_some_iff.1 hj).1
    simp at hjl
    rw [List.getElem?_append_left (by omega)] at hi
    by_cases hl : j < vs.length
    · rw [List.getElem?_append_left hl] at hj
      exact h.2.2 i j a b n c1 n' c2 hij hi hj
    · have : j = vs.length := by omega
      subst this
      rw [List.getElem?_append_right (Nat.le_refl _)] at hj
      simp at hj
      obtain ⟨e1, e2, e3⟩ := hj
      subst e1
      have h1 := hlt i a n c1 hi
      rcases hown.2 with ⟨h0, _⟩ | ⟨g, cap, cur, hv, a1, _⟩
      · cases h0
      · injection hv with e1 _ _
        injection e1 with e1
        subst e1
        show a.block < g
        omega
theorem ORows.rows (h : ORows w base vs L) : Rows w 0 vs L :=
  ⟨h.1, fun j os hj => by obtain ⟨A, c, h1, h2⟩ := h.2.1 j os hj; exact ⟨_, h1, Row1.of_own h2 0⟩⟩
end

/- Contracts of slices.Min and slices.Max over costs. -/

set_option maxHeartbeats 400000 in
theorem minC_any (A : Option Addr) (n cap : Nat) (xs : List Int) (w : World) (hl : xs.length = n) (hp : 0 < n) (hm : n ≤ 9223372036854775807) (h : Ints w A xs) :
    Calls Tryd.prog 52 #[.slice A n cap] w fun e w' => e = .returned (.int .i64 (lmin xs)) ∧ w = w' := by
  obtain ⟨ad, rfl, hb, hc⟩ := h.some_ (by omega)
  obtain ⟨x0, hx0⟩ : ∃ x, xs[0]? = some x := ⟨_, List.getElem?_eq_getElem (by omega)⟩
  have c0 : w.cell? ad = some (.int .i64 x0) := hc 0 x0 hx0
  have e0 : lmin (xs.take 1) = x0 := by rw [take_succ' hx0]; simp [lmin]
  have HE := Lib.hid e0
  have HC := Lib.hid hc
  have HL := Lib.hid hl
  have HX0 := Lib.hid hx0
  clear hc hl h hb e0 hx0
  go_enter Tryd.func52, Tryd.ntmps52
  go_wp2
  go_loop [3, 4] (fun m i => ∃ k : Nat, 1 ≤ k ∧ k ≤ n ∧ i = .int .i64 k ∧ m = .int .i64 (lmin (xs.take k))) (fun _ i => n - (intOf i).toNat)
  case atStart => exact ⟨1, by omega, by omega, rfl, by rw [HE.out]⟩
  case round =>
    obtain ⟨k, hk1, hk, rfl, rfl⟩ := hrel
    by_cases hlt : k < n
    · obtain ⟨x, hx⟩ : ∃ x, xs[k]? = some x := ⟨_, List.getElem?_eq_getElem (by rw [HL.out]; exact hlt)⟩
      have hcell := HC.out k x hx
      have HT := Lib.hid (lmin_take hx (by omega))
      have HX := Lib.hid hx
      clear hx
      go_wp2
      go_round
      case rel => exact ⟨k + 1, by omega, by omega, by go_num, val_int (by rw [HT.out]; split <;> omega)⟩
      case measure => simp [intOf]; omega
    · have HT : Hid (lmin (xs.take k) = lmin xs) := Lib.hid (by rw [List.take_of_length_le (by rw [HL.out]; omega)])
      go_wp2
      go_ret
      exact ⟨ret_int HT.out, rfl⟩

set_option maxHeartbeats 400000 in
theorem maxC_any (A : Option Addr) (n cap : Nat) (xs : List Int) (w : World) (hl : xs.length = n) (hp : 0 < n) (hm : n ≤ 9223372036854775807) (h : Ints w A xs) :
    Calls Tryd.prog 53 #[.slice A n cap] w fun e w' => e = .returned (.int .i64 (lmax xs)) ∧ w = w' := by
  obtain ⟨ad, rfl, hb, hc⟩ := h.some_ (by omega)
  obtain ⟨x0, hx0⟩ : ∃ x, xs[0]? = some x := ⟨_, List.getElem?_eq_getElem (by omega)⟩
  have c0 : w.cell? ad = some (.int .i64 x0) := hc 0 x0 hx0
  have e0 : lmax (xs.take 1) = x0 := by rw [take_succ' hx0]; simp [lmax]
  have HE := Lib.hid e0
  have HC := Lib.hid hc
  have HL := Lib.hid hl
  have HX0 := Lib.hid hx0
  clear hc hl h hb e0 hx0
  go_enter Tryd.func53, Tryd.ntmps53
  go_wp2
  go_loop [3, 4] (fun m i => ∃ k : Nat, 1 ≤ k ∧ k ≤ n ∧ i = .int .i64 k ∧ m = .int .i64 (lmax (xs.take k))) (fun _ i => n - (intOf i).toNat)
  case atStart => exact ⟨1, by omega, by omega, rfl, by rw [HE.out]⟩
  case round =>
    obtain ⟨k, hk1, hk, rfl, rfl⟩ := hrel
    by_cases hlt : k < n
    · obtain ⟨x, hx⟩ : ∃ x, xs[k]? = some x := ⟨_, List.getElem?_eq_getElem (by rw [HL.out]; exact hlt)⟩
      have hcell := HC.out k x hx
      have HT := Lib.hid (lmax_take hx (by omega))
      have HX := Lib.hid hx
      clear hx
      go_wp2
      go_round
      case rel => exact ⟨k + 1, by omega, by omega, by go_num, val_int (by rw [HT.out]; split <;> omega)⟩
      case measure => simp [intOf]; omega
    · have HT : Hid (lmax (xs.take k) = lmax xs) := Lib.hid (by rw [List.take_of_length_le (by rw [HL.out]; omega)])
      go_wp2
      go_ret
      exact ⟨ret_int HT.out, rfl⟩

/- What valid costs are, as plain Lean; no program. -/

/-- A number from 0 to 1000. -/
def inR (x : Int) : Bool := decide (0 ≤ x) && decide (x ≤ 1000)
/-- Valid costs. -/
def valC (xs : List Int) : Bool := (decide (xs.length = 2) || decide (xs.length = 4) || decide (xs.length = 8) || decide (xs.length = 16)) && (xs.getD 0 1 == 0) && xs.all inR
/-- How many players; 0: the costs are not valid. -/
def plr (xs : List Int) : Nat := if valC xs then (if xs.length = 2 then 1 else if xs.length = 4 then 2 else if xs.length = 8 then 3 else 4) else 0
theorem plr_bad {xs : List Int} (h : valC xs = false) : plr xs = 0 := by simp [plr, h]
theorem valC_len {xs : List Int} (h : xs.length ≠ 2 ∧ xs.length ≠ 4 ∧ xs.length ≠ 8 ∧ xs.length ≠ 16) : valC xs = false := by simp [valC, h]
theorem valC_elem {xs : List Int} {k : Nat} {x : Int} (hx : xs[k]? = some x) (h : inR x = false) : valC xs = false := by
  have : xs.all inR = false := by
    rw [List.all_eq_false]
    exact ⟨x, List.mem_of_getElem? hx, by simp [h]⟩
  simp [valC, this]
theorem valC_head {xs : List Int} {x : Int} (hx : xs[0]? = some x) (h : (x == 0) = false) : valC xs = false := by
  have : xs.getD 0 1 = x := by rw [List.getD_eq_getElem?_getD, hx]; rfl
  simp only [valC, this, h]; simp
theorem valC_ok {xs : List Int} {x : Int} (hl : xs.length = 2 ∨ xs.length = 4 ∨ xs.length = 8 ∨ xs.length = 16) (hx : xs[0]? = some x) (h : (x == 0) = true) (ha : xs.all inR = true) : valC xs = true := by
  have e : xs.getD 0 1 = x := by rw [List.getD_eq_getElem?_getD, hx]; rfl
  simp only [valC, e, h, ha]
  rcases hl with h | h | h | h <;> simp [h]
theorem all_take_succ {xs : List Int} {k : Nat} {x : Int} (hx : xs[k]? = some x) (h : (xs.take k).all inR = true) (hr : inR x = true) : (xs.take (k + 1)).all inR = true := by
  rw [take_succ' hx, List.all_append, h]; simp [hr]
theorem valC_iff {xs : List Int} : valC xs = true ↔ (xs.length = 2 ∨ xs.length = 4 ∨ xs.length = 8 ∨ xs.length = 16) ∧ xs.getD 0 1 = 0 ∧ ∀ x ∈ xs, 0 ≤ x ∧ x ≤ 1000 := by
  simp [valC, inR, and_assoc, or_assoc]
theorem valC_pow {c : List Int} (h : valC c = true) : c.length = 2 ^ plr c ∧ 1 ≤ plr c ∧ plr c ≤ 4 := by
  have h1 := (valC_iff.1 h).1
  unfold plr
  rw [if_pos h]
  rcases h1 with h | h | h | h <;> simp [h]
theorem take18 {xs : List Int} (h : xs.length ≤ 18) : xs.take 18 = xs := List.take_of_length_le h
theorem valC_take (xs : List Int) : valC (xs.take 18) = valC xs := by
  by_cases h : xs.length ≤ 18
  · rw [take18 h]
  · rw [valC_len (xs := xs) (by omega), valC_len (by rw [List.length_take]; omega)]


/- Contracts: valid and players of package games. -/

theorem has_len (n : Nat) : has [2, 4, 8, 16] (n : Int) = (decide (n = 2) || decide (n = 4) || decide (n = 8) || decide (n = 16)) := by
  unfold has
  rw [Bool.eq_iff_iff]
  simp
  omega

set_option maxHeartbeats 800000 in
theorem valid_any (A : Option Addr) (n cap : Nat) (xs : List Int) (w : World) (hl : xs.length = n) (hm : n ≤ 9223372036854775807) (h : Ints w A xs) :
    Calls Tryd.prog 23 #[.slice A n cap] w fun e w' => e = .returned (.bool (valC xs)) ∧ Below w.heap.size w w' := by
  have hI : Ints (w.alloc (.cells #[.int .i64 2, .int .i64 4, .int .i64 8, .int .i64 16] 3)) (some ⟨w.heap.size, 0, none⟩) [2, 4, 8, 16] := Blk.ints (xs := [2, 4, 8, 16]) (Blk.new w 3 _ rfl)
  have hI2 : Ints (w.alloc (.cells #[.int .i64 2, .int .i64 4, .int .i64 8, .int .i64 16] 3)) A xs := h.below ((Below.refl _ _).alloc (Nat.le_refl _) _)
  have HI := Lib.hid hI
  have HI2 := Lib.hid hI2
  have HL := Lib.hid hl
  clear hI hI2
  cases hh : has [2, 4, 8, 16] (n : Int)
  · have HH := Lib.hid hh
    have hv : valC xs = false := valC_len (by rw [has_len] at hh; simp at hh; omega)
    rw [hv]
    clear hh hv hl h
    go_enter Tryd.func23, Tryd.ntmps23
    go_wp2_with fail
    refine (contains_any _ 4 4 [2, 4, 8, 16] n _ rfl (by omega) HI.out).mono ?_
    rintro e w' ⟨rfl, rfl⟩
    rw [HH.out]
    go_wp2
    go_ret
    exact ⟨rfl, (Below.refl _ _).alloc (Nat.le_refl _) _⟩
  · have hn : n = 2 ∨ n = 4 ∨ n = 8 ∨ n = 16 := by rw [has_len] at hh; simp at hh; omega
    obtain ⟨x0, hx0⟩ : ∃ x, xs[0]? = some x := ⟨_, List.getElem?_eq_getElem (by omega)⟩
    obtain ⟨ad, rfl, hb, hc⟩ := h.some_ (by omega)
    have c0 : w.cell? ad = some (.int .i64 x0) := hc 0 x0 hx0
    have c0' : (w.alloc (.cells #[.int .i64 2, .int .i64 4, .int .i64 8, .int .i64 16] 3)).cell? ad = some (.int .i64 x0) := (World.cell?_alloc_lt _ _ _ (lt_of_cell c0)).trans c0
    have hpos : 0 < n := by omega
    have HN := Lib.hid hn
    have HH := Lib.hid hh
    have HX0 := Lib.hid hx0
    have hne : xs ≠ [] := by rintro rfl; simp at hl; omega
    have HNE := Lib.hid hne
    clear hn hh hx0 h hb hc hl hne c0
    cases h0 : (x0 == 0)
    · have HV := Lib.hid (valC_head HX0.out h0)
      rw [HV.out]
      go_enter Tryd.func23, Tryd.ntmps23
      go_wp2_with fail
      refine (contains_any _ 4 4 [2, 4, 8, 16] n _ rfl (by omega) HI.out).mono ?_
      rintro e w' ⟨rfl, rfl⟩
      rw [HH.out]
      go_wp2
      go_ret
      exact ⟨rfl, (Below.refl _ _).alloc (Nat.le_refl _) _⟩
    · by_cases h1 : 0 ≤ lmin xs
      · by_cases h2 : lmax xs ≤ 1000
        · have hv : valC xs = true := valC_ok (by rw [HL.out]; exact HN.out) HX0.out h0 (by
            rw [List.all_eq_true]
            intro x hx
            have a1 := (lmin_ge HNE.out 0).1 h1 x hx
            have a2 := (lmax_le HNE.out 1000).1 h2 x hx
            simp [inR, a1, a2])
          rw [hv]
          clear hv
          go_enter Tryd.func23, Tryd.ntmps23
          go_wp2_with fail
          refine (contains_any _ 4 4 [2, 4, 8, 16] n _ rfl (by omega) HI.out).mono ?_
          rintro e w' ⟨rfl, rfl⟩
          rw [HH.out]
          go_wp2_with fail
          refine (minC_any _ n cap xs _ HL.out hpos hm HI2.out).mono ?_
          rintro e w' ⟨rfl, rfl⟩
          go_wp2_with fail
          refine (maxC_any _ n cap xs _ HL.out hpos hm HI2.out).mono ?_
          rintro e w' ⟨rfl, rfl⟩
          go_wp2
          go_ret
          exact ⟨rfl, (Below.refl _ _).alloc (Nat.le_refl _) _⟩
        · have hv : valC xs = false := by
            rw [← Bool.not_eq_true, valC_iff]
            rintro ⟨_, _, ha⟩
            exact h2 ((lmax_le HNE.out 1000).2 fun x hx => (ha x hx).2)
          rw [hv]
          clear hv
          go_enter Tryd.func23, Tryd.ntmps23
          go_wp2_with fail
          refine (contains_any _ 4 4 [2, 4, 8, 16] n _ rfl (by omega) HI.out).mono ?_
          rintro e w' ⟨rfl, rfl⟩
          rw [HH.out]
          go_wp2_with fail
          refine (minC_any _ n cap xs _ HL.out hpos hm HI2.out).mono ?_
          rintro e w' ⟨rfl, rfl⟩
          go_wp2_with fail
          refine (maxC_any _ n cap xs _ HL.out hpos hm HI2.out).mono ?_
          rintro e w' ⟨rfl, rfl⟩
          go_wp2
          go_ret
          exact ⟨ret_bool (decide_eq_false (by omega)), (Below.refl _ _).alloc (Nat.le_refl _) _⟩
      · have hv : valC xs = false := by
          rw [← Bool.not_eq_true, valC_iff]
          rintro ⟨_, _, ha⟩
          exact h1 ((lmin_ge HNE.out 0).2 fun x hx => (ha x hx).1)
        rw [hv]
        clear hv
        go_enter Tryd.func23, Tryd.ntmps23
        go_wp2_with fail
        refine (contains_any _ 4 4 [2, 4, 8, 16] n _ rfl (by omega) HI.out).mono ?_
        rintro e w' ⟨rfl, rfl⟩
        rw [HH.out]
        go_wp2_with fail
        refine (minC_any _ n cap xs _ HL.out hpos hm HI2.out).mono ?_
        rintro e w' ⟨rfl, rfl⟩
        go_wp2
        go_ret
        exact ⟨rfl, (Below.refl _ _).alloc (Nat.le_refl _) _⟩

/-- players of costs of 2, 4, 8 or 16 numbers. -/
theorem players_any (A : Option Addr) (n k cap : Nat) (w : World) (h : n = 2 ∧ k = 1 ∨ n = 4 ∧ k = 2 ∨ n = 8 ∧ k = 3 ∨ n = 16 ∧ k = 4) :
    Calls Tryd.prog 24 #[.slice A n cap] w fun e w' => e = .returned (.int .i64 k) ∧ w = w' := by
  rcases h with ⟨rfl, rfl⟩ | ⟨rfl, rfl⟩ | ⟨rfl, rfl⟩ | ⟨rfl, rfl⟩
  all_goals
    go_enter Tryd.func24, Tryd.ntmps24
    go_wp2
    refine wp_loop_rounds 6 ?_
    repeat (rw [rounds_succ]; go_wp2)
    go_ret
    exact ⟨rfl, rfl⟩

/- A list of owned rows as a system of equations; contract: row of package games. -/

theorem own_cell {w : World} {base e n c g : Nat} {xs : List Value} (h : w.ownsRow base e 1 (.slice (some ⟨g, 0, none⟩) n c) n xs) {j : Nat} {v : Value} (hv : xs[j]? = some v) : w.cell? ⟨g, j, none⟩ = some v ∧ w.frozen? ⟨g, j, none⟩ = false := by
  refine ⟨?_, ?_⟩
  · have := h.cells (g := g) rfl j v hv
    have e : (⟨g, 0, none⟩ : Addr).add j = ⟨g, j, none⟩ := by cases j <;> simp [Addr.add]
    rwa [e] at this
  · rcases h.2 with ⟨h0, _⟩ | ⟨g', cap, cur, hv', _, hg, _⟩
    · cases h0
    · injection hv' with e1
      injection e1 with e1
      injection e1 with e1
      subst e1
      simp [World.frozen?, hg]

/-- The block and the capacity of a slice value. -/
def blkOf : Value → Nat
  | .slice (some a) _ _ => a.block
  | _ => 0
def capOf : Value → Nat
  | .slice _ _ c => c
  | _ => 0

/-- The entries of rows. -/
def entry (L : List (List Int)) (i j : Nat) : Int := (L.getD i []).getD j 0

theorem mtx_of {w : World} {base g n cap : Nat} {vs : List Value} {L : List (List Int)} (ho : w.ownsRow base 22 1 (.slice (some ⟨g, 0, none⟩) n cap) n vs) (hr : ORows w base vs L) (hL : L.length = n) (hrow : ∀ r ∈ L, r.length = n + 1) :
    ∃ R C, Mtx w g n R C (entry L) ∧ base ≤ g ∧ ∀ i, i < n → base ≤ R i := by
  have key : ∀ i, i < n → ∃ b c, vs[i]? = some (.slice (some ⟨b, 0, none⟩) (n + 1) c) ∧ w.ownsRow base 3 1 (.slice (some ⟨b, 0, none⟩) (n + 1) c) (n + 1) ((L.getD i []).map (Value.int .i64)) ∧ (L.getD i []).length = n + 1 ∧ base ≤ b := by
    intro i hi
    have hLi : L[i]? = some (L.getD i []) := by rw [List.getD_eq_getElem?_getD, List.getElem?_eq_getElem (by omega)]; rfl
    obtain ⟨A, c, h1, h2⟩ := hr.2.1 i _ hLi
    have hlen := hrow _ (List.mem_of_getElem? hLi)
    rw [hlen] at h1 h2
    obtain ⟨b, rfl, hb, _⟩ := own_some h2 (by omega)
    exact ⟨b, c, h1, h2, hlen, hb⟩
  have hval : ∀ i, i < n → vs[i]? = some (.slice (some ⟨blkOf (vs.getD i .nilFunc), 0, none⟩) (n + 1) (capOf (vs.getD i .nilFunc))) := by
    intro i hi
    obtain ⟨b, c, h1, _⟩ := key i hi
    have e : vs.getD i .nilFunc = .slice (some ⟨b, 0, none⟩) (n + 1) c := by rw [List.getD_eq_getElem?_getD, h1]; rfl
    rw [e, h1]; rfl
  have hblk : ∀ i, i < n → w.ownsRow base 3 1 (.slice (some ⟨blkOf (vs.getD i .nilFunc), 0, none⟩) (n + 1) (capOf (vs.getD i .nilFunc))) (n + 1) ((L.getD i []).map (Value.int .i64)) ∧ base ≤ blkOf (vs.getD i .nilFunc) := by
    intro i hi
    obtain ⟨b, c, h1, h2, _, h4⟩ := key i hi
    have e : vs.getD i .nilFunc = .slice (some ⟨b, 0, none⟩) (n + 1) c := by rw [List.getD_eq_getElem?_getD, h1]; rfl
    rw [e]
    exact ⟨h2, h4⟩
  refine ⟨fun i => blkOf (vs.getD i .nilFunc), fun i => capOf (vs.getD i .nilFunc), ⟨fun i hi => own_cell ho (hval i hi), fun i j hi hj => ?_, fun i j hi hj e => ?_, fun i hi => ?_⟩, ?_, fun i hi => (hblk i hi).2⟩
  · obtain ⟨_, _, _, _, hlen, _⟩ := key i hi
    refine own_cell (hblk i hi).1 ?_
    rw [List.getElem?_map, List.getElem?_eq_getElem (by rw [hlen]; omega)]
    unfold entry
    rw [List.getD_eq_getElem?_getD (l := L.getD i []), List.getElem?_eq_getElem (by rw [hlen]; omega)]
    rfl
  · rcases Nat.lt_trichotomy i j with h | h | h
    · have := hr.2.2 i j _ _ _ _ _ _ h (hval i hi) (hval j hj)
      simp only at e this
      omega
    · exact h
    · have := hr.2.2 j i _ _ _ _ _ _ h (hval j hj) (hval i hi)
      simp only at e this
      omega
  · intro e
    have := own_ne (hblk i hi).1 ho rfl
    apply this
    show some _ = some _
    rw [e]
  · rcases ho.2 with ⟨h0, _⟩ | ⟨g', cap', cur, hv, hb, _⟩
    · cases h0
    · injection hv with e1
      injection e1 with e1
      injection e1 with e1
      rw [e1]; exact hb

/-- Whether player i is in set s. -/
def bitI (s i : Nat) : Int := ((if s.testBit i then 1 else 0 : Nat) : Int)
/-- A set as the row of a system. -/
def rowL (n s : Nat) (x : Int) : List Int := (List.range n).map (fun i => bitI s i) ++ [x]
theorem rowL_length (n s : Nat) (x : Int) : (rowL n s x).length = n + 1 := by simp [rowL]
theorem bitI_cases (s i : Nat) : bitI s i = 0 ∨ bitI s i = 1 := by unfold bitI; cases s.testBit i <;> simp

set_option maxHeartbeats 800000 in
theorem crow_any (A : Option Addr) (N cap n s : Nat) (x : Int) (w : World) (h : N = 2 ∧ n = 1 ∨ N = 4 ∧ n = 2 ∨ N = 8 ∧ n = 3 ∨ N = 16 ∧ n = 4) (hs : s < 16) :
    Calls Tryd.prog 40 #[.slice A N cap, .int .i64 s, .int .i64 x] w fun e w' => ∃ g c, e = .returned (.slice (some ⟨g, 0, none⟩) (n + 1) c) ∧ w'.ownsRow w.heap.size 3 1 (.slice (some ⟨g, 0, none⟩) (n + 1) c) (n + 1) ((rowL n s x).map (Value.int .i64)) ∧ Below w.heap.size w w' := by
  have hn4 : n ≤ 4 := by omega
  have H := Lib.hid h
  clear h
  go_enter Tryd.func40, Tryd.ntmps40
  go_wp2_with fail
  refine (players_any A N n cap w H.out).mono ?_
  rintro e w' ⟨rfl, rfl⟩
  go_wp2_with fail
  go_loopw [7, 11] (fun ov iv wr => ∃ (k : Nat) (B : Option Addr) (bc : Nat), k ≤ n ∧ iv = .int .i64 k ∧ ov = .slice B k bc ∧ wr.ownsRow w.heap.size 3 1 (.slice B k bc) k (((List.range k).map (fun i => bitI s i)).map (Value.int .i64)) ∧ Below w.heap.size w wr) (fun _ iv _ => n - (intOf iv).toNat)
  case atStart => exact ⟨0, none, 0, Nat.zero_le _, rfl, rfl, World.ownsRow_nil _ _ _ _, Below.refl _ _⟩
  case round =>
    obtain ⟨k, B, bc, hk, rfl, rfl, hown, hbl⟩ := hrel
    have HR := Lib.hid (And.intro hown hbl)
    have hws := hbl.size
    clear hown hbl
    by_cases hlt : k < n
    · have HNEW : Hid (((List.range (k + 1)).map (fun i => bitI s i)).map (Value.int .i64) = ((List.range k).map (fun i => bitI s i)).map (Value.int .i64) ++ [.int .i64 (bitI s k)]) := Lib.hid (by rw [List.range_succ]; simp)
      have eb : bits .and .i64 ((s : Int) / 2 ^ k) 1 = bitI s k := and_shr s k (by omega)
      obtain ⟨b, hb⟩ : ∃ b, b = bitI s k := ⟨_, rfl⟩
      rw [← hb] at eb HNEW
      have l1 : (k : Int) < (n : Int) := by omega
      clear hb
      go_wp2_with (at_builtin; refine app1 sty_int rfl _ _ rfl w.heap.size B k bc _ #[.int .i64 b] rfl (by simp [Value.oneCell']) rfl HR.out.1 rfl (by omega) (by omega) ?_)
      intro A4 k4 w4 hown4 _ hbl4 hk41 hk42
      have HR4 : Hid (w4.ownsRow w.heap.size 3 1 (.slice A4 (k + 1) k4) (k + 1) (((List.range (k + 1)).map (fun i => bitI s i)).map (Value.int .i64)) ∧ Below w.heap.size w w4) := Lib.hid ⟨by rw [HNEW.out, List.map_map]; exact hown4, HR.out.2.trans hbl4⟩
      clear hown4 hbl4
      go_wp2_with fail
      go_roundw
      case rel => exact ⟨k + 1, A4, k4, by omega, by go_num, rfl, HR4.out.1, HR4.out.2⟩
      case measure => simp [intOf]; omega
    · obtain rfl : n = k := by omega
      go_wp2_with (at_builtin; refine app1 sty_int rfl _ _ rfl w.heap.size B n bc _ #[.int .i64 x] rfl (by simp [Value.oneCell']) rfl HR.out.1 rfl (by omega) (by omega) ?_)
      intro A4 k4 w4 hown4 _ hbl4 hk41 hk42
      obtain ⟨g4, rfl, _, _⟩ := own_some hown4 (by omega)
      have HR4 : Hid (w4.ownsRow w.heap.size 3 1 (.slice (some ⟨g4, 0, none⟩) (n + 1) k4) (n + 1) ((rowL n s x).map (Value.int .i64)) ∧ Below w.heap.size w w4) := Lib.hid ⟨by rw [show (rowL n s x).map (Value.int .i64) = ((List.range n).map (fun i => bitI s i)).map (Value.int .i64) ++ [.int .i64 x] from by simp [rowL], List.map_map]; exact hown4, HR.out.2.trans hbl4⟩
      clear hown4 hbl4
      go_wp2_with fail
      go_ret
      exact ⟨g4, k4, rfl, HR4.out⟩

/- A region that draws its order, whose operations read and whose calls may make memory of their own but hand back plain values: walked once, in the order of the text. No program. -/

/-- A world that came of w: what w holds reads in it as in w. -/
structure Desc (w : World) where
  val : World
  below : Below w.heap.size w val

instance descNonempty (w : World) : Nonempty (Desc w) := ⟨⟨w, Below.refl _ _⟩⟩

theorem wp_region_desc {P : Program} {id : Nat} {Q : Exit → Act → World → Prop} {a : Act} {w : World} {l : List Oper} (hm : P.follows .mixedOrders = true) (hB : Region.lexB .any l.toArray = true)
    (h : wpQuiet P l.toArray (fun w' => ∃ s : Desc w, w' = s.val) (fun a' => ∀ w', (∃ s : Desc w, w' = s.val) → Q .normal a' w') l a) : (Code.region id l.toArray true).wp P Q a w :=
  wp_region_quiet (C := fun w' => ∃ s : Desc w, w' = s.val) hm hB ⟨⟨_, (Below.refl _ _).drew⟩, rfl⟩ (by simpa using h)

theorem Calls.desc_of {P : Program} {f : FuncId} {args : Array Value} {w : World} {s : Desc w} {v : Value}
    (h : Calls P f args s.val fun e w' => e = .returned v ∧ Below s.val.heap.size s.val w') : Calls P f args s.val fun e w'' => e = .returned v ∧ ∃ s' : Desc w, w'' = s'.val :=
  h.mono fun _ w' ⟨he, hb⟩ => ⟨he, ⟨w', s.below.trans (hb.mono s.below.size)⟩, rfl⟩
theorem Calls.desc_of_drew {P : Program} {f : FuncId} {args : Array Value} {w : World} {s : Desc w} {v : Value}
    (h : Calls P f args s.val fun e w' => e = .returned v ∧ ∃ n, w' = s.val.drewN n) : Calls P f args s.val fun e w'' => e = .returned v ∧ ∃ s' : Desc w, w'' = s'.val :=
  h.mono fun _ _ ⟨he, n, hn⟩ => ⟨he, ⟨_, by subst hn; exact ⟨s.below.os, s.below.tape, s.below.output, s.below.size, s.below.block⟩⟩, rfl⟩
theorem Calls.desc_of_same {P : Program} {f : FuncId} {args : Array Value} {w : World} {s : Desc w} {v : Value}
    (h : Calls P f args s.val fun e w' => e = .returned v ∧ s.val = w') : Calls P f args s.val fun e w'' => e = .returned v ∧ ∃ s' : Desc w, w'' = s'.val :=
  h.mono fun _ _ ⟨he, hn⟩ => ⟨he, s, hn.symm⟩
theorem Desc.cell {w : World} (s : Desc w) {p : Addr} {v : Value} (h : w.cell? p = some v) : s.val.cell? p = some v := by
  rcases Nat.lt_or_ge p.block w.heap.size with hlt | hge
  · exact (s.below.cell hlt).trans h
  · simp [World.cell?, Array.getElem?_eq_none hge] at h

/- A region that draws its order: first operations that read, or call what makes memory of its own and hands back plain values, then, waiting for all of them, a few in one forced order (a store, an append ..). No program. -/

section
variable {P : Program} {ops : Array Oper} {md : Region.Mode} {C : World → Prop}
/-- The first n operations in whatever order, in the class of worlds C; then L. -/
def headsIn (P : Program) (md : Region.Mode) (ops : Array Oper) (C : World → Prop) (n : Nat) (L : Array Bool → Act → Prop) : Nat → Array Bool → Act → Prop
  | 0, listed, a => L listed a
  | f + 1, listed, a => Region.ready md ops listed ≠ [] ∧ ∀ i ∈ Region.ready md ops listed, i < n ∧ qOp P ops C i (headsIn P md ops C n L f (listed.setIfInBounds i true)) a

theorem any_of_heads {n g : Nat} {L : Array Bool → Act → Prop} {Q' : Exit → Act → World → Prop} (hL : ∀ listed a w, C w → L listed a → wpAny P md ops Q' g listed a w) (f : Nat) :
    ∀ (listed : Array Bool) (a : Act) (w : World), C w → headsIn P md ops C n L f listed a → wpAny P md ops Q' (f + g) listed a w := by
  induction f with
  | zero => intro listed a w hw h; rw [Nat.zero_add]; exact hL _ _ _ hw h
  | succ f ih =>
    intro listed a w hw h
    rw [show f + 1 + g = (f + g) + 1 from by omega]
    exact ⟨fun h0 => absurd h0 h.1, fun i hi => wpOp_of_qOp hw (fun a' w' hw' h' => ih _ a' w' hw' h') (h.2 i hi).2⟩

theorem heads_first {n i : Nat} {oi : Oper} {v : Value} {L : Array Bool → Act → Prop} (hi : ops[i]? = some oi) (hsel : ∀ (j : Nat) (o : Oper) cs b, ops[j]? = some o → o.op ≠ .select cs b)
    (hs : Region.sinkB md ops n = true) (hc : Region.chainB md ops n = true) (hn : n < ops.size) (hin : i < n)
    (hdone : ∀ listed a, L listed a → ∀ j ∈ Region.ready md ops listed, n ≤ j) (f : Nat) :
    ∀ (listed : Array Bool) (a : Act), HeadInv md ops n listed →
      (∀ j oj, ops[j]? = some oj → j ≠ i → listed.getD j true = false → (∀ e ∈ oj.after, Region.binds md e = true → e.on ≠ i) → oi.apart ops oj = true) →
      i ∈ Region.ready md ops listed → YieldsIn P ops C oi v a →
      headsIn P md ops C n L f (listed.setIfInBounds i true) (a.put oi.dst v) → headsIn P md ops C n L (f + 1) listed a := by
  induction f with
  | zero =>
    intro listed a inv _ hr hy H
    have hun := (mem_ready.1 hr).1
    refine ⟨List.ne_nil_of_mem hr, fun j hj => ?_⟩
    have hjn : j < n := Nat.lt_of_not_le fun h => absurd hj (tail_waits hs hc hn inv _ i rfl hin hun j h)
    refine ⟨hjn, ?_⟩
    by_cases hji : j = i
    · subst hji; exact hy.qOp hi H
    · have := hdone _ _ H j (ready_mono hj hji)
      omega
  | succ f ih =>
    intro listed a inv hfree hr hy H
    have hun := (mem_ready.1 hr).1
    refine ⟨List.ne_nil_of_mem hr, fun j hj => ?_⟩
    have hjn : j < n := Nat.lt_of_not_le fun h => absurd hj (tail_waits hs hc hn inv _ i rfl hin hun j h)
    refine ⟨hjn, ?_⟩
    by_cases hji : j = i
    · subst hji; exact hy.qOp hi H
    · have h1 := (H.2 j (ready_mono hj hji)).2
      obtain ⟨hjun, oj, hoj, hall⟩ := mem_ready.1 hj
      have hnot : ∀ e ∈ oj.after, Region.binds md e = true → e.on ≠ i := by
        intro e he hb heq
        have h1 := hall e he hb
        rw [heq, getD_both hun] at h1
        cases h1
      have h2 := qOp_put hoj (hfree j oj hoj hji hjun hnot) (fun cs b => hsel i oi cs b hi) (fun cs b => hsel j oj cs b hoj) hy h1
      refine qOp_mono (fun a' h3 => ih (listed.setIfInBounds j true) a' (inv.set hj hjn) ?_ (ready_mono hr (Ne.symm hji)) h3.1 ?_) h2
      · intro k ok hk hki hun2 hno
        refine hfree k ok hk hki ?_ hno
        by_cases hjk : j = k
        · subst hjk; exact hjun
        · rwa [getD_set_ne true hjk] at hun2
      · rw [Array.setIfInBounds_comm _ _ hji]
        exact h3.2

theorem heads_lex {n g : Nat} {Lq : Act → Prop} (hsel : Region.noSelect ops = true) (hs : Region.sinkB md ops n = true) (hc : Region.chainB md ops n = true) (hn : n < ops.size) :
    ∀ (l : List Oper) (k : Nat) (listed : Array Bool) (a : Act), (∀ j, j < l.length → l[j]? = ops[k + j]?) → k + l.length = n → HeadInv md ops n listed →
    Region.lexHead md ops g l.length k listed = true → wpQuiet P ops C Lq l a →
    headsIn P md ops C n (fun listed' a' => Region.seqB md ops g n listed' = true ∧ Lq a') l.length listed a := by
  intro l
  induction l with
  | nil =>
    intro k listed a _ hk _ hB h
    obtain rfl : k = n := by simpa using hk
    exact ⟨by simpa [Region.lexHead] using hB, h⟩
  | cons o l ih =>
    intro k listed a hl hk inv hB h
    have h0 : ops[k]? = some o := by simpa using (hl 0 (by simp)).symm
    simp only [List.length_cons, Region.lexHead, Bool.and_eq_true] at hB
    obtain ⟨⟨hr, hf⟩, hB'⟩ := hB
    have hkn : k < n := by simp only [List.length_cons] at hk; omega
    have hr' : k ∈ Region.ready md ops listed := by simpa using hr
    have hq : qOp P ops C k (wpQuiet P ops C Lq l) a := by unfold qOp; simp only [h0]; exact h
    obtain ⟨v, hy, hK⟩ := yieldsIn_of_qOp h0 hq
    refine heads_first h0 (Region.noSelect_spec hsel) hs hc hn hkn (fun listed' a' hL => seqB_ready hL.1) l.length listed a inv (Region.free_spec h0 hf) hr' hy
      (ih (k + 1) _ _ (fun j hj => ?_) (by simp only [List.length_cons] at hk; omega) (inv.set hr' hkn) hB' hK)
    have := hl (j + 1) (by simp; omega)
    simpa [Nat.add_assoc, Nat.add_comm 1 j] using this
end

theorem wp_region_desc_tail {P : Program} {id : Nat} {Q : Exit → Act → World → Prop} {a : Act} {w : World} {l : List Oper} (n : Nat) (hm : P.follows .mixedOrders = true) (hB : Region.lexTailB .any l.toArray n = true)
    (h : wpQuiet P l.toArray (fun w' => ∃ s : Desc w, w' = s.val) (fun a' => ∀ w', (∃ s : Desc w, w' = s.val) → wpList P l.toArray Q (l.drop n) a' w') (l.take n) a) : (Code.region id l.toArray true).wp P Q a w := by
  simp only [Region.lexTailB, Bool.and_eq_true, decide_eq_true_eq] at hB
  obtain ⟨⟨⟨⟨hsel, hn⟩, hs⟩, hc⟩, hlex⟩ := hB
  have hn' : n < l.length := by simpa using hn
  have htl : (l.take n).length = n := by simp; omega
  have hdl : (l.drop n).length = l.toArray.size - n := by simp
  have inv0 : HeadInv .any l.toArray n (Array.replicate l.toArray.size false) :=
    ⟨by simp, fun j oj _ hl => (by rw [getD_replicate_false] at hl; cases hl), fun t _ ht => getD_in (by simpa using ht) (getD_replicate_false _ _)⟩
  have H := heads_lex (C := fun w' => ∃ s : Desc w, w' = s.val) (md := .any) (g := l.toArray.size - n) hsel hs hc hn (l.take n) 0 _ a (fun j hj => by
    rw [htl] at hj
    simp [hj]) (by simpa using htl) inv0 (by rw [htl]; exact hlex) h
  refine wp_region_any hm ?_
  have := any_of_heads (Q' := Q) (g := l.toArray.size - n) (fun listed a' w' hw' hL => by
    have := wpAny_of_seq (md := .any) (Q' := Q) (l.drop n) n listed a' w' (fun j => by simp [List.getElem?_drop]) (by rw [hdl]; exact hL.1) (hL.2 w' hw')
    rwa [hdl] at this) _ _ _ { w with drawn := w.drawn + 1 } ⟨⟨_, (Below.refl _ _).drew⟩, rfl⟩ H
  rw [htl, show n + (l.toArray.size - n) = l.toArray.size from by omega] at this
  exact this

/- A region that draws its order: first operations that read, in whatever order, then, waiting for all of them, a few in one forced order (a store ..). No program. -/

theorem wp_region_drew_tail {P : Program} {id : Nat} {Q : Exit → Act → World → Prop} {a : Act} {w : World} {l : List Oper} (n : Nat) (hm : P.follows .mixedOrders = true) (hB : Region.lexTailB .any l.toArray n = true)
    (h : wpQuiet P l.toArray (fun w' => ∃ n, w' = w.drewN n) (fun a' => ∀ w', (∃ n, w' = w.drewN n) → wpList P l.toArray Q (l.drop n) a' w') (l.take n) a) : (Code.region id l.toArray true).wp P Q a w := by
  simp only [Region.lexTailB, Bool.and_eq_true, decide_eq_true_eq] at hB
  obtain ⟨⟨⟨⟨hsel, hn⟩, hs⟩, hc⟩, hlex⟩ := hB
  have hn' : n < l.length := by simpa using hn
  have htl : (l.take n).length = n := by simp; omega
  have hdl : (l.drop n).length = l.toArray.size - n := by simp
  have inv0 : HeadInv .any l.toArray n (Array.replicate l.toArray.size false) :=
    ⟨by simp, fun j oj _ hl => (by rw [getD_replicate_false] at hl; cases hl), fun t _ ht => getD_in (by simpa using ht) (getD_replicate_false _ _)⟩
  have H := heads_lex (C := fun w' => ∃ n, w' = w.drewN n) (md := .any) (g := l.toArray.size - n) hsel hs hc hn (l.take n) 0 _ a (fun j hj => by
    rw [htl] at hj
    simp [hj]) (by simpa using htl) inv0 (by rw [htl]; exact hlex) h
  refine wp_region_any hm ?_
  have := any_of_heads (Q' := Q) (g := l.toArray.size - n) (fun listed a' w' hw' hL => by
    have := wpAny_of_seq (md := .any) (Q' := Q) (l.drop n) n listed a' w' (fun j => by simp [List.getElem?_drop]) (by rw [hdl]; exact hL.1) (hL.2 w' hw')
    rwa [hdl] at this) _ _ _ { w with drawn := w.drawn + 1 } ⟨1, rfl⟩ H
  rw [htl, show n + (l.toArray.size - n) = l.toArray.size from by omega] at this
  exact this

/- Contract: solve of package games. -/

/-- What solve leaves. -/
def SolvePost (f : Nat → Nat → Int) (n B : Nat) (w : World) (e : Ending) (w' : World) : Prop :=
  (slvTo f n n = none ∧ e = .returned (.tuple #[.slice none 0 0, .int .i64 0]) ∧ Below B w w') ∨
  ∃ h l A c, slvTo f n n = some (h, l) ∧ e = .returned (.tuple #[.slice A n c, .int .i64 l]) ∧ w'.ownsRow B 3 1 (.slice A n c) n ((List.range n).map fun i => .int .i64 (h i n)) ∧ Below B w w'

set_option maxRecDepth 100000 in
set_option maxHeartbeats 3200000 in
theorem solve_any (g cap n : Nat) (R C : Nat → Nat) (f : Nat → Nat → Int) (B : Nat) (w : World) (hn : 1 ≤ n ∧ n ≤ 4) (hM : Mtx w g n R C f) (hg : B ≤ g) (hR : ∀ i, i < n → B ≤ R i) (hs : SafeM f n) (hB : B ≤ w.heap.size) :
    Calls Tryd.prog 41 #[.slice (some ⟨g, 0, none⟩) n cap] w (SolvePost f n B w) := by
  have H := Lib.hid (And.intro hM (And.intro hR hs))
  clear hM hR hs
  go_enter Tryd.func41, Tryd.ntmps41
  go_wp2_with fail
  go_loopg [2, 5, 15] (n + 1) (fun gh rv lv kv wr => ∃ (k : Nat) (R C : Nat → Nat) (h : Nat → Nat → Int) (l : Int), k ≤ n ∧ rv = .slice none 0 0 ∧ gh = n + 1 - k ∧ kv = .int .i64 k ∧ lv = .int .i64 l ∧ slvTo f n k = some (h, l) ∧ Mtx wr g n R C h ∧ (∀ i, i < n → B ≤ R i) ∧ Below B w wr)
  case atStart => exact ⟨0, R, C, f, 1, Nat.zero_le _, rfl, rfl, rfl, rfl, rfl, H.out.1, H.out.2.1, Below.refl _ _⟩
  case round =>
    obtain ⟨k, R, C, h, l, hk, rfl, hgh, rfl, rfl, hsl, hM, hR, hbl⟩ := hrel
    have hsafe := H.out.2.2 k h l hk hsl
    have HR := Lib.hid (And.intro hsl (And.intro hM (And.intro hR (And.intro hbl hsafe))))
    have hl0 := hsafe.1
    have hl1 := hsafe.2.1
    have hl2 := hsafe.2.2.1
    clear hsl hM hR hbl hsafe
    by_cases hlt : k < n
    · have l1 : (k : Int) < (n : Int) := by omega
      go_wp2_with fail
      go_loop [7] (fun pv => ∃ p : Nat, k ≤ p ∧ p ≤ n ∧ pv = .int .i64 p ∧ ∀ r, k ≤ r → r < p → h r k = 0) (fun pv => n - (intOf pv).toNat)
      case atStart => exact ⟨k, Nat.le_refl _, hk, rfl, fun r h1 h2 => by omega⟩
      case round =>
        obtain ⟨p, hkp, hp, rfl, h0⟩ := hrel
        have HP := Lib.hid h0
        clear h0
        by_cases hpn : p < n
        · have a1 := (HR.out.2.1.rows p hpn).1
          have a2 := (HR.out.2.1.cells p k hpn (by omega)).1
          have l2 : (p : Int) < (n : Int) := by omega
          have l3 : (k : Int) < ((n + 1 : Nat) : Int) := by omega
          obtain ⟨y, hy⟩ : ∃ y, y = h p k := ⟨_, rfl⟩
          rw [← hy] at a2
          have HY := Lib.hid hy
          clear hy
          by_cases hy0 : y = 0
          · have d1 : (y == 0) = true := by simp [hy0]
            have HZ : Hid (h p k = 0) := Lib.hid (by rw [← HY.out]; exact hy0)
            clear hy0
            go_wp2_with fail
            go_round
            case rel => exact ⟨p + 1, by omega, by omega, by go_num, fun r h1 h2 => by
              rcases Nat.lt_succ_iff_lt_or_eq.1 h2 with e | e
              · exact HP.out r h1 e
              · rw [e]; exact HZ.out⟩
            case measure => simp [intOf]; omega
          · have d1 : (y == 0) = false := by simp [hy0]
            have HQ : Hid (piv h n k = p) := Lib.hid (piv_hit hkp hpn HP.out (by rw [← HY.out]; exact hy0))
            clear hy0
            have hne : ¬ (p : Int) = (n : Int) := by omega
            go_upto_if 39 with fail
            go_cut [2, 8, 15] (fun rv _ kv wx => rv = .slice none 0 0 ∧ kv = .int .i64 k ∧ ∃ R' C', Mtx wx g n R' C' (swapM h k p) ∧ (∀ i, i < n → B ≤ R' i) ∧ Below B w wx)
            case first =>
              by_cases hpk : p = k
              · have d2 : ((p : Int) != (k : Int)) = false := by simp [hpk]
                have HE : Hid (swapM h k p = h) := Lib.hid (by unfold swapM; rw [if_pos hpk])
                clear hpk
                go_wp2_with fail
                go_meet
                case rel => exact ⟨rfl, rfl, R, C, by rw [HE.out]; exact HR.out.2.1, HR.out.2.2.1, HR.out.2.2.2.1⟩
              · have d2 : ((p : Int) != (k : Int)) = true := by rw [bne_iff_ne]; omega
                have b1 := (HR.out.2.1.rows k hlt).1
                have b2 := (HR.out.2.1.rows k hlt).2
                have b3 := (HR.out.2.1.rows p hpn).2
                have HSW := Lib.hid (HR.out.2.1.swap hlt hpn hpk)
                have hBS : Below B w ((wr.setCell ⟨g, k, none⟩ (.slice (some ⟨R p, 0, none⟩) (n + 1) (C p))).setCell ⟨g, p, none⟩ (.slice (some ⟨R k, 0, none⟩) (n + 1) (C k))) := (HR.out.2.2.2.1.setCell (p := ⟨g, k, none⟩) hg _).setCell (p := ⟨g, p, none⟩) hg _
                have HBS := Lib.hid hBS
                clear hBS a2 hne
                go_wp2_with fail
                go_region
                go_wp2_with fail
                obtain ⟨w2, hw2⟩ : ∃ w2, w2 = ((wr.setCell ⟨g, k, none⟩ (.slice (some ⟨R p, 0, none⟩) (n + 1) (C p))).setCell ⟨g, p, none⟩ (.slice (some ⟨R k, 0, none⟩) (n + 1) (C k))).drew := ⟨_, rfl⟩
                have hM2 : Mtx w2 g n (fun i => R (swp k p i)) (fun i => C (swp k p i)) (fun i j => h (swp k p i) j) := by rw [hw2]; exact HSW.out.drew
                have hb2 : Below B w w2 := by rw [hw2]; exact HBS.out.drew
                have hbd : ∀ j, j ≤ n → -100000000 ≤ h p j ∧ h p j ≤ 100000000 := fun j hj => HR.out.2.2.2.2.2.2.2 p j hpn hj
                have esk : swp k p k = p := by unfold swp; rw [if_pos rfl]
                have hcap : ∃ Rk Ck, Rk = R (swp k p k) ∧ Ck = C (swp k p k) := ⟨_, _, rfl, rfl⟩
                have H2 := Lib.hid (And.intro hM2 (And.intro hb2 (And.intro hbd esk)))
                have hR2 : ∀ i, i < n → B ≤ R (swp k p i) := fun i hi => HR.out.2.2.1 _ (swp_lt hlt hpn hi)
                have HR2 := Lib.hid hR2
                rw [← hw2]
                clear hw2 hM2 hb2 hbd esk hcap HSW HBS b1 b2 b3 a1 hR2
                go_loopw [59] (fun jv wx => ∃ j : Nat, j ≤ n + 1 ∧ jv = .int .i64 j ∧ Mtx wx g n (fun i => R (swp k p i)) (fun i => C (swp k p i)) (fun a b => if a = k ∧ b < j then -(h (swp k p a) b) else h (swp k p a) b) ∧ Below B w wx) (fun jv _ => n + 1 - (intOf jv).toNat)
                case atStart => exact ⟨0, Nat.zero_le _, rfl, H2.out.1.congr (fun i j _ _ => by rw [if_neg (by omega)]), H2.out.2.1⟩
                case round =>
                  obtain ⟨j, hj, rfl, hM3, hb3⟩ := hrel
                  have H3 := Lib.hid (And.intro hM3 hb3)
                  clear hM3 hb3
                  by_cases hjn : j < n + 1
                  · have c1 := (H3.out.1.rows k hlt).1
                    have c2 := (H3.out.1.cells k j hlt (by omega)).1
                    have c3 := (H3.out.1.cells k j hlt (by omega)).2
                    have hset := H3.out.1.set hlt (show j ≤ n by omega) (-(h p j))
                    have hbd := H2.out.2.2.1 j (by omega)
                    have esk := H2.out.2.2.2
                    simp only [esk] at c1 c2 c3 hset
                    rw [if_neg (by omega)] at c2
                    have HS := Lib.hid (And.intro hset (H3.out.2.setCell (p := ⟨R p, j, none⟩) (HR.out.2.2.1 p hpn) (.int .i64 (-(h p j)))))
                    obtain ⟨z, hz⟩ : ∃ z, z = h p j := ⟨_, rfl⟩
                    rw [← hz] at c2 hbd HS
                    have HZ := Lib.hid hz
                    have l4 : (j : Int) < ((n + 1 : Nat) : Int) := by omega
                    have l5 : ((n + 1 : Nat) : Int) = (n : Int) + 1 := by omega
                    clear hset esk hz
                    have en : IntKind.i64.wrap (-z) = -z := IntWalk.i64_in _ (by omega)
                    go_wp2_with fail
                    go_region
                    go_wp2_with fail
                    go_roundw
                    case rel =>
                      refine ⟨j + 1, by omega, by go_num, (HS.out.1.congr (fun a b ha hb => ?_)).drew, HS.out.2.drew⟩
                      unfold upd
                      dsimp only
                      by_cases e : a = k ∧ b = j
                      · rw [if_pos e, if_pos ⟨e.1, by omega⟩, e.1, e.2, H2.out.2.2.2, HZ.out]
                      · rw [if_neg e]
                        by_cases e2 : a = k ∧ b < j
                        · rw [if_pos e2, if_pos ⟨e2.1, by omega⟩]
                        · rw [if_neg e2, if_neg (fun h => by have := h.2; have := h.1; omega)]
                    case measure => simp [intOf]; omega
                  · obtain rfl : j = n + 1 := by omega
                    go_wp2_with fail
                    go_meet
                    case rel =>
                      refine ⟨rfl, rfl, _, _, H3.out.1.congr (fun a b ha hb => ?_), HR2.out, H3.out.2⟩
                      unfold swapM
                      rw [if_neg hpk]
                      by_cases e : a = k
                      · rw [if_pos ⟨e, by omega⟩, if_pos e, e, H2.out.2.2.2]
                      · rw [if_neg (fun h => e h.1), if_neg e]
                        unfold swp
                        rw [if_neg e]
                        split <;> rfl
            case rest =>
              obtain ⟨rfl, rfl, R', C', hM', hR', hbl'⟩ := hcut
              have hnext : slvTo f n (k + 1) = some (red (swapM h k p) k l, swapM h k p k k) := by
                rw [slvTo, HR.out.1]
                simp only
                rw [HQ.out, if_neg (by omega)]
              have hsf := H.out.2.2 (k + 1) _ _ (by omega) hnext
              obtain ⟨f1, hf1⟩ : ∃ f1, f1 = swapM h k p := ⟨_, rfl⟩
              rw [← hf1] at hM' hnext hsf
              have hfb : ∀ i j, i < n → j ≤ n → -100000000 ≤ f1 i j ∧ f1 i j ≤ 100000000 := by
                intro i j hi hj
                have h1 := HR.out.2.2.2.2.2.2.2 i j hi hj
                have h2 := HR.out.2.2.2.2.2.2.2 p j hpn hj
                have h3 := HR.out.2.2.2.2.2.2.2 k j hlt hj
                rw [hf1]
                unfold swapM
                split
                · exact h1
                · dsimp only
                  split
                  · omega
                  · split
                    · exact h3
                    · exact h1
              obtain ⟨f2, hf2⟩ : ∃ f2, f2 = red f1 k l := ⟨_, rfl⟩
              rw [← hf2] at hnext hsf
              have hk2 : f2 k = f1 k := by rw [hf2]; funext j; unfold red; rw [if_pos rfl]
              have hz2 : ∀ i, i ≠ k → f2 i k = 0 := by intro i hi; rw [hf2]; unfold red; rw [if_neg hi, if_pos rfl]
              have ho2 : ∀ i j, i ≠ k → j ≠ k → f2 i j = (f1 i j * f1 k k - f1 i k * f1 k j).tdiv l := by intro i j hi hj; rw [hf2]; unfold red; rw [if_neg hi, if_neg hj]
              have HF := Lib.hid (And.intro hfb (And.intro hk2 (And.intro hz2 (And.intro ho2 (And.intro hnext hsf)))))
              have HC := Lib.hid (And.intro hM' (And.intro hR' hbl'))
              clear hnext hsf hfb hk2 hz2 ho2 hM' hR' hbl' hf1 hf2 HY HQ HP a1 a2 hne
              go_wp2_with fail
              go_loopw [78] (fun iv wx => ∃ i : Nat, i ≤ n ∧ iv = .int .i64 i ∧ Mtx wx g n R' C' (midM f1 f2 k i (n + 1)) ∧ Below B w wx) (fun iv _ => n - (intOf iv).toNat)
              case atStart => exact ⟨0, Nat.zero_le _, rfl, HC.out.1.congr (fun i j hi hj => by unfold midM; rw [if_neg (by omega)]), HC.out.2.2⟩
              case round =>
                obtain ⟨i, hi, rfl, hM4, hb4⟩ := hrel
                have H4 := Lib.hid (And.intro hM4 hb4)
                clear hM4 hb4
                by_cases hin : i < n
                · have l4 : (i : Int) < (n : Int) := by omega
                  by_cases hik : i = k
                  · have d3 : ((i : Int) == (k : Int)) = true := by simp [hik]
                    have HK := Lib.hid hik
                    clear hik
                    go_wp2_with fail
                    go_roundw
                    case rel =>
                      refine ⟨i + 1, by omega, by go_num, H4.out.1.congr (fun a b ha hb => ?_), H4.out.2⟩
                      unfold midM
                      by_cases e : a = i
                      · rw [if_neg (by have := HK.out; omega), if_neg (by have := HK.out; omega)]
                      · by_cases e2 : a < i ∧ a ≠ k
                        · rw [if_pos (.inl e2), if_pos (.inl ⟨by omega, e2.2⟩)]
                        · rw [if_neg (by omega), if_neg (by omega)]
                    case measure => simp [intOf]; omega
                  · have d3 : ((i : Int) == (k : Int)) = false := by rw [beq_eq_false_iff_ne]; omega
                    go_wp2_with fail
                    go_loopw [10] (fun jv wx => ∃ q : Nat, q ≤ n + 1 ∧ jv = .int .i64 ((q : Int) - 1) ∧ Mtx wx g n R' C' (midM f1 f2 k i q) ∧ Below B w wx) (fun jv _ => (intOf jv + 1).toNat)
                    case atStart => exact ⟨n + 1, Nat.le_refl _, by rw [show ((n + 1 : Nat) : Int) - 1 = (n : Int) from by omega], H4.out.1, H4.out.2⟩
                    case round =>
                      obtain ⟨q, hq, rfl, hM5, hb5⟩ := hrel
                      have H5 := Lib.hid (And.intro hM5 hb5)
                      clear hM5 hb5
                      by_cases hq0 : q = 0
                      · subst hq0
                        have c1 := (H5.out.1.rows i hin).1
                        have c3 := (H5.out.1.cells i k hin (by omega)).2
                        have c4 := (H5.out.1.cells i k hin (by omega)).1
                        have HS := Lib.hid (And.intro (H5.out.1.set hin (show k ≤ n by omega) 0) (H5.out.2.setCell (p := ⟨R' i, k, none⟩) (HC.out.2.1 i hin) (.int .i64 0)))
                        go_wp2_with fail
                        go_roundw
                        case rel =>
                          refine ⟨i + 1, by omega, by go_num, HS.out.1.congr (fun a b ha hb => ?_), HS.out.2⟩
                          unfold upd midM
                          by_cases e : a = i ∧ b = k
                          · rw [if_pos e, if_pos (.inl ⟨by omega, by omega⟩), e.1, e.2, HF.out.2.2.1 i hik]
                          · rw [if_neg e]
                            by_cases e2 : (a < i ∧ a ≠ k) ∨ (a = i ∧ 0 ≤ b ∧ b ≠ k)
                            · rw [if_pos e2, if_pos (.inl (by omega))]
                            · rw [if_neg e2, if_neg (by omega)]
                        case measure => simp [intOf]; omega
                      · obtain ⟨j, rfl⟩ : ∃ j, q = j + 1 := ⟨q - 1, by omega⟩
                        have ej : ((j + 1 : Nat) : Int) - 1 = (j : Int) := by omega
                        rw [ej]
                        clear ej
                        have l5 : (0 : Int) ≤ (j : Int) := by omega
                        by_cases hjk : j = k
                        · have d4 : ((j : Int) != (k : Int)) = false := by simp [hjk]
                          have HK := Lib.hid hjk
                          clear hjk
                          go_wp2_with fail
                          go_roundw
                          case rel =>
                            refine ⟨j, by omega, rfl, H5.out.1.congr (fun a b ha hb => ?_), H5.out.2⟩
                            have := HK.out
                            unfold midM
                            by_cases e2 : (a < i ∧ a ≠ k) ∨ (a = i ∧ j + 1 ≤ b ∧ b ≠ k)
                            · rw [if_pos e2, if_pos (by omega)]
                            · rw [if_neg e2, if_neg (by omega)]
                          case measure => simp [intOf]
                        · have d4 : ((j : Int) != (k : Int)) = true := by rw [bne_iff_ne]; omega
                          have r1 := (H5.out.1.rows i hin).1
                          have r2 := (H5.out.1.rows k hlt).1
                          have q1 := (H5.out.1.cells i j hin (by omega)).1
                          have q2 := (H5.out.1.cells k k hlt (by omega)).1
                          have q3 := (H5.out.1.cells i k hin (by omega)).1
                          have q4 := (H5.out.1.cells k j hlt (by omega)).1
                          have q5 := (H5.out.1.cells i j hin (by omega)).2
                          have m1 : midM f1 f2 k i (j + 1) i j = f1 i j := by unfold midM; rw [if_neg (by omega)]
                          have m2 : midM f1 f2 k i (j + 1) k k = f1 k k := by unfold midM; rw [if_neg (by omega)]
                          have m3 : midM f1 f2 k i (j + 1) i k = f1 i k := by unfold midM; rw [if_neg (by omega)]
                          have m4 : midM f1 f2 k i (j + 1) k j = f1 k j := by unfold midM; rw [if_neg (by omega)]
                          rw [m1] at q1
                          rw [m2] at q2
                          rw [m3] at q3
                          rw [m4] at q4
                          have hv := HF.out.2.2.2.1 i j hik hjk
                          have hvb := HF.out.2.2.2.2.2.2.2.2 i j hin (by omega)
                          have hfa := HF.out.1 i j hin (by omega)
                          have hfb := HF.out.1 k k hlt (by omega)
                          have hfc := HF.out.1 i k hin (by omega)
                          have hfd := HF.out.1 k j hlt (by omega)
                          have HS := Lib.hid (And.intro (H5.out.1.set hin (show j ≤ n by omega) (f2 i j)) (H5.out.2.setCell (p := ⟨R' i, j, none⟩) (HC.out.2.1 i hin) (.int .i64 (f2 i j))))
                          have hpr : ∀ x y : Int, -100000000 ≤ x ∧ x ≤ 100000000 → -100000000 ≤ y ∧ y ≤ 100000000 → -10000000000000000 ≤ x * y ∧ x * y ≤ 10000000000000000 := by
                            intro x y hx hy
                            have h1 := Int.natAbs_mul x y
                            have h2 : x.natAbs * y.natAbs ≤ 100000000 * 100000000 := Nat.mul_le_mul (by omega) (by omega)
                            omega
                          have hab := hpr _ _ hfa hfb
                          have hcd := hpr _ _ hfc hfd
                          obtain ⟨v, hve⟩ : ∃ v, v = f2 i j := ⟨_, rfl⟩
                          have HW := Lib.hid hve
                          rw [← hve] at hv hvb HS
                          clear hve m1 m2 m3 m4 hpr
                          generalize f1 i j = xa at *
                          generalize f1 k k = xb at *
                          generalize f1 i k = xc at *
                          generalize f1 k j = xd at *
                          obtain ⟨ab, habe⟩ : ∃ ab, ab = xa * xb := ⟨_, rfl⟩
                          obtain ⟨cd, hcde⟩ : ∃ cd, cd = xc * xd := ⟨_, rfl⟩
                          obtain ⟨df, hdf⟩ : ∃ df, df = ab - cd := ⟨_, rfl⟩
                          rw [← habe, ← hcde, ← hdf] at hv
                          rw [← habe] at hab
                          rw [← hcde] at hcd
                          have e1 : IntKind.i64.wrap (xa * xb) = ab := by rw [← habe]; exact IntWalk.i64_in _ (by omega)
                          have e2 : IntKind.i64.wrap (xc * xd) = cd := by rw [← hcde]; exact IntWalk.i64_in _ (by omega)
                          have e3 : IntKind.i64.wrap (ab - cd) = df := by rw [← hdf]; exact IntWalk.i64_in _ (by omega)
                          have e4 : IntKind.i64.wrap (df.tdiv l) = v := by rw [← hv]; exact IntWalk.i64_in _ (by omega)
                          have e5 : (l == 0) = false := by rw [beq_eq_false_iff_ne]; exact hl0
                          clear habe hcde hdf
                          have l6 : (j : Int) < ((n + 1 : Nat) : Int) := by omega
                          clear hv hab hcd
                          go_wp2_with fail
                          refine wp_region_drew_tail 39 (by kernel_rfl) (by kernel_rfl) ?_
                          simp only [List.take_succ_cons, List.take_zero, List.drop_succ_cons, List.drop_zero]
                          repeat (go_big_quiet_step (fail))
                          refine wpQuiet_nil ?_
                          rintro _ ⟨nq, rfl⟩
                          go_wp2_with fail
                          go_roundw
                          case rel =>
                            refine ⟨j, by omega, by go_num, (HS.out.1.congr (fun a b ha hb => ?_)).drewN nq, below_drewN HS.out.2 nq⟩
                            unfold upd
                            by_cases e : a = i ∧ b = j
                            · rw [if_pos e]
                              unfold midM
                              rw [if_pos (by omega), e.1, e.2, HW.out]
                            · rw [if_neg e]
                              unfold midM
                              by_cases e2 : (a < i ∧ a ≠ k) ∨ (a = i ∧ j + 1 ≤ b ∧ b ≠ k)
                              · rw [if_pos e2, if_pos (by omega)]
                              · rw [if_neg e2, if_neg (by omega)]
                          case measure => simp [intOf]
                · obtain rfl : i = n := by omega
                  have HN := Lib.hid (And.intro (H4.out.1.congr (f' := f2) (fun a b ha hb => by
                    unfold midM
                    by_cases e : a = k
                    · rw [if_neg (by omega), e, HF.out.2.1]
                    · rw [if_pos (.inl ⟨ha, e⟩)])) H4.out.2)
                  have r1 := (HN.out.1.rows k hlt).1
                  have q1 := (HN.out.1.cells k k hlt (by omega)).1
                  rw [HF.out.2.1] at q1
                  obtain ⟨l', hl'⟩ : ∃ l', l' = f1 k k := ⟨_, rfl⟩
                  rw [← hl'] at q1
                  have HL := Lib.hid hl'
                  clear hl'
                  have l4 : (k : Int) < ((i + 1 : Nat) : Int) := by omega
                  go_wp2_with fail
                  go_roundg (i + 1 - (k + 1))
                  case measure => omega
                  case rel => exact ⟨k + 1, R', C', f2, l', by omega, rfl, rfl, by go_num, rfl, by rw [HL.out]; exact HF.out.2.2.2.2.1, HN.out.1, HC.out.2.1, HN.out.2⟩
        · obtain rfl : p = n := by omega
          have HF : Hid (slvTo f p p = none) := Lib.hid (by
            have h1 : slvTo f p (k + 1) = none := by rw [slvTo, HR.out.1]; simp only; rw [if_pos (piv_miss (by omega) HP.out)]
            have h2 := slvTo_none h1 (p - (k + 1))
            rwa [show k + 1 + (p - (k + 1)) = p from by omega] at h2)
          go_wp2_with fail
          go_ret2
          exact .inl ⟨HF.out, rfl, HR.out.2.2.2.1⟩
    · obtain rfl : n = k := by omega
      clear hgh
      obtain ⟨wq, rfl⟩ : ∃ wq : World, wq = wr := ⟨_, rfl⟩
      have hwq := HR.out.2.2.2.1.size
      go_wp2_with fail
      go_loopw [2, 148] (fun ov iv wx => ∃ (i : Nat) (D : Option Addr) (c : Nat), i ≤ n ∧ iv = .int .i64 i ∧ ov = .slice D i c ∧ wx.ownsRow wq.heap.size 3 1 (.slice D i c) i ((List.range i).map fun i => .int .i64 (h i n)) ∧ Below wq.heap.size wq wx) (fun _ iv _ => n - (intOf iv).toNat)
      case atStart => exact ⟨0, none, 0, Nat.zero_le _, rfl, rfl, World.ownsRow_nil _ _ _ _, Below.refl _ _⟩
      case round =>
        obtain ⟨i, D, c, hi, rfl, rfl, hown, hb⟩ := hrel
        obtain ⟨wo, rfl⟩ : ∃ wo : World, wo = wr := ⟨_, rfl⟩
        have HO := Lib.hid (And.intro hown hb)
        have hwo := hb.size
        clear hown hb
        by_cases hin : i < n
        · have r1 := (HO.out.2.cell (lt_of_cell (HR.out.2.1.rows i hin).1)).trans (HR.out.2.1.rows i hin).1
          have q1 := (HO.out.2.cell (lt_of_cell (HR.out.2.1.cells i n hin (Nat.le_refl _)).1)).trans (HR.out.2.1.cells i n hin (Nat.le_refl _)).1
          have hnew : ((List.range (i + 1)).map fun i => Value.int .i64 (h i n)) = ((List.range i).map fun i => Value.int .i64 (h i n)) ++ [.int .i64 (h i n)] := by rw [List.range_succ, List.map_append]; rfl
          have HN := Lib.hid hnew
          have l1 : (i : Int) < (n : Int) := by omega
          have l2 : (n : Int) < ((n + 1 : Nat) : Int) := by omega
          clear hnew
          go_wp2_with (at_builtin; refine app1 sty_int rfl _ _ rfl wq.heap.size D i c _ #[.int .i64 (h i n)] rfl (by simp [Value.oneCell']) rfl HO.out.1 rfl (by omega) hwo ?_)
          intro A4 k4 w4 hown4 _ hbl4 hk41 hk42
          have H4 : Hid (w4.ownsRow wq.heap.size 3 1 (.slice A4 (i + 1) k4) (i + 1) ((List.range (i + 1)).map fun i => Value.int .i64 (h i n)) ∧ Below wq.heap.size wq w4) := Lib.hid ⟨by rw [HN.out]; exact hown4, HO.out.2.trans hbl4⟩
          clear hown4 hbl4
          go_wp2_with fail
          go_roundw
          case rel => exact ⟨i + 1, A4, k4, by omega, by go_num, rfl, H4.out.1, H4.out.2⟩
          case measure => simp [intOf]; omega
        · obtain rfl : n = i := by omega
          go_wp2_with fail
          go_ret2
          exact .inr ⟨h, l, D, c, HR.out.1, rfl, own_mono HO.out.1 (by omega), HR.out.2.2.2.1.trans (HO.out.2.mono (by omega))⟩

/- What players pay in an order: plain Lean. -/

/-- What one more player pays, and the set with that player. -/
def joinStep (c : List Int) (p : Nat × List Int) (i : Nat) : Nat × List Int := (p.1 ||| 2 ^ i, p.2.set i (c.getD (p.1 ||| 2 ^ i) 0 - c.getD p.1 0))
/-- What the players pay in an order. -/
def joinL (c : List Int) (os : List Nat) : List Int := (os.foldl (joinStep c) (0, List.replicate os.length 0)).2
def joinP (c : List Int) (n : Nat) (os : List Nat) : Nat × List Int := os.foldl (joinStep c) (0, List.replicate n 0)
theorem joinP_succ (c : List Int) (n : Nat) (os : List Nat) (k x : Nat) (h : os[k]? = some x) : joinP c n (os.take (k + 1)) = joinStep c (joinP c n (os.take k)) x := by
  unfold joinP
  rw [List.take_add_one, h]
  simp [List.foldl_append]
theorem joinP_bd (c : List Int) (n : Nat) (os : List Nat) (h : ∀ x ∈ os, x < n) : (joinP c n os).1 < 2 ^ n ∧ (joinP c n os).2.length = n := by
  unfold joinP
  suffices ∀ p : Nat × List Int, p.1 < 2 ^ n → p.2.length = n → (os.foldl (joinStep c) p).1 < 2 ^ n ∧ (os.foldl (joinStep c) p).2.length = n from this _ (by simp; exact Nat.pos_of_neZero _) (by simp)
  induction os with
  | nil => intro p h1 h2; exact ⟨h1, h2⟩
  | cons x os ih =>
    intro p h1 h2
    exact ih (fun y hy => h y (List.mem_cons_of_mem _ hy)) _ (or_pow_lt h1 (h x (List.mem_cons_self ..))) (by simp [joinStep, h2])


/- Contract: join of package games. -/

set_option maxHeartbeats 800000 in
theorem join_any (ad ac : Addr) (N cap n cap' : Nat) (c : List Int) (os : List Nat) (w : World) (hn : n ≤ 4) (hN : N = 2 ^ n) (hl : c.length = N) (hol : os.length = n)
    (hc : ∀ i x, c[i]? = some x → w.cell? (ac.add i) = some (.int .i64 x)) (ho : ∀ i x, os[i]? = some x → w.cell? (ad.add i) = some (.int .i64 (x : Nat)))
    (hos : ∀ x ∈ os, x < n) (hcb : ∀ x ∈ c, 0 ≤ x ∧ x ≤ 1000) :
    Calls Tryd.prog 27 #[.slice (some ac) N cap, .slice (some ad) n cap'] w fun e w' => e = .returned (.slice (some ⟨w.heap.size, 0, none⟩) n n) ∧ Blk w' w.heap.size 3 (arr (joinL c os)) ∧ Below w.heap.size w w' := by
  have hmk := make_ints n (by omega)
  have HN := Lib.hid hN
  have HL := Lib.hid hl
  have HOL := Lib.hid hol
  have HC := Lib.hid hc
  have HO := Lib.hid ho
  have HOS := Lib.hid hos
  have HCB := Lib.hid hcb
  clear hN hl hol hc ho hos hcb
  go_enter Tryd.func27, Tryd.ntmps27
  go_wp2
  go_loopw [6, 14] (fun s i wr => ∃ k set : Nat, k ≤ n ∧ i = .int .i64 k ∧ s = .int .i64 set ∧ set = (joinP c n (os.take k)).1 ∧ Blk wr w.heap.size 3 (arr (joinP c n (os.take k)).2) ∧ Below w.heap.size w wr) (fun _ i _ => n - (intOf i).toNat)
  case atStart => exact ⟨0, 0, Nat.zero_le _, rfl, rfl, rfl, Blk.new _ _ _ rfl, (Below.refl _ _).alloc (Nat.le_refl _) _⟩
  case round =>
    obtain ⟨k, set, h1, rfl, rfl, hset, hB, hb⟩ := hrel
    have HSET := Lib.hid hset
    have HB := Lib.hid hB
    have HBL := Lib.hid hb
    clear hset hB hb
    by_cases hlt : k < n
    · obtain ⟨x, hx⟩ : ∃ x, os[k]? = some x := ⟨_, List.getElem?_eq_getElem (by rw [HOL.out]; exact hlt)⟩
      have hxn : x < n := HOS.out x (List.mem_of_getElem? hx)
      have bd := joinP_bd c n (os.take k) (fun y hy => HOS.out y (List.mem_of_mem_take hy))
      rw [← HSET.out] at bd
      have hlt2 : set ||| 2 ^ x < 2 ^ n := or_pow_lt bd.1 hxn
      have hp : 2 ^ n ≤ 16 := by have := Nat.pow_le_pow_right (show 0 < 2 by omega) hn; simpa using this
      obtain ⟨s', hs'⟩ : ∃ s' : Nat, s' = set ||| 2 ^ x := ⟨_, rfl⟩
      have e1 := or_pow set x (by omega) (by omega)
      have e2 := or_pow' set x (by omega) (by omega)
      rw [← hs'] at e1 e2 hlt2
      obtain ⟨y1, hy1⟩ : ∃ y, c[s']? = some y := ⟨_, List.getElem?_eq_getElem (by rw [HL.out, HN.out]; exact hlt2)⟩
      obtain ⟨y0, hy0⟩ : ∃ y, c[set]? = some y := ⟨_, List.getElem?_eq_getElem (by rw [HL.out, HN.out]; exact bd.1)⟩
      have b1 := HCB.out y1 (List.mem_of_getElem? hy1)
      have b0 := HCB.out y0 (List.mem_of_getElem? hy0)
      have c1 := (HBL.out.cell (lt_of_cell (HC.out _ _ hy1))).trans (HC.out _ _ hy1)
      have c0 := (HBL.out.cell (lt_of_cell (HC.out _ _ hy0))).trans (HC.out _ _ hy0)
      have c2 := (HBL.out.cell (lt_of_cell (HO.out _ _ hx))).trans (HO.out _ _ hx)
      have hlN : s' < N := by rw [HN.out]; exact hlt2
      have hl0 : set < N := by rw [HN.out]; exact bd.1
      obtain ⟨z, hz⟩ : ∃ z, (joinP c n (os.take k)).2[x]? = some z := ⟨_, List.getElem?_eq_getElem (by rw [bd.2]; exact hxn)⟩
      have c3 : wr.cell? ⟨w.heap.size, x, none⟩ = some (.int .i64 z) := by rw [HB.out.cell, arr_get, hz]; rfl
      have f3 : wr.frozen? ⟨w.heap.size, x, none⟩ = false := HB.out.frozen x
      have HNEW : Hid (joinP c n (os.take (k + 1)) = (s', (joinP c n (os.take k)).2.set x (y1 - y0))) := Lib.hid (by
        rw [joinP_succ c n os k x hx, joinStep, ← HSET.out, ← hs', List.getD_eq_getElem?_getD, List.getD_eq_getElem?_getD, hy1, hy0]; rfl)
      clear hx hs' hy1 hy0 hz bd hlt2 hp
      go_wp2
      go_region
      go_wp2
      go_roundw
      case rel =>
        refine ⟨k + 1, s', by omega, by go_num, rfl, by rw [HNEW.out], ?_, HBL.out.drew.setCell (Nat.le_refl _) _⟩
        rw [HNEW.out, ← arr_set]
        exact Blk.set_ (w := wr.drew) HB.out x _
      case measure => simp [intOf]; omega
    · go_wp2
      go_ret
      refine ⟨rfl, ?_, HBL.out⟩
      have h := HB.out
      rwa [List.take_of_length_le (by rw [HOL.out]; omega), show joinP c n os = os.foldl (joinStep c) (0, List.replicate os.length 0) from by rw [joinP, HOL.out]] at h

/- The orders of players and the sums over them: plain Lean. -/

/-- sums with the first k numbers of js added. -/
def addUp (sums js : List Int) : Nat → List Int
  | 0 => sums
  | k + 1 => (addUp sums js k).set k ((addUp sums js k).getD k 0 + js.getD k 0)
theorem addUp_length (sums js : List Int) (k : Nat) : (addUp sums js k).length = sums.length := by
  induction k with
  | zero => rfl
  | succ k ih => simp [addUp, ih]
theorem addUp_get (sums js : List Int) (k i : Nat) (hi : i < sums.length) : (addUp sums js k).getD i 0 = if i < k then sums.getD i 0 + js.getD i 0 else sums.getD i 0 := by
  induction k with
  | zero => simp [addUp]
  | succ k ih =>
    have hl := addUp_length sums js k
    simp only [addUp, List.getD_eq_getElem?_getD, List.getElem?_set] at ih ⊢
    by_cases h : k = i
    · subst h
      rw [if_pos rfl, if_pos (by omega), if_pos (by omega)]
      simp only [Option.getD_some]
      rw [ih, if_neg (by omega)]
    · rw [if_neg h, ih]
      split <;> split <;> first | rfl | omega

/-- All orders of n players that begin with pre, m being left to come. -/
def ext (n : Nat) : Nat → List Nat → List (List Nat)
  | 0, pre => [pre]
  | m + 1, pre => (List.range n).flatMap fun i => if i ∈ pre then [] else ext n m (pre ++ [i])
/-- The part of them whose next player is below i. -/
def extTo (n m : Nat) (pre : List Nat) (i : Nat) : List (List Nat) := (List.range i).flatMap fun i => if i ∈ pre then [] else ext n m (pre ++ [i])
theorem ext_eq (n m : Nat) (pre : List Nat) : ext n (m + 1) pre = extTo n m pre n := rfl
theorem extTo_succ (n m : Nat) (pre : List Nat) (i : Nat) : extTo n m pre (i + 1) = extTo n m pre i ++ (if i ∈ pre then [] else ext n m (pre ++ [i])) := by
  simp [extTo, List.range_succ]
theorem extTo_le (n m : Nat) (pre : List Nat) (i j : Nat) (h : i ≤ j) : (extTo n m pre i).length ≤ (extTo n m pre j).length := by
  induction j with
  | zero => obtain rfl : i = 0 := by omega
            exact Nat.le_refl _
  | succ j ih =>
    rcases Nat.lt_or_ge j i with h1 | h1
    · obtain rfl : i = j + 1 := by omega
      exact Nat.le_refl _
    · rw [extTo_succ, List.length_append]; have := ih h1; omega

/-- The sums after all orders of a list have been added. -/
def addAll (c : List Int) (n : Nat) (sums : List Int) (L : List (List Nat)) : List Int := L.foldl (fun s os => addUp s (joinL c os) n) sums
theorem addAll_append (c : List Int) (n : Nat) (sums : List Int) (L M : List (List Nat)) : addAll c n sums (L ++ M) = addAll c n (addAll c n sums L) M := by
  simp [addAll, List.foldl_append]
theorem addAll_length (c : List Int) (n : Nat) (sums : List Int) (L : List (List Nat)) : (addAll c n sums L).length = sums.length := by
  induction L generalizing sums with
  | nil => rfl
  | cons os L ih => simp only [addAll, List.foldl_cons] at ih ⊢; rw [ih, addUp_length]

theorem costs_get {c : List Int} (hcb : ∀ x ∈ c, 0 ≤ x ∧ x ≤ 1000) (i : Nat) : 0 ≤ c.getD i 0 ∧ c.getD i 0 ≤ 1000 := by
  rw [List.getD_eq_getElem?_getD]
  cases h : c[i]? with
  | none => simp
  | some x => exact hcb x (List.mem_of_getElem? h)
theorem joinL_bd {c : List Int} (hcb : ∀ x ∈ c, 0 ≤ x ∧ x ≤ 1000) (os : List Nat) : ∀ y ∈ joinL c os, -1000 ≤ y ∧ y ≤ 1000 := by
  unfold joinL
  suffices ∀ p : Nat × List Int, (∀ y ∈ p.2, -1000 ≤ y ∧ y ≤ 1000) → ∀ y ∈ (os.foldl (joinStep c) p).2, -1000 ≤ y ∧ y ≤ 1000 from
    this _ (by intro y hy; rw [List.mem_replicate] at hy; omega)
  induction os with
  | nil => intro p h; exact h
  | cons x os ih =>
    intro p h
    refine ih _ fun y hy => ?_
    rcases List.mem_or_eq_of_mem_set hy with hy | rfl
    · exact h y hy
    · have h1 := costs_get hcb (p.1 ||| 2 ^ x); have h2 := costs_get hcb p.1; omega
theorem getD_bd {l : List Int} {m : Int} (h : ∀ y ∈ l, -m ≤ y ∧ y ≤ m) (hm : 0 ≤ m) (i : Nat) : -m ≤ l.getD i 0 ∧ l.getD i 0 ≤ m := by
  rw [List.getD_eq_getElem?_getD]
  cases hh : l[i]? with
  | none => simp; omega
  | some x => exact h x (List.mem_of_getElem? hh)
theorem addUp_bd {sums js : List Int} {m : Int} (hs : ∀ y ∈ sums, -m ≤ y ∧ y ≤ m) (hj : ∀ y ∈ js, -1000 ≤ y ∧ y ≤ 1000) (hm : 0 ≤ m) (k : Nat) : ∀ y ∈ addUp sums js k, -(m + 1000) ≤ y ∧ y ≤ m + 1000 := by
  intro y hy
  obtain ⟨i, hi, rfl⟩ := List.getElem_of_mem hy
  rw [addUp_length] at hi
  have h := addUp_get sums js k i hi
  rw [List.getD_eq_getElem?_getD, List.getElem?_eq_getElem (by rw [addUp_length]; exact hi)] at h
  simp only [Option.getD_some] at h
  rw [h]
  have h1 := getD_bd hs hm i
  have h2 := getD_bd hj (by omega) i
  split <;> omega

/- Contract: the function that games.Shapley calls for each order. -/

set_option maxHeartbeats 800000 in
theorem shapley1_any (ad ac : Addr) (N cap n cap' Bc Bk Bs S : Nat) (c : List Int) (os : List Nat) (cnt : Int) (sums : List Int) (w : World)
    (hn : n ≤ 4) (hN : N = 2 ^ n) (hl : c.length = N) (hol : os.length = n) (hsl : sums.length = n)
    (hc : ∀ i x, c[i]? = some x → w.cell? (ac.add i) = some (.int .i64 x)) (ho : ∀ i x, os[i]? = some x → w.cell? (ad.add i) = some (.int .i64 (x : Nat)))
    (hos : ∀ x ∈ os, x < n) (hcb : ∀ x ∈ c, 0 ≤ x ∧ x ≤ 1000) (hcnt : 0 ≤ cnt ∧ cnt ≤ 1000) (hsb : ∀ y ∈ sums, -(1000 * cnt) ≤ y ∧ y ≤ 1000 * cnt)
    (bc : Blk w Bc 3 #[.int .i64 cnt]) (bk : Blk w Bk 64 #[.slice (some ac) N cap]) (bs : Blk w Bs 22 #[.slice (some ⟨S, 0, none⟩) n n]) (bS : Blk w S 3 (arr sums))
    (n1 : ac.block ≠ Bc) (n2 : ad.block ≠ Bc) (n3 : Bk ≠ Bc) (n4 : Bs ≠ Bc) (n5 : S ≠ Bc) (n6 : Bs ≠ S) :
    Calls Tryd.prog 26 #[.slice (some ad) n cap', .pointer (some ⟨Bc, 0, none⟩), .pointer (some ⟨Bk, 0, none⟩), .pointer (some ⟨Bs, 0, none⟩)] w fun e w' =>
      e = .returned (.tuple #[]) ∧ Blk w' Bc 3 #[.int .i64 (cnt + 1)] ∧ Blk w' S 3 (arr (addUp sums (joinL c os) n)) ∧ Kept w.heap.size [Bc, S] w w' := by
  obtain ⟨k0, k1⟩ := bk.at1
  obtain ⟨q0, q1⟩ := bc.at1
  have hbc := bc.lt
  have W1 : Kept w.heap.size [Bc, S] w (w.setCell ⟨Bc, 0, none⟩ (.int .i64 (cnt + 1))) := (Kept.refl _ _ _).setCell (.inl (by simp)) _
  have bk1 : Blk (w.setCell ⟨Bc, 0, none⟩ (.int .i64 (cnt + 1))) Bk 64 #[.slice (some ac) N cap] := bk.far n3 _
  have bs1 : Blk (w.setCell ⟨Bc, 0, none⟩ (.int .i64 (cnt + 1))) Bs 22 #[.slice (some ⟨S, 0, none⟩) n n] := bs.far n4 _
  have bS1 : Blk (w.setCell ⟨Bc, 0, none⟩ (.int .i64 (cnt + 1))) S 3 (arr sums) := bS.far n5 _
  have bc1 : Blk (w.setCell ⟨Bc, 0, none⟩ (.int .i64 (cnt + 1))) Bc 3 #[.int .i64 (cnt + 1)] := bc.set_ 0 _
  have cell1 : ∀ (p : Addr) (v : Value), p.block ≠ Bc → w.cell? p = some v → (w.setCell ⟨Bc, 0, none⟩ (.int .i64 (cnt + 1))).cell? p = some v := fun p v hp hv => (World.cell?_of_block (w := w) (Below.heap_setCell w ⟨Bc, 0, none⟩ _ p.block hp)).trans hv
  have hc1 : ∀ i x, c[i]? = some x → (w.setCell ⟨Bc, 0, none⟩ (.int .i64 (cnt + 1))).cell? (ac.add i) = some (.int .i64 x) := fun i x hx => cell1 _ _ (by rw [add_block]; exact n1) (hc i x hx)
  have ho1 : ∀ i x, os[i]? = some x → (w.setCell ⟨Bc, 0, none⟩ (.int .i64 (cnt + 1))).cell? (ad.add i) = some (.int .i64 (x : Nat)) := fun i x hx => cell1 _ _ (by rw [add_block]; exact n2) (ho i x hx)
  have hjb := joinL_bd hcb os
  have hz : (w.setCell ⟨Bc, 0, none⟩ (.int .i64 (cnt + 1))).heap.size = w.heap.size := by simp [World.setCell]
  obtain ⟨k2, k3⟩ := bk1.at1
  have HC := Lib.hid hc1
  have HO := Lib.hid ho1
  have HJB := Lib.hid hjb
  have HSB := Lib.hid hsb
  have HZ := Lib.hid hz
  have HSL := Lib.hid hsl
  have HB := Lib.hid (And.intro bk1 (And.intro bs1 (And.intro bS1 (And.intro bc1 W1))))
  have HX := Lib.hid (And.intro hN (And.intro hl (And.intro hol (And.intro hos hcb))))
  clear hc ho hc1 ho1 hjb hsb hz bk bs bS bc bk1 bs1 bS1 bc1 W1 cell1 k0 k1 hN hl hol hos hcb hsl
  go_enter Tryd.func26, Tryd.ntmps26
  go_wp2_with fail
  refine (join_any ad ac N cap n cap' c os _ hn HX.out.1 HX.out.2.1 HX.out.2.2.1 HC.out HO.out HX.out.2.2.2.1 HX.out.2.2.2.2).mono ?_
  rintro e w2 ⟨rfl, hJ, hb⟩
  rw [HZ.out] at hb hJ ⊢
  obtain ⟨bk1, bs1, bS1, bc1, W1⟩ := HB.out
  have W2 : Kept w.heap.size [Bc, S] w w2 := W1.trans (Kept.of_below hb _)
  have bs2 := bs1.below hb (by have := bs1.lt; rw [HZ.out] at this; exact this)
  have bS2 := bS1.below hb (by have := bS1.lt; rw [HZ.out] at this; exact this)
  have bc2 := bc1.below hb hbc
  have hS : S < w.heap.size := by have := bS1.lt; rw [HZ.out] at this; exact this
  have hBs : Bs < w.heap.size := by have := bs1.lt; rw [HZ.out] at this; exact this
  have H2 := Lib.hid (And.intro hJ (And.intro W2 (And.intro bs2 (And.intro bS2 bc2))))
  clear hJ hb W2 bs2 bS2 bc2 bk1 bs1 bS1 bc1 W1
  go_wp2
  go_loopw [13] (fun i wr => ∃ k : Nat, k ≤ n ∧ i = .int .i64 k ∧ Blk wr S 3 (arr (addUp sums (joinL c os) k)) ∧ Blk wr Bc 3 #[.int .i64 (cnt + 1)] ∧ Blk wr Bs 22 #[.slice (some ⟨S, 0, none⟩) n n] ∧ Blk wr w.heap.size 3 (arr (joinL c os)) ∧ Kept w.heap.size [Bc, S] w wr) (fun i _ => n - (intOf i).toNat)
  case atStart => exact ⟨0, Nat.zero_le _, rfl, H2.out.2.2.2.1, H2.out.2.2.2.2, H2.out.2.2.1, H2.out.1, H2.out.2.1⟩
  case round =>
    obtain ⟨k, h1, rfl, bS, bc, bs, bJ, hK⟩ := hrel
    by_cases hlt : k < n
    · have hjl : k < (joinL c os).length := by
        have := (joinP_bd c n os HX.out.2.2.2.1).2
        unfold joinP at this; rw [show joinL c os = (os.foldl (joinStep c) (0, List.replicate n 0)).2 from by rw [joinL, HX.out.2.2.1]]; omega
      have hul : k < (addUp sums (joinL c os) k).length := by rw [addUp_length, HSL.out]; exact hlt
      obtain ⟨x, hx⟩ : ∃ x, (joinL c os)[k]? = some x := ⟨_, List.getElem?_eq_getElem hjl⟩
      obtain ⟨z, hz⟩ : ∃ x, (addUp sums (joinL c os) k)[k]? = some x := ⟨_, List.getElem?_eq_getElem hul⟩
      have hxb := HJB.out x (List.mem_of_getElem? hx)
      have hzb := addUp_bd HSB.out HJB.out (by omega) k z (List.mem_of_getElem? hz)
      have c1 : wr.cell? ⟨w.heap.size, k, none⟩ = some (.int .i64 x) := by rw [bJ.cell, arr_get, hx]; rfl
      have c2 : wr.cell? ⟨S, k, none⟩ = some (.int .i64 z) := by rw [bS.cell, arr_get, hz]; rfl
      have f2 : wr.frozen? ⟨S, k, none⟩ = false := bS.frozen k
      obtain ⟨s1, s2⟩ := bs.at1
      have HNEW : Hid (addUp sums (joinL c os) (k + 1) = (addUp sums (joinL c os) k).set k (z + x)) := Lib.hid (by
        rw [addUp, List.getD_eq_getElem?_getD, List.getD_eq_getElem?_getD, hz, hx]; rfl)
      have H3 := Lib.hid (And.intro bS (And.intro bc (And.intro bs (And.intro bJ hK))))
      clear bS bc bs bJ hK hx hz hjl hul
      go_wp2
      go_roundw
      case rel =>
        obtain ⟨bS, bc, bs, bJ, hK⟩ := H3.out
        refine ⟨k + 1, by omega, by go_num, ?_, bc.far (by exact fun e => n5 e.symm) _, bs.far n6 _, bJ.far (by show w.heap.size ≠ S; omega) _, hK.setCell (.inl (by simp)) _⟩
        rw [HNEW.out, ← arr_set]
        exact bS.set_ k _
      case measure => simp [intOf]; omega
    · obtain rfl : k = n := by omega
      have H3 := Lib.hid (And.intro bS (And.intro bc hK))
      clear bS bc bs bJ hK
      go_wp2
      go_end0
      exact ⟨rfl, H3.out.2.1, H3.out.1, H3.out.2.2⟩

/- Contract: the function that lists the orders of the players (orders of package games, its inner function), called with the function of games.Shapley. -/

/-- The places of what the orders' function works on. -/
structure GX where
  ac : Addr
  N : Nat
  cap : Nat
  n : Nat
  Bc : Nat
  Bk : Nat
  Bs : Nat
  S : Nat
  Bo : Nat
  Bcb : Nat
  Bfb : Nat
  Bg : Nat
  base : Nat
  c : List Int

structure GX.ok (X : GX) : Prop where
  hn : X.n ≤ 4
  hn0 : 1 ≤ X.n
  hN : X.N = 2 ^ X.n
  hl : X.c.length = X.N
  hcb : ∀ x ∈ X.c, 0 ≤ x ∧ x ≤ 1000
  a1 : X.ac.block ≠ X.Bc
  a2 : X.ac.block ≠ X.S
  a3 : X.ac.block ≠ X.Bo
  a4 : X.ac.block < X.base
  nd : ∀ x ∈ [X.Bs, X.Bk, X.Bcb, X.Bfb, X.Bg], x ∉ [X.Bo, X.Bc, X.S]
  n1 : X.Bo ≠ X.Bc
  n2 : X.Bo ≠ X.S
  n3 : X.S ≠ X.Bc
  lt : ∀ x ∈ [X.Bo, X.Bc, X.S, X.Bs, X.Bk, X.Bcb, X.Bfb, X.Bg], x < X.base

def nats (xs : List Nat) : List Value := xs.map fun (x : Nat) => Value.int .i64 (x : Int)

/-- The fixed parts of memory. -/
structure GX.fix (X : GX) (w : World) : Prop where
  size : X.base ≤ w.heap.size
  bcb : Blk w X.Bcb 64 #[.slice (some X.ac) X.N X.cap]
  bfb : Blk w X.Bfb 68 #[.func (.func 26) #[] #[.pointer (some ⟨X.Bc, 0, none⟩), .pointer (some ⟨X.Bk, 0, none⟩), .pointer (some ⟨X.Bs, 0, none⟩)]]
  bg : Blk w X.Bg 1 #[.func (.func 54) #[] #[.pointer (some ⟨X.Bo, 0, none⟩), .pointer (some ⟨X.Bcb, 0, none⟩), .pointer (some ⟨X.Bfb, 0, none⟩), .pointer (some ⟨X.Bg, 0, none⟩)]]
  bk : Blk w X.Bk 64 #[.slice (some X.ac) X.N X.cap]
  bs : Blk w X.Bs 22 #[.slice (some ⟨X.S, 0, none⟩) X.n X.n]
  hc : ∀ i x, X.c[i]? = some x → w.cell? (X.ac.add i) = some (.int .i64 x)

/-- The count and the sums. -/
structure GX.acc (X : GX) (cnt : Int) (sums : List Int) (w : World) : Prop where
  bc : Blk w X.Bc 3 #[.int .i64 cnt]
  bS : Blk w X.S 3 (arr sums)
  c0 : 0 ≤ cnt
  sl : sums.length = X.n
  sb : ∀ y ∈ sums, -(1000 * cnt) ≤ y ∧ y ≤ 1000 * cnt

/-- The order so far. -/
def GX.pre (X : GX) (pre : List Nat) (w : World) : Prop := ∃ A k, Blk w X.Bo 22 #[.slice A pre.length k] ∧ w.ownsRow X.base 3 1 (.slice A pre.length k) pre.length (nats pre) ∧ pre.length ≤ k ∧ k ≤ 9223372036854775807

theorem GX.fix.kept {X : GX} {w w' : World} (h : X.fix w) (hx : X.ok) (hk : Kept X.base [X.Bo, X.Bc, X.S] w w') : X.fix w' := by
  have k : ∀ (g : Nat) (t : TypeId) (cs : Array Value), Blk w g t cs → g ∈ [X.Bs, X.Bk, X.Bcb, X.Bfb, X.Bg] → Blk w' g t cs := by
    intro g t cs hb hm
    exact hb.kept hk (hx.lt g (by simp only [List.mem_cons] at hm ⊢; exact .inr (.inr (.inr hm)))) (hx.nd g hm)
  exact {
    size := Nat.le_trans h.size hk.size
    bcb := k _ _ _ h.bcb (by simp)
    bfb := k _ _ _ h.bfb (by simp)
    bg := k _ _ _ h.bg (by simp)
    bk := k _ _ _ h.bk (by simp)
    bs := k _ _ _ h.bs (by simp)
    hc := fun i x hi => (hk.cell (by rw [add_block]; exact hx.a4) (by rw [add_block]; simp [hx.a1, hx.a2, hx.a3])).trans (h.hc i x hi) }

/-- What the walk of the inner function leaves: the count and the sums moved on by the orders of a list, the order so far as it was. -/
structure GX.post (X : GX) (pre : List Nat) (cnt : Int) (sums : List Int) (L : List (List Nat)) (w w' : World) : Prop where
  acc : X.acc (cnt + L.length) (addAll X.c X.n sums L) w'
  pre : X.pre pre w'
  kept : Kept X.base [X.Bo, X.Bc, X.S] w w'

theorem own_pop {w : World} {base e n k : Nat} {A : Option Addr} {xs : List Value} {y : Value} (h : w.ownsRow base e 1 (.slice A (n + 1) k) (n + 1) (xs ++ [y])) : w.ownsRow base e 1 (.slice A n k) n xs := by
  obtain ⟨hl, h⟩ := h
  have hl' : xs.length = n := by simp at hl; omega
  refine ⟨by omega, ?_⟩
  rcases h with ⟨_, h⟩ | ⟨g, cap, cur, hv, h1, h2, h3, h4, h5, h6⟩
  · omega
  · refine .inr ⟨g, cap, cur, ?_, h1, h2, by omega, h4, h5, ?_⟩
    · injection hv with e1 e2 e3; rw [e1, e3]
    · have := congrArg (List.take n) h6
      rw [List.take_take, List.take_append_of_le_length (by omega), List.take_of_length_le (l := xs) (by omega)] at this
      rw [Nat.mul_one]
      rw [← this]
      congr 1
      omega
theorem nats_snoc (xs : List Nat) (x : Nat) : nats (xs ++ [x]) = nats xs ++ [Value.int .i64 (x : Int)] := by simp [nats]
theorem nats_one (xs : List Nat) : ∀ u ∈ nats xs, u.oneCell' = true := by
  intro u hu
  simp only [nats, List.mem_map] at hu
  obtain ⟨x, _, rfl⟩ := hu
  rfl
/-- An owned row lies apart from older blocks, so it stays behind what leaves it alone. -/
theorem own_kept {w w' : World} {base e size n : Nat} {v : Value} {xs : List Value} (h : w.ownsRow base e size v n xs) (hk : ∀ g, base ≤ g → g < w.heap.size → w'.heap[g]? = w.heap[g]?) : w'.ownsRow base e size v n xs := by
  obtain ⟨h1, h2⟩ := h
  refine ⟨h1, ?_⟩
  rcases h2 with h2 | ⟨g, cap, cur, hv, a1, a2, a3⟩
  · exact .inl h2
  · exact .inr ⟨g, cap, cur, hv, a1, (hk g a1 (lt_of_block a2)).trans a2, a3⟩
theorem own_setCell {w : World} {base e size n : Nat} {v : Value} {xs : List Value} (h : w.ownsRow base e size v n xs) {p : Addr} (hp : p.block < base) (u : Value) : (w.setCell p u).ownsRow base e size v n xs :=
  own_kept h fun g hg _ => Below.heap_setCell w p u g (by omega)

/- Contract: the inner function of orders, by induction on how many players are still to come. -/

theorem players_q (A : Option Addr) (n k cap m : Nat) (w : World) (h : n = 2 ∧ k = 1 ∨ n = 4 ∧ k = 2 ∨ n = 8 ∧ k = 3 ∨ n = 16 ∧ k = 4) :
    Calls Tryd.prog 24 #[.slice A n cap] (w.drewN m) fun e w'' => e = .returned (.int .i64 k) ∧ ∃ j, w'' = w.drewN j :=
  (players_any A n k cap _ h).mono fun _ _ hh => ⟨hh.1, m, hh.2.symm⟩

theorem GX.ok.np {X : GX} (hx : X.ok) : X.N = 2 ∧ X.n = 1 ∨ X.N = 4 ∧ X.n = 2 ∨ X.N = 8 ∧ X.n = 3 ∨ X.N = 16 ∧ X.n = 4 := by
  have h := hx.hN
  have h1 := hx.hn
  have h0 := hx.hn0
  generalize X.n = n at *
  generalize X.N = N at *
  subst h
  match n, h0, h1 with
  | 1, _, _ => simp
  | 2, _, _ => simp
  | 3, _, _ => simp
  | 4, _, _ => simp

theorem own_cells {w : World} {base e n g c : Nat} {xs : List Value} (h : w.ownsRow base e 1 (.slice (some ⟨g, 0, none⟩) n c) n xs) : ∀ j u, xs[j]? = some u → w.cell? ((⟨g, 0, none⟩ : Addr).add j) = some u := h.cells rfl

theorem nats_get {xs : List Nat} {i x : Nat} (h : xs[i]? = some x) : (nats xs)[i]? = some (Value.int .i64 (x : Int)) := by simp [nats, h]

set_option maxHeartbeats 800000 in
theorem grow_full (X : GX) (hx : X.ok) (pre : List Nat) (cnt : Int) (sums : List Int) (w : World) (hpl : pre.length = X.n) (hpn : ∀ x ∈ pre, x < X.n) (hf : X.fix w) (ha : X.acc cnt sums w) (hp : X.pre pre w) (hcnt : cnt ≤ 1000) :
    Calls Tryd.prog 54 #[.pointer (some ⟨X.Bo, 0, none⟩), .pointer (some ⟨X.Bcb, 0, none⟩), .pointer (some ⟨X.Bfb, 0, none⟩), .pointer (some ⟨X.Bg, 0, none⟩)] w fun e w' =>
      e = .returned (.tuple #[]) ∧ X.post pre cnt sums [pre] w w' := by
  obtain ⟨A, k, hbo, hown, hk1, hk2⟩ := hp
  rw [hpl] at hbo hown hk1
  obtain ⟨g, rfl, hg, hgw⟩ := own_some hown (by have := hx.hn0; omega)
  obtain ⟨o1, o2⟩ := hbo.at1
  obtain ⟨q1, q2⟩ := hf.bcb.at1
  obtain ⟨r1, r2⟩ := hf.bfb.at1
  have hn4 := hx.hn
  have hn0 := hx.hn0
  have HNP := Lib.hid hx.np
  have HH := Lib.hid (And.intro hx (And.intro hf (And.intro ha (And.intro hown hpn))))
  have HPL := Lib.hid hpl
  have HBO := Lib.hid hbo
  clear hx hf ha hown hpn hpl hbo
  go_enter Tryd.func54, Tryd.ntmps54
  go_wp2_with fail
  go_quiet ((go_at_call 24; exact players_q _ _ _ _ _ _ HNP.out))
  go_wp2_with fail
  obtain ⟨hx, hf, ha, hown, hpn⟩ := HH.out
  refine (shapley1_any ⟨g, 0, none⟩ X.ac X.N X.cap X.n k X.Bc X.Bk X.Bs X.S X.c pre cnt sums (w.drewN nq) hx.hn hx.hN hx.hl HPL.out ha.sl (fun i x hi => hf.hc i x hi) (fun i x hi => own_cells hown i _ (nats_get hi)) hpn hx.hcb ⟨ha.c0, hcnt⟩ ha.sb (ha.bc.drewN _) (hf.bk.drewN _) (hf.bs.drewN _) (ha.bS.drewN _) hx.a1 ?n2 ?n3 ?n4 hx.n3 ?n6).mono ?_
  case n2 => have := hx.lt X.Bc (by simp); show g ≠ X.Bc; omega
  case n3 => have := hx.nd X.Bk (by simp); simp at this; exact this.2.1
  case n4 => have := hx.nd X.Bs (by simp); simp at this; exact this.2.1
  case n6 => have := hx.nd X.Bs (by simp); simp at this; exact this.2.2
  rintro e w' ⟨rfl, h1, h2, h3⟩
  have HF := Lib.hid (And.intro h1 (And.intro h2 h3))
  clear h1 h2 h3 hx hf ha hown hpn
  go_wp2
  obtain ⟨hx, hf, ha, hown, hpn⟩ := HH.out
  obtain ⟨h1, h2, h3⟩ := HF.out
  refine bodyPost_ret (results_none rfl _ _ _) rfl ⟨rfl, ?_⟩
  have hk : Kept w.heap.size [X.Bc, X.S] w w' := ((Kept.refl _ _ w).drewN _).trans h3
  have hbo := hx.lt X.Bo (by simp)
  have hbc := hx.lt X.Bc (by simp)
  have hbS := hx.lt X.S (by simp)
  have hsz := hf.size
  exact {
    acc := {
      bc := by simpa using h1
      bS := h2
      c0 := by have := ha.c0; simp; omega
      sl := (addUp_length _ _ _).trans ha.sl
      sb := fun y hy => by
        have := addUp_bd ha.sb (joinL_bd hx.hcb pre) (by have := ha.c0; omega) X.n y hy
        simp only [List.length_singleton]; omega }
    pre := ⟨some ⟨g, 0, none⟩, k, by rw [HPL.out]; exact HBO.out.kept hk HBO.out.lt (by simp [hx.n1, hx.n2]), by
      rw [HPL.out]
      exact own_kept hown fun b h1 h2 => hk.block b h2 (by simp only [List.mem_cons, List.not_mem_nil, or_false]; omega), by rw [HPL.out]; exact hk1, hk2⟩
    kept := hk.mono hsz (by simp) }
end Go.Proofs.YtifmekijdepokaaDoor
