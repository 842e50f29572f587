/- The middle of the first places on an axis wins over everyone: plain Lean. -/
namespace Go.Proofs.Ytpoibiakfjkebaa.Mid

/-- Does a ballot put x ahead of y? -/
def bf (b : List Nat) (x y : Nat) : Bool := decide (b.idxOf x < b.idxOf y)
/-- The margin of x over y. -/
def mg (B : List (List Nat)) (x y : Nat) : Int := (B.countP (fun b => bf b x y) : Int) - (B.countP (fun b => bf b y x) : Int)
theorem mg_swap (B : List (List Nat)) (x y : Nat) : mg B y x = - mg B x y := by unfold mg; omega

/-- Does some candidate stand behind both of two others between which it is? -/
def bendB (ax b : List Nat) : Bool := (List.range ax.length).any fun j => (ax.take j).any (fun x => bf b x (ax.getD j 0)) && (ax.drop (j + 1)).any (fun x => bf b x (ax.getD j 0))

theorem bend_of {ax b : List Nat} {i j k : Nat} (h1 : i < j) (h2 : j < k) (h3 : k < ax.length) (h4 : bf b (ax.getD i 0) (ax.getD j 0) = true) (h5 : bf b (ax.getD k 0) (ax.getD j 0) = true) : bendB ax b = true := by
  unfold bendB
  rw [List.any_eq_true]
  refine ⟨j, List.mem_range.2 (by omega), ?_⟩
  rw [Bool.and_eq_true, List.any_eq_true, List.any_eq_true]
  refine ⟨⟨ax.getD i 0, ?_, h4⟩, ax.getD k 0, ?_, h5⟩
  · rw [List.mem_iff_getElem?]
    exact ⟨i, by rw [List.getElem?_take_of_lt h1, List.getD_eq_getElem?_getD, List.getElem?_eq_getElem (by omega)]; rfl⟩
  · rw [List.mem_iff_getElem?]
    exact ⟨k - (j + 1), by rw [List.getElem?_drop, show j + 1 + (k - (j + 1)) = k by omega, List.getD_eq_getElem?_getD, List.getElem?_eq_getElem h3]; rfl⟩

/-- An order of the numbers below n. -/
structure Odr (n : Nat) (b : List Nat) : Prop where
  len : b.length = n
  nd : b.Nodup
  mem : ∀ x, x ∈ b ↔ x < n
theorem Odr.idx_lt {n : Nat} {b : List Nat} (h : Odr n b) {x : Nat} (hx : x < n) : b.idxOf x < n := by rw [← h.len]; exact List.idxOf_lt_length_of_mem ((h.mem x).2 hx)
theorem Odr.get_idx {n : Nat} {b : List Nat} (h : Odr n b) {x : Nat} (hx : x < n) : b.getD (b.idxOf x) 0 = x := by
  have hl : b.idxOf x < b.length := List.idxOf_lt_length_of_mem ((h.mem x).2 hx)
  rw [List.getD_eq_getElem?_getD, List.getElem?_eq_getElem hl]
  exact List.getElem_idxOf hl
theorem Odr.get_lt {n : Nat} {b : List Nat} (h : Odr n b) {i : Nat} (hi : i < n) : b.getD i 0 < n := by
  have hl : i < b.length := by rw [h.len]; exact hi
  rw [List.getD_eq_getElem?_getD, List.getElem?_eq_getElem hl]
  exact (h.mem _).1 (List.getElem_mem hl)
theorem Odr.idx_get {n : Nat} {b : List Nat} (h : Odr n b) {i : Nat} (hi : i < n) : b.idxOf (b.getD i 0) = i := by
  have hl : i < b.length := by rw [h.len]; exact hi
  rw [List.getD_eq_getElem?_getD, List.getElem?_eq_getElem hl]
  exact h.nd.idxOf_getElem i hl
theorem Odr.idx_inj {n : Nat} {b : List Nat} (h : Odr n b) {x y : Nat} (hx : x < n) (hy : y < n) (he : b.idxOf x = b.idxOf y) : x = y := by
  rw [← h.get_idx hx, he, h.get_idx hy]
theorem Odr.tot {n : Nat} {b : List Nat} (h : Odr n b) {x y : Nat} (hx : x < n) (hy : y < n) (hne : x ≠ y) : bf b x y = !bf b y x := by
  have : b.idxOf x ≠ b.idxOf y := fun e => hne (h.idx_inj hx hy e)
  unfold bf
  by_cases h1 : b.idxOf x < b.idxOf y
  · rw [decide_eq_true h1, decide_eq_false (by omega)]; rfl
  · rw [decide_eq_false h1, decide_eq_true (by omega)]; rfl

/-- Where the first place of a ballot stands on the axis. -/
def pk (ax b : List Nat) : Nat := ax.idxOf (b.getD 0 0)

theorem peaked {n : Nat} {ax b : List Nat} (ha : Odr n ax) (hb : Odr n b) (hno : bendB ax b = false) {j k : Nat} (hj : j < n) (hk : k < n) (h : j < k ∧ k ≤ pk ax b ∨ pk ax b ≤ k ∧ k < j) : bf b (ax.getD k 0) (ax.getD j 0) = true := by
  have hn : 0 < n := by omega
  have hp : pk ax b < n := ha.idx_lt (hb.get_lt hn)
  have htop : ax.getD (pk ax b) 0 = b.getD 0 0 := ha.get_idx (hb.get_lt hn)
  have h0 : b.idxOf (ax.getD (pk ax b) 0) = 0 := by rw [htop]; exact hb.idx_get hn
  have hpos : ∀ i, i < n → i ≠ pk ax b → 0 < b.idxOf (ax.getD i 0) := fun i hi hne => by
    rcases Nat.eq_zero_or_pos (b.idxOf (ax.getD i 0)) with e | e
    · exfalso; apply hne
      have := hb.idx_inj (ha.get_lt hi) (ha.get_lt hp) (e.trans h0.symm)
      rw [← ha.idx_get hi, this, ha.idx_get hp]
    · exact e
  have hjk : ax.getD k 0 ≠ ax.getD j 0 := fun e => by
    have := congrArg ax.idxOf e
    rw [ha.idx_get hk, ha.idx_get hj] at this
    omega
  rw [hb.tot (ha.get_lt hk) (ha.get_lt hj) hjk]
  cases hc : bf b (ax.getD j 0) (ax.getD k 0)
  · rfl
  · exfalso
    by_cases e : k = pk ax b
    · unfold bf at hc
      rw [e, h0] at hc
      simp at hc
    · have h5 : bf b (ax.getD (pk ax b) 0) (ax.getD k 0) = true := by unfold bf; rw [h0]; exact decide_eq_true (hpos k hk e)
      rcases h with h | h
      · rw [bend_of h.1 (by omega) (by rw [ha.len]; exact hp) hc h5] at hno; cases hno
      · rw [bend_of (show pk ax b < k by omega) h.2 (by rw [ha.len]; exact hj) h5 hc] at hno; cases hno

theorem med_ge {s : List Nat} (hs : s.Pairwise (· ≤ ·)) (h0 : s.length / 2 < s.length) : s.length - s.length / 2 ≤ s.countP (fun x => decide (s.getD (s.length / 2) 0 ≤ x)) := by
  have h1 : (s.drop (s.length / 2)).countP (fun x => decide (s.getD (s.length / 2) 0 ≤ x)) = (s.drop (s.length / 2)).length := by
    rw [List.countP_eq_length]
    intro x hx
    obtain ⟨i, hi, rfl⟩ := List.getElem_of_mem hx
    rw [List.getElem_drop, List.getD_eq_getElem?_getD, List.getElem?_eq_getElem h0]
    apply decide_eq_true
    rcases Nat.eq_zero_or_pos i with e | e
    · subst e; exact Nat.le_refl _
    · exact List.pairwise_iff_getElem.1 hs _ _ _ _ (by omega)
  have h2 := (List.drop_sublist (s.length / 2) s).countP_le (p := fun x => decide (s.getD (s.length / 2) 0 ≤ x))
  rw [h1, List.length_drop] at h2
  exact h2
theorem med_le {s : List Nat} (hs : s.Pairwise (· ≤ ·)) (h0 : s.length / 2 < s.length) : s.length / 2 + 1 ≤ s.countP (fun x => decide (x ≤ s.getD (s.length / 2) 0)) := by
  have h1 : (s.take (s.length / 2 + 1)).countP (fun x => decide (x ≤ s.getD (s.length / 2) 0)) = (s.take (s.length / 2 + 1)).length := by
    rw [List.countP_eq_length]
    intro x hx
    obtain ⟨i, hi, rfl⟩ := List.getElem_of_mem hx
    rw [List.length_take] at hi
    rw [List.getElem_take, List.getD_eq_getElem?_getD, List.getElem?_eq_getElem h0]
    apply decide_eq_true
    rcases Nat.lt_or_ge i (s.length / 2) with e | e
    · exact List.pairwise_iff_getElem.1 hs _ _ _ _ e
    · have : i = s.length / 2 := by omega
      subst this; exact Nat.le_refl _
  have h2 := (List.take_sublist (s.length / 2 + 1) s).countP_le (p := fun x => decide (x ≤ s.getD (s.length / 2) 0))
  rw [h1, List.length_take] at h2
  omega

theorem countP_mono' {α : Type} {p q : α → Bool} {l : List α} (h : ∀ x ∈ l, p x = true → q x = true) : l.countP p ≤ l.countP q := List.countP_mono_left h

/-- THE LAW: the middle of the first places wins over everyone. -/
theorem middle_wins {n : Nat} {ax : List Nat} {B : List (List Nat)} {s : List Nat} (ha : Odr n ax) (hB : ∀ b ∈ B, Odr n b) (hno : ∀ b ∈ B, bendB ax b = false) (hodd : B.length % 2 = 1)
    (hs : s.Pairwise (· ≤ ·)) (hp : s.Perm (B.map (pk ax))) (hn : 0 < n) :
    s.getD (s.length / 2) 0 < n ∧ ∀ x, x < n → x ≠ ax.getD (s.getD (s.length / 2) 0) 0 → 0 < mg B (ax.getD (s.getD (s.length / 2) 0) 0) x := by
  have hl : s.length = B.length := by rw [hp.length_eq, List.length_map]
  have h0 : s.length / 2 < s.length := by omega
  obtain ⟨a, hae⟩ : ∃ a, a = s.getD (s.length / 2) 0 := ⟨_, rfl⟩
  have hge := med_ge hs h0
  have hle := med_le hs h0
  rw [← hae] at hge hle ⊢
  have han : a < n := by
    have hm : a ∈ s := by rw [hae, List.getD_eq_getElem?_getD, List.getElem?_eq_getElem h0]; exact List.getElem_mem h0
    obtain ⟨b, hb, rfl⟩ := List.mem_map.1 (hp.mem_iff.1 hm)
    exact ha.idx_lt ((hB b hb).get_lt hn)
  refine ⟨han, fun x hx hxm => ?_⟩
  rw [hp.countP_eq, List.countP_map] at hge hle
  have hxi := ha.idx_lt hx
  have hxg := ha.get_idx hx
  have hne : ax.idxOf x ≠ a := fun e => hxm (by rw [← e, hxg])
  have hmaj : B.length / 2 + 1 ≤ B.countP (fun b => bf b (ax.getD a 0) x) := by
    rcases Nat.lt_or_gt_of_ne hne with e | e
    · refine Nat.le_trans (by omega) (Nat.le_trans hge (countP_mono' fun b hb h => ?_))
      have h' : a ≤ pk ax b := of_decide_eq_true h
      have := peaked ha (hB b hb) (hno b hb) hxi han (.inl ⟨e, h'⟩)
      rwa [hxg] at this
    · refine Nat.le_trans (by omega) (Nat.le_trans hle (countP_mono' fun b hb h => ?_))
      have h' : pk ax b ≤ a := of_decide_eq_true h
      have := peaked ha (hB b hb) (hno b hb) hxi han (.inr ⟨h', e⟩)
      rwa [hxg] at this
  have hsum : B.countP (fun b => bf b (ax.getD a 0) x) + B.countP (fun b => bf b x (ax.getD a 0)) = B.length := by
    have h1 : B.countP (fun b => bf b x (ax.getD a 0)) = B.countP (fun b => !bf b (ax.getD a 0) x) := by
      apply List.countP_congr
      intro b hb
      rw [(hB b hb).tot hx (ha.get_lt han) hxm]
    rw [h1]
    have := @List.length_eq_countP_add_countP _ (fun b => bf b (ax.getD a 0) x) B
    have h3 : B.countP (fun b => !bf b (ax.getD a 0) x) = B.countP (fun b => decide ¬(bf b (ax.getD a 0) x) = true) := by
      apply List.countP_congr
      intro b _
      cases bf b (ax.getD a 0) x <;> simp
    rw [h3]; omega
  unfold mg
  omega
/-- The disagreement of a ballot with an order. -/
def dis1 (b : List Nat) : List Nat → Nat
  | [] => 0
  | x :: o => o.countP (fun y => bf b y x) + dis1 b o
def dis : List (List Nat) → List Nat → Nat
  | [], _ => 0
  | b :: B, o => dis1 b o + dis B o
theorem dis1_mid (b : List Nat) (m : Nat) (q : List Nat) : ∀ p : List Nat, dis1 b (p ++ m :: q) = dis1 b (p ++ q) + p.countP (fun x => bf b m x) + q.countP (fun y => bf b y m) := by
  intro p
  induction p with
  | nil => simp [dis1]; omega
  | cons x p ih =>
    simp only [List.cons_append, dis1, ih, List.countP_append, List.countP_cons]
    omega
theorem dis1_front (b : List Nat) (m : Nat) (p q : List Nat) : dis1 b (p ++ m :: q) + p.countP (fun x => bf b x m) = dis1 b (m :: (p ++ q)) + p.countP (fun x => bf b m x) := by
  rw [dis1_mid]
  simp only [dis1, List.countP_append]
  omega
/-- A sum over all of p. -/
def ovr (B : List (List Nat)) (r : List Nat → Nat → Bool) : List Nat → Nat
  | [] => 0
  | x :: p => B.countP (fun b => r b x) + ovr B r p
theorem ovr_nil (r : List Nat → Nat → Bool) : ∀ p, ovr [] r p = 0 := by
  intro p
  induction p with
  | nil => rfl
  | cons x p ih => simp [ovr, ih]
theorem ovr_cons (b : List Nat) (B : List (List Nat)) (r : List Nat → Nat → Bool) : ∀ p, ovr (b :: B) r p = p.countP (fun x => r b x) + ovr B r p := by
  intro p
  induction p with
  | nil => rfl
  | cons x p ih =>
    simp only [ovr, ih, List.countP_cons]
    omega
theorem dis_front (m : Nat) (p q : List Nat) : ∀ B : List (List Nat), dis B (p ++ m :: q) + ovr B (fun b x => bf b x m) p = dis B (m :: (p ++ q)) + ovr B (fun b x => bf b m x) p := by
  intro B
  induction B with
  | nil => simp [dis, ovr_nil]
  | cons b B ih =>
    have := dis1_front b m p q
    simp only [dis, ovr_cons]
    omega
theorem ovr_lt (B : List (List Nat)) (m : Nat) : ∀ p : List Nat, (∀ x ∈ p, 0 < mg B m x) → ovr B (fun b x => bf b x m) p + p.length ≤ ovr B (fun b x => bf b m x) p := by
  intro p
  induction p with
  | nil => intro _; exact Nat.le_refl _
  | cons x p ih =>
    intro h
    have h1 := ih fun y hy => h y (List.mem_cons_of_mem _ hy)
    have h2 := h x List.mem_cons_self
    unfold mg at h2
    simp only [ovr, List.length_cons]
    omega
theorem front_less {B : List (List Nat)} {m : Nat} {p q : List Nat} (hp : p ≠ []) (h : ∀ x ∈ p, 0 < mg B m x) : dis B (m :: (p ++ q)) < dis B (p ++ m :: q) := by
  have h1 := dis_front m p q B
  have h2 := ovr_lt B m p h
  have h3 : 0 < p.length := by cases p with
    | nil => exact absurd rfl hp
    | cons => simp
  omega

/-- All orders of some names that begin as pre does. -/
def ords (names : List Nat) : Nat → List Nat → List (List Nat)
  | 0, pre => [pre]
  | m + 1, pre => names.flatMap fun x => if x ∈ pre then [] else ords names m (pre ++ [x])
theorem mem_ords {names o : List Nat} (ho : o.Perm names) (hn : names.Nodup) : ∀ (m : Nat) (pre : List Nat), pre.length + m = names.length → pre <+: o → o ∈ ords names m pre := by
  intro m
  induction m with
  | zero =>
    intro pre hl hp
    have : pre = o := hp.eq_of_length (by rw [ho.length_eq]; omega)
    subst this; simp [ords]
  | succ m ih =>
    intro pre hl hp
    obtain ⟨r, hr⟩ := hp
    cases r with
    | nil =>
      rw [List.append_nil] at hr
      have := ho.length_eq
      rw [← hr] at this; omega
    | cons x r =>
      have hx : x ∈ names := ho.mem_iff.1 (by rw [← hr]; simp)
      have hnd : (pre ++ x :: r).Nodup := by rw [hr]; exact ho.nodup_iff.2 hn
      have hxp : x ∉ pre := by
        intro h
        exact (List.nodup_append.1 hnd).2.2 x h x List.mem_cons_self rfl
      rw [ords, List.mem_flatMap]
      refine ⟨x, hx, ?_⟩
      rw [if_neg hxp]
      exact ih _ (by rw [List.length_append]; simp; omega) ⟨r, by rw [List.append_assoc]; exact hr⟩
theorem ords_perm {names : List Nat} : ∀ (m : Nat) (pre : List Nat), pre.length + m = names.length → pre.Nodup → (∀ x ∈ pre, x ∈ names) → ∀ o ∈ ords names m pre, o.length = names.length ∧ o.Nodup ∧ ∀ x ∈ o, x ∈ names := by
  intro m
  induction m with
  | zero =>
    intro pre hl hnd hs o ho
    rw [ords, List.mem_singleton] at ho
    subst ho; exact ⟨by omega, hnd, hs⟩
  | succ m ih =>
    intro pre hl hnd hs o ho
    rw [ords, List.mem_flatMap] at ho
    obtain ⟨x, hx, ho⟩ := ho
    split at ho
    · cases ho
    · rename_i hxp
      refine ih (pre ++ [x]) (by rw [List.length_append]; simp; omega) ?_ ?_ o ho
      · rw [List.nodup_append]
        exact ⟨hnd, by simp, fun a ha b hb e => by rw [List.mem_singleton.1 hb] at e; subst e; exact hxp ha⟩
      · intro y hy
        rcases List.mem_append.1 hy with hy | hy
        · exact hs y hy
        · rw [List.mem_singleton.1 hy]; exact hx
theorem pigeon : ∀ (n : Nat) (o : List Nat), o.Nodup → (∀ x ∈ o, x < n) → o.length ≤ n := by
  intro n
  induction n with
  | zero =>
    intro o _ h
    cases o with
    | nil => exact Nat.le_refl _
    | cons x _ => exact absurd (h x List.mem_cons_self) (by omega)
  | succ n ih =>
    intro o hnd h
    have h1 := ih (o.erase n) (hnd.erase n) (fun x hx => by
      have h2 := h x (List.mem_of_mem_erase hx)
      have h3 : x ≠ n := fun e => by subst e; exact hnd.not_mem_erase hx
      omega)
    have h2 := List.length_erase (a := n) (l := o)
    split at h2 <;> omega
/-- A list of n different numbers below n has all. -/
theorem full_of {n : Nat} {o : List Nat} (hl : o.length = n) (hnd : o.Nodup) (hlt : ∀ x ∈ o, x < n) : Odr n o := by
  refine ⟨hl, hnd, fun x => ⟨hlt x, fun hx => ?_⟩⟩
  refine Classical.byContradiction fun hno => ?_
  have h1 := pigeon n (x :: o) (List.nodup_cons.2 ⟨hno, hnd⟩) (fun y hy => by
    rcases List.mem_cons.1 hy with rfl | hy
    · exact hx
    · exact hlt y hy)
  simp at h1; omega
/-- A list as long as the numbers below n that holds them all has none twice. -/
theorem nodup_of : ∀ {n : Nat} {o : List Nat}, o.length = n → (∀ i, i < n → i ∈ o) → o.Nodup := by
  have key : ∀ (n : Nat) (o : List Nat), (∀ i, i < n → i ∈ o) → n ≤ o.length := by
    intro n
    induction n with
    | zero => intro o _; exact Nat.zero_le _
    | succ n ih =>
      intro o h
      have hn := h n (by omega)
      have h1 := ih (o.erase n) fun i hi => (List.mem_erase_of_ne (by omega)).2 (h i (by omega))
      have h2 := List.length_erase_of_mem hn
      have : 0 < o.length := List.length_pos_of_mem hn
      omega
  intro n o hl hm
  refine Classical.byContradiction fun hnd => ?_
  rw [List.nodup_iff_count] at hnd
  obtain ⟨x, hx⟩ := Classical.not_forall.1 hnd
  have hx2 : 2 ≤ o.count x := by omega
  have hxo : x ∈ o := List.count_pos_iff.1 (by omega)
  have h1 := key n (o.erase x) fun i hi => by
    by_cases e : i = x
    · subst e
      rw [← List.count_pos_iff, List.count_erase_self]; omega
    · exact (List.mem_erase_of_ne e).2 (hm i hi)
  have h2 := List.length_erase_of_mem hxo
  have : 0 < o.length := List.length_pos_of_mem hxo
  omega
theorem Odr.perm {n : Nat} {o : List Nat} (h : Odr n o) : o.Perm (List.range n) := by
  rw [List.perm_ext_iff_of_nodup h.nd List.nodup_range]
  intro x; rw [h.mem, List.mem_range]
/-- The best order so far, with its disagreement. -/
def kstep (B : List (List Nat)) : Option (List Nat × Nat) → List Nat → Option (List Nat × Nat)
  | none, o => some (o, dis B o)
  | some (b, l), o => if dis B o < l then some (o, dis B o) else some (b, l)
def kemTo (B : List (List Nat)) (os : List (List Nat)) : Option (List Nat × Nat) := os.foldl (kstep B) none
theorem kemTo_snoc (B : List (List Nat)) (os : List (List Nat)) (o : List Nat) : kemTo B (os ++ [o]) = kstep B (kemTo B os) o := by simp [kemTo]
theorem kemTo_min (B : List (List Nat)) : ∀ (os r : List (List Nat)), os.reverse = r → (os = [] ∧ kemTo B os = none) ∨ ∃ b l, kemTo B os = some (b, l) ∧ b ∈ os ∧ l = dis B b ∧ ∀ o ∈ os, l ≤ dis B o := by
  intro os r
  induction r generalizing os with
  | nil => intro h; left; have : os = [] := by simpa using h
           subst this; exact ⟨rfl, rfl⟩
  | cons o r ih =>
    intro h
    right
    obtain ⟨os', rfl⟩ : ∃ os', os = os' ++ [o] := ⟨r.reverse, by rw [← List.reverse_reverse os, h, List.reverse_cons]⟩
    have h' : os'.reverse = r := by simpa using h
    rw [kemTo_snoc]
    rcases ih os' h' with ⟨rfl, h1⟩ | ⟨b, l, h1, h2, h3, h4⟩
    · rw [h1]
      exact ⟨o, dis B o, rfl, by simp, rfl, fun x hx => by simp at hx; subst hx; exact Nat.le_refl _⟩
    · rw [h1]
      show ∃ b' l', (if dis B o < l then some (o, dis B o) else some (b, l)) = some (b', l') ∧ _
      split
      · rename_i hlt
        refine ⟨o, dis B o, rfl, by simp, rfl, fun x hx => ?_⟩
        rcases List.mem_append.1 hx with hx | hx
        · have := h4 x hx; omega
        · simp at hx; subst hx; exact Nat.le_refl _
      · rename_i hlt
        refine ⟨b, l, rfl, List.mem_append_left _ h2, h3, fun x hx => ?_⟩
        rcases List.mem_append.1 hx with hx | hx
        · exact h4 x hx
        · simp at hx; subst hx; omega
/-- All orders of the numbers below n. -/
def allO (n : Nat) : List (List Nat) := ords (List.range n) n []
theorem allO_mem {n : Nat} {o : List Nat} : o ∈ allO n ↔ Odr n o := by
  constructor
  · intro h
    obtain ⟨h1, h2, h3⟩ := ords_perm (names := List.range n) n [] (by simp) List.nodup_nil (by simp) o h
    exact full_of (by simpa using h1) h2 (fun x hx => List.mem_range.1 (h3 x hx))
  · intro h
    exact mem_ords h.perm List.nodup_range n [] (by simp) List.nil_prefix
theorem kem_first {B : List (List Nat)} {n m : Nat} (hm : m < n) (hw : ∀ x, x < n → x ≠ m → 0 < mg B m x) : ∃ b l, kemTo B (allO n) = some (b, l) ∧ Odr n b ∧ b.getD 0 0 = m := by
  rcases kemTo_min B (allO n) _ rfl with ⟨h1, _⟩ | ⟨b, l, h1, h2, h3, h4⟩
  · have : List.range n ∈ allO n := allO_mem.2 ⟨by simp, List.nodup_range, fun x => List.mem_range⟩
    rw [h1] at this; cases this
  · have hb := allO_mem.1 h2
    refine ⟨b, l, h1, hb, ?_⟩
    obtain ⟨p, q, rfl⟩ := List.append_of_mem ((hb.mem m).2 hm)
    cases p with
    | nil => rfl
    | cons x p =>
      exfalso
      have hnd := hb.nd
      have hmp : m ∉ x :: p := fun h => (List.nodup_append.1 hnd).2.2 m h m List.mem_cons_self rfl
      have hlt := front_less (B := B) (m := m) (p := x :: p) (q := q) (by simp) (fun y hy => hw y ((hb.mem y).1 (List.mem_append_left _ hy)) (fun e => hmp (e ▸ hy)))
      have hperm : (m :: (x :: p ++ q)).Perm (x :: p ++ m :: q) := List.perm_middle.symm
      have ho : m :: (x :: p ++ q) ∈ allO n := allO_mem.2 ⟨by rw [hperm.length_eq]; exact hb.len, hperm.nodup_iff.2 hnd, fun y => by rw [hperm.mem_iff]; exact hb.mem y⟩
      have := h4 _ ho
      omega
/-- A matrix of numbers, one entry of it set. -/
def upd (M : Nat → Nat → Int) (i j : Nat) (v : Int) : Nat → Nat → Int := fun x y => if x = i ∧ y = j then v else M x y
theorem upd_same (M : Nat → Nat → Int) (i j : Nat) (v : Int) : upd M i j v i j = v := by simp [upd]
theorem upd_other {M : Nat → Nat → Int} {i j x y : Nat} {v : Int} (h : ¬ (x = i ∧ y = j)) : upd M i j v x y = M x y := by unfold upd; rw [if_neg h]
/-- One round of the widest paths. -/
def wd1 (k i j : Nat) (M : Nat → Nat → Int) : Nat → Nat → Int := if i ≠ j ∧ i ≠ k ∧ j ≠ k then upd M i j (max (M i j) (min (M i k) (M k j))) else M
def wdJ (k i : Nat) (M : Nat → Nat → Int) : Nat → Nat → Nat → Int
  | 0 => M
  | j + 1 => wd1 k i j (wdJ k i M j)
def wdI (n k : Nat) (M : Nat → Nat → Int) : Nat → Nat → Nat → Int
  | 0 => M
  | i + 1 => wdJ k i (wdI n k M i) n
def wdK (n : Nat) (M : Nat → Nat → Int) : Nat → Nat → Nat → Int
  | 0 => M
  | k + 1 => wdI n k (wdK n M k) n
theorem wd_keeps {P : (Nat → Nat → Int) → Prop} {n : Nat} (h : ∀ k i j M, k < n → i < n → j < n → P M → P (wd1 k i j M)) {M : Nat → Nat → Int} (h0 : P M) : ∀ k, k ≤ n → P (wdK n M k) := by
  intro k
  induction k with
  | zero => intro _; exact h0
  | succ k ih =>
    intro hk
    have hI : ∀ i, i ≤ n → P (wdI n k (wdK n M k) i) := by
      intro i
      induction i with
      | zero => intro _; exact ih (by omega)
      | succ i ihi =>
        intro hi
        have hJ : ∀ j, j ≤ n → P (wdJ k i (wdI n k (wdK n M k) i) j) := by
          intro j
          induction j with
          | zero => intro _; exact ihi (by omega)
          | succ j ihj => intro hj; exact h k i j _ (by omega) (by omega) (by omega) (ihj (by omega))
        exact hJ n (Nat.le_refl _)
    exact hI n (Nat.le_refl _)
theorem wd_win {n m : Nat} {M : Nat → Nat → Int} (h : ∀ x, x < n → x ≠ m → 0 < M m x ∧ M x m < 0) : ∀ x, x < n → x ≠ m → 0 < wdK n M n m x ∧ wdK n M n x m < 0 := by
  refine wd_keeps (P := fun M => ∀ x, x < n → x ≠ m → 0 < M m x ∧ M x m < 0) (fun k i j M hk hi hj hM x hx hxm => ?_) h n (Nat.le_refl _)
  unfold wd1
  split
  · rename_i hne
    obtain ⟨h1, h2, h3⟩ := hne
    have := hM x hx hxm
    constructor
    · by_cases e : m = i ∧ x = j
      · obtain ⟨rfl, rfl⟩ := e
        rw [upd_same]; omega
      · rw [upd_other e]; exact this.1
    · by_cases e : x = i ∧ m = j
      · obtain ⟨rfl, rfl⟩ := e
        rw [upd_same]
        have := hM k hk (fun e => h3 e.symm)
        omega
      · rw [upd_other e]; exact this.2
  · exact hM x hx hxm
/-- Entries stay between bounds. -/
theorem wd_bd {n : Nat} {M : Nat → Nat → Int} {c : Int} (h : ∀ x y, -c ≤ M x y ∧ M x y ≤ c) {k : Nat} (hk : k ≤ n) : ∀ x y, -c ≤ wdK n M k x y ∧ wdK n M k x y ≤ c := by
  refine wd_keeps (P := fun M => ∀ x y, -c ≤ M x y ∧ M x y ≤ c) (fun k i j M hk hi hj hM x y => ?_) h k hk
  unfold wd1
  split
  · by_cases e : x = i ∧ y = j
    · obtain ⟨rfl, rfl⟩ := e
      rw [upd_same]
      have := hM x y; have := hM x k; have := hM k y
      omega
    · rw [upd_other e]; exact hM x y
  · exact hM x y
theorem wd1_bd {M : Nat → Nat → Int} {c : Int} (h : ∀ x y, -c ≤ M x y ∧ M x y ≤ c) (k i j : Nat) : ∀ x y, -c ≤ wd1 k i j M x y ∧ wd1 k i j M x y ≤ c := by
  intro x y
  unfold wd1
  split
  · by_cases e : x = i ∧ y = j
    · obtain ⟨rfl, rfl⟩ := e
      rw [upd_same]
      have := h x y; have := h x k; have := h k y
      omega
    · rw [upd_other e]; exact h x y
  · exact h x y
theorem wdJ_bd {n : Nat} {M : Nat → Nat → Int} {c : Int} (h : ∀ x y, -c ≤ M x y ∧ M x y ≤ c) {a i j : Nat} (ha : a ≤ n) (_ : i ≤ n) (_ : j ≤ n) : ∀ x y, -c ≤ wdJ a i (wdI n a (wdK n M a) i) j x y ∧ wdJ a i (wdI n a (wdK n M a) i) j x y ≤ c := by
  have hJ : ∀ (N : Nat → Nat → Int), (∀ x y, -c ≤ N x y ∧ N x y ≤ c) → ∀ i j x y, -c ≤ wdJ a i N j x y ∧ wdJ a i N j x y ≤ c := by
    intro N hN i j
    induction j with
    | zero => exact hN
    | succ j ih => exact wd1_bd ih a i j
  have hI : ∀ (N : Nat → Nat → Int), (∀ x y, -c ≤ N x y ∧ N x y ≤ c) → ∀ i x y, -c ≤ wdI n a N i x y ∧ wdI n a N i x y ≤ c := by
    intro N hN i
    induction i with
    | zero => exact hN
    | succ i ih => exact hJ _ ih i n
  exact hJ _ (hI _ (wd_bd h ha) i) i j
/-- The winner by paths: the first whom nobody's width beats. -/
def pathF (n : Nat) (w : Nat → Nat → Int) : Int := match (List.range n).findIdx? (fun a => !(List.range n).any fun c => decide (w a c < w c a)) with
  | some a => a
  | none => -1
theorem path_win {n m : Nat} {w : Nat → Nat → Int} (hm : m < n) (h : ∀ x, x < n → x ≠ m → 0 < w m x ∧ w x m < 0) : pathF n w = m := by
  have : (List.range n).findIdx? (fun a => !(List.range n).any fun c => decide (w a c < w c a)) = some m := by
    rw [List.findIdx?_eq_some_iff_getElem]
    refine ⟨by simpa using hm, ?_, fun j hj => ?_⟩
    · rw [List.getElem_range, Bool.not_eq_true', List.any_eq_false]
      intro c hc
      rw [List.mem_range] at hc
      by_cases e : c = m
      · subst e; simp
      · have := h c hc e
        rw [decide_eq_true_eq]; omega
    · rw [List.getElem_range, Bool.not_eq_true, Bool.not_eq_false', List.any_eq_true]
      have := h j (by omega) (by omega)
      exact ⟨m, List.mem_range.2 hm, decide_eq_true (by omega)⟩
  unfold pathF
  rw [this]
end Go.Proofs.Ytpoibiakfjkebaa.Mid
