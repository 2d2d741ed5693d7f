/-
Distances of the program. No conditions.
-/
import Derived.Test.YtpjcmiaanjcanaaGreatDoorValE
set_option linter.all false

namespace Go.Proofs.YtpjcmiaanjcanaaGreatDoor
open Go Go.Vm Go.Vm.T
set_option maxRecDepth 100000
set_option linter.unusedSimpArgs false
set_option linter.unusedVariables false
attribute [local simp] inFrame startLoc startVals Loc.clear blockC Loc.putO Loc.put idx evO constV Loc.get Vm.look intA unwindA resultsA resultV actA pureA storeA loadA fillE repElems TI.zeroV fieldOf fieldAddrA fieldA elemsA retE cellsOf? setCells nowhere

set_option maxHeartbeats 4000000

theorem evalC_label {X : Ctx} {L : Vm.Loc} {S : St} {n : Nat} : evalC X (.label n) L S = some (.normal, L, S) := rfl

/-- the edges, one by one, whose second end is a node -/
theorem all_ev (cs : List Con) (hcs : sumOf cs 93 = fun _ => none) (es : List (Int × Int)) (N l e m n : Nat) (hlen : es.length ≤ 4096) (hn : 4100 ≤ n) (J : Nat → St → Prop) (K : St → Prop)
    (hbox : ∀ j S o o', J j S → J j ((S.push o).put S.n o')) (he : ∀ j S, J j S → S.cells? e = some [lst (es.map duoA)]) (hm : ∀ j S, J j S → S.cells? m = some [.int .i64 N])
    (hskip : ∀ j S (hj : j < es.length), inN N es[j].2 = false → J j S → J (j + 1) S)
    (hround : ∀ j S (hj : j < es.length), inN N es[j].2 = true → J j S → (∃ S', callS ED (sumOf cs) n (.yld l) [duoA es[j], .bool (inN N es[j].1)] S = some (.ret (.bool true), S') ∧ J (j + 1) S') ∨
      (∃ S', callS ED (sumOf cs) n (.yld l) [duoA es[j], .bool (inN N es[j].1)] S = some (.pan trapV, S') ∧ K S'))
    (S : St) (h0 : J 0 S) : (∃ S', callS ED (sumOf cs) (n + 1) (.fn 93) [.yld l, .ptr e 0, .ptr m 0] S = some (.ret (.tup []), S') ∧ J es.length S') ∨
      ∃ S', callS ED (sumOf cs) (n + 1) (.fn 93) [.yld l, .ptr e 0, .ptr m 0] S = some (.pan trapV, S') ∧ K S' := by
  suffices hgot : ∀ p : FRes → St → Prop, (∀ S', J es.length S' → p (.ret (.tup [])) S') → (∀ S', K S' → p (.pan trapV) S') → GotF (callS ED (sumOf cs) (n + 1) (.fn 93) [.yld l, .ptr e 0, .ptr m 0] S) p by
    obtain ⟨r, S', h1, h2⟩ := gotF_iff.1 (hgot (fun r S' => (r = .ret (.tup []) ∧ J es.length S') ∨ (r = .pan trapV ∧ K S')) (fun S' h => .inl ⟨rfl, h⟩) (fun S' h => .inr ⟨rfl, h⟩))
    rcases h2 with ⟨rfl, h2⟩ | ⟨rfl, h2⟩
    · exact .inl ⟨S', h1, h2⟩
    · exact .inr ⟨S', h1, h2⟩
  intro p hp hpk
  rw [callS_fn hcs]
  simp only [fnA, ED_fn93, fi93, Tryz.f93]
  have g1 := he 0 S h0
  have hdl : lenA ED 88 (lst (es.map duoA)) = some (.int .i64 es.length) := by rw [len73]; simp
  have hdx := fun (j : Nat) (hj : j < es.length) => duoAs_get hj
  simp [vmS, evalC_label, g1, hdl]
  generalize hc : iter _ _ _ _ = c
  obtain ⟨e1, L1, S1, rfl, hq⟩ := loop_of hc
    (fun r L S => ∃ j sc a5, j + r = es.length ∧ L = vloc [.yld l, .ptr e 0, .ptr m 0, a5, lst (es.map duoA), .int .i64 es.length, .int .i64 (j : Nat)] sc ∧ J j S)
    (fun e' L S => (e' = .pan trapV ∧ K S ∧ ∃ vs sc, L = vloc vs sc) ∨ e' = .exit 0 ∧ ∃ sc a5 a9, L = vloc [.yld l, .ptr e 0, .ptr m 0, a5, lst (es.map duoA), .int .i64 es.length, a9] sc ∧ J es.length S)
    es.length (by omega)
    ⟨0, _, _, by simp, rfl, h0⟩
    (by
      rintro r L S ⟨j, sc, a5, hjk, rfl, hJ⟩ q hq1 hq2
      by_cases hj : j < es.length
      · have hw : IntKind.i64.wrap ((j : Int) + 1) = ((j : Int) + 1) := wrap_id (by omega) (by omega)
        have hix := hdx j hj
        have hJ1 := hbox j S (.cells [.int .i64 0, .int .i64 0]) (.cells [.int .i64 es[j].1, .int .i64 es[j].2]) hJ
        have k1 := hm j _ hJ1
        have k2 := cells?_put_push S (.cells [.int .i64 0, .int .i64 0]) [.int .i64 es[j].1, .int .i64 es[j].2]
        have hsk := fun S => hskip j S hj
        have hrd := fun S => hround j S hj
        simp only [duoA] at hrd
        generalize es[j].1 = x at *
        generalize es[j].2 = y at *
        by_cases hy : inN N y = true
        rotate_left
        · have hyf : inN N y = false := by simpa using hy
          by_cases y0 : y < 0
          · simp [vmS, vloc, hj, hix, k1, k2, y0, hw]
            exact hq1 (r - 1) _ _ (by omega) ⟨j + 1, _, _, by omega, rfl, hsk _ hyf hJ1⟩
          · by_cases yN : (N : Int) ≤ y
            · simp [vmS, vloc, hj, hix, k1, k2, y0, yN, hw]
              exact hq1 (r - 1) _ _ (by omega) ⟨j + 1, _, _, by omega, rfl, hsk _ hyf hJ1⟩
            · exact absurd (inN_t.2 ⟨by omega, by omega⟩) hy
        have hyy := inN_t.1 hy
        have hy0 : ¬ y < 0 := by omega
        have hy1 : ¬ (N : Int) ≤ y := by omega
        rcases hrd _ hy hJ1 with ⟨S', hcall, hJ'⟩ | ⟨S', hcall, hK⟩
        · by_cases x0 : 0 ≤ x
          · by_cases xN : x < N
            · rw [inN_t.2 ⟨x0, xN⟩] at hcall
              simp [vmS, vloc, hj, hix, k1, k2, hy0, hy1, x0, xN, hcall, unA, hw]
              exact hq1 (r - 1) _ _ (by omega) ⟨j + 1, _, _, by omega, rfl, hJ'⟩
            · rw [show inN N x = false from by simp [inN, xN]] at hcall
              simp [vmS, vloc, hj, hix, k1, k2, hy0, hy1, x0, xN, hcall, unA, hw]
              exact hq1 (r - 1) _ _ (by omega) ⟨j + 1, _, _, by omega, rfl, hJ'⟩
          · rw [show inN N x = false from by simp [inN, x0]] at hcall
            simp [vmS, vloc, hj, hix, k1, k2, hy0, hy1, x0, hcall, unA, hw]
            exact hq1 (r - 1) _ _ (by omega) ⟨j + 1, _, _, by omega, rfl, hJ'⟩
        · by_cases x0 : 0 ≤ x
          · by_cases xN : x < N
            · rw [inN_t.2 ⟨x0, xN⟩] at hcall
              simp [vmS, vloc, hj, hix, k1, k2, hy0, hy1, x0, xN, hcall, unA, hw, stepE_pan]
              exact hq2 _ _ _ (by simp) (.inl ⟨rfl, hK, _, _, rfl⟩)
            · rw [show inN N x = false from by simp [inN, xN]] at hcall
              simp [vmS, vloc, hj, hix, k1, k2, hy0, hy1, x0, xN, hcall, unA, hw, stepE_pan]
              exact hq2 _ _ _ (by simp) (.inl ⟨rfl, hK, _, _, rfl⟩)
          · rw [show inN N x = false from by simp [inN, x0]] at hcall
            simp [vmS, vloc, hj, hix, k1, k2, hy0, hy1, x0, hcall, unA, hw, stepE_pan]
            exact hq2 _ _ _ (by simp) (.inl ⟨rfl, hK, _, _, rfl⟩)
      · have hjl : j = es.length := by omega
        subst hjl
        simp [vmS, vloc]
        exact hq2 _ _ _ (by simp) (.inr ⟨rfl, _, _, _, rfl, hJ⟩))
  rcases hq with ⟨rfl, hK, vs, sc, rfl⟩ | ⟨rfl, sc, a5, a9, rfl, hJ⟩
  · simp [vmS, vloc]
    exact hpk _ hK
  simp [vmS, vloc]
  exact hp _ hJ


/-! distances -/
structure Dist (N start : Nat) (es : List (Int × Int)) (d : List Int) : Prop where
  len : d.length = N
  low : ∀ i, i < N → -1 ≤ d.getD i 0
  zero : ∀ i, i < N → (d.getD i 0 = 0 ↔ i = start)
  edge : ∀ e ∈ es, 0 ≤ d.getD e.1.toNat 0 → 0 ≤ d.getD e.2.toNat 0 ∧ d.getD e.2.toNat 0 ≤ d.getD e.1.toNat 0 + 1
  near : ∀ i, i < N → 0 < d.getD i 0 → ∃ e ∈ es, e.2.toNat = i ∧ 0 ≤ d.getD e.1.toNat 0 ∧ d.getD i 0 = d.getD e.1.toNat 0 + 1
  high : ∀ i, i < N → d.getD i 0 ≤ N

/-- on the way: the front of the queue and the nodes behind it -/
structure Bfs (N start : Nat) (es : List (Int × Int)) (d : List Int) (q : List Nat) : Prop where
  len : d.length = N
  low : ∀ i, i < N → -1 ≤ d.getD i 0
  zero : ∀ i, i < N → (d.getD i 0 = 0 ↔ i = start)
  near : ∀ i, i < N → 0 < d.getD i 0 → ∃ e ∈ es, e.2.toNat = i ∧ 0 ≤ d.getD e.1.toNat 0 ∧ d.getD i 0 = d.getD e.1.toNat 0 + 1
  inq : ∀ x ∈ q, x < N ∧ 0 ≤ d.getD x 0
  sorted : q.Pairwise fun x y => d.getD x 0 ≤ d.getD y 0
  spread : ∀ x ∈ q.head?, ∀ y ∈ q, d.getD y 0 ≤ d.getD x 0 + 1
  before : ∀ x ∈ q.head?, ∀ i, i < N → 0 ≤ d.getD i 0 → i ∉ q → d.getD i 0 ≤ d.getD x 0
  done : ∀ e ∈ es, e.1.toNat ∉ q → 0 ≤ d.getD e.1.toNat 0 → 0 ≤ d.getD e.2.toNat 0 ∧ d.getD e.2.toNat 0 ≤ d.getD e.1.toNat 0 + 1

def fresh (d : List Int) : Nat := (d.filter fun z => decide (z < 0)).length

theorem getD_set {d : List Int} {i k : Nat} {z : Int} (hi : i < d.length) : (d.set i z).getD k 0 = if k = i then z else d.getD k 0 := by
  simp only [List.getD_eq_getElem?_getD, List.getElem?_set]
  by_cases h : i = k
  · subst h; simp [hi]
  · rw [if_neg h, if_neg (Ne.symm h)]

theorem fresh_set : ∀ {d : List Int} {i : Nat} {z : Int}, i < d.length → d.getD i 0 < 0 → 0 ≤ z → fresh (d.set i z) + 1 = fresh d
  | x :: d, 0, z, _, h, hz => by
    simp only [List.getD_cons_zero] at h
    simp [fresh, h, show ¬ z < 0 by omega]
  | x :: d, i + 1, z, hi, h, hz => by
    have ih := fresh_set (d := d) (i := i) (z := z) (by simpa using hi) (by simpa using h) hz
    unfold fresh at ih ⊢
    simp only [List.set_cons_succ, List.filter_cons]
    split <;> simp_all <;> omega

/-- in a round: the edges of the front that have been gone over are done, too -/
structure Mid (N start : Nat) (es : List (Int × Int)) (d : List Int) (a : Nat) (q : List Nat) (ns : List Nat) : Prop extends Bfs N start es d (a :: q) where
  todo : ∀ e ∈ es, e.1.toNat = a → (0 ≤ d.getD e.2.toNat 0 ∧ d.getD e.2.toNat 0 ≤ d.getD a 0 + 1) ∨ e.2.toNat ∈ ns
  real : ∀ y ∈ ns, y < N ∧ ∃ e ∈ es, e.1.toNat = a ∧ e.2.toNat = y

theorem Mid.start {N start : Nat} {es : List (Int × Int)} {d : List Int} {a : Nat} {q ns : List Nat} (h : Bfs N start es d (a :: q)) (h1 : ∀ e ∈ es, e.1.toNat = a → e.2.toNat ∈ ns) (h2 : ∀ y ∈ ns, y < N ∧ ∃ e ∈ es, e.1.toNat = a ∧ e.2.toNat = y) : Mid N start es d a q ns :=
  { h with todo := fun e he ha => .inr (h1 e he ha), real := h2 }

/-- a neighbour that has a distance -/
theorem Mid.old {N start : Nat} {es : List (Int × Int)} {d : List Int} {a y : Nat} {q ns : List Nat} (h : Mid N start es d a q (y :: ns)) (hy : 0 ≤ d.getD y 0) : Mid N start es d a q ns := by
  refine { h with todo := fun e he ha => ?_, real := fun z hz => h.real z (by simp [hz]) }
  rcases h.todo e he ha with k | k
  · exact .inl k
  · rcases List.mem_cons.1 k with k | k
    · left
      rw [k]
      refine ⟨hy, ?_⟩
      by_cases hm : y ∈ a :: q
      · exact h.spread a (by simp) y hm
      · have := h.before a (by simp) y (h.real y (by simp)).1 hy hm
        omega
    · exact .inr k

/-- one that has none yet -/
theorem Mid.new {N start : Nat} {es : List (Int × Int)} {d : List Int} {a y : Nat} {q ns : List Nat} (h : Mid N start es d a q (y :: ns)) (hin : InGraph N es) (hy : d.getD y 0 < 0) : Mid N start es (d.set y (d.getD a 0 + 1)) a (q ++ [y]) ns := by
  obtain ⟨hyN, e0, he0, ha0, hy0⟩ := h.real y (by simp)
  have hyl : y < d.length := by rw [h.len]; exact hyN
  obtain ⟨haN, had⟩ := h.inq a (by simp)
  have hg := fun k => getD_set (d := d) (k := k) (z := d.getD a 0 + 1) hyl
  have hay : a ≠ y := fun e => by subst e; omega
  have hga : (d.set y (d.getD a 0 + 1)).getD a 0 = d.getD a 0 := by rw [hg, if_neg hay]
  have hmem : ∀ x ∈ a :: q, x ≠ y := fun x hx e => by subst e; have := (h.inq x hx).2; omega
  refine ⟨⟨by simp [h.len], fun i hi => ?_, fun i hi => ?_, fun i hi hp => ?_, fun x hx => ?_, ?_, fun x hx z hz => ?_, fun x hx i hi hd hn => ?_, fun e he hq hd => ?_⟩, fun e he ha => ?_, fun z hz => h.real z (by simp [hz])⟩
  · rw [hg]; split
    · omega
    · exact h.low i hi
  · rw [hg]; split
    · rename_i e; subst e
      constructor
      · intro k; omega
      · intro k
        have := (h.zero i hi).2 k
        omega
    · exact h.zero i hi
  · rw [hg] at hp ⊢
    by_cases e : i = y
    · subst e
      rw [if_pos rfl]
      refine ⟨e0, he0, hy0, ?_, ?_⟩
      · rw [ha0, hga]; exact had
      · rw [ha0, hga]
    · rw [if_neg e] at hp ⊢
      obtain ⟨e', he', k1, k2, k3⟩ := h.near i hi hp
      have hne : e'.1.toNat ≠ y := fun k => by rw [k] at k2; omega
      refine ⟨e', he', k1, ?_, ?_⟩
      · rw [hg, if_neg hne]; exact k2
      · rw [hg, if_neg hne]; exact k3
  · rcases List.mem_append.1 (show x ∈ (a :: q) ++ [y] from by simpa using hx) with hx | hx
    · rw [hg, if_neg (hmem x hx)]
      exact h.inq x hx
    · have := List.mem_singleton.1 hx
      subst this
      exact ⟨hyN, by rw [hg, if_pos rfl]; omega⟩
  · show List.Pairwise _ ((a :: q) ++ [y])
    rw [List.pairwise_append]
    refine ⟨?_, by simp, fun x hx z hz => ?_⟩
    · refine List.Pairwise.imp_of_mem ?_ h.sorted
      intro x z hx hz k
      rw [hg, if_neg (hmem x hx), hg, if_neg (hmem z hz)]
      exact k
    · have := List.mem_singleton.1 hz
      subst this
      rw [hg, if_neg (hmem x hx), hg, if_pos rfl]
      exact h.spread a (by simp) x hx
  · have : x = a := by simpa using hx.symm
    subst this
    rw [hga]
    rcases List.mem_append.1 (show z ∈ (x :: q) ++ [y] from by simpa using hz) with hz | hz
    · rw [hg, if_neg (hmem z hz)]
      exact h.spread x (by simp) z hz
    · have := List.mem_singleton.1 hz
      subst this
      rw [hg, if_pos rfl]
      omega
  · have : x = a := by simpa using hx.symm
    subst this
    have hiy : i ≠ y := fun e => hn (by simp [e])
    rw [hg, if_neg hiy] at hd ⊢
    rw [hga]
    exact h.before x (by simp) i hi hd (fun k => hn (by rcases List.mem_cons.1 k with k | k <;> simp [k]))
  · have hne : e.1.toNat ≠ y := fun k => hq (by simp [k])
    rw [hg, if_neg hne] at hd
    have := h.done e he (fun k => hq (by rcases List.mem_cons.1 k with k | k <;> simp [k])) hd
    rw [hg, hg, if_neg hne]
    by_cases k : e.2.toNat = y
    · rw [k] at this; omega
    · rw [if_neg k]; exact this
  · rcases h.todo e he ha with k | k
    · left
      have hne : e.2.toNat ≠ y := fun k' => by rw [k'] at k; omega
      rw [hg, if_neg hne, hga]
      exact k
    · rcases List.mem_cons.1 k with k | k
      · left
        rw [k, hg, if_pos rfl, hga]
        omega
      · exact .inr k

/-- the front is done -/
theorem Mid.stop {N start : Nat} {es : List (Int × Int)} {d : List Int} {a : Nat} {q : List Nat} (h : Mid N start es d a q []) : Bfs N start es d q := by
  refine ⟨h.len, h.low, h.zero, h.near, fun x hx => h.inq x (by simp [hx]), (List.pairwise_cons.1 h.sorted).2, fun x hx y hy => ?_, fun x hx i hi hd hn => ?_, fun e he hq hd => ?_⟩
  · have hxq : x ∈ q := by cases q with
      | nil => simp at hx
      | cons b r => simp at hx; simp [hx]
    have h1 := h.spread a (by simp) y (by simp [hy])
    have h2 := (List.pairwise_cons.1 h.sorted).1 x hxq
    omega
  · have hxq : x ∈ q := by cases q with
      | nil => simp at hx
      | cons b r => simp at hx; simp [hx]
    have h2 := (List.pairwise_cons.1 h.sorted).1 x hxq
    by_cases hia : i = a
    · subst hia; exact h2
    · have := h.before a (by simp) i hi hd (by simp [hia, hn])
      omega
  · by_cases hea : e.1.toNat = a
    · rcases h.todo e he hea with k | k
      · rw [hea]; exact k
      · simp at k
    · exact h.done e he (by simp [hea, hq]) hd

theorem Bfs.dist {N start : Nat} {es : List (Int × Int)} {d : List Int} (h : Bfs N start es d []) (hb : ∀ i, i < N → d.getD i 0 ≤ N) : Dist N start es d :=
  ⟨h.len, h.low, h.zero, fun e he hd => h.done e he (by simp) hd, h.near, hb⟩

theorem Bfs.start {N start : Nat} {es : List (Int × Int)} (hin : InGraph N es) (hs : start < N) : Bfs N start es ((List.replicate N (-1)).set start 0) [start] := by
  have hl : start < (List.replicate N (-1 : Int)).length := by simpa using hs
  have hg := fun k => getD_set (d := List.replicate N (-1 : Int)) (k := k) (z := 0) hl
  have hr : ∀ k, k < N → (List.replicate N (-1 : Int)).getD k 0 = -1 := fun k hk => by simp [List.getD_eq_getElem?_getD, hk]
  refine ⟨by simp, fun i hi => ?_, fun i hi => ?_, fun i hi hp => ?_, fun x hx => ?_, by simp, fun x hx y hy => ?_, fun x hx i hi hd hn => ?_, fun e he hq hd => ?_⟩
  · rw [hg, hr i hi]; split <;> omega
  · rw [hg, hr i hi]; split <;> omega
  · rw [hg, hr i hi] at hp; split at hp <;> omega
  · have := List.mem_singleton.1 hx
    subst this
    exact ⟨hs, by rw [hg, if_pos rfl]; omega⟩
  · have := List.mem_singleton.1 hy
    simp at hx
    subst hx
    subst this
    omega
  · rw [hg, hr i hi] at hd
    have : i ≠ start := fun e => hn (by simp [e])
    rw [if_neg this] at hd
    omega
  · have : e.1.toNat ≠ start := fun k => hq (by simp [k])
    rw [hg, if_neg this] at hd
    have hk : e.1.toNat < N := by have := hin e he; omega
    rw [hr _ hk] at hd; omega


/-! ranges over functions -/
def rangesOf : Code → List (Code × Code)
  | .rangeFunc _ _ a b => (a, b) :: (rangesOf a ++ rangesOf b)
  | .loop c => rangesOf c
  | .seq a b | .cond _ a b => rangesOf a ++ rangesOf b
  | .block _ c | .scope c => rangesOf c
  | _ => []
def rfA (f : Func) (k : Nat) : Code × Code := (rangesOf (f.body.getD .skip)).getD k (.skip, .skip)

def rangeC (X : Ctx) (params : Array Tmp) (asg body : Code) (L : Vm.Loc) (S : St) : AV → CRes
  | .fn g first cap => endC (S.n + 1) { L.clear with defers := .coll S.n :: L.defers } (X.call (.fn g) (first ++ [.yld (S.n + 1)] ++ cap) ((S.push (.dfr false)).push (.loop { state := .ready, pend := none, fid := X.fid, vals := L.vals, params, asg, body, dfr := S.n })))
  | _ => none

theorem evalC_range {X : Ctx} {f : Operand} {params : Array Tmp} {asg body : Code} {vals : List AV} {sc : List (Tmp × AV)} {d : List ADef} {r : RecS} {S : St} :
    evalC X (.rangeFunc f params asg body) { vals := vals, sc := sc, defers := d, recs := r, rnd := none } S =
      rangeC X params asg body { vals := vals, sc := sc, defers := d, recs := r, rnd := none } S (evO X.E X.vars { vals := vals, sc := sc, defers := d, recs := r, rnd := none } f) := by
  unfold evalC rangeC
  split <;> simp_all

theorem rangeC_fn {X : Ctx} {params : Array Tmp} {asg body : Code} {L : Vm.Loc} {S : St} {g : FuncId} {first cap : List AV} : rangeC X params asg body L S (.fn g first cap) =
    endC (S.n + 1) { L.clear with defers := .coll S.n :: L.defers } (X.call (.fn g) (first ++ [.yld (S.n + 1)] ++ cap) ((S.push (.dfr false)).push (.loop { state := .ready, pend := none, fid := X.fid, vals := L.vals, params, asg, body, dfr := S.n }))) := rfl

theorem endC_ok {l : Nat} {L : Vm.Loc} {S : St} {v : AV} {a : ALoop} (h : S.get l = some (.loop a)) (h1 : a.state = .ready) (h2 : a.pend = none) : endC l L (some (.ret v, S)) = some (.normal, L, S.put l (.loop { a with state := .exhausted })) := by
  simp only [endC, h, h1, h2]

theorem callS_yld {E : Env} {cs : List Con} {n l : Nat} {args : List AV} {S : St} : callS E (sumOf cs) (n + 1) (.yld l) args S = yldA E (callS E (sumOf cs) n) (iter n) l args S := rfl

theorem get_put_self {S : St} {i : Nat} {o o' : AO} (h : S.get i = some o) : (S.put i o').get i = some o' := St.get_put_self _ _ _ (St.get_lt h)
theorem get_put_ne {S : St} {i j : Nat} {o : AO} (h : j ≠ i) : (S.put i o).get j = S.get j := St.get_put_ne _ _ _ h
theorem get_box {S : St} {j : Nat} {x o o' : AO} (h : S.get j = some x) : ((S.push o).put S.n o').get j = some x := by
  have := St.get_lt h
  rw [St.get_put_ne _ _ _ (by omega)]
  exact St.get_push_of S o h

/-! neighbours -/
def nbrs (es : List (Int × Int)) (x : Nat) : List Nat := (es.filter fun e => decide (e.1.toNat = x)).map fun e => e.2.toNat
theorem nbrs_take {es : List (Int × Int)} {j : Nat} (hj : j < es.length) (x : Nat) : nbrs (es.take (j + 1)) x = if es[j].1.toNat = x then nbrs (es.take j) x ++ [es[j].2.toNat] else nbrs (es.take j) x := by
  unfold nbrs
  rw [List.take_add_one, List.getElem?_eq_getElem hj, List.filter_append, List.map_append]
  simp only [Option.toList_some, List.filter_cons, List.filter_nil]
  split <;> simp_all
theorem nbrs_len (es : List (Int × Int)) (x : Nat) : (nbrs es x).length ≤ es.length := by
  unfold nbrs
  rw [List.length_map]
  exact List.length_filter_le _ _
theorem mem_nbrs {es : List (Int × Int)} {x y : Nat} : y ∈ nbrs es x ↔ ∃ e ∈ es, e.1.toNat = x ∧ e.2.toNat = y := by
  unfold nbrs
  rw [List.mem_map]
  constructor
  · rintro ⟨e, he, rfl⟩
    rw [List.mem_filter] at he
    exact ⟨e, he.1, by simpa using he.2, rfl⟩
  · rintro ⟨e, he, h1, h2⟩
    exact ⟨e, by rw [List.mem_filter]; exact ⟨he, by simpa using h1⟩, h2⟩

def Dis2 (T U : Option Nat) : Prop := ∀ t, T = some t → U ≠ some t

/-- lists side by side that grow -/
structure Fam (S : St) (N : Nat) (vs : List AV) (nb : Nat → List Nat) : Prop where
  len : vs.length = N
  live : ∃ T : Nat → Option Nat, (∀ x, x < N → LiveT S 1 (vs.getD x .undef) (nats (nb x)) (T x)) ∧ ∀ x y, x < N → y < N → x ≠ y → Dis2 (T x) (T y)

theorem liveT_getne {S : St} {sz : Nat} {v : AV} {es : List AV} {T : Option Nat} (h : LiveT S sz v es T) {k : Nat} {x : AO} (hk : S.get k = some x) (hx : ∀ b, x ≠ .tok b) : T ≠ some k := by
  intro e
  subst e
  have := h.2
  rw [hk] at this
  cases this
  exact hx _ rfl

theorem append_nat {S : St} {v : AV} {u : List Nat} (y : Nat) {T : Option Nat} (hl : LiveT S 1 v (nats u) T) (hlen : u.length ≤ 10000) :
    ∃ v' S', appendA ED S 3 v [.int .i64 (y : Nat)] = some (v', S') ∧ LiveT S' 1 v' (nats (u ++ [y])) (some S.n) ∧ S'.n = S.n + 1 ∧ Kept T S S' := by
  rw [← ints_ofN] at hl
  obtain ⟨v', S', h1, h2, h3, h4⟩ := append_int (y : Int) hl (by simpa [ofN] using hlen)
  refine ⟨v', S', h1, ?_, h3, h4⟩
  rw [← ints_ofN]
  simpa [ofN] using h2

theorem nat_len {S : St} {v : AV} {u : List Nat} {T : Option Nat} (h : LiveT S 1 v (nats u) T) : lenA ED 62 v = some (.int .i64 u.length) := by
  rcases h.cases with ⟨rfl, h2⟩ | ⟨tk, rfl⟩
  · have := congrArg List.length h2
    simp at this
    subst this
    rfl
  · simp [lenA]
theorem nat_index {S : St} {v : AV} {u : List Nat} {T : Option Nat} (h : LiveT S 1 v (nats u) T) {k : Nat} (hk : k < u.length) : indexAddrA ED 62 v (.int .i64 k) = some (.rptr [.int .i64 (u[k] : Nat)]) := by
  rcases h.cases with ⟨rfl, h2⟩ | ⟨tk, rfl⟩
  · have := congrArg List.length h2
    simp at this
    subst this
    simp at hk
  · simp [indexAddrA, hk, cells_int]
theorem nat_cell {S : St} {v : AV} {u : List Nat} {T : Option Nat} (h : LiveT S 1 v (nats u) T) : v.isCell = true ∧ v.known = true ∧ v.cells = [v] := by
  rcases h.cases with ⟨rfl, h2⟩ | ⟨tk, rfl⟩ <;> exact ⟨rfl, rfl, rfl⟩

theorem Fam.keep {S S' : St} {N : Nat} {vs : List AV} {nb : Nat → List Nat} (h : Fam S N vs nb) (k : ∀ i b, S.get i = some (.tok b) → S'.get i = some (.tok b)) : Fam S' N vs nb := by
  obtain ⟨T, h1, h2⟩ := h.live
  refine ⟨h.len, T, fun x hx => ?_, h2⟩
  have := h1 x hx
  cases hT : T x with
  | none => rw [hT] at this; exact this
  | some j => rw [hT] at this; exact ⟨this.1, k _ _ this.2⟩

theorem Fam.append {S : St} {N : Nat} {vs : List AV} {nb : Nat → List Nat} (h : Fam S N vs nb) {x : Nat} (y : Nat) (hx : x < N) (hlen : (nb x).length ≤ 10000) :
    ∃ v' S' T, appendA ED S 3 (vs.getD x .undef) [.int .i64 (y : Nat)] = some (v', S') ∧ S'.n = S.n + 1 ∧ Kept T S S' ∧ (∀ k x, S.get k = some x → (∀ b, x ≠ .tok b) → T ≠ some k) ∧ (v'.isCell = true ∧ v'.known = true ∧ v'.cells = [v']) ∧
      Fam S' N (vs.set x v') (fun z => if x = z then nb z ++ [y] else nb z) := by
  obtain ⟨T, h1, h2⟩ := h.live
  obtain ⟨v', S', c1, c2, c3, c4⟩ := append_nat y (h1 x hx) hlen
  refine ⟨v', S', T x, c1, c3, c4, fun k z hk hz => liveT_getne (h1 x hx) hk hz, nat_cell c2, by simp [h.len], fun z => if z = x then some S.n else T z, fun z hz => ?_, fun z w hz hw hzw t e1 e2 => ?_⟩
  · show LiveT S' 1 ((vs.set x v').getD z .undef) (nats (if x = z then nb z ++ [y] else nb z)) (if z = x then some S.n else T z)
    by_cases hzx : z = x
    · subst hzx
      simp only [if_true]
      rw [show (vs.set z v').getD z .undef = v' from by simp [List.getD_eq_getElem?_getD, h.len, hz]]
      exact c2
    · rw [if_neg hzx, if_neg (fun e => hzx e.symm)]
      rw [show (vs.set x v').getD z .undef = vs.getD z .undef from by simp [List.getD_eq_getElem?_getD, List.getElem?_set, Ne.symm hzx]]
      exact (h1 z hz).keep c4 (fun j e1 e2 => h2 z x hz hx hzx j e1 e2)
  · replace e1 : (if z = x then some S.n else T z) = some t := e1
    replace e2 : (if w = x then some S.n else T w) = some t := e2
    by_cases hzx : z = x
    · rw [if_pos hzx] at e1
      rw [if_neg (fun e => hzw (hzx.trans e.symm))] at e2
      cases e1
      have := h1 w hw
      rw [e2] at this
      have := this.lt
      omega
    · rw [if_neg hzx] at e1
      by_cases hwx : w = x
      · rw [if_pos hwx] at e2
        cases e2
        have := h1 z hz
        rw [e1] at this
        have := this.lt
        omega
      · rw [if_neg hwx] at e2
        exact h2 z w hz hw hzw t e1 e2

theorem Fam.start (S : St) (N : Nat) : Fam S N (List.replicate N .nils) (fun _ => []) := by
  refine ⟨by simp, fun _ => none, fun x hx => .inl ⟨?_, rfl⟩, fun _ _ _ _ _ t e => by cases e⟩
  simp [List.getD_eq_getElem?_getD, hx]

end Go.Proofs.YtpjcmiaanjcanaaGreatDoor

namespace Go.Proofs.YtpjcmiaanjcanaaGreatDoor
open Go Go.Vm Go.Vm.T
set_option maxRecDepth 100000
set_option linter.unusedSimpArgs false
set_option linter.unusedVariables false
attribute [local simp] inFrame startLoc startVals Loc.clear blockC Loc.putO Loc.put idx evO constV Loc.get Vm.look intA unwindA resultsA resultV actA pureA storeA loadA fillE repElems TI.zeroV fieldOf fieldAddrA fieldA elemsA retE cellsOf? setCells nowhere

set_option maxHeartbeats 4000000

noncomputable def asg33 : Code := (rfA Tryz.f42 0).1
noncomputable def body33 : Code := (rfA Tryz.f42 0).2

theorem all49 {cs : List Con} (h : sumOf cs 71 = fun _ => none) {n : Nat} {D : AV} {N : Int} {S : St} (hD : D.isCell = true) :
    callS ED (sumOf cs) (n + 1) (.fn 71) [.agg [D], .int .i64 N] S = some (.ret (.fn 93 [] [.ptr S.n 0, .ptr (S.n + 1) 0]), (S.push (.cells [D])).push (.cells [.int .i64 N])) := by
  rw [callS_fn h]
  simp only [fnA, ED_fn71, fi71, Tryz.f71]
  simp [vmS, lenA, indexAddrA, hD]

noncomputable def loop33 (A : AV) (N : Nat) (a7 : AV) (a31 a32 : AV) : ALoop :=
  { state := .ready, pend := none, fid := 42, vals := [A, .ptr 0 0, .nils, .ptr 1 0, .ptr 2 0, .rsl 3 0 N N, .ptr 4 0, a7, .undef, .undef, .undef, .undef, a31, a32, .fn 93 [] [.ptr 6 0, .ptr 7 0], .undef, .undef, .undef, .undef, .undef], params := #[44, 45], asg := asg33, body := body33, dfr := 8 }

/-- what goes on to hold while the edges are gone over -/
structure J33 (A D : AV) (N : Nat) (start : Int) (a7 a31 a32 : AV) (es : List (Int × Int)) (j : Nat) (S : St) : Prop where
  g9 : S.get 9 = some (.loop (loop33 A N a7 a31 a32))
  g8 : S.get 8 = some (.dfr false)
  c1 : S.cells? 1 = some [.int .i64 start]
  c2 : S.cells? 2 = some [D, .int .i64 N]
  c3 : S.cells? 3 = some (ints (List.replicate N (-1)))
  c4 : S.cells? 4 = some [.rsl 5 0 N N]
  c6 : S.cells? 6 = some [D]
  c7 : S.cells? 7 = some [.int .i64 N]
  c5 : ∃ vs, S.cells? 5 = some vs ∧ Fam S N vs (nbrs (keptG N (es.take j)))

theorem J33.box {A D : AV} {N : Nat} {start : Int} {a7 a31 a32 : AV} {es : List (Int × Int)} {j : Nat} {S : St} (h : J33 A D N start a7 a31 a32 es j S) (o o' : AO) : J33 A D N start a7 a31 a32 es j ((S.push o).put S.n o') := by
  obtain ⟨vs, h5, hf⟩ := h.c5
  exact ⟨get_box h.g9, get_box h.g8, cells_box h.c1, cells_box h.c2, cells_box h.c3, cells_box h.c4, cells_box h.c6, cells_box h.c7, vs, cells_box h5, hf.keep fun i b k => get_box k⟩

theorem set_getD {vs : List AV} {x : Nat} (h : x < vs.length) : vs[x]? = some (vs.getD x .undef) := by simp [List.getD_eq_getElem?_getD, h]

theorem index83 {i l c n : Nat} (h : n < l) : indexAddrA ED 84 (.rsl i 0 l c) (.int .i64 n) = some (.ptr i n) := by
  simp [indexAddrA, h]

theorem yld_round {E : Env} {call : CallF} {it : (Vm.Loc → St → CRes) → Vm.Loc → St → CRes} {l : Nat} {args : List AV} {S S1 S2 : St} {a a1 a2 : ALoop} {fi : FInfo} {L L1 L2 : Vm.Loc} (h1 : S.get l = some (.loop a)) (h2 : E.fn a.fid = some fi)
    (h3 : a.params.toList.all (fun t => decide (t < fi.fn.ntmps)) = true) (h4 : putAll fi.vars { vals := a.vals, sc := [], defers := [], recs := .no, rnd := some l } a.params.toList args = some L)
    (h5 : evalC { E, call, it, fid := a.fid, vars := fi.vars, nt := fi.fn.ntmps } a.asg L S = some (.normal, L1, S1)) (h6 : S1.get l = some (.loop a1)) (h7 : a1.state = .ready)
    (h8 : evalC { E, call, it, fid := a.fid, vars := fi.vars, nt := fi.fn.ntmps } a.body L1 (S1.put l (.loop { a1 with state := .busy })) = some (.normal, L2, S2)) (h9 : L2.defers = []) (h10 : S2.get l = some (.loop a2)) :
    yldA E call it l args S = some (.ret (.bool true), S2.put l (.loop { a2 with state := .ready, pend := none })) := by
  unfold yldA
  simp only [h1, h2, h3, if_true, h4, h5, h6, h7, h8, h9, h10]

theorem nbrs_add (l : List (Int × Int)) (e : Int × Int) (x : Nat) : nbrs (l ++ [e]) x = if e.1.toNat = x then nbrs l x ++ [e.2.toNat] else nbrs l x := by
  unfold nbrs
  rw [List.filter_append, List.map_append]
  simp only [List.filter_cons, List.filter_nil]
  split <;> simp_all
/-- an edge from none to a node that is not the start -/
def wrongD (N : Nat) (st : Int) (e : Int × Int) : Bool := inN N e.2 && !inN N e.1 && decide (e.2 ≠ st)
def badD (N : Nat) (st : Int) (es : List (Int × Int)) : Bool := es.any (wrongD N st)
theorem badD_of {N : Nat} {st : Int} {es : List (Int × Int)} {j : Nat} (hj : j < es.length) (h : wrongD N st es[j] = true) : badD N st es = true := List.any_eq_true.2 ⟨_, List.getElem_mem hj, h⟩
theorem badD_take {N : Nat} {st : Int} {es : List (Int × Int)} {j : Nat} (hj : j < es.length) : badD N st (es.take (j + 1)) = (badD N st (es.take j) || wrongD N st es[j]) := by
  unfold badD
  rw [List.take_add_one, List.getElem?_eq_getElem hj, List.any_append]
  simp

theorem yld_pan {E : Env} {call : CallF} {it : (Vm.Loc → St → CRes) → Vm.Loc → St → CRes} {l : Nat} {args : List AV} {S S1 S2 : St} {a a1 a2 : ALoop} {fi : FInfo} {L L1 L2 : Vm.Loc} {v : AV} (h1 : S.get l = some (.loop a)) (h2 : E.fn a.fid = some fi)
    (h3 : a.params.toList.all (fun t => decide (t < fi.fn.ntmps)) = true) (h4 : putAll fi.vars { vals := a.vals, sc := [], defers := [], recs := .no, rnd := some l } a.params.toList args = some L)
    (h5 : evalC { E, call, it, fid := a.fid, vars := fi.vars, nt := fi.fn.ntmps } a.asg L S = some (.normal, L1, S1)) (h6 : S1.get l = some (.loop a1)) (h7 : a1.state = .ready)
    (h8 : evalC { E, call, it, fid := a.fid, vars := fi.vars, nt := fi.fn.ntmps } a.body L1 (S1.put l (.loop { a1 with state := .busy })) = some (.pan v, L2, S2)) (h9 : L2.defers = []) (h10 : S2.get l = some (.loop a2)) :
    yldA E call it l args S = some (.pan v, S2) := by
  unfold yldA
  simp only [h1, h2, h3, if_true, h4, h5, h6, h7, h8, h9, h10]

theorem J33.same {A D : AV} {N : Nat} {start : Int} {a7 a31 a32 : AV} {es : List (Int × Int)} {j : Nat} {S : St} (h : J33 A D N start a7 a31 a32 es j S) (hj : j < es.length) (hn : (inN N es[j].1 && inN N es[j].2) = false) : J33 A D N start a7 a31 a32 es (j + 1) S := by
  obtain ⟨vs, h5, hf⟩ := h.c5
  refine ⟨h.g9, h.g8, h.c1, h.c2, h.c3, h.c4, h.c6, h.c7, vs, h5, ?_⟩
  have e : keptG N (es.take (j + 1)) = keptG N (es.take j) := by rw [keptG_take hj, hn]; simp
  rw [e]; exact hf

/-- what is left of a trap within a range -/
structure K33 (N : Nat) (start : Int) (es : List (Int × Int)) (S : St) : Prop where
  bad : badD N start es = true
  g8 : S.get 8 = some (.dfr false)

theorem round33_out {cs : List Con} (h48 : sumOf cs 70 = needC.look) {A D : AV} {N : Nat} {start : Int} {a7 a31 a32 : AV} {es : List (Int × Int)} {j n : Nat} {S : St} (hj : j < es.length) (hlen : es.length ≤ 4096) (hy : inN N es[j].2 = true) (hx : inN N es[j].1 = false) (h : J33 A D N start a7 a31 a32 es j S) :
    (∃ S', callS ED (sumOf cs) (n + 1) (.yld 9) [duoA es[j], .bool false] S = some (.ret (.bool true), S') ∧ J33 A D N start a7 a31 a32 es (j + 1) S' ∧ wrongD N start es[j] = false) ∨
    (∃ S', callS ED (sumOf cs) (n + 1) (.yld 9) [duoA es[j], .bool false] S = some (.pan trapV, S') ∧ K33 N start es S') := by
  obtain ⟨vs, h5, hf⟩ := h.c5
  have hbd := badD_of (N := N) (st := start) hj
  have uN := fun (n : Nat) (b : Bool) (S : St) => need_use (cs := cs) h48 (n := n) (b := b) (S := S)
  have hsame : ∀ S, J33 A D N start a7 a31 a32 es j S → J33 A D N start a7 a31 a32 es (j + 1) S := fun S k => k.same hj (by rw [hx]; rfl)
  have hwr : es[j].2 ≠ start → badD N start es = true := fun k => hbd (by simp [wrongD, hy, hx, k])
  have hwk : es[j].2 = start → wrongD N start es[j] = false := fun k => by simp [wrongD, k]
  generalize wrongD N start es[j] = wr at *
  have hdu : duoA es[j] = .agg [.int .i64 es[j].1, .int .i64 es[j].2] := rfl
  rw [hdu]
  generalize es[j].1 = x at *
  generalize es[j].2 = y at *
  have hb := h.box (.cells [.int .i64 0, .int .i64 0]) (.cells [.int .i64 x, .int .i64 y])
  have b8 := cells?_put_push S (.cells [.int .i64 0, .int .i64 0]) [.int .i64 x, .int .i64 y]
  have hJ1 := hb
  obtain ⟨g9, g8, c1, c2, c3, c4, c6, c7, vs', c5, hf'⟩ := hb
  have h9lt := St.get_lt h.g9
  generalize hS1 : (S.push (.cells [.int .i64 0, .int .i64 0])).put S.n (.cells [.int .i64 x, .int .i64 y]) = S1 at *
  have busy : ∀ o, ∀ k, k ≠ 9 → (S1.put 9 o).get k = S1.get k := fun o k hk => get_put_ne hk
  have busyc : ∀ o k cs', k ≠ 9 → S1.cells? k = some cs' → (S1.put 9 o).cells? k = some cs' := fun o k cs' hk hc => by
    rw [cells?_put_ne _ _ _ hk]; exact hc
  have e1 := busyc (.loop { loop33 A N a7 a31 a32 with state := .busy }) 1 _ (by decide) c1
  have e8 := busyc (.loop { loop33 A N a7 a31 a32 with state := .busy }) S.n _ (by omega) b8
  have q9 := get_put_self (o' := .loop { loop33 A N a7 a31 a32 with state := .busy }) g9
  have hasg : evalC ⟨ED, callS ED (sumOf cs) n, iter n, 42, fi42.vars, fi42.fn.ntmps⟩ asg33 { vals := [A, .ptr 0 0, .nils, .ptr 1 0, .ptr 2 0, .rsl 3 0 N N, .ptr 4 0, a7, .undef, .undef, .undef, .undef, a31, a32, .fn 93 [] [.ptr 6 0, .ptr 7 0], .agg [.int .i64 x, .int .i64 y], .bool false, .undef, .undef, .undef], sc := [], defers := [], recs := .no, rnd := some 9 } S =
      some (.normal, { vals := [A, .ptr 0 0, .nils, .ptr 1 0, .ptr 2 0, .rsl 3 0 N N, .ptr 4 0, a7, .ptr S.n 0, .bool false, .undef, .undef, a31, a32, .fn 93 [] [.ptr 6 0, .ptr 7 0], .agg [.int .i64 x, .int .i64 y], .bool false, .undef, .undef, .undef], sc := [], defers := [], recs := .no, rnd := some 9 }, S1) := by
    simp only [asg33, rfA, rangesOf, drA, drawsOf, Option.getD_some, List.nil_append, List.append_nil, List.getD_cons_zero, List.getD_cons_succ, List.cons_append, Tryz.f42, fi42]
    simp [vmS, hS1]
  by_cases hys : y = start
  · subst hys
    left
    have hbody : evalC ⟨ED, callS ED (sumOf cs) n, iter n, 42, fi42.vars, fi42.fn.ntmps⟩ body33 { vals := [A, .ptr 0 0, .nils, .ptr 1 0, .ptr 2 0, .rsl 3 0 N N, .ptr 4 0, a7, .ptr S.n 0, .bool false, .undef, .undef, a31, a32, .fn 93 [] [.ptr 6 0, .ptr 7 0], .agg [.int .i64 x, .int .i64 y], .bool false, .undef, .undef, .undef], sc := [], defers := [], recs := .no, rnd := some 9 } (S1.put 9 (.loop { loop33 A N a7 a31 a32 with state := .busy })) =
        some (.normal, { vals := [A, .ptr 0 0, .nils, .ptr 1 0, .ptr 2 0, .rsl 3 0 N N, .ptr 4 0, a7, .ptr S.n 0, .bool false, .undef, .undef, a31, a32, .fn 93 [] [.ptr 6 0, .ptr 7 0], .agg [.int .i64 x, .int .i64 y], .bool false, .undef, .undef, .undef], sc := [], defers := [], recs := .no, rnd := some 9 }, S1.put 9 (.loop { loop33 A N a7 a31 a32 with state := .busy })) := by
      generalize S1.put 9 (.loop { loop33 A N a7 a31 a32 with state := .busy }) = SB at *
      simp only [body33, rfA, rangesOf, drA, drawsOf, Option.getD_some, List.nil_append, List.append_nil, List.getD_cons_zero, List.getD_cons_succ, List.cons_append, Tryz.f42, fi42]
      simp [vmS, e1, e8, uN]
    refine ⟨(S1.put 9 (.loop { loop33 A N a7 a31 a32 with state := .busy })).put 9 (.loop (loop33 A N a7 a31 a32)), ?_, ?_, hwk rfl⟩
    · rw [callS_yld]
      exact yld_round (E := ED) (call := callS ED (sumOf cs) n) (it := iter n) (l := 9) (S := S) (fi := fi42) h.g9 rfl rfl rfl hasg g9 rfl hbody rfl q9
    · apply hsame
      have rk : ∀ k cs', S1.cells? k = some cs' → ((S1.put 9 (.loop { loop33 A N a7 a31 a32 with state := .busy })).put 9 (.loop (loop33 A N a7 a31 a32))).cells? k = some cs' := by
        intro k cs' hc
        have hk9 : k ≠ 9 := fun e => by
          subst e
          have := cells?_inv hc
          rw [g9] at this
          cases this
        rw [cells?_put_ne _ _ _ hk9]
        exact busyc _ _ _ hk9 hc
      refine ⟨get_put_self q9, ?_, rk _ _ c1, rk _ _ c2, rk _ _ c3, rk _ _ c4, rk _ _ c6, rk _ _ c7, vs', rk _ _ c5, hf'.keep fun i b k => ?_⟩
      · rw [get_put_ne (by decide), get_put_ne (by decide)]; exact g8
      · rw [get_put_ne (fun e => by subst e; rw [g9] at k; cases k), get_put_ne (fun e => by subst e; rw [g9] at k; cases k)]; exact k
  · right
    have hbody : Got (evalC ⟨ED, callS ED (sumOf cs) n, iter n, 42, fi42.vars, fi42.fn.ntmps⟩ body33 { vals := [A, .ptr 0 0, .nils, .ptr 1 0, .ptr 2 0, .rsl 3 0 N N, .ptr 4 0, a7, .ptr S.n 0, .bool false, .undef, .undef, a31, a32, .fn 93 [] [.ptr 6 0, .ptr 7 0], .agg [.int .i64 x, .int .i64 y], .bool false, .undef, .undef, .undef], sc := [], defers := [], recs := .no, rnd := some 9 } (S1.put 9 (.loop { loop33 A N a7 a31 a32 with state := .busy }))) (fun e L S => e = .pan trapV ∧ L.defers = [] ∧ S = S1.put 9 (.loop { loop33 A N a7 a31 a32 with state := .busy })) := by
      generalize S1.put 9 (.loop { loop33 A N a7 a31 a32 with state := .busy }) = SB at *
      simp only [body33, rfA, rangesOf, drA, drawsOf, Option.getD_some, List.nil_append, List.append_nil, List.getD_cons_zero, List.getD_cons_succ, List.cons_append, Tryz.f42, fi42]
      simp [vmS, e1, e8, uN, hys, stepE_pan]
    obtain ⟨e, L2, S2, hbody, rfl, hL2, rfl⟩ := got_iff.1 hbody
    refine ⟨S1.put 9 (.loop { loop33 A N a7 a31 a32 with state := .busy }), ?_, hwr hys, ?_⟩
    · rw [callS_yld]
      exact yld_pan (E := ED) (call := callS ED (sumOf cs) n) (it := iter n) (l := 9) (S := S) (fi := fi42) h.g9 rfl rfl rfl hasg g9 rfl hbody hL2 q9
    · rw [busy _ _ (by decide)]; exact g8

theorem round33 {cs : List Con} (h48 : sumOf cs 70 = needC.look) {A D : AV} {N : Nat} {start : Int} {a7 a31 a32 : AV} {es : List (Int × Int)} {j n : Nat} {S : St} (hj : j < es.length) (hlen : es.length ≤ 4096) (hx' : inN N es[j].1 = true) (hy' : inN N es[j].2 = true) (h : J33 A D N start a7 a31 a32 es j S) :
    ∃ S', callS ED (sumOf cs) (n + 1) (.yld 9) [duoA es[j], .bool true] S = some (.ret (.bool true), S') ∧ J33 A D N start a7 a31 a32 es (j + 1) S' := by
  obtain ⟨vs, h5, hf⟩ := h.c5
  obtain ⟨x0, x1⟩ := inN_t.1 hx'
  obtain ⟨y0, y1⟩ := inN_t.1 hy'
  obtain ⟨x, hx⟩ := Int.eq_ofNat_of_zero_le x0
  obtain ⟨y, hy⟩ := Int.eq_ofNat_of_zero_le y0
  have hxN : x < N := by omega
  have hvl : x < vs.length := by rw [hf.len]; exact hxN
  have hvl2 : x + 1 ≤ vs.length := hvl
  have d2 := @dr42_2
  simp only [drA, drawsOf, Option.getD_some, List.nil_append, List.append_nil, List.getD_cons_zero, List.getD_cons_succ, List.cons_append, Tryz.f42] at d2
  have uN := fun (n : Nat) (S : St) => need_use (cs := cs) h48 (n := n) (b := true) (S := S)
  have hb := h.box (.cells [.int .i64 0, .int .i64 0]) (.cells [.int .i64 x, .int .i64 y])
  have b8 := cells?_put_push S (.cells [.int .i64 0, .int .i64 0]) [.int .i64 x, .int .i64 y]
  obtain ⟨g9, g8, c1, c2, c3, c4, c6, c7, vs', c5, hf'⟩ := hb
  have hvs : vs' = vs := by
    have := cells_box (o := .cells [.int .i64 0, .int .i64 0]) (o' := .cells [.int .i64 x, .int .i64 y]) h5
    rw [c5] at this
    exact Option.some.inj this
  subst hvs
  have h9lt := St.get_lt h.g9
  generalize hS1 : (S.push (.cells [.int .i64 0, .int .i64 0])).put S.n (.cells [.int .i64 x, .int .i64 y]) = S1 at *
  -- the state in which the body runs
  have busy : ∀ o, ∀ k, k ≠ 9 → (S1.put 9 o).get k = S1.get k := fun o k hk => get_put_ne hk
  have busyc : ∀ o k cs', k ≠ 9 → S1.cells? k = some cs' → (S1.put 9 o).cells? k = some cs' := fun o k cs' hk hc => by
    rw [cells?_put_ne _ _ _ hk]; exact hc
  have hfB : ∀ a, Fam (S1.put 9 (.loop a)) N vs' (nbrs (keptG N (es.take j))) := fun a => hf'.keep fun i b k => by
    rw [get_put_ne (fun e => by subst e; rw [g9] at k; cases k)]; exact k
  have hnl : (nbrs (keptG N (es.take j)) x).length ≤ 10000 := by
    have := nbrs_len (keptG N (es.take j)) x
    have h2 := keptG_len N (es.take j)
    have h3 := List.length_take_le j es
    omega
  obtain ⟨v', S2, T, k1, k2, k3, k4, k5, k6⟩ := (hfB { loop33 A N a7 a31 a32 with state := .busy }).append y hxN hnl
  have q9 := k3.get 9 _ (k4 9 _ (get_put_self g9) (by simp)) (get_put_self (o' := .loop { loop33 A N a7 a31 a32 with state := .busy }) g9)
  have q8 := k3.get 8 _ (k4 8 _ (by rw [busy _ _ (by decide)]; exact g8) (by simp)) (by rw [busy _ _ (by decide)]; exact g8)
  have e1 := busyc (.loop { loop33 A N a7 a31 a32 with state := .busy }) 1 _ (by decide) c1
  have e2 := busyc (.loop { loop33 A N a7 a31 a32 with state := .busy }) 2 _ (by decide) c2
  have e3 := busyc (.loop { loop33 A N a7 a31 a32 with state := .busy }) 3 _ (by decide) c3
  have e4 := busyc (.loop { loop33 A N a7 a31 a32 with state := .busy }) 4 _ (by decide) c4
  have e5 := busyc (.loop { loop33 A N a7 a31 a32 with state := .busy }) 5 _ (by decide) c5
  have e6 := busyc (.loop { loop33 A N a7 a31 a32 with state := .busy }) 6 _ (by decide) c6
  have e7 := busyc (.loop { loop33 A N a7 a31 a32 with state := .busy }) 7 _ (by decide) c7
  have e8 := busyc (.loop { loop33 A N a7 a31 a32 with state := .busy }) S.n _ (by omega) b8
  have f4 := k3.cells _ _ e4
  have f5 := k3.cells _ _ e5
  have f8 := k3.cells _ _ e8
  have hix := index83 (i := 5) (c := N) hxN
  have hget := set_getD hvl
  generalize vs'.getD x .undef = vx at hget k1
  have q9' : (S2.put 5 (.cells (vs'.set x v'))).get 9 = some (.loop { loop33 A N a7 a31 a32 with state := .busy }) := by rw [get_put_ne (by decide)]; exact q9
  have f55 := cells_put_self (ds := vs'.set x v') f5
  refine ⟨(S2.put 5 (.cells (vs'.set x v'))).put 9 (.loop (loop33 A N a7 a31 a32)), ?_, ?_⟩
  · rw [callS_yld]
    obtain ⟨w1, w2, w3⟩ := k5
    have hasg : evalC ⟨ED, callS ED (sumOf cs) n, iter n, 42, fi42.vars, fi42.fn.ntmps⟩ asg33 { vals := [A, .ptr 0 0, .nils, .ptr 1 0, .ptr 2 0, .rsl 3 0 N N, .ptr 4 0, a7, .undef, .undef, .undef, .undef, a31, a32, .fn 93 [] [.ptr 6 0, .ptr 7 0], .agg [.int .i64 x, .int .i64 y], .bool true, .undef, .undef, .undef], sc := [], defers := [], recs := .no, rnd := some 9 } S =
        some (.normal, { vals := [A, .ptr 0 0, .nils, .ptr 1 0, .ptr 2 0, .rsl 3 0 N N, .ptr 4 0, a7, .ptr S.n 0, .bool true, .undef, .undef, a31, a32, .fn 93 [] [.ptr 6 0, .ptr 7 0], .agg [.int .i64 x, .int .i64 y], .bool true, .undef, .undef, .undef], sc := [], defers := [], recs := .no, rnd := some 9 }, S1) := by
      simp only [asg33, rfA, rangesOf, drA, drawsOf, Option.getD_some, List.nil_append, List.append_nil, List.getD_cons_zero, List.getD_cons_succ, List.cons_append, Tryz.f42, fi42]
      simp [vmS, hS1]
    have hbody : evalC ⟨ED, callS ED (sumOf cs) n, iter n, 42, fi42.vars, fi42.fn.ntmps⟩ body33 { vals := [A, .ptr 0 0, .nils, .ptr 1 0, .ptr 2 0, .rsl 3 0 N N, .ptr 4 0, a7, .ptr S.n 0, .bool true, .undef, .undef, a31, a32, .fn 93 [] [.ptr 6 0, .ptr 7 0], .agg [.int .i64 x, .int .i64 y], .bool true, .undef, .undef, .undef], sc := [], defers := [], recs := .no, rnd := some 9 } (S1.put 9 (.loop { loop33 A N a7 a31 a32 with state := .busy })) =
        some (.normal, { vals := [A, .ptr 0 0, .nils, .ptr 1 0, .ptr 2 0, .rsl 3 0 N N, .ptr 4 0, a7, .ptr S.n 0, .bool true, .undef, .undef, a31, a32, .fn 93 [] [.ptr 6 0, .ptr 7 0], .agg [.int .i64 x, .int .i64 y], .bool true, .undef, .undef, .undef], sc := [(67, .ptr 5 x), (66, v'), (65, .slice [.int .i64 y] .full), (64, .int .i64 y), (63, .ptr S.n 1), (62, vx), (61, .ptr 5 x), (60, .int .i64 x), (59, .ptr S.n 0), (58, .rsl 5 0 N N), (57, .int .i64 x), (56, .ptr S.n 0), (55, .rsl 5 0 N N)], defers := [], recs := .no, rnd := some 9 }, S2.put 5 (.cells (vs'.set x v'))) := by
      generalize S1.put 9 (.loop { loop33 A N a7 a31 a32 with state := .busy }) = SB at *
      simp only [body33, rfA, rangesOf, drA, drawsOf, Option.getD_some, List.nil_append, List.append_nil, List.getD_cons_zero, List.getD_cons_succ, List.cons_append, Tryz.f42, fi42]
      simp [vmS, runC_nil, runC_cons, pickC_some, wantC_tt, wantC_tf, effC_val, ifC_true, checkC, inPairs, keepC, okC, readsC_load, readV_some, AV.beq_self, wantA_n, wantA_g, wantD_some, d2, e4, e5, e8, uN, hix, hget, k1, w1, w2, w3, f4, f5, f8, hvl2]
    have hyr := yld_round (E := ED) (call := callS ED (sumOf cs) n) (it := iter n) (l := 9) (args := [duoA es[j], .bool true]) (S := S) (fi := fi42) h.g9 rfl rfl rfl (by rw [show (duoA es[j]) = .agg [.int .i64 x, .int .i64 y] from by simp [duoA, hx, hy]]; exact hasg) g9 rfl hbody rfl q9'
    exact hyr
  · obtain ⟨w1, w2, w3⟩ := k5
    have r9 := get_put_self (o' := .loop (loop33 A N a7 a31 a32)) q9'
    have rk : ∀ k cs', k ≠ 5 → S2.cells? k = some cs' → ((S2.put 5 (.cells (vs'.set x v'))).put 9 (.loop (loop33 A N a7 a31 a32))).cells? k = some cs' := by
      intro k cs' hk hc
      have hk9 : k ≠ 9 := fun e => by
        subst e
        have := cells?_inv hc
        rw [q9] at this
        cases this
      rw [cells?_put_ne _ _ _ hk9]
      exact cells_put f5 hc hk
    refine ⟨r9, ?_, rk 1 _ (by decide) (k3.cells _ _ e1), rk 2 _ (by decide) (k3.cells _ _ e2), rk 3 _ (by decide) (k3.cells _ _ e3), rk 4 _ (by decide) f4, rk 6 _ (by decide) (k3.cells _ _ e6), rk 7 _ (by decide) (k3.cells _ _ e7), vs'.set x v', ?_, ?_⟩
    · rw [get_put_ne (by decide), get_put_ne (by decide)]; exact q8
    · rw [cells?_put_ne _ _ _ (by decide)]; exact f55
    · have hnb : nbrs (keptG N (es.take (j + 1))) = fun z => if x = z then nbrs (keptG N (es.take j)) z ++ [y] else nbrs (keptG N (es.take j)) z := by
        funext z
        rw [keptG_take hj, hx', hy']
        simp only [Bool.and_self, if_true]
        rw [nbrs_add, hx, hy]
        rfl
      rw [hnb]
      refine k6.keep fun i b k => ?_
      rw [get_put_ne (fun e => by subst e; rw [q9] at k; cases k), get_put_ne (fun e => by subst e; rw [cells?_inv f5] at k; cases k)]
      exact k

end Go.Proofs.YtpjcmiaanjcanaaGreatDoor

namespace Go.Proofs.YtpjcmiaanjcanaaGreatDoor
open Go Go.Vm Go.Vm.T
set_option maxRecDepth 100000
set_option linter.unusedSimpArgs false
set_option linter.unusedVariables false
attribute [local simp] inFrame startLoc startVals Loc.clear blockC Loc.putO Loc.put idx evO constV Loc.get Vm.look intA unwindA resultsA resultV actA pureA storeA loadA fillE repElems TI.zeroV fieldOf fieldAddrA fieldA elemsA retE cellsOf? setCells nowhere

set_option maxHeartbeats 4000000

def csD : List Con := [sideC 67 0, sideC 68 1, graphC, needC]
theorem csD_ok : ∀ d ∈ csD, d.Ok Tryz.prog ED := by simpa [csD] using ⟨first_ok, second_ok, graph_ok, need_ok⟩

theorem flat_rep2 (n : Nat) : repeatL n [AV.nils] = List.replicate n .nils := by
  unfold repeatL
  induction n with
  | zero => rfl
  | succ n ih => rw [List.replicate_succ, List.flatten_cons, ih]; rfl

def fillD (n j : Nat) : List Int := List.replicate j (-1) ++ List.replicate (n - j) 0
theorem fillD_set {n j : Nat} (hj : j < n) : (fillD n j).set j (-1) = fillD n (j + 1) := by
  apply List.ext_getElem
  · simp [fillD]; omega
  · intro i h1 h2
    simp only [fillD, List.getElem_set, List.getElem_append, List.length_replicate, List.getElem_replicate]
    by_cases a : j = i
    · rw [if_pos a, dif_pos (by omega)]
    · rw [if_neg a]
      by_cases b : i < j
      · rw [dif_pos b, dif_pos (by omega)]
      · rw [dif_neg b, dif_neg (by omega)]
theorem fillD_all (n : Nat) : fillD n n = List.replicate n (-1) := by simp [fillD]
theorem fillD_zero (n : Nat) : ints (fillD n 0) = List.replicate n (.int .i64 0) := by simp [fillD, ints]
theorem fillD_len {n j : Nat} (h : j ≤ n) : (fillD n j).length = n := by simp [fillD]; omega
theorem ints_set (zs : List Int) (i : Nat) (z : Int) : (ints zs).set i (.int .i64 z) = ints (zs.set i z) := by
  unfold ints
  rw [List.map_set]
theorem ints_all (zs : List Int) : (∀ x ∈ ints zs, x.isCell = true) := fun x hx => by
  unfold ints at hx
  obtain ⟨z, _, rfl⟩ := List.mem_map.1 hx
  rfl

def vlocD (vals : List AV) (sc : List (Tmp × AV)) (ds : List ADef) : Vm.Loc := { vals := vals, sc := sc, defers := ds, recs := .no, rnd := none }

theorem melt_out {S : St} {N : Nat} {d : List Int} (h : S.cells? 3 = some (ints d)) (hl : d.length = N) : (FRes.ret (.rsl 3 0 N N)).melt S = .ret (slcI d) := by
  have htk : (ints d).take N = ints d := List.take_of_length_le (by simp [hl])
  have hall := ints_all d
  simp [FRes.melt, AV.melt, h, hl, slcI, htk, ints_dead]
  exact hall

/-- what holds while nodes are gone over -/
structure B33 (D : AV) (N : Nat) (start : Int) (vs : List AV) (S : St) (d : List Int) : Prop where
  g8 : S.get 8 = some (.dfr false)
  c1 : S.cells? 1 = some [.int .i64 start]
  c2 : S.cells? 2 = some [D, .int .i64 N]
  c3 : S.cells? 3 = some (ints d)
  c4 : S.cells? 4 = some [.rsl 5 0 N N]
  c5 : S.cells? 5 = some vs

theorem B33.keep {D : AV} {N : Nat} {start : Int} {vs : List AV} {S S' : St} {d : List Int} (h : B33 D N start vs S d) {T : Option Nat} (k : Kept T S S') (hT : T ≠ some 8) : B33 D N start vs S' d :=
  ⟨k.get _ _ hT h.g8, k.cells _ _ h.c1, k.cells _ _ h.c2, k.cells _ _ h.c3, k.cells _ _ h.c4, k.cells _ _ h.c5⟩

theorem B33.set {D : AV} {N : Nat} {start : Int} {vs : List AV} {S : St} {d : List Int} (h : B33 D N start vs S d) (e : List Int) : B33 D N start vs (S.put 3 (.cells (ints e))) e :=
  ⟨by rw [get_put_ne (by decide)]; exact h.g8, cells_put h.c3 h.c1 (by decide), cells_put h.c3 h.c2 (by decide), cells_put_self h.c3, cells_put h.c3 h.c4 (by decide), cells_put h.c3 h.c5 (by decide)⟩

theorem live_tail {S : St} {v : AV} {a : Nat} {q : List Nat} {T : Option Nat} (h : LiveT S 1 v (nats (a :: q)) T) : ∃ v', sliceA ED 62 v (some (.int .i64 1)) none none = some v' ∧ LiveT S 1 v' (nats q) T := by
  have e : nats (a :: q) = .int .i64 (a : Nat) :: nats q := rfl
  rcases h.cases with ⟨_, h2⟩ | ⟨tk, rfl⟩
  · cases h2
  · refine ⟨.slice (nats q) tk, ?_, ?_⟩
    · rw [e]
      have hd : ED.desc 62 = some (.slice 3) := rfl
      have hs : ED.size 3 = some 1 := rfl
      have h1 : (1 : Int) ≤ (q.length : Int) + 1 := by omega
      simp [sliceA, hd, hs, boundsA, boundMx, boundHi, boundLo, boundA, headSz, AV.cells, h1, List.take_of_length_le]
    · cases T with
      | none =>
        rcases h with ⟨h1, _⟩ | h1
        · cases h1
        · cases h1; exact .inr rfl
      | some j =>
        obtain ⟨h1, h2⟩ := h
        cases h1
        exact ⟨rfl, h2⟩

theorem Dist.none {N : Nat} {es : List (Int × Int)} (hin : InGraph N es) : Dist N N es (List.replicate N (-1)) := by
  have hr : ∀ k, k < N → (List.replicate N (-1 : Int)).getD k 0 = -1 := fun k hk => by simp [List.getD_eq_getElem?_getD, hk]
  refine ⟨by simp, fun i hi => ?_, fun i hi => ?_, fun e he hd => ?_, fun i hi hp => ?_, fun i hi => by rw [hr i hi]; omega⟩
  · rw [hr i hi]; omega
  · rw [hr i hi]; omega
  · have := hin e he
    rw [hr _ (by omega)] at hd; omega
  · rw [hr i hi] at hp; omega

theorem endC_pan {l : Nat} {L : Vm.Loc} {S : St} {v : AV} : endC l L (some (.pan v, S)) = some (.pan v, L, S) := rfl

theorem fresh_rep (N : Nat) : fresh (List.replicate N (-1)) = N := by
  induction N with
  | zero => rfl
  | succ n ih =>
    unfold fresh at ih ⊢
    rw [List.replicate_succ, List.filter_cons]
    simp [ih]

theorem Dist.le {N start : Nat} {es : List (Int × Int)} {d e : List Int} (h : Dist N start es d) (k : Dist N start es e) (hg : InGraph N es) : ∀ (n i : Nat), i < N → d.getD i 0 = n → 0 ≤ e.getD i 0 ∧ e.getD i 0 ≤ n := by
  intro n
  induction n with
  | zero =>
    intro i hi hz
    have := (h.zero i hi).1 (by simpa using hz)
    have := (k.zero i hi).2 this
    omega
  | succ n ih =>
    intro i hi hz
    obtain ⟨a, k1, k2, k3, k4⟩ := h.near i hi (by omega)
    have hgr := hg a k1
    have h1 := ih a.1.toNat (by omega) (by omega)
    have hc := k.edge a k1 h1.1
    rw [k2] at hc
    omega
theorem Dist.uniq {N start : Nat} {es : List (Int × Int)} {d e : List Int} (h : Dist N start es d) (k : Dist N start es e) (hg : InGraph N es) : d = e := by
  apply List.ext_getElem (by rw [h.len, k.len])
  intro i h1 h2
  have hi : i < N := by rw [← h.len]; exact h1
  have e1 : d.getD i 0 = d[i] := by simp [List.getD_eq_getElem?_getD, h1]
  have e2 : e.getD i 0 = e[i] := by simp [List.getD_eq_getElem?_getD, h2]
  rw [← e1, ← e2]
  have a1 := h.low i hi
  have a2 := k.low i hi
  have b1 := h.le k hg (d.getD i 0).toNat i hi
  have b2 := k.le h hg (e.getD i 0).toNat i hi
  by_cases p : 0 ≤ d.getD i 0
  · have := b1 (by omega)
    have := b2 (by omega)
    omega
  · by_cases q : 0 ≤ e.getD i 0
    · have := b2 (by omega)
      omega
    · omega

def startN (N : Nat) (st : Int) : Nat := if inN N st then st.toNat else N
open Classical in
noncomputable def distOut (N : Nat) (st : Int) (es : List (Int × Int)) : Option (List Int) :=
  if badD N st es then none else if h : ∃ d, Dist N (startN N st) (keptG N es) d then some h.choose else none
theorem distOut_bad {N : Nat} {st : Int} {es : List (Int × Int)} (h : badD N st es = true) : distOut N st es = none := by
  unfold distOut
  rw [if_pos h]
theorem distOut_some {N : Nat} {st : Int} {es : List (Int × Int)} {d : List Int} (h : badD N st es = false) (hd : Dist N (startN N st) (keptG N es) d) : distOut N st es = some d := by
  unfold distOut
  have hex : ∃ d, Dist N (startN N st) (keptG N es) d := ⟨d, hd⟩
  rw [if_neg (by rw [h]; simp), dif_pos hex]
  exact congrArg some (hex.choose_spec.uniq hd (keptG_in N es))

def dStart (v : RV) : Int := ((v.kids.getD 1 dflt).kids.getD 0 dflt).num
def dE (v : RV) : List (Int × Int) := ((v.kids.getD 1 dflt).kids.getD 1 dflt).duos
def distDom (v : RV) : Prop := v.has2 ∧ (v.kids.getD 1 dflt).has2 ∧ ((v.kids.getD 1 dflt).kids.getD 1 dflt).duosOk
noncomputable def distC : Con := rvC 42 distDom fun v => graphR (gN v) slcI (distOut (gN v).toNat (dStart v) (dE v))

theorem dist_ok : distC.Ok Tryz.prog ED := by
  refine Con.ok_at ED_ok ED_pers csD csD_ok (fun (v : RV) _ => ⟨rv_pers v, graphR_slc _ _⟩) ?_
  intro (v : RV) hv
  obtain ⟨hv2, hv3, hdu⟩ := (hv : distDom v)
  show ∃ n, ∀ p : FRes → St → Prop, (∀ r S', r.melt S' = graphR (gN v) slcI (distOut (gN v).toNat (dStart v) (dE v)) → p r S') → GotF (callS ED (sumOf csD) n (.fn 42) [v.enc] S0) p
  refine ⟨8000, fun p hp => ?_⟩
  have d0 := @dr42_0
  have d1 := @dr42_1
  have d3 := @dr42_3
  simp only [drA, drawsOf, Option.getD_some, List.nil_append, List.append_nil, List.getD_cons_zero, List.getD_cons_succ, List.cons_append, Tryz.f42] at d0 d1 d3
  rw [callS_fn rfl]
  have f1 := fun (n : Nat) (S : St) => side_use (cs := csD) (f := 67) (i := 0) rfl (n := n) (S := S) hv2
  have s1 := fun (n : Nat) (S : St) => side_use (cs := csD) (f := 68) (i := 1) (by funext a; rfl) (n := n) (S := S) hv2
  have f2 := fun (n : Nat) (S : St) => side_use (cs := csD) (f := 67) (i := 0) rfl (n := n) (S := S) hv3
  have s2 := fun (n : Nat) (S : St) => side_use (cs := csD) (f := 68) (i := 1) (by funext a; rfl) (n := n) (S := S) hv3
  have hg := fun (n : Nat) (S : St) (m : Int) => graph_use (cs := csD) (by funext a; rfl) (n := n) (S := S) (m := m) hdu
  have hes : (dE v).length ≤ 4096 := by have := hdu.1; simpa [dE, RV.duos] using this
  change ∀ n S m, _ = some (graphRes m (dE v), S) at hg
  unfold gN dStart at hp
  have e := v.look
  obtain ⟨c1, c2, c3⟩ := v.cell
  have e0 := (v.kids.getD 0 dflt).look
  obtain ⟨x1, x2, x3⟩ := (v.kids.getD 0 dflt).cell
  have e1 := (v.kids.getD 1 dflt).look
  obtain ⟨y1, y2, y3⟩ := (v.kids.getD 1 dflt).cell
  have e10 := ((v.kids.getD 1 dflt).kids.getD 0 dflt).look
  obtain ⟨z1, z2, z3⟩ := ((v.kids.getD 1 dflt).kids.getD 0 dflt).cell
  have e11 := ((v.kids.getD 1 dflt).kids.getD 1 dflt).look
  obtain ⟨w1, w2, w3⟩ := ((v.kids.getD 1 dflt).kids.getD 1 dflt).cell
  rw [e0] at f1
  rw [e1] at s1 f2 s2
  rw [e10] at f2
  rw [e11] at s2 hg
  rw [e] at f1 s1 ⊢
  generalize dE v = es at *
  generalize v.lst = A at *
  generalize v.kind = vk at *
  generalize v.num = vn at *
  generalize ((v.kids.getD 1 dflt).kids.getD 0 dflt).num = start at *
  generalize ((v.kids.getD 1 dflt).kids.getD 0 dflt).kind = k10 at *
  generalize ((v.kids.getD 1 dflt).kids.getD 0 dflt).lst = A10 at *
  generalize ((v.kids.getD 1 dflt).kids.getD 1 dflt).num = n11 at *
  generalize ((v.kids.getD 1 dflt).kids.getD 1 dflt).kind = k11 at *
  generalize ((v.kids.getD 1 dflt).kids.getD 1 dflt).lst = A11 at *
  generalize (v.kids.getD 0 dflt).num = nn at *
  generalize (v.kids.getD 0 dflt).kind = k0 at *
  generalize (v.kids.getD 0 dflt).lst = A0 at *
  generalize (v.kids.getD 1 dflt).num = n1 at *
  generalize (v.kids.getD 1 dflt).kind = k1 at *
  generalize (v.kids.getD 1 dflt).lst = A1 at *
  have hp1 : ∀ k z A, partA ED 3 [.int .i64 k, .int .i64 z, A] 1 = some (.int .i64 z) := fun _ _ _ => rfl
  by_cases hnn : 0 ≤ nn ∧ nn ≤ 4096
  rotate_left
  · have hg' := fun n S => hg n S nn
    simp only [graphRes, if_neg hnn] at hg'
    rw [graphR, if_neg hnn] at hp
    simp only [fnA, ED_fn42, fi42, Tryz.f42]
    simp [vmS, runC_nil, runC_cons, pickC_some, wantC_tt, wantC_tf, effC_val, ifC_true, checkC, inPairs, keepC, okC, readsC_load, readV_some, AV.beq_self, wantA_n, wantA_g, wantD_some, d0, f1, s1, f2, s2, hg', c1, c2, x1, x2, y1, y2, z1, z2, w1, w2, hp1, effC_pan]
    exact hp _ _ rfl
  rw [graphR, if_pos hnn] at hp
  obtain ⟨N, rfl⟩ := Int.eq_ofNat_of_zero_le hnn.1
  have hN : N ≤ 4096 := by omega
  have hg' := fun n S => hg n S N
  simp only [graphRes, if_pos hnn, duosA] at hg'
  rw [Int.toNat_natCast] at hp
  obtain ⟨hdc, hdk⟩ := duoAs_cell es
  have hdcells : (lst (es.map duoA)).cells = [lst (es.map duoA)] := by cases es <;> rfl
  have hroom : (N : Int) * 9 ≤ (roomMost : Nat) := by unfold roomMost; omega
  have hroom2 : (N : Int) * 25 ≤ (roomMost : Nat) := by unfold roomMost; omega
  generalize hD : lst (es.map duoA) = D at *
  simp only [fnA, ED_fn42, fi42, Tryz.f42]
  simp [vmS, runC_nil, runC_cons, pickC_some, wantC_tt, wantC_tf, effC_val, ifC_true, checkC, inPairs, keepC, okC, readsC_load, readV_some, AV.beq_self, wantA_n, wantA_g, wantD_some, d0, d1, f1, s1, f2, s2, hg', c1, c2, x1, x2, y1, y2, z1, z2, w1, w2, hdc, hdk, hdcells, hp1, len22, hroom, hroom2, flat_rep, flat_rep2]
  generalize hA : AV.agg [AV.int IntKind.i64 vk, AV.int IntKind.i64 vn, A] = B
  generalize hc : iter _ _ _ _ = c
  obtain ⟨e1, L1, S1, rfl, hq⟩ := loop_of hc
    (fun r L S => ∃ j sc a7, j + r = N ∧ L = vloc [B, .ptr 0 0, .nils, .ptr 1 0, .ptr 2 0, .rsl 3 0 N N, .ptr 4 0, a7, .undef, .undef, .undef, .undef, .int .i64 N, .int .i64 (j : Nat), .undef, .undef, .undef, .undef, .undef, .undef] sc ∧
      S.cells? 1 = some [.int .i64 start] ∧ S.cells? 2 = some [D, .int .i64 N] ∧ S.cells? 3 = some (ints (fillD N j)) ∧ S.cells? 4 = some [.rsl 5 0 N N] ∧ S.cells? 5 = some (List.replicate N .nils) ∧ S.n = 6)
    (fun e L S => e = .exit 0 ∧ ∃ sc a7, L = vloc [B, .ptr 0 0, .nils, .ptr 1 0, .ptr 2 0, .rsl 3 0 N N, .ptr 4 0, a7, .undef, .undef, .undef, .undef, .int .i64 N, .int .i64 N, .undef, .undef, .undef, .undef, .undef, .undef] sc ∧
      S.cells? 1 = some [.int .i64 start] ∧ S.cells? 2 = some [D, .int .i64 N] ∧ S.cells? 3 = some (ints (List.replicate N (-1))) ∧ S.cells? 4 = some [.rsl 5 0 N N] ∧ S.cells? 5 = some (List.replicate N .nils) ∧ S.n = 6)
    N (by omega)
    (by
      refine ⟨0, _, _, by simp, rfl, ?_, ?_, ?_, ?_, ?_, ?_⟩
      · simp [push_at, put_at, n_push', n_put', cellsOf?]
      · simp [push_at, put_at, n_push', n_put', cellsOf?]
      · rw [fillD_zero]; simp [push_at, put_at, n_push', n_put', cellsOf?]
      · simp [push_at, put_at, n_push', n_put', cellsOf?]
      · simp [push_at, put_at, n_push', n_put', cellsOf?]
      · simp [n_push', n_put'])
    (by
      rintro r L S ⟨j, sc, a7, hjk, rfl, g1, g2, g3, g4, g5, g6⟩ q hq1 hq2
      by_cases hj : j < N
      · have hw : IntKind.i64.wrap ((j : Int) + 1) = ((j : Int) + 1) := wrap_id (by omega) (by omega)
        have hl := fillD_len (n := N) (j := j) (by omega)
        have hj1 : j + 1 ≤ N := hj
        simp [vmS, vloc, hj, g3, index22 hj, hw, hl, hj1]
        refine hq1 (r - 1) _ _ (by omega) ⟨j + 1, _, _, by omega, rfl, cells_put g3 g1 (by decide), cells_put g3 g2 (by decide), ?_, cells_put g3 g4 (by decide), cells_put g3 g5 (by decide), by rw [n_put']; exact g6⟩
        rw [← fillD_set hj, ← ints_set]
        exact cells_put_self g3
      · have hjl : j = N := by omega
        subst hjl
        simp [vmS, vloc]
        refine hq2 _ _ _ (by simp) ⟨rfl, _, a7, rfl, g1, g2, by rw [← fillD_all]; exact g3, g4, g5, g6⟩)
  obtain ⟨rfl, sc, a7, rfl, g1, g2, g3, g4, g5, g6⟩ := hq
  have hDc : D.isCell = true ∧ D.known = true ∧ D.cells = [D] := ⟨hdc, hdk, hdcells⟩
  have hall := fun (n : Nat) => all49 (cs := csD) rfl (n := n) (D := D) (N := N) (S := S1) hDc.1
  rw [g6] at hall
  simp [vmS, vloc, g2, hall]
  generalize hS2 : (S1.push (.cells [D])).push (.cells [.int .i64 (N : Int)]) = S2
  have n2 : S2.n = 8 := by rw [← hS2, n_push', n_push', g6]
  have k1 : S2.cells? 1 = some [.int .i64 start] := by rw [← hS2]; exact cells_push (cells_push g1)
  have k2 : S2.cells? 2 = some [D, .int .i64 N] := by rw [← hS2]; exact cells_push (cells_push g2)
  have k3 : S2.cells? 3 = some (ints (List.replicate N (-1))) := by rw [← hS2]; exact cells_push (cells_push g3)
  have k4 : S2.cells? 4 = some [.rsl 5 0 N N] := by rw [← hS2]; exact cells_push (cells_push g4)
  have k5 : S2.cells? 5 = some (List.replicate N .nils) := by rw [← hS2]; exact cells_push (cells_push g5)
  have k6 : S2.cells? 6 = some [D] := by
    rw [← hS2]
    have := cells?_push_self S1 [D]
    rw [g6] at this
    exact cells_push this
  have k7 : S2.cells? 7 = some [.int .i64 N] := by
    rw [← hS2]
    have := cells?_push_self (S1.push (.cells [D])) [.int .i64 (N : Int)]
    rw [n_push', g6] at this
    exact this
  clear hS2 g1 g2 g3 g4 g5 g6 hall
  have J0 : J33 B D N start a7 (.int .i64 N) (.int .i64 N) es 0 ((S2.push (.dfr false)).push (.loop (loop33 B N a7 (.int .i64 N) (.int .i64 N)))) := by
    refine ⟨?_, ?_, cells_push (cells_push k1), cells_push (cells_push k2), cells_push (cells_push k3), cells_push (cells_push k4), cells_push (cells_push k6), cells_push (cells_push k7), _, cells_push (cells_push k5), ?_⟩
    · have := St.get_push_self (S2.push (.dfr false)) (.loop (loop33 B N a7 (.int .i64 N) (.int .i64 N)))
      rw [n_push', n2] at this
      exact this
    · apply St.get_push_of
      have := St.get_push_self S2 (.dfr false)
      rw [n2] at this
      exact this
    · exact Fam.start _ _
  have hall := all_ev csD rfl es N 9 6 7 7998 hes (by omega) (fun j S => J33 B D N start a7 (.int .i64 N) (.int .i64 N) es j S ∧ badD N start (es.take j) = false) (K33 N start es) (fun j S o o' h => ⟨h.1.box o o', h.2⟩) (fun j S h => by rw [hD]; exact h.1.c6) (fun j S h => h.1.c7)
    (fun j S hj hy h => ⟨h.1.same hj (by rw [hy, Bool.and_false]), by rw [badD_take hj, h.2]; simp [wrongD, hy]⟩)
    (fun j S hj hy h => by
      by_cases hx : inN N es[j].1 = true
      · obtain ⟨S', h1, h2⟩ := round33 (n := 7997) (cs := csD) (by funext a; rfl) hj hes hx hy h.1
        rw [hx]
        exact .inl ⟨S', h1, h2, by rw [badD_take hj, h.2]; simp [wrongD, hx]⟩
      · have hx' : inN N es[j].1 = false := by simpa using hx
        rw [hx']
        rcases round33_out (n := 7997) (cs := csD) (by funext a; rfl) hj hes hy hx' h.1 with ⟨S', h1, h2, h3⟩ | ⟨S', h1, h2⟩
        · exact .inl ⟨S', h1, h2, by rw [badD_take hj, h.2, h3]; rfl⟩
        · exact .inr ⟨S', h1, h2⟩) _ ⟨J0, by simp [badD]⟩
  rcases hall with ⟨S3, hcall, J1, hgd⟩ | ⟨S3, hcall, hK⟩
  rotate_left
  · have hb8 := hK.g8
    rw [distOut_bad hK.bad] at hp
    simp only [loop33, asg33, body33, rfA, rangesOf, drA, drawsOf, Option.getD_some, List.nil_append, List.append_nil, List.getD_cons_zero, List.getD_cons_succ, List.cons_append, Tryz.f42] at hcall
    simp [evalC_range, vmS, rangeC_fn, n2, hcall, endC_pan, hb8]
    exact hp _ _ rfl
  rw [List.take_length] at hgd
  have hend := fun (L : Vm.Loc) (v : AV) => endC_ok (L := L) (v := v) J1.g9 rfl rfl
  simp only [loop33, asg33, body33, rfA, rangesOf, drA, drawsOf, Option.getD_some, List.nil_append, List.append_nil, List.getD_cons_zero, List.getD_cons_succ, List.cons_append, Tryz.f42] at hcall hend
  simp [evalC_range, vmS, rangeC_fn, n2, hcall, hend]
  generalize hS4 : S3.put 9 _ = S4
  obtain ⟨vs, j5, hfam⟩ := J1.c5
  rw [List.take_length] at hfam
  have hB : B33 D N start vs S4 (List.replicate N (-1)) := by
    subst hS4
    exact ⟨by rw [get_put_ne (by decide)]; exact J1.g8, by rw [cells?_put_ne _ _ _ (by decide)]; exact J1.c1, by rw [cells?_put_ne _ _ _ (by decide)]; exact J1.c2, by rw [cells?_put_ne _ _ _ (by decide)]; exact J1.c3, by rw [cells?_put_ne _ _ _ (by decide)]; exact J1.c4, by rw [cells?_put_ne _ _ _ (by decide)]; exact j5⟩
  have ho : ∀ d, Dist N (startN N start) (keptG N es) d → distOut N start es = some d := fun d hd => distOut_some hgd hd
  have hin := keptG_in N es
  have hesk : (keptG N es).length ≤ 4096 := Nat.le_trans (keptG_len N es) hes
  generalize keptG N es = ke at *
  have hvl := hfam.len
  obtain ⟨T0, hrow, _⟩ := hfam.live
  have hrl : ∀ x, x < N → lenA ED 62 (vs.getD x .undef) = some (.int .i64 (nbrs ke x).length) := fun x hx => nat_len (hrow x hx)
  have hrx : ∀ x, x < N → ∀ k (hk : k < (nbrs ke x).length), indexAddrA ED 62 (vs.getD x .undef) (.int .i64 k) = some (.rptr [.int .i64 ((nbrs ke x)[k] : Nat)]) := fun x hx k hk => nat_index (hrow x hx) hk
  have hrc : ∀ x, x < N → (vs.getD x .undef).isCell = true ∧ (vs.getD x .undef).known = true ∧ (vs.getD x .undef).cells = [vs.getD x .undef] := fun x hx => nat_cell (hrow x hx)
  clear hS4 j5 J1 hrow hfam hcall hend J0 hgd k1 k2 k3 k4 k5 k6 k7 n2
  have hb1 := hB.c1
  have hb2 := hB.c2
  by_cases hsin : inN N start = true
  rotate_left
  · have hb8 := hB.g8
    have hsf : startN N start = N := by unfold startN; rw [if_neg hsin]
    have hres := ho (List.replicate N (-1)) (by rw [hsf]; exact Dist.none hin)
    rw [hres] at hp
    by_cases h0 : start < 0
    · simp [vmS, hb1, hb2, hb8, h0]
      refine hp _ _ (melt_out ?_ (by simp))
      rw [cells?_put_ne _ _ _ (by decide)]
      exact hB.c3
    · have hn1 : (N : Int) ≤ start := by
        rcases Int.lt_or_le start N with q | q
        · exact absurd (inN_t.2 ⟨by omega, q⟩) hsin
        · exact q
      simp [vmS, hb1, hb2, hb8, h0, hn1]
      refine hp _ _ (melt_out ?_ (by simp))
      rw [cells?_put_ne _ _ _ (by decide)]
      exact hB.c3
  obtain ⟨hs0, hsl'⟩ := inN_t.1 hsin
  obtain ⟨start, rfl⟩ := Int.eq_ofNat_of_zero_le hs0
  have hsf : startN N start = start := by unfold startN; rw [if_pos hsin]; simp
  rw [hsf] at ho
  have hsl : start < N := by omega
  have hb3 := hB.c3
  have hsl1 : start + 1 ≤ N := hsl
  have hn0 : ¬ (N : Int) ≤ start := by omega
  have hn1 : ¬ (start : Int) < 0 := by omega
  simp [vmS, hb1, hb2, hb3, hn0, hn1, hsl, hsl1, index22 hsl]
  rw [ints_set]
  have hbfs := Bfs.start hin hsl
  have hfr : fresh ((List.replicate N (-1)).set start 0) + 1 = N := by
    have := fresh_set (d := List.replicate N (-1)) (i := start) (z := 0) (by simpa using hsl) (by simp [List.getD_eq_getElem?_getD, hsl]) (by omega)
    rw [fresh_rep] at this
    exact this
  have hbd : ∀ i, i < N → ((List.replicate N (-1 : Int)).set start 0).getD i 0 + fresh ((List.replicate N (-1)).set start 0) ≤ (N : Int) := by
    intro i hi
    rw [getD_set (by simpa using hsl)]
    split
    · omega
    · have : (List.replicate N (-1 : Int)).getD i 0 = -1 := by simp [List.getD_eq_getElem?_getD, hi]
      omega
  have hB5 := hB.set ((List.replicate N (-1)).set start 0)
  generalize (List.replicate N (-1)).set start 0 = d0 at *
  generalize S4.put 3 (.cells (ints d0)) = S5 at *
  clear hB hb1 hb2 hb3
  have hb1 := hB5.c1
  simp [vmS, hb1]
  generalize hc : iter _ _ _ _ = c
  obtain ⟨e1, L1, S6, rfl, hq⟩ := loop_of hc
    (fun r L S => ∃ d q v T sc a12 a92 a93 a94, fresh d + q.length = r ∧ L = vlocD [B, .ptr 0 0, .nils, .ptr 1 0, .ptr 2 0, .rsl 3 0 N N, .ptr 4 0, a7, .undef, .undef, v, a12, .int .i64 N, .int .i64 N, .fn 93 [] [.ptr 6 0, .ptr 7 0], .undef, .undef, a92, a93, a94] sc [.coll 8] ∧
      Bfs N start ke d q ∧ LiveT S 1 v (nats q) T ∧ B33 D N start vs S d ∧ (∀ i, i < N → d.getD i 0 + fresh d ≤ (N : Int)) ∧ fresh d + q.length ≤ N)
    (fun e L S => e = .exit 4 ∧ ∃ d v sc a12 a92 a93 a94, L = vlocD [B, .ptr 0 0, .nils, .ptr 1 0, .ptr 2 0, .rsl 3 0 N N, .ptr 4 0, a7, .undef, .undef, v, a12, .int .i64 N, .int .i64 N, .fn 93 [] [.ptr 6 0, .ptr 7 0], .undef, .undef, a92, a93, a94] sc [.coll 8] ∧
      Bfs N start ke d [] ∧ B33 D N start vs S d ∧ (∀ i, i < N → d.getD i 0 + fresh d ≤ (N : Int)))
    N (by omega)
    ⟨d0, [start], _, none, _, _, _, _, _, by simp; omega, rfl, hbfs, .inr rfl, hB5, hbd, by simp; omega⟩
    (by
      rintro r L S ⟨d, q, v, T, sc, a12, a92, a93, a94, hr, rfl, hM, hL, hB, hbd, hrN⟩ p' hq1 hq2
      have hlen := nat_len hL
      have hb3 := hB.c3
      have hb4 := hB.c4
      have hb5 := hB.c5
      cases q with
      | nil =>
        simp [vmS, vlocD, hlen]
        exact hq2 _ _ _ (by simp) ⟨rfl, d, v, _, _, _, _, _, rfl, hM, hB, hbd⟩
      | cons a q =>
        obtain ⟨haN, had⟩ := hM.inq a (by simp)
        have hix0 : indexAddrA ED 62 v (.int .i64 0) = some (.rptr [.int .i64 a]) := nat_index hL (k := 0) (by simp)
        have hvl2 : a + 1 ≤ vs.length := by omega
        have hix := index83 (i := 5) (c := N) haN
        have hget := set_getD (vs := vs) (x := a) (by omega)
        have w0 := hrl a haN
        have w1 := hrx a haN
        obtain ⟨w2, w3, w4⟩ := hrc a haN
        have hM0 : Mid N start ke d a q (nbrs ke a) := Mid.start hM (fun e he ha => mem_nbrs.2 ⟨e, he, ha, rfl⟩) (fun y hy => by
          obtain ⟨e, he, h1, h2⟩ := mem_nbrs.1 hy
          have := hin e he
          exact ⟨by omega, e, he, h1, h2⟩)
        have hnl := nbrs_len ke a
        generalize vs.getD a .undef = vx at hget w0 w1 w2 w3 w4
        generalize hns : nbrs ke a = ns at *
        simp [vmS, runC_nil, runC_cons, pickC_some, wantC_tt, wantC_tf, effC_val, ifC_true, checkC, inPairs, keepC, okC, readsC_load, readV_some, AV.beq_self, wantA_n, wantA_g, wantD_some, d3, vlocD, hlen, hix0, hb4, hb5, hix, hvl2, hget, w0, w2, w3, w4]
        generalize hc2 : iter _ _ _ _ = c2
        obtain ⟨e2, L2, S2, rfl, hq'⟩ := loop_of hc2
          (fun r2 L S => ∃ j d q v T sc a12, j + r2 = ns.length ∧ fresh d + q.length + 1 = r ∧ L = vlocD [B, .ptr 0 0, .nils, .ptr 1 0, .ptr 2 0, .rsl 3 0 N N, .ptr 4 0, a7, .undef, .undef, v, a12, .int .i64 N, .int .i64 N, .fn 93 [] [.ptr 6 0, .ptr 7 0], .undef, .undef, vx, .int .i64 ns.length, .int .i64 (j : Nat)] sc [.coll 8] ∧
            Mid N start ke d a q (ns.drop j) ∧ LiveT S 1 v (nats (a :: q)) T ∧ B33 D N start vs S d ∧ (∀ i, i < N → d.getD i 0 + fresh d ≤ (N : Int)))
          (fun e L S => e = .exit 6 ∧ ∃ d q v T sc a12 a94, fresh d + q.length + 1 = r ∧ L = vlocD [B, .ptr 0 0, .nils, .ptr 1 0, .ptr 2 0, .rsl 3 0 N N, .ptr 4 0, a7, .undef, .undef, v, a12, .int .i64 N, .int .i64 N, .fn 93 [] [.ptr 6 0, .ptr 7 0], .undef, .undef, vx, .int .i64 ns.length, a94] sc [.coll 8] ∧
            Mid N start ke d a q [] ∧ LiveT S 1 v (nats (a :: q)) T ∧ B33 D N start vs S d ∧ (∀ i, i < N → d.getD i 0 + fresh d ≤ (N : Int)))
          ns.length (by omega)
          ⟨0, d, q, v, T, _, _, by simp, by simp at hr; omega, rfl, by simpa using hM0, hL, hB, hbd⟩
          (by
            clear hM hM0 hL hB hbd hb3 hb4 hb5 hix0 hlen had hget
            rintro r2 L S ⟨j, d, q, v, T, sc, a12, hjk, hr, rfl, hM, hL, hB, hbd⟩ p'' hq1' hq2'
            have hb3 := hB.c3
            by_cases hj : j < ns.length
            · have hwj : IntKind.i64.wrap ((j : Int) + 1) = ((j : Int) + 1) := wrap_id (by omega) (by omega)
              have hdrop : ns.drop j = ns[j] :: ns.drop (j + 1) := by rw [List.drop_eq_getElem_cons hj]
              rw [hdrop] at hM
              have hix := w1 j hj
              generalize ns[j] = y at hM hix
              obtain ⟨hyN, hye⟩ := hM.real y (by simp)
              obtain ⟨haN', had⟩ := hM.inq a (by simp)
              have hdl := hM.len
              have hy1 : y + 1 ≤ d.length := by omega
              have ha1 : a + 1 ≤ d.length := by omega
              have hgy : (ints d)[y]? = some (.int .i64 (d.getD y 0)) := ints_get (by simp [List.getD_eq_getElem?_getD, show y < d.length by omega])
              have hga : (ints d)[a]? = some (.int .i64 (d.getD a 0)) := ints_get (by simp [List.getD_eq_getElem?_getD, show a < d.length by omega])
              by_cases hneg : d.getD y 0 < 0
              · have hMn := hM.new hin hneg
                have hfn := fresh_set (d := d) (i := y) (z := d.getD a 0 + 1) (by omega) hneg (by omega)
                have hba := hbd a haN
                have hix0 : indexAddrA ED 62 v (.int .i64 0) = some (.rptr [.int .i64 a]) := nat_index hL (k := 0) (by simp)
                have hBn := hB.set (d.set y (d.getD a 0 + 1))
                have hLn : LiveT (S.put 3 (.cells (ints (d.set y (d.getD a 0 + 1))))) 1 v (nats (a :: q)) T := hL.put hb3
                have hwa : IntKind.i64.wrap (d.getD a 0 + 1) = d.getD a 0 + 1 := wrap_id (by omega) (by omega)
                have hbn : ∀ i, i < N → (d.set y (d.getD a 0 + 1)).getD i 0 + fresh (d.set y (d.getD a 0 + 1)) ≤ (N : Int) := by
                  intro i hi
                  rw [getD_set (by omega)]
                  split
                  · omega
                  · have := hbd i hi; omega
                have hst := ints_set d y (d.getD a 0 + 1)
                generalize hd1 : d.set y (d.getD a 0 + 1) = d1 at *
                generalize d.getD a 0 = da at *
                generalize d.getD y 0 = dy at *
                have hql : (a :: q).length ≤ 10000 := by simp; omega
                obtain ⟨v', S', c1, c2, c3, c4⟩ := append_nat y hLn hql
                obtain ⟨w5, w6, w7⟩ := nat_cell c2
                simp [vmS, vlocD, hj, hix, hb3, hgy, hga, hy1, ha1, hneg, hix0, hwa, hst, index22 hyN, index22 haN, c1, hwj, w5, w6, w7]
                refine hq1' (r2 - 1) _ _ (by omega) ⟨j + 1, d1, q ++ [y], v', some S.n, _, _, by omega, by simp; omega, rfl, hMn, ?_, hBn.keep c4 (liveT_getne hLn hBn.g8 (by simp)), hbn⟩
                simpa [n_put'] using c2
              · have hMo := hM.old (by omega)
                generalize d.getD y 0 = dy at *
                simp [vmS, vlocD, hj, hix, hb3, hgy, hy1, hneg, index22 hyN, hwj]
                exact hq1' (r2 - 1) _ _ (by omega) ⟨j + 1, d, q, v, T, _, _, by omega, hr, rfl, hMo, hL, hB, hbd⟩
            · have hjl : j = ns.length := by omega
              subst hjl
              simp [vmS, vlocD]
              exact hq2' _ _ _ (by simp) ⟨rfl, d, q, v, T, _, _, _, hr, rfl, by simpa using hM, hL, hB, hbd⟩)
        obtain ⟨rfl, d', q', v', T', sc', a12', a94', hr', rfl, hM', hL', hB', hbd'⟩ := hq'
        obtain ⟨v2, hs2, hl2⟩ := live_tail hL'
        simp [vmS, vlocD, hs2]
        exact hq1 (r - 1) _ _ (by omega) ⟨d', q', v2, T', _, _, _, _, _, by omega, rfl, hM'.stop, hl2, hB', hbd', by omega⟩)
  obtain ⟨rfl, d, v, sc, a12, a92, a93, a94, rfl, hM, hB, hbd⟩ := hq
  have hb8 := hB.g8
  simp [vmS, vlocD, hb8]
  rw [ho d (hM.dist fun i hi => by have := hbd i hi; omega)] at hp
  refine hp _ _ (melt_out ?_ hM.len)
  rw [cells?_put_ne _ _ _ (by decide)]
  exact hB.c3
theorem dist_use {cs : List Con} (h : sumOf cs 42 = distC.look) {n : Nat} {v : RV} {S : St} (hv : distDom v) : callS ED (sumOf cs) n (.fn 42) [v.enc] S = some (graphR (gN v) slcI (distOut (gN v).toNat (dStart v) (dE v)), S) := rv_use h hv

end Go.Proofs.YtpjcmiaanjcanaaGreatDoor
