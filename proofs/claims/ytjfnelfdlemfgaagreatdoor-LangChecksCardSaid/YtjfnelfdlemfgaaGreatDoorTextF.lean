/-
What LangChecks returns. No conditions.
-/
import Derived.Test.YtjfnelfdlemfgaaGreatDoorTextE
import Derived.Test.YtjfnelfdlemfgaaGreatDoorSaidD
set_option linter.all false
set_option maxHeartbeats 4000000
namespace Go.Vm.L
open Go Go.Proofs Go.Vm
set_option maxRecDepth 100000
attribute [local simp] inFrame startLoc startVals Loc.clear blockC Loc.putO Loc.put idx evO constV Loc.get Vm.look intA unwindA resultsA resultV actA pureA storeA loadA fillE repElems TI.zeroV fieldOf fieldAddrA fieldA elemsA retE cellsOf? setCells nowhere mapHead headNext
mutual
theorem Ex.gr_size : ∀ (e : Ex) (n d m : Nat), e.gr n d = (false, m) → m = n + e.size
 | .leaf _ _ _ _, n, d, m, h => by
  simp only [Ex.gr] at h
  split at h
  ·cases h
  ·cases h
   simp only [Ex.size]
 | .node _ _ _ x l, n, d, m, h => by
  simp only [Ex.gr] at h
  split at h
  ·cases h
  ·split at h
   ·cases h
   ·rename_i m' hm
    have h1 := Ex.gr_size x _ _ _ hm
    have h2 := Ex.grs_size l _ _ _ h
    simp only [Ex.size]
    omega
theorem Ex.grs_size : ∀ (l : List Ex) (n d m : Nat), Ex.grs l n d = (false, m) → m = n + Ex.sizes l
 | [], n, d, m, h => by
  simp only [Ex.grs] at h
  cases h
  simp only [Ex.sizes]
  omega
 | x :: l, n, d, m, h => by
  simp only [Ex.grs] at h
  split at h
  ·cases h
  ·rename_i m' hm
   have h1 := Ex.gr_size x _ _ _ hm
   have h2 := Ex.grs_size l _ _ _ h
   simp only [Ex.sizes]
   omega
end
theorem greatF_size : ∀ (fs : List Fu) (n : Nat), n ≤ 3000 → greatF fs n = false → ∀ f ∈ fs, f.body.size ≤ 3000
 | f :: r, n, hn, h, g, hg => by
  simp only [greatF] at h
  split at h
  ·cases h
  ·rename_i m hm
   have h1 := Ex.gr_size f.body n 0 m hm
   have h2 := (Ex.gr_le f.body n 0 hn).2 (by rw [hm])
   rw [hm] at h2
   have h2' : m ≤ 3000 := h2
   rw [Bool.or_eq_false_iff] at h
   rcases List.mem_cons.1 hg with rfl | hg
   ·omega
   ·exact greatF_size r m h2' h.2 g hg
 | [], _, _, _, g, hg => by cases hg
theorem great_size {fs : List Fu} (h : greatB fs = false) : ∀ f ∈ fs, f.body.size ≤ 100000 := fun f hf => by
 unfold greatB at h
 rw [Bool.or_eq_false_iff] at h
 have := greatF_size fs 0 (by omega) h.1 f hf
 omega
noncomputable def LT14 : Sm := [(13, greatG), (14, aliveG), (15, nodesG), (16, nodesRG), (17, writeG), (18, writeRG), (19, checkG), (20, checkRG), (21, coreG), (22, coreRG), (23, nodalG)]
theorem LT14_ok : ∀ x ∈ LT14, FOk x.1 x.2 := by
 intro x hx
 simp only [LT14, List.mem_cons, List.mem_nil_iff, or_false] at hx
 rcases hx with rfl | rfl | rfl | rfl | rfl | rfl | rfl | rfl | rfl | rfl | rfl
 ·exact great_ok
 ·exact alive_ok
 ·exact nodes_ok
 ·exact nodesR_ok
 ·exact writeG_ok
 ·exact writeR_ok
 ·exact check_ok
 ·exact checkR_ok
 ·exact core_ok
 ·exact coreR_ok
 ·exact nodal_ok
section
variable {P : Pr}
theorem both_nodes (hf : P.fit) (hs : ∀ f ∈ P.funs, f.body.size ≤ 100000) : ∃ (NV : AV) (z : Int), (NV.isCell = true ∧ NV.known = true ∧ NV.cells = [NV]) ∧
  (∀ m S, callS ED (sumG LT14) m (.fn 15) [.agg [P.val, .int .i64 P.main]] S = some (.ret (.tup [NV, .int .i64 z]), S)) ∧
  (∀ m S, callS ED (sumG LT14) m (.fn 16) [.agg [P.val, .int .i64 P.main]] S = some (.ret (.tup [NV, .int .i64 z]), S)) ∧
  (∀ m S, callS ED (sumG LT14) m (.fn 23) [NV, NV] S = some (.ret (.bool true), S)) := by
 obtain ⟨q, h1, h2, h3, h4⟩ := prOf_enc hf
 have g15 : ∀ r, nodesG [P.enc] = some r → ∀ m S, callS ED (sumG LT14) m (.fn 15) [.agg [P.val, .int .i64 P.main]] S = some (r, S) := fun r hr m S =>
  callS_sum (by rw [pdead2]; exact hr)
 have g16 : ∀ r, nodesG [P.enc] = some r → ∀ m S, callS ED (sumG LT14) m (.fn 16) [.agg [P.val, .int .i64 P.main]] S = some (r, S) := fun r hr m S =>
  callS_sum (by
   rw [pdead2]
   show nodesRG [P.enc] = some r
   simp only [nodesRG, h1]
   rw [if_pos (by rw [h2]; exact hs)]
   exact hr)
 have hn : nodesG [P.enc] = some (.ret (if formedB P.funs P.main = true then .tup [.slice (((allPre P.funs 0 0).map (·.1)).map ndv) .dead, .int .i64 0] else .tup [.nils, .int .i64 1])) := by
  simp only [nodesG, h1, h2, h3]
 cases hF : formedB P.funs P.main with
 | true =>
  rw [hF, if_pos rfl] at hn
  have hsz := (formedB_size hF).1
  have hpl := allPre_length P.funs 0 0
  refine ⟨_, _, ⟨rfl, rfl, rfl⟩, g15 _ hn, g16 _ hn, fun m S => callS_sum ?_⟩
  have hdl : (AV.slice (((allPre P.funs 0 0).map (·.1)).map ndv) .dead).dead = .slice (((allPre P.funs 0 0).map (·.1)).map ndv) .dead := by
   simp only [AV.dead, deadL_pers _ (ndv_pers _)]
  rw [List.map_cons, List.map_cons, List.map_nil, hdl]
  rw [show sumG LT14 23 = nodalG from rfl]
  simp only [nodalG]
  rw [if_pos ⟨rfl, _, rfl, by rw [List.length_map, hpl]; omega⟩]
 | false =>
  rw [hF, if_neg (by simp)] at hn
  exact ⟨_, _, ⟨rfl, rfl, rfl⟩, g15 _ hn, g16 _ hn, fun m S => callS_sum rfl⟩
theorem both_writes (hf : P.fit) (hs : ∀ f ∈ P.funs, f.body.size ≤ 100000) : ∃ (X : List UInt8) (z : Int),
  (∀ m S, callS ED (sumG LT14) m (.fn 17) [.agg [P.val, .int .i64 P.main]] S = some (.ret (.tup [.str X, .int .i64 z]), S)) ∧
  (∀ m S, callS ED (sumG LT14) m (.fn 18) [.agg [P.val, .int .i64 P.main]] S = some (.ret (.tup [.str X, .int .i64 z]), S)) := by
 obtain ⟨q, h1, h2, h3, h4⟩ := prOf_enc hf
 have hw := (prOf_eq (P := P) (Q := q) h2 h3).1
 have hx : ∃ X z, P.write = .tup [.str X, .int .i64 z] := by
  unfold Pr.write
  split
  ·split
   ·exact ⟨_, _, rfl⟩
   ·exact ⟨_, _, rfl⟩
  ·exact ⟨_, _, rfl⟩
 obtain ⟨X, z, hX⟩ := hx
 refine ⟨X, z, fun m S => callS_sum ?_, fun m S => callS_sum ?_⟩
 ·rw [pdead2]
  show writeG [P.enc] = _
  simp only [writeG, h1, hw, hX]
 ·rw [pdead2]
  show writeRG [P.enc] = _
  simp only [writeRG, h1, hw, hX]
  rw [if_pos (by rw [h2]; exact hs)]
theorem both_checks (hf : P.fit) (hs : ∀ f ∈ P.funs, f.body.size ≤ 100000) : ∃ (z : Int),
  (∀ m S, callS ED (sumG LT14) m (.fn 19) [.agg [P.val, .int .i64 P.main]] S = some (.ret (.int .i64 z), S)) ∧
  (∀ m S, callS ED (sumG LT14) m (.fn 20) [.agg [P.val, .int .i64 P.main]] S = some (.ret (.int .i64 z), S)) := by
 obtain ⟨q, h1, h2, h3, h4⟩ := prOf_enc hf
 refine ⟨_, fun m S => check_use (l := LT14) rfl hf (n := m) (S := S), fun m S => callS_sum ?_⟩
 rw [pdead2]
 show checkRG [P.enc] = _
 simp only [checkRG, h1]
 rw [if_pos (by rw [h2]; exact hs), h2, h3]
theorem both_cores (hf : P.fit) (hs : ∀ f ∈ P.funs, f.body.size ≤ 100000) : ∃ (z : Int),
  (∀ m S, callS ED (sumG LT14) m (.fn 21) [.agg [P.val, .int .i64 P.main]] S = some (.ret (.int .i64 z), S)) ∧
  (∀ m S, callS ED (sumG LT14) m (.fn 22) [.agg [P.val, .int .i64 P.main]] S = some (.ret (.int .i64 z), S)) := by
 obtain ⟨q, h1, h2, h3, h4⟩ := prOf_enc hf
 obtain ⟨z, hz⟩ : ∃ z, coreG [P.enc] = some (.ret (.int .i64 z)) := by
  have h : coreG [P.enc] = some (.ret (.int .i64 (if formedB q.funs q.main = true ∧ (allPre q.funs 0 0).all (fun y => decide (y.1.op ≠ 4 ∧ y.1.op ≠ 5 ∧ y.1.op ≠ 6)) = true then 0 else 1))) := by
   simp only [coreG, h1]
  exact ⟨_, h⟩
 refine ⟨z, fun m S => callS_sum (by rw [pdead2]; exact hz), fun m S => callS_sum ?_⟩
 rw [pdead2]
 show coreRG [P.enc] = _
 simp only [coreRG, h1]
 rw [if_pos (by rw [h2]; exact hs)]
 exact hz
end
noncomputable def lchecksG : List AV → Option FRes
 | [v] => match prOf2 v with
  | some _ => some (.ret (.bool true))
  | none => none
 | _ => none
theorem lchecks_ok : FOk 3 lchecksG := by
 refine fok LT14 LT14_ok ?_
 intro a r h
 unfold lchecksG at h
 split at h
 ·rename_i v
  split at h
  ·rename_i P hP
   obtain ⟨hfit2, rfl⟩ := prOf2_some hP
   cases h
   obtain ⟨q1, q2, q3, q4⟩ := P.val_len
   have au := fun m S => alive_use (l := LT14) rfl (n := m) (S := S)
   have gu := fun m S => great_use (l := LT14) rfl hfit2 (n := m) (S := S)
   refine ⟨by simp [AV.persL, P.pers], rfl, 3, fun p hp => ?_⟩
   rw [callS_go rfl]
   simp only [Pr.enc]
   simp only [fnA, ED_fn3, fi3, Tryz.f3]
   cases hG : greatB P.funs with
   | true =>
    simp only [hG] at gu
    simp [vmS, q1, q2, q3, q4, gu, au]
    exact hp _ _ rfl
   | false =>
    simp only [hG] at gu
    have h60 := greatF_len hG
    have hfit : P.fit := ⟨hfit2.1, by omega⟩
    have hs := great_size hG
    obtain ⟨NV, z1, ⟨m1, m2, m3⟩, n15, n16, n23⟩ := both_nodes hfit hs
    obtain ⟨X, z2, w17, w18⟩ := both_writes hfit hs
    obtain ⟨z3, c19, c20⟩ := both_checks hfit hs
    obtain ⟨z4, k21, k22⟩ := both_cores hfit hs
    have d0 := @dr3_0
    simp only [drA, drawsOf, Option.getD_some, List.nil_append, List.append_nil, List.getD_cons_zero, List.getD_cons_succ, List.cons_append, Tryz.f3] at d0
    have hse : strA .eql X X = some (.bool true) := by simp [strA]
    clear hP hfit hfit2 hs
    simp [vmS, runC_nil, runC_cons, pickC_some, wantC_tt, wantC_tf, effC_val, ifC_true, checkC, inPairs, keepC, okC, readsC_load, readV_some, AV.beq_self, wantA_n, wantA_g, wantD_some, d0, q1, q2, q3, q4, gu, au, n15, n16, n23, w17, w18, c19, c20, k21, k22, m1, m2, m3, bin_str, hse]
    exact hp _ _ rfl
  ·cases h
 ·cases h
end Go.Vm.L
