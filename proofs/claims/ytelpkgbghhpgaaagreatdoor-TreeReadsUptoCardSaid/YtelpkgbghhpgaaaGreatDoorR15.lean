/- TreeReads returns true for all texts whose data are not larger than a bound. The program's functions as plain code. -/
import Derived.Test.YtelpkgbghhpgaaaGreatDoorR14
set_option linter.all false
section
namespace Go.Proofs.YtelpkgbghhpgaaaGreatDoor.Sx
namespace AV
theorem cells_int (k : IntKind) (n : Int) : cells (.int k n) = [(.int k n)] := rfl
theorem cells_bool (b : Bool) : cells (.bool b) = [(.bool b)] := rfl
theorem cells_str (s : List UInt8) : cells (.str s) = [(.str s)] := rfl
theorem cells_ptr (i : Nat) (o : Nat) : cells (.ptr i o) = [(.ptr i o)] := rfl
theorem cells_lptr (l : Nat) (s : Nat) (o : Nat) : cells (.lptr l s o) = [(.lptr l s o)] := rfl
theorem cells_vptr (cs : List AV) : cells (.vptr cs) = [(.vptr cs)] := rfl
theorem cells_nilptr : cells (.nilptr) = [.nilptr] := rfl
theorem cells_slice (sz : Nat) (els : List (List AV)) (o : Own) : cells (.slice sz els o) = [(.slice sz els o)] := rfl
theorem cells_nilslice : cells (.nilslice) = [.nilslice] := rfl
theorem cells_mapr (i : Nat) : cells (.mapr i) = [(.mapr i)] := rfl
theorem cells_nilmap : cells (.nilmap) = [.nilmap] := rfl
theorem cells_agg (cs : List AV) : cells (.agg cs) = cs := rfl
theorem cells_tuple (vs : List AV) : cells (.tuple vs) = [(.tuple vs)] := rfl
theorem cells_iface (t : Nat) (v : AV) : cells (.iface t v) = [(.iface t v)] := rfl
theorem cells_nilIface : cells (.nilIface) = [.nilIface] := rfl
theorem cells_func (f : Fn) (a : List AV) (b : List AV) : cells (.func f a b) = [(.func f a b)] := rfl
theorem cells_nilFunc : cells (.nilFunc) = [.nilFunc] := rfl
theorem cells_junk : cells (.junk) = [.junk] := rfl
theorem strip1_int (k : IntKind) (n : Int) : strip1 (.int k n) = (.int k n) := rfl
theorem strip1_bool (b : Bool) : strip1 (.bool b) = (.bool b) := rfl
theorem strip1_str (s : List UInt8) : strip1 (.str s) = (.str s) := rfl
theorem strip1_ptr (i : Nat) (o : Nat) : strip1 (.ptr i o) = (.ptr i o) := rfl
theorem strip1_lptr (l : Nat) (s : Nat) (o : Nat) : strip1 (.lptr l s o) = (.lptr l s o) := rfl
theorem strip1_vptr (cs : List AV) : strip1 (.vptr cs) = (.vptr cs) := rfl
theorem strip1_nilptr : strip1 (.nilptr) = .nilptr := rfl
theorem strip1_slice (sz : Nat) (els : List (List AV)) (o : Own) : strip1 (.slice sz els o) = .slice sz els .no := rfl
theorem strip1_nilslice : strip1 (.nilslice) = .nilslice := rfl
theorem strip1_mapr (i : Nat) : strip1 (.mapr i) = (.mapr i) := rfl
theorem strip1_nilmap : strip1 (.nilmap) = .nilmap := rfl
theorem strip1_agg (cs : List AV) : strip1 (.agg cs) = (.agg cs) := rfl
theorem strip1_tuple (vs : List AV) : strip1 (.tuple vs) = (.tuple vs) := rfl
theorem strip1_iface (t : Nat) (v : AV) : strip1 (.iface t v) = (.iface t v) := rfl
theorem strip1_nilIface : strip1 (.nilIface) = .nilIface := rfl
theorem strip1_func (f : Fn) (a : List AV) (b : List AV) : strip1 (.func f a b) = (.func f a b) := rfl
theorem strip1_nilFunc : strip1 (.nilFunc) = .nilFunc := rfl
theorem strip1_junk : strip1 (.junk) = .junk := rfl
theorem stripC_int (k : IntKind) (n : Int) : stripC (.int k n) = (.int k n) := rfl
theorem stripC_bool (b : Bool) : stripC (.bool b) = (.bool b) := rfl
theorem stripC_str (s : List UInt8) : stripC (.str s) = (.str s) := rfl
theorem stripC_ptr (i : Nat) (o : Nat) : stripC (.ptr i o) = (.ptr i o) := rfl
theorem stripC_lptr (l : Nat) (s : Nat) (o : Nat) : stripC (.lptr l s o) = (.lptr l s o) := rfl
theorem stripC_vptr (cs : List AV) : stripC (.vptr cs) = (.vptr cs) := rfl
theorem stripC_nilptr : stripC (.nilptr) = .nilptr := rfl
theorem stripC_slice_no (sz : Nat) (els : List (List AV)) : stripC (.slice sz els .no) = .slice sz els .no := rfl
theorem stripC_slice_tight (sz : Nat) (els : List (List AV)) : stripC (.slice sz els .tight) = .slice sz els .tight := rfl
theorem stripC_slice_ftok (sz : Nat) (els : List (List AV)) (n : Nat) : stripC (.slice sz els (.ftok n)) = .slice sz els .no := rfl
theorem stripC_slice_cell (sz : Nat) (els : List (List AV)) (n : Nat) (i : Nat) : stripC (.slice sz els (.cell i n)) = .slice sz els .no := rfl
theorem stripC_nilslice : stripC (.nilslice) = .nilslice := rfl
theorem stripC_mapr (i : Nat) : stripC (.mapr i) = (.mapr i) := rfl
theorem stripC_nilmap : stripC (.nilmap) = .nilmap := rfl
theorem stripC_agg (cs : List AV) : stripC (.agg cs) = (.agg cs) := rfl
theorem stripC_tuple (vs : List AV) : stripC (.tuple vs) = (.tuple vs) := rfl
theorem stripC_iface (t : Nat) (v : AV) : stripC (.iface t v) = (.iface t v) := rfl
theorem stripC_nilIface : stripC (.nilIface) = .nilIface := rfl
theorem stripC_func (f : Fn) (a : List AV) (b : List AV) : stripC (.func f a b) = (.func f a b) := rfl
theorem stripC_nilFunc : stripC (.nilFunc) = .nilFunc := rfl
theorem stripC_junk : stripC (.junk) = .junk := rfl
theorem okC_int (k : IntKind) (n : Int) : okC (.int k n) = true := rfl
theorem okC_bool (b : Bool) : okC (.bool b) = true := rfl
theorem okC_str (s : List UInt8) : okC (.str s) = true := rfl
theorem okC_ptr (i : Nat) (o : Nat) : okC (.ptr i o) = true := rfl
theorem okC_lptr (l : Nat) (s : Nat) (o : Nat) : okC (.lptr l s o) = false := rfl
theorem okC_vptr (cs : List AV) : okC (.vptr cs) = false := rfl
theorem okC_nilptr : okC (.nilptr) = true := rfl
theorem okC_slice_no (sz : Nat) (els : List (List AV)) : okC (.slice sz els .no) = true := rfl
theorem okC_slice_tight (sz : Nat) (els : List (List AV)) : okC (.slice sz els .tight) = true := rfl
theorem okC_slice_ftok (sz : Nat) (els : List (List AV)) (n : Nat) : okC (.slice sz els (.ftok n)) = false := rfl
theorem okC_slice_cell (sz : Nat) (els : List (List AV)) (n : Nat) (i : Nat) : okC (.slice sz els (.cell i n)) = false := rfl
theorem okC_nilslice : okC (.nilslice) = true := rfl
theorem okC_mapr (i : Nat) : okC (.mapr i) = true := rfl
theorem okC_nilmap : okC (.nilmap) = true := rfl
theorem okC_agg (cs : List AV) : okC (.agg cs) = false := rfl
theorem okC_tuple (vs : List AV) : okC (.tuple vs) = false := rfl
theorem okC_iface (t : Nat) (v : AV) : okC (.iface t v) = v.plain := rfl
theorem okC_nilIface : okC (.nilIface) = true := rfl
theorem okC_func (f : Fn) (a : List AV) (b : List AV) : okC (.func f a b) = (a.all out0 && b.all out0) := rfl
theorem okC_nilFunc : okC (.nilFunc) = true := rfl
theorem okC_junk : okC (.junk) = false := rfl
theorem strip2_int (k : IntKind) (n : Int) : strip2 (.int k n) = (.int k n) := rfl
theorem strip2_bool (b : Bool) : strip2 (.bool b) = (.bool b) := rfl
theorem strip2_str (s : List UInt8) : strip2 (.str s) = (.str s) := rfl
theorem strip2_ptr (i : Nat) (o : Nat) : strip2 (.ptr i o) = (.ptr i o) := rfl
theorem strip2_lptr (l : Nat) (s : Nat) (o : Nat) : strip2 (.lptr l s o) = (.lptr l s o) := rfl
theorem strip2_vptr (cs : List AV) : strip2 (.vptr cs) = (.vptr cs) := rfl
theorem strip2_nilptr : strip2 (.nilptr) = .nilptr := rfl
theorem strip2_slice (sz : Nat) (els : List (List AV)) (o : Own) : strip2 (.slice sz els o) = .slice sz els .no := rfl
theorem strip2_nilslice : strip2 (.nilslice) = .nilslice := rfl
theorem strip2_mapr (i : Nat) : strip2 (.mapr i) = (.mapr i) := rfl
theorem strip2_nilmap : strip2 (.nilmap) = .nilmap := rfl
theorem strip2_agg (cs : List AV) : strip2 (.agg cs) = .agg (cs.map strip1) := rfl
theorem strip2_tuple (vs : List AV) : strip2 (.tuple vs) = (.tuple vs) := rfl
theorem strip2_iface (t : Nat) (v : AV) : strip2 (.iface t v) = (.iface t v) := rfl
theorem strip2_nilIface : strip2 (.nilIface) = .nilIface := rfl
theorem strip2_func (f : Fn) (a : List AV) (b : List AV) : strip2 (.func f a b) = (.func f a b) := rfl
theorem strip2_nilFunc : strip2 (.nilFunc) = .nilFunc := rfl
theorem strip2_junk : strip2 (.junk) = .junk := rfl
theorem strip_int (k : IntKind) (n : Int) : strip (.int k n) = (.int k n) := rfl
theorem strip_bool (b : Bool) : strip (.bool b) = (.bool b) := rfl
theorem strip_str (s : List UInt8) : strip (.str s) = (.str s) := rfl
theorem strip_ptr (i : Nat) (o : Nat) : strip (.ptr i o) = (.ptr i o) := rfl
theorem strip_lptr (l : Nat) (s : Nat) (o : Nat) : strip (.lptr l s o) = (.lptr l s o) := rfl
theorem strip_vptr (cs : List AV) : strip (.vptr cs) = (.vptr cs) := rfl
theorem strip_nilptr : strip (.nilptr) = .nilptr := rfl
theorem strip_slice (sz : Nat) (els : List (List AV)) (o : Own) : strip (.slice sz els o) = .slice sz els .no := rfl
theorem strip_nilslice : strip (.nilslice) = .nilslice := rfl
theorem strip_mapr (i : Nat) : strip (.mapr i) = (.mapr i) := rfl
theorem strip_nilmap : strip (.nilmap) = .nilmap := rfl
theorem strip_agg (cs : List AV) : strip (.agg cs) = .agg (cs.map strip1) := rfl
theorem strip_tuple (vs : List AV) : strip (.tuple vs) = .tuple (vs.map strip2) := rfl
theorem strip_iface (t : Nat) (v : AV) : strip (.iface t v) = (.iface t v) := rfl
theorem strip_nilIface : strip (.nilIface) = .nilIface := rfl
theorem strip_func (f : Fn) (a : List AV) (b : List AV) : strip (.func f a b) = (.func f a b) := rfl
theorem strip_nilFunc : strip (.nilFunc) = .nilFunc := rfl
theorem strip_junk : strip (.junk) = .junk := rfl
theorem plain1_int (k : IntKind) (n : Int) : plain1 (.int k n) = true := rfl
theorem plain1_bool (b : Bool) : plain1 (.bool b) = true := rfl
theorem plain1_str (s : List UInt8) : plain1 (.str s) = true := rfl
theorem plain1_ptr (i : Nat) (o : Nat) : plain1 (.ptr i o) = false := rfl
theorem plain1_lptr (l : Nat) (s : Nat) (o : Nat) : plain1 (.lptr l s o) = false := rfl
theorem plain1_vptr (cs : List AV) : plain1 (.vptr cs) = false := rfl
theorem plain1_nilptr : plain1 (.nilptr) = true := rfl
theorem plain1_slice_no (sz : Nat) (els : List (List AV)) : plain1 (.slice sz els .no) = true := rfl
theorem plain1_slice_tight (sz : Nat) (els : List (List AV)) : plain1 (.slice sz els .tight) = false := rfl
theorem plain1_slice_ftok (sz : Nat) (els : List (List AV)) (n : Nat) : plain1 (.slice sz els (.ftok n)) = false := rfl
theorem plain1_slice_cell (sz : Nat) (els : List (List AV)) (n : Nat) (i : Nat) : plain1 (.slice sz els (.cell i n)) = false := rfl
theorem plain1_nilslice : plain1 (.nilslice) = true := rfl
theorem plain1_mapr (i : Nat) : plain1 (.mapr i) = false := rfl
theorem plain1_nilmap : plain1 (.nilmap) = true := rfl
theorem plain1_agg (cs : List AV) : plain1 (.agg cs) = false := rfl
theorem plain1_tuple (vs : List AV) : plain1 (.tuple vs) = false := rfl
theorem plain1_iface (t : Nat) (v : AV) : plain1 (.iface t v) = false := rfl
theorem plain1_nilIface : plain1 (.nilIface) = true := rfl
theorem plain1_func (f : Fn) (a : List AV) (b : List AV) : plain1 (.func f a b) = false := rfl
theorem plain1_nilFunc : plain1 (.nilFunc) = true := rfl
theorem plain1_junk : plain1 (.junk) = false := rfl
theorem plain_int (k : IntKind) (n : Int) : plain (.int k n) = true := rfl
theorem plain_bool (b : Bool) : plain (.bool b) = true := rfl
theorem plain_str (s : List UInt8) : plain (.str s) = true := rfl
theorem plain_ptr (i : Nat) (o : Nat) : plain (.ptr i o) = false := rfl
theorem plain_lptr (l : Nat) (s : Nat) (o : Nat) : plain (.lptr l s o) = false := rfl
theorem plain_vptr (cs : List AV) : plain (.vptr cs) = false := rfl
theorem plain_nilptr : plain (.nilptr) = true := rfl
theorem plain_slice_no (sz : Nat) (els : List (List AV)) : plain (.slice sz els .no) = true := rfl
theorem plain_slice_tight (sz : Nat) (els : List (List AV)) : plain (.slice sz els .tight) = false := rfl
theorem plain_slice_ftok (sz : Nat) (els : List (List AV)) (n : Nat) : plain (.slice sz els (.ftok n)) = false := rfl
theorem plain_slice_cell (sz : Nat) (els : List (List AV)) (n : Nat) (i : Nat) : plain (.slice sz els (.cell i n)) = false := rfl
theorem plain_nilslice : plain (.nilslice) = true := rfl
theorem plain_mapr (i : Nat) : plain (.mapr i) = false := rfl
theorem plain_nilmap : plain (.nilmap) = true := rfl
theorem plain_agg (cs : List AV) : plain (.agg cs) = cs.all plain1 := rfl
theorem plain_tuple (vs : List AV) : plain (.tuple vs) = false := rfl
theorem plain_iface (t : Nat) (v : AV) : plain (.iface t v) = false := rfl
theorem plain_nilIface : plain (.nilIface) = true := rfl
theorem plain_func (f : Fn) (a : List AV) (b : List AV) : plain (.func f a b) = false := rfl
theorem plain_nilFunc : plain (.nilFunc) = true := rfl
theorem plain_junk : plain (.junk) = false := rfl
theorem out0_int (k : IntKind) (n : Int) : out0 (.int k n) = true := rfl
theorem out0_bool (b : Bool) : out0 (.bool b) = true := rfl
theorem out0_str (s : List UInt8) : out0 (.str s) = true := rfl
theorem out0_ptr (i : Nat) (o : Nat) : out0 (.ptr i o) = true := rfl
theorem out0_lptr (l : Nat) (s : Nat) (o : Nat) : out0 (.lptr l s o) = false := rfl
theorem out0_vptr (cs : List AV) : out0 (.vptr cs) = false := rfl
theorem out0_nilptr : out0 (.nilptr) = true := rfl
theorem out0_slice_no (sz : Nat) (els : List (List AV)) : out0 (.slice sz els .no) = true := rfl
theorem out0_slice_tight (sz : Nat) (els : List (List AV)) : out0 (.slice sz els .tight) = false := rfl
theorem out0_slice_ftok (sz : Nat) (els : List (List AV)) (n : Nat) : out0 (.slice sz els (.ftok n)) = false := rfl
theorem out0_slice_cell (sz : Nat) (els : List (List AV)) (n : Nat) (i : Nat) : out0 (.slice sz els (.cell i n)) = false := rfl
theorem out0_nilslice : out0 (.nilslice) = true := rfl
theorem out0_mapr (i : Nat) : out0 (.mapr i) = true := rfl
theorem out0_nilmap : out0 (.nilmap) = true := rfl
theorem out0_agg (cs : List AV) : out0 (.agg cs) = false := rfl
theorem out0_tuple (vs : List AV) : out0 (.tuple vs) = false := rfl
theorem out0_iface (t : Nat) (v : AV) : out0 (.iface t v) = v.plain := rfl
theorem out0_nilIface : out0 (.nilIface) = true := rfl
theorem out0_func (f : Fn) (a : List AV) (b : List AV) : out0 (.func f a b) = false := rfl
theorem out0_nilFunc : out0 (.nilFunc) = true := rfl
theorem out0_junk : out0 (.junk) = false := rfl
theorem out1_int (k : IntKind) (n : Int) : out1 (.int k n) = true := rfl
theorem out1_bool (b : Bool) : out1 (.bool b) = true := rfl
theorem out1_str (s : List UInt8) : out1 (.str s) = true := rfl
theorem out1_ptr (i : Nat) (o : Nat) : out1 (.ptr i o) = true := rfl
theorem out1_lptr (l : Nat) (s : Nat) (o : Nat) : out1 (.lptr l s o) = false := rfl
theorem out1_vptr (cs : List AV) : out1 (.vptr cs) = false := rfl
theorem out1_nilptr : out1 (.nilptr) = true := rfl
theorem out1_slice_no (sz : Nat) (els : List (List AV)) : out1 (.slice sz els .no) = true := rfl
theorem out1_slice_tight (sz : Nat) (els : List (List AV)) : out1 (.slice sz els .tight) = false := rfl
theorem out1_slice_ftok (sz : Nat) (els : List (List AV)) (n : Nat) : out1 (.slice sz els (.ftok n)) = false := rfl
theorem out1_slice_cell (sz : Nat) (els : List (List AV)) (n : Nat) (i : Nat) : out1 (.slice sz els (.cell i n)) = false := rfl
theorem out1_nilslice : out1 (.nilslice) = true := rfl
theorem out1_mapr (i : Nat) : out1 (.mapr i) = true := rfl
theorem out1_nilmap : out1 (.nilmap) = true := rfl
theorem out1_agg (cs : List AV) : out1 (.agg cs) = false := rfl
theorem out1_tuple (vs : List AV) : out1 (.tuple vs) = false := rfl
theorem out1_iface (t : Nat) (v : AV) : out1 (.iface t v) = v.plain := rfl
theorem out1_nilIface : out1 (.nilIface) = true := rfl
theorem out1_func (f : Fn) (a : List AV) (b : List AV) : out1 (.func f a b) = (a.all out0 && b.all out0) := rfl
theorem out1_nilFunc : out1 (.nilFunc) = true := rfl
theorem out1_junk : out1 (.junk) = false := rfl
theorem okIn_int (k : IntKind) (n : Int) : okIn (.int k n) = true := rfl
theorem okIn_bool (b : Bool) : okIn (.bool b) = true := rfl
theorem okIn_str (s : List UInt8) : okIn (.str s) = true := rfl
theorem okIn_ptr (i : Nat) (o : Nat) : okIn (.ptr i o) = true := rfl
theorem okIn_lptr (l : Nat) (s : Nat) (o : Nat) : okIn (.lptr l s o) = false := rfl
theorem okIn_vptr (cs : List AV) : okIn (.vptr cs) = false := rfl
theorem okIn_nilptr : okIn (.nilptr) = true := rfl
theorem okIn_slice (sz : Nat) (els : List (List AV)) (o : Own) : okIn (.slice sz els o) = true := rfl
theorem okIn_nilslice : okIn (.nilslice) = true := rfl
theorem okIn_mapr (i : Nat) : okIn (.mapr i) = true := rfl
theorem okIn_nilmap : okIn (.nilmap) = true := rfl
theorem okIn_agg (cs : List AV) : okIn (.agg cs) = false := rfl
theorem okIn_tuple (vs : List AV) : okIn (.tuple vs) = false := rfl
theorem okIn_iface (t : Nat) (v : AV) : okIn (.iface t v) = v.plain := rfl
theorem okIn_nilIface : okIn (.nilIface) = true := rfl
theorem okIn_func (f : Fn) (a : List AV) (b : List AV) : okIn (.func f a b) = (a.all out0 && b.all out0) := rfl
theorem okIn_nilFunc : okIn (.nilFunc) = true := rfl
theorem okIn_junk : okIn (.junk) = false := rfl
theorem out2_int (k : IntKind) (n : Int) : out2 (.int k n) = true := rfl
theorem out2_bool (b : Bool) : out2 (.bool b) = true := rfl
theorem out2_str (s : List UInt8) : out2 (.str s) = true := rfl
theorem out2_ptr (i : Nat) (o : Nat) : out2 (.ptr i o) = true := rfl
theorem out2_lptr (l : Nat) (s : Nat) (o : Nat) : out2 (.lptr l s o) = false := rfl
theorem out2_vptr (cs : List AV) : out2 (.vptr cs) = true := rfl
theorem out2_nilptr : out2 (.nilptr) = true := rfl
theorem out2_slice_no (sz : Nat) (els : List (List AV)) : out2 (.slice sz els .no) = true := rfl
theorem out2_slice_tight (sz : Nat) (els : List (List AV)) : out2 (.slice sz els .tight) = false := rfl
theorem out2_slice_ftok (sz : Nat) (els : List (List AV)) (n : Nat) : out2 (.slice sz els (.ftok n)) = false := rfl
theorem out2_slice_cell (sz : Nat) (els : List (List AV)) (n : Nat) (i : Nat) : out2 (.slice sz els (.cell i n)) = false := rfl
theorem out2_nilslice : out2 (.nilslice) = true := rfl
theorem out2_mapr (i : Nat) : out2 (.mapr i) = true := rfl
theorem out2_nilmap : out2 (.nilmap) = true := rfl
theorem out2_agg (cs : List AV) : out2 (.agg cs) = cs.all out1 := rfl
theorem out2_tuple (vs : List AV) : out2 (.tuple vs) = false := rfl
theorem out2_iface (t : Nat) (v : AV) : out2 (.iface t v) = v.plain := rfl
theorem out2_nilIface : out2 (.nilIface) = true := rfl
theorem out2_func (f : Fn) (a : List AV) (b : List AV) : out2 (.func f a b) = (a.all out0 && b.all out0) := rfl
theorem out2_nilFunc : out2 (.nilFunc) = true := rfl
theorem out2_junk : out2 (.junk) = false := rfl
theorem out_int (k : IntKind) (n : Int) : out (.int k n) = true := rfl
theorem out_bool (b : Bool) : out (.bool b) = true := rfl
theorem out_str (s : List UInt8) : out (.str s) = true := rfl
theorem out_ptr (i : Nat) (o : Nat) : out (.ptr i o) = true := rfl
theorem out_lptr (l : Nat) (s : Nat) (o : Nat) : out (.lptr l s o) = false := rfl
theorem out_vptr (cs : List AV) : out (.vptr cs) = true := rfl
theorem out_nilptr : out (.nilptr) = true := rfl
theorem out_slice_no (sz : Nat) (els : List (List AV)) : out (.slice sz els .no) = true := rfl
theorem out_slice_tight (sz : Nat) (els : List (List AV)) : out (.slice sz els .tight) = false := rfl
theorem out_slice_ftok (sz : Nat) (els : List (List AV)) (n : Nat) : out (.slice sz els (.ftok n)) = false := rfl
theorem out_slice_cell (sz : Nat) (els : List (List AV)) (n : Nat) (i : Nat) : out (.slice sz els (.cell i n)) = false := rfl
theorem out_nilslice : out (.nilslice) = true := rfl
theorem out_mapr (i : Nat) : out (.mapr i) = true := rfl
theorem out_nilmap : out (.nilmap) = true := rfl
theorem out_agg (cs : List AV) : out (.agg cs) = cs.all out1 := rfl
theorem out_tuple (vs : List AV) : out (.tuple vs) = vs.all out2 := rfl
theorem out_iface (t : Nat) (v : AV) : out (.iface t v) = v.plain := rfl
theorem out_nilIface : out (.nilIface) = true := rfl
theorem out_func (f : Fn) (a : List AV) (b : List AV) : out (.func f a b) = (a.all out0 && b.all out0) := rfl
theorem out_nilFunc : out (.nilFunc) = true := rfl
theorem out_junk : out (.junk) = false := rfl
theorem refs0_int (k : IntKind) (n : Int) : refs0 (.int k n) = 0 := rfl
theorem refs0_bool (b : Bool) : refs0 (.bool b) = 0 := rfl
theorem refs0_str (s : List UInt8) : refs0 (.str s) = 0 := rfl
theorem refs0_ptr (i : Nat) (o : Nat) : refs0 (.ptr i o) = i + 1 := rfl
theorem refs0_lptr (l : Nat) (s : Nat) (o : Nat) : refs0 (.lptr l s o) = 0 := rfl
theorem refs0_vptr (cs : List AV) : refs0 (.vptr cs) = 0 := rfl
theorem refs0_nilptr : refs0 (.nilptr) = 0 := rfl
theorem refs0_slice (sz : Nat) (els : List (List AV)) (o : Own) : refs0 (.slice sz els o) = 0 := rfl
theorem refs0_nilslice : refs0 (.nilslice) = 0 := rfl
theorem refs0_mapr (i : Nat) : refs0 (.mapr i) = i + 1 := rfl
theorem refs0_nilmap : refs0 (.nilmap) = 0 := rfl
theorem refs0_agg (cs : List AV) : refs0 (.agg cs) = 0 := rfl
theorem refs0_tuple (vs : List AV) : refs0 (.tuple vs) = 0 := rfl
theorem refs0_iface (t : Nat) (v : AV) : refs0 (.iface t v) = 0 := rfl
theorem refs0_nilIface : refs0 (.nilIface) = 0 := rfl
theorem refs0_func (f : Fn) (a : List AV) (b : List AV) : refs0 (.func f a b) = 0 := rfl
theorem refs0_nilFunc : refs0 (.nilFunc) = 0 := rfl
theorem refs0_junk : refs0 (.junk) = 0 := rfl
theorem refs1_int (k : IntKind) (n : Int) : refs1 (.int k n) = 0 := rfl
theorem refs1_bool (b : Bool) : refs1 (.bool b) = 0 := rfl
theorem refs1_str (s : List UInt8) : refs1 (.str s) = 0 := rfl
theorem refs1_ptr (i : Nat) (o : Nat) : refs1 (.ptr i o) = i + 1 := rfl
theorem refs1_lptr (l : Nat) (s : Nat) (o : Nat) : refs1 (.lptr l s o) = 0 := rfl
theorem refs1_vptr (cs : List AV) : refs1 (.vptr cs) = 0 := rfl
theorem refs1_nilptr : refs1 (.nilptr) = 0 := rfl
theorem refs1_slice (sz : Nat) (els : List (List AV)) (o : Own) : refs1 (.slice sz els o) = 0 := rfl
theorem refs1_nilslice : refs1 (.nilslice) = 0 := rfl
theorem refs1_mapr (i : Nat) : refs1 (.mapr i) = i + 1 := rfl
theorem refs1_nilmap : refs1 (.nilmap) = 0 := rfl
theorem refs1_agg (cs : List AV) : refs1 (.agg cs) = 0 := rfl
theorem refs1_tuple (vs : List AV) : refs1 (.tuple vs) = 0 := rfl
theorem refs1_iface (t : Nat) (v : AV) : refs1 (.iface t v) = 0 := rfl
theorem refs1_nilIface : refs1 (.nilIface) = 0 := rfl
theorem refs1_func (f : Fn) (a : List AV) (b : List AV) : refs1 (.func f a b) = max (refsL a) (refsL b) := rfl
theorem refs1_nilFunc : refs1 (.nilFunc) = 0 := rfl
theorem refs1_junk : refs1 (.junk) = 0 := rfl
theorem refs2_int (k : IntKind) (n : Int) : refs2 (.int k n) = 0 := rfl
theorem refs2_bool (b : Bool) : refs2 (.bool b) = 0 := rfl
theorem refs2_str (s : List UInt8) : refs2 (.str s) = 0 := rfl
theorem refs2_ptr (i : Nat) (o : Nat) : refs2 (.ptr i o) = i + 1 := rfl
theorem refs2_lptr (l : Nat) (s : Nat) (o : Nat) : refs2 (.lptr l s o) = 0 := rfl
theorem refs2_vptr (cs : List AV) : refs2 (.vptr cs) = 0 := rfl
theorem refs2_nilptr : refs2 (.nilptr) = 0 := rfl
theorem refs2_slice (sz : Nat) (els : List (List AV)) (o : Own) : refs2 (.slice sz els o) = 0 := rfl
theorem refs2_nilslice : refs2 (.nilslice) = 0 := rfl
theorem refs2_mapr (i : Nat) : refs2 (.mapr i) = i + 1 := rfl
theorem refs2_nilmap : refs2 (.nilmap) = 0 := rfl
theorem refs2_agg (cs : List AV) : refs2 (.agg cs) = refs1L cs := rfl
theorem refs2_tuple (vs : List AV) : refs2 (.tuple vs) = 0 := rfl
theorem refs2_iface (t : Nat) (v : AV) : refs2 (.iface t v) = 0 := rfl
theorem refs2_nilIface : refs2 (.nilIface) = 0 := rfl
theorem refs2_func (f : Fn) (a : List AV) (b : List AV) : refs2 (.func f a b) = max (refsL a) (refsL b) := rfl
theorem refs2_nilFunc : refs2 (.nilFunc) = 0 := rfl
theorem refs2_junk : refs2 (.junk) = 0 := rfl
theorem refs_int (k : IntKind) (n : Int) : refs (.int k n) = 0 := rfl
theorem refs_bool (b : Bool) : refs (.bool b) = 0 := rfl
theorem refs_str (s : List UInt8) : refs (.str s) = 0 := rfl
theorem refs_ptr (i : Nat) (o : Nat) : refs (.ptr i o) = i + 1 := rfl
theorem refs_lptr (l : Nat) (s : Nat) (o : Nat) : refs (.lptr l s o) = 0 := rfl
theorem refs_vptr (cs : List AV) : refs (.vptr cs) = 0 := rfl
theorem refs_nilptr : refs (.nilptr) = 0 := rfl
theorem refs_slice (sz : Nat) (els : List (List AV)) (o : Own) : refs (.slice sz els o) = 0 := rfl
theorem refs_nilslice : refs (.nilslice) = 0 := rfl
theorem refs_mapr (i : Nat) : refs (.mapr i) = i + 1 := rfl
theorem refs_nilmap : refs (.nilmap) = 0 := rfl
theorem refs_agg (cs : List AV) : refs (.agg cs) = refs1L cs := rfl
theorem refs_tuple (vs : List AV) : refs (.tuple vs) = refs2L vs := rfl
theorem refs_iface (t : Nat) (v : AV) : refs (.iface t v) = 0 := rfl
theorem refs_nilIface : refs (.nilIface) = 0 := rfl
theorem refs_func (f : Fn) (a : List AV) (b : List AV) : refs (.func f a b) = max (refsL a) (refsL b) := rfl
theorem refs_nilFunc : refs (.nilFunc) = 0 := rfl
theorem refs_junk : refs (.junk) = 0 := rfl
theorem refsL_nil : refsL [] = 0 := rfl
theorem refsL_cons (v : AV) (r : List AV) : refsL (v :: r) = max (refs0 v) (refsL r) := rfl
theorem refs1L_nil : refs1L [] = 0 := rfl
theorem refs1L_cons (v : AV) (r : List AV) : refs1L (v :: r) = max (refs1 v) (refs1L r) := rfl
theorem refs2L_nil : refs2L [] = 0 := rfl
theorem refs2L_cons (v : AV) (r : List AV) : refs2L (v :: r) = max (refs2 v) (refs2L r) := rfl
end AV
attribute [go_sem] AV.cells_int AV.cells_bool AV.cells_str AV.cells_ptr AV.cells_lptr AV.cells_vptr AV.cells_nilptr AV.cells_slice AV.cells_nilslice AV.cells_mapr AV.cells_nilmap AV.cells_agg AV.cells_tuple AV.cells_iface AV.cells_nilIface AV.cells_func AV.cells_nilFunc AV.cells_junk AV.strip1_int AV.strip1_bool AV.strip1_str AV.strip1_ptr AV.strip1_lptr AV.strip1_vptr AV.strip1_nilptr AV.strip1_slice AV.strip1_nilslice AV.strip1_mapr AV.strip1_nilmap AV.strip1_agg AV.strip1_tuple AV.strip1_iface AV.strip1_nilIface AV.strip1_func AV.strip1_nilFunc AV.strip1_junk AV.stripC_int AV.stripC_bool AV.stripC_str AV.stripC_ptr AV.stripC_lptr AV.stripC_vptr AV.stripC_nilptr AV.stripC_slice_no AV.stripC_slice_tight AV.stripC_slice_ftok AV.stripC_slice_cell AV.stripC_nilslice AV.stripC_mapr AV.stripC_nilmap AV.stripC_agg AV.stripC_tuple AV.stripC_iface AV.stripC_nilIface AV.stripC_func AV.stripC_nilFunc AV.stripC_junk AV.okC_int AV.okC_bool AV.okC_str AV.okC_ptr AV.okC_lptr AV.okC_vptr AV.okC_nilptr AV.okC_slice_no AV.okC_slice_tight AV.okC_slice_ftok AV.okC_slice_cell AV.okC_nilslice AV.okC_mapr AV.okC_nilmap AV.okC_agg AV.okC_tuple AV.okC_iface AV.okC_nilIface AV.okC_func AV.okC_nilFunc AV.okC_junk AV.strip2_int AV.strip2_bool AV.strip2_str AV.strip2_ptr AV.strip2_lptr AV.strip2_vptr AV.strip2_nilptr AV.strip2_slice AV.strip2_nilslice AV.strip2_mapr AV.strip2_nilmap AV.strip2_agg AV.strip2_tuple AV.strip2_iface AV.strip2_nilIface AV.strip2_func AV.strip2_nilFunc AV.strip2_junk AV.strip_int AV.strip_bool AV.strip_str AV.strip_ptr AV.strip_lptr AV.strip_vptr AV.strip_nilptr AV.strip_slice AV.strip_nilslice AV.strip_mapr AV.strip_nilmap AV.strip_agg AV.strip_tuple AV.strip_iface AV.strip_nilIface AV.strip_func AV.strip_nilFunc AV.strip_junk AV.plain1_int AV.plain1_bool AV.plain1_str AV.plain1_ptr AV.plain1_lptr AV.plain1_vptr AV.plain1_nilptr AV.plain1_slice_no AV.plain1_slice_tight AV.plain1_slice_ftok AV.plain1_slice_cell AV.plain1_nilslice AV.plain1_mapr AV.plain1_nilmap AV.plain1_agg AV.plain1_tuple AV.plain1_iface AV.plain1_nilIface AV.plain1_func AV.plain1_nilFunc AV.plain1_junk AV.plain_int AV.plain_bool AV.plain_str AV.plain_ptr AV.plain_lptr AV.plain_vptr AV.plain_nilptr AV.plain_slice_no AV.plain_slice_tight AV.plain_slice_ftok AV.plain_slice_cell AV.plain_nilslice AV.plain_mapr AV.plain_nilmap AV.plain_agg AV.plain_tuple AV.plain_iface AV.plain_nilIface AV.plain_func AV.plain_nilFunc AV.plain_junk AV.out0_int AV.out0_bool AV.out0_str AV.out0_ptr AV.out0_lptr AV.out0_vptr AV.out0_nilptr AV.out0_slice_no AV.out0_slice_tight AV.out0_slice_ftok AV.out0_slice_cell AV.out0_nilslice AV.out0_mapr AV.out0_nilmap AV.out0_agg AV.out0_tuple AV.out0_iface AV.out0_nilIface AV.out0_func AV.out0_nilFunc AV.out0_junk AV.out1_int AV.out1_bool AV.out1_str AV.out1_ptr AV.out1_lptr AV.out1_vptr AV.out1_nilptr AV.out1_slice_no AV.out1_slice_tight AV.out1_slice_ftok AV.out1_slice_cell AV.out1_nilslice AV.out1_mapr AV.out1_nilmap AV.out1_agg AV.out1_tuple AV.out1_iface AV.out1_nilIface AV.out1_func AV.out1_nilFunc AV.out1_junk AV.okIn_int AV.okIn_bool AV.okIn_str AV.okIn_ptr AV.okIn_lptr AV.okIn_vptr AV.okIn_nilptr AV.okIn_slice AV.okIn_nilslice AV.okIn_mapr AV.okIn_nilmap AV.okIn_agg AV.okIn_tuple AV.okIn_iface AV.okIn_nilIface AV.okIn_func AV.okIn_nilFunc AV.okIn_junk AV.out2_int AV.out2_bool AV.out2_str AV.out2_ptr AV.out2_lptr AV.out2_vptr AV.out2_nilptr AV.out2_slice_no AV.out2_slice_tight AV.out2_slice_ftok AV.out2_slice_cell AV.out2_nilslice AV.out2_mapr AV.out2_nilmap AV.out2_agg AV.out2_tuple AV.out2_iface AV.out2_nilIface AV.out2_func AV.out2_nilFunc AV.out2_junk AV.out_int AV.out_bool AV.out_str AV.out_ptr AV.out_lptr AV.out_vptr AV.out_nilptr AV.out_slice_no AV.out_slice_tight AV.out_slice_ftok AV.out_slice_cell AV.out_nilslice AV.out_mapr AV.out_nilmap AV.out_agg AV.out_tuple AV.out_iface AV.out_nilIface AV.out_func AV.out_nilFunc AV.out_junk AV.refs0_int AV.refs0_bool AV.refs0_str AV.refs0_ptr AV.refs0_lptr AV.refs0_vptr AV.refs0_nilptr AV.refs0_slice AV.refs0_nilslice AV.refs0_mapr AV.refs0_nilmap AV.refs0_agg AV.refs0_tuple AV.refs0_iface AV.refs0_nilIface AV.refs0_func AV.refs0_nilFunc AV.refs0_junk AV.refs1_int AV.refs1_bool AV.refs1_str AV.refs1_ptr AV.refs1_lptr AV.refs1_vptr AV.refs1_nilptr AV.refs1_slice AV.refs1_nilslice AV.refs1_mapr AV.refs1_nilmap AV.refs1_agg AV.refs1_tuple AV.refs1_iface AV.refs1_nilIface AV.refs1_func AV.refs1_nilFunc AV.refs1_junk AV.refs2_int AV.refs2_bool AV.refs2_str AV.refs2_ptr AV.refs2_lptr AV.refs2_vptr AV.refs2_nilptr AV.refs2_slice AV.refs2_nilslice AV.refs2_mapr AV.refs2_nilmap AV.refs2_agg AV.refs2_tuple AV.refs2_iface AV.refs2_nilIface AV.refs2_func AV.refs2_nilFunc AV.refs2_junk AV.refs_int AV.refs_bool AV.refs_str AV.refs_ptr AV.refs_lptr AV.refs_vptr AV.refs_nilptr AV.refs_slice AV.refs_nilslice AV.refs_mapr AV.refs_nilmap AV.refs_agg AV.refs_tuple AV.refs_iface AV.refs_nilIface AV.refs_func AV.refs_nilFunc AV.refs_junk AV.refsL_nil AV.refsL_cons AV.refs1L_nil AV.refs1L_cons AV.refs2L_nil AV.refs2L_cons
theorem lenA_str (s : List UInt8) : lenA .str (.str s) = some (s.length : Int) := rfl
theorem lenA_slice (sz : Nat) (els : List (List AV)) (o : Own) : lenA .slice (.slice sz els o) = some (els.length : Int) := rfl
theorem lenA_nilslice : lenA .slice (.nilslice) = some 0 := rfl
theorem lenA_nilmap : lenA .map (.nilmap) = some 0 := rfl
theorem lenA_mapr (i : Nat) : lenA .map (.mapr i) = none := rfl
theorem elA_slice (sz s : Nat) (els : List (List AV)) (o : Own) (i : Int) : elA sz i (.slice s els o) = if s = sz ∧ 0 ≤ i then els[i.toNat]? else none := rfl
theorem elsOf_nilslice (sz : Nat) : elsOf sz .nilslice = some [] := rfl
theorem elsOf_slice (sz s : Nat) (els : List (List AV)) (o : Own) : elsOf sz (.slice s els o) = if s = sz then some els else none := rfl
attribute [go_sem] lenA_str lenA_slice lenA_nilslice lenA_nilmap lenA_mapr elA_slice elsOf_nilslice elsOf_slice
end Go.Proofs.YtelpkgbghhpgaaaGreatDoor.Sx
end
section
namespace Go.Proofs.YtelpkgbghhpgaaaGreatDoor.Sx
open AV
def encSl (nil : Bool) (sz : Nat) (els : List (List AV)) : AV :=
  match nil && els.isEmpty with
  | true => .nilslice
  | false => .slice sz els .no
section
variable {nil : Bool} {sz : Nat} {els : List (List AV)}
theorem encSl_cases (nil : Bool) (sz : Nat) (els : List (List AV)) : (encSl nil sz els = .nilslice ∧ els = []) ∨ encSl nil sz els = .slice sz els .no := by
  unfold encSl
  cases h : nil && els.isEmpty
  · exact .inr rfl
  · simp at h; exact .inl ⟨rfl, h.2⟩
theorem cells_sl : AV.cells (encSl nil sz els) = [encSl nil sz els] := by rcases encSl_cases nil sz els with ⟨h, _⟩ | h <;> rw [h] <;> rfl
theorem strip1_sl : AV.strip1 (encSl nil sz els) = encSl nil sz els := by rcases encSl_cases nil sz els with ⟨h, _⟩ | h <;> rw [h] <;> rfl
theorem strip2_sl : AV.strip2 (encSl nil sz els) = encSl nil sz els := by rcases encSl_cases nil sz els with ⟨h, _⟩ | h <;> rw [h] <;> rfl
theorem strip_sl : AV.strip (encSl nil sz els) = encSl nil sz els := by rcases encSl_cases nil sz els with ⟨h, _⟩ | h <;> rw [h] <;> rfl
theorem stripC_sl : AV.stripC (encSl nil sz els) = encSl nil sz els := by rcases encSl_cases nil sz els with ⟨h, _⟩ | h <;> rw [h] <;> rfl
theorem okC_sl : AV.okC (encSl nil sz els) = true := by rcases encSl_cases nil sz els with ⟨h, _⟩ | h <;> rw [h] <;> rfl
theorem plain1_sl : AV.plain1 (encSl nil sz els) = true := by rcases encSl_cases nil sz els with ⟨h, _⟩ | h <;> rw [h] <;> rfl
theorem out0_sl : AV.out0 (encSl nil sz els) = true := by rcases encSl_cases nil sz els with ⟨h, _⟩ | h <;> rw [h] <;> rfl
theorem out1_sl : AV.out1 (encSl nil sz els) = true := by rcases encSl_cases nil sz els with ⟨h, _⟩ | h <;> rw [h] <;> rfl
theorem out2_sl : AV.out2 (encSl nil sz els) = true := by rcases encSl_cases nil sz els with ⟨h, _⟩ | h <;> rw [h] <;> rfl
theorem out_sl : AV.out (encSl nil sz els) = true := by rcases encSl_cases nil sz els with ⟨h, _⟩ | h <;> rw [h] <;> rfl
theorem okIn_sl : AV.okIn (encSl nil sz els) = true := by rcases encSl_cases nil sz els with ⟨h, _⟩ | h <;> rw [h] <;> rfl
theorem refs0_sl : AV.refs0 (encSl nil sz els) = 0 := by rcases encSl_cases nil sz els with ⟨h, _⟩ | h <;> rw [h] <;> rfl
theorem refs1_sl : AV.refs1 (encSl nil sz els) = 0 := by rcases encSl_cases nil sz els with ⟨h, _⟩ | h <;> rw [h] <;> rfl
theorem refs2_sl : AV.refs2 (encSl nil sz els) = 0 := by rcases encSl_cases nil sz els with ⟨h, _⟩ | h <;> rw [h] <;> rfl
theorem lenA_sl : lenA .slice (encSl nil sz els) = some (els.length : Int) := by
  rcases encSl_cases nil sz els with ⟨h, h0⟩ | h
  · rw [h, h0]; rfl
  · rw [h]; rfl
theorem elsOf_sl : elsOf sz (encSl nil sz els) = some els := by
  rcases encSl_cases nil sz els with ⟨h, h0⟩ | h
  · rw [h, h0]; rfl
  · rw [h]; simp [elsOf]
theorem elA_sl {i : Nat} (hi : i < els.length) : elA sz (i : Int) (encSl nil sz els) = some els[i] := by
  rcases encSl_cases nil sz els with ⟨h, h0⟩ | h
  · subst h0; simp at hi
  · rw [h]; simp [elA, hi]
end
end Go.Proofs.YtelpkgbghhpgaaaGreatDoor.Sx
namespace Go.Proofs.YtelpkgbghhpgaaaGreatDoor.Sx
attribute [go_sem] cells_sl stripC_sl okC_sl strip1_sl strip2_sl strip_sl plain1_sl out0_sl out1_sl out2_sl out_sl okIn_sl refs0_sl refs1_sl refs2_sl lenA_sl elsOf_sl
end Go.Proofs.YtelpkgbghhpgaaaGreatDoor.Sx
end
