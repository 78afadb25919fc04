import Derived.Lib.Join
